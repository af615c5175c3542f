/-
  The walks over the map's give, GivePage.
  The walks over get and put: a number out of bytes, and into them.
  An inode that is open, in memory: a block of 144 cells.
  The walk over load: an inode is read.
  The walks over the inodes' small functions: mode, pages, New, slot, write, take, give.
  The walk over save: an inode is written.
  The walk over save: an inode is written (where there is room).
  The walk over try: something is done; here it does not give up.
  The walks over Make: an inode is made, where there is room.
  The walk over Get: what an inode is.
  The walk over Read: bytes of a file.
-/
import Derived.Test.YtfgkgoddjemnfaaGreatDoorG3
import Derived.Laws.Rows
import Derived.Laws.Tables
import Derived.Deep.MidRow
import Derived.Tactics
import Derived.Tactics2
import Derived.Defers
import Derived.Recover
import Derived.Laws.Pointers
set_option linter.unusedVariables false
set_option linter.unusedSimpArgs false
set_option linter.deprecated false
namespace Go.Proofs.YtfgkgoddjemnfaaGreatDoor
open Go.RowKit Go.Shelf Pa
attribute [local go_sem] bs_toList bs_size
set_option maxRecDepth 100000 in
set_option maxHeartbeats 2000000 in
theorem give_any (page i least m c ino : Nat) (C : Ca) (R : Reg) (F : List (Nat × Obj)) (w : World) (h : Held w F c C R) (hm : (m, mapO c ino) ∈ F) (hp : page < C.G.pages) (hi : ino ≤ 512) :
    Calls Tryz.prog 204 #[.pointer (some ⟨m, 0, none⟩), .int .i64 page, .int .i64 i, .int .i64 least] w fun e w' => e = .returned (.int .i64 (C.give page (cntB C ino page) i least).1) ∧ Step w F c (C.give page (cntB C ino page) i least).2 R w' := by
  have hlen := h.at_.rdlen hp
  have hpgs := h.at_.pages
  have hrd := mread_any page m c ino C R F w h hm hp
  have hcn : cntB C ino page ≤ 4096 := by unfold cntB; split <;> omega
  have HLen := Lib.hid hlen
  have HRd1 := Lib.hid hrd
  clear hrd h hlen
  go_enter Tryz.func204, Tryz.ntmps204
  go_wp2_with fail
  refine HRd1.out.mono ?_
  rintro e w2 ⟨v, rfl, hr⟩
  obtain ⟨A, cv, rfl⟩ : ∃ A cv, v = .slice A (C.rd page).length cv := by obtain ⟨_, k1, _⟩ := id hr; exact ownsRow_slice k1
  have hba : Below w2.heap.size w2 (w2.alloc (.cells #[.slice A (C.rd page).length cv, .int .i64 (cntB C ino page)] 195)) := (Below.refl _ _).alloc (Nat.le_refl _) _
  have hby := (hr.bytes (by have := HLen.out; omega)).below hba
  have hs2 := hr.held
  have HS2 := Lib.hid hs2
  have HBa := Lib.hid hba
  clear hs2 hba hr
  by_cases hl : i < least
  · have hl' : decide ((i : Int) < (least : Int)) = true := by simp; omega
    have HE : Hid (C.give page (cntB C ino page) i least = (2, C)) := Lib.hid (by unfold Ca.give; rw [if_pos (.inl hl)])
    clear hby
    go_wp2_with fail
    go_ret
    exact ⟨by rw [HE.out]; rfl, by rw [HE.out]; exact HS2.out.below HBa.out⟩
  · have hl' : decide ((i : Int) < (least : Int)) = false := by simp; omega
    by_cases hcn2 : cntB C ino page ≤ i
    · have hcn' : decide ((cntB C ino page : Int) ≤ (i : Int)) = true := by simp; omega
      have HE : Hid (C.give page (cntB C ino page) i least = (2, C)) := Lib.hid (by unfold Ca.give; rw [if_pos (.inr hcn2)])
      clear hby
      go_wp2_with fail
      go_ret
      exact ⟨by rw [HE.out]; rfl, by rw [HE.out]; exact HS2.out.below HBa.out⟩
    · have hcn' : decide ((cntB C ino page : Int) ≤ (i : Int)) = false := by simp; omega
      have hno : ¬ (i < least ∨ cntB C ino page ≤ i) := by omega
      have hat := at_any i (cntB C ino page) _ (C.rd page) _ (hby.more (by simp)) (by have := HLen.out; omega)
      have HAt := Lib.hid hat
      clear hat hby
      go_wp2_with fail
      refine HAt.out.mono ?_
      rintro e w3 ⟨rfl, hb3⟩
      rw [World.size_alloc] at hb3
      have hb23 : Below w2.heap.size w2 w3 := HBa.out.trans (hb3.mono (Nat.le_succ _))
      have hs3 := HS2.out.below hb23
      have HS3 := Lib.hid hs3
      clear hb3 hb23 hs3
      cases hbt : bitAt (C.rd page) i with
      | false =>
        have HE : Hid (C.give page (cntB C ino page) i least = (4, C)) := Lib.hid (by unfold Ca.give; rw [if_neg hno, if_pos hbt])
        clear hno hbt
        go_wp2_with fail
        go_ret
        exact ⟨by rw [HE.out]; rfl, by rw [HE.out]; exact HS3.out⟩
      | true =>
        obtain ⟨R3, g1, g2, g3⟩ := id HS3.out
        have hba3 : Below w3.heap.size w3 (w3.alloc (.cells #[.int .i64 page] 3)) := (Below.refl _ _).alloc (Nat.le_refl _) _
        have hft := fits_any m c ino _ [page] C R3 F _ (g1.below hba3) hm (nats_new (w := w3) (l := [page]) (cs := #[.int .i64 page]) rfl) (show 1 ≤ 1000 by decide)
        have HFt := Lib.hid hft
        have HG := Lib.hid g1
        have HBa3 := Lib.hid hba3
        clear hft g1 hba3
        go_wp2_with fail
        refine HFt.out.mono ?_
        rintro e w4 ⟨rfl, hb4⟩
        have hb34 : Below w3.heap.size w3 w4 := HBa3.out.trans (hb4.mono HBa3.out.size)
        cases hff : C.fits [page] with
        | false =>
          have HE : Hid (C.give page (cntB C ino page) i least = (7, C)) := Lib.hid (by unfold Ca.give; rw [if_neg hno, if_neg (by rw [hbt]; decide), if_pos hff])
          have HS4 := Lib.hid (HS3.out.below hb34)
          clear hno hbt hb34 hb4 hff
          go_wp2_with fail
          go_ret
          exact ⟨by rw [HE.out]; rfl, by rw [HE.out]; exact HS4.out⟩
        | true =>
          have HE : Hid (C.give page (cntB C ino page) i least = (0, C.set page (turnB (C.rd page) i))) := Lib.hid (by unfold Ca.give; rw [if_neg hno, if_neg (by rw [hbt]; decide), if_neg (by rw [hff]; decide)])
          have htu := turn_any page i m c ino C R3 F w4 (HG.out.below hb34) hm hp (by omega)
          rw [if_pos (Ca.fits_may hff (by simp))] at htu
          have HTu := Lib.hid htu
          have HB34 := Lib.hid hb34
          clear htu hb34 hb4 hff hno hbt
          go_wp2_with fail
          refine HTu.out.mono ?_
          rintro e w5 ⟨rfl, hs5⟩
          have hfin := Step.trans g2 g3 (Step.trans (Reg.To.refl R3 w3.heap.size) (Off.of_below HB34.out R3.m) hs5)
          have HFin := Lib.hid hfin
          clear hfin hs5
          go_wp2_with fail
          go_ret
          exact ⟨by rw [HE.out]; rfl, by rw [HE.out]; exact HFin.out⟩
theorem givePage_any (n m c ino : Nat) (C : Ca) (R : Reg) (F : List (Nat × Obj)) (w : World) (h : Held w F c C R) (hm : (m, mapO c ino) ∈ F) (hp : 2 < C.G.pages) (hi : ino ≤ 512) :
    Calls Tryz.prog 182 #[.pointer (some ⟨m, 0, none⟩), .int .i64 n] w fun e w' => e = .returned (.int .i64 (C.give 2 C.G.pages n (alFirst ino)).1) ∧ Step w F c (C.give 2 C.G.pages n (alFirst ino)).2 R w' := by
  have hf := first_any m c ino w (h.fix _ hm).1 hi
  have hg := give_any 2 n (alFirst ino) m c ino C R F w h hm hp hi
  have HF := Lib.hid hf
  have HG := Lib.hid hg
  clear hf hg h
  go_enter Tryz.func182, Tryz.ntmps182
  go_wp2_with fail
  refine HF.out.mono ?_
  rintro e w2 ⟨rfl, rfl⟩
  go_wp2_with fail
  refine HG.out.mono ?_
  rintro e w3 ⟨rfl, hs3⟩
  have HS3 := Lib.hid hs3
  clear hs3
  go_wp2_with fail
  go_ret
  exact ⟨rfl, HS3.out⟩
end Go.Proofs.YtfgkgoddjemnfaaGreatDoor

namespace Go.Proofs.YtfgkgoddjemnfaaGreatDoor
open Go.RowKit Go.Shelf Pa
attribute [local go_sem] bs_toList bs_size
theorem i64_or_nat (a b : Nat) (ha : a < 9223372036854775808) (hb : b < 9223372036854775808) : bits .or .i64 (a : Int) (b : Int) = ((a ||| b : Nat) : Int) := by
  have hx : a ||| b < 2 ^ 63 := Nat.or_lt_two_pow ha hb
  show IntKind.i64.wrap ((BitVec.ofInt 64 (a : Int) ||| BitVec.ofInt 64 (b : Int)).toNat : Int) = _
  rw [BitVec.toNat_or, ofInt_u64 a (by omega), ofInt_u64 b (by omega)]
  exact IntWalk.i64_in _ (by omega)
theorem shl_or (n : Nat) (x : UInt8) (h : n < 16777216) : bits .or .i64 (wrap64 ((n : Int) * 256)) (wrap64 ((x.toNat : Nat) : Int)) = ((n * 256 + x.toNat : Nat) : Int) := by
  have hx := UInt8.toNat_lt x
  have e1 : wrap64 ((n : Int) * 256) = ((n * 256 : Nat) : Int) := by unfold wrap64; omega
  have e2 : wrap64 ((x.toNat : Nat) : Int) = ((x.toNat : Nat) : Int) := by unfold wrap64; omega
  rw [e1, e2, i64_or_nat _ _ (by omega) (by omega), nat_join 8 (n * 256) x.toNat (by show n * 256 % 256 = 0; omega) hx]
theorem getN_snoc (b : Str) (x : UInt8) : getN (b ++ [x]) = getN b * 256 + x.toNat := by unfold getN; rw [List.foldl_append]; rfl
set_option maxHeartbeats 1000000 in
theorem get_any (x : Str) (v : Value) (w : World) (h : BytesAt w w.heap.size v x) (hl : x.length ≤ 4) :
    Calls Tryz.prog 117 #[v] w fun e w' => e = .returned (.int .i64 (getN x)) ∧ w = w' := by
  obtain ⟨A, c, rfl, ⟨hc, _⟩, hf⟩ := h
  have HF := Lib.hid hf
  clear hf
  go_enter Tryz.func117, Tryz.ntmps117
  go_wp2_with fail
  go_loopg [3, 8] x.length (fun g s3 i wx => ∃ k : Nat, s3 = .int .i64 (getN (x.take k)) ∧ i = .int .i64 k ∧ g = x.length - k ∧ k ≤ x.length ∧ wx = w)
  case atStart => exact ⟨0, rfl, rfl, rfl, Nat.zero_le _, rfl⟩
  case round =>
    obtain ⟨k, rfl, rfl, rfl, hk, rfl⟩ := hrel
    by_cases hlt : k < x.length
    · have hlt' : decide ((k : Int) < (x.length : Int)) = true := by simp; omega
      obtain ⟨g, o, rfl, hg, hx⟩ := HF.out (by rintro rfl; simp at hlt)
      have hx1 := hx k _ (List.getElem?_eq_getElem hlt)
      have hy := take_succ_at x k _ (List.getElem?_eq_getElem hlt)
      generalize x[k] = y at hx1 hy
      have hg3 : getN (x.take k) < 16777216 := by
        have := getN_lt (x.take k)
        have h2 : (x.take k).length ≤ 3 := by rw [List.length_take]; omega
        exact Nat.lt_of_lt_of_le this (Nat.pow_le_pow_right (by decide) h2)
      have HY := Lib.hid hy
      have HG3 := Lib.hid hg3
      clear hx hy hg3
      go_wp2_with fail
      go_roundg (x.length - (k + 1))
      case measure => omega
      case rel => exact ⟨k + 1, by rw [HY.out, getN_snoc, shl_or _ _ HG3.out], by go_num, rfl, hlt, rfl⟩
    · have hlt' : decide ((k : Int) < (x.length : Int)) = false := by simp; omega
      obtain rfl : k = x.length := by omega
      go_wp2_with fail
      go_ret
      exact ⟨ret_int (by rw [List.take_length]), rfl⟩
/-- Block g holds S cells, of which the first are these bytes. -/
def Blk (w : World) (g S : Nat) (x : Str) : Prop := ∃ cs : Array Value, w.heap[g]? = some (.cells cs 5 (0, 0)) ∧ cs.size = S ∧ (x.length ≤ S ∧ S ≤ maxLen) ∧ ∀ (i : Nat) (y : UInt8), x[i]? = some y → cs[i]? = some (.int .u8 y.toNat)
theorem Blk.cell {w : World} {g S : Nat} {x : Str} (h : Blk w g S x) {i : Nat} {y : UInt8} (hi : x[i]? = some y) : w.cell? ⟨g, i, none⟩ = some (.int .u8 y.toNat) := by
  obtain ⟨cs, h1, _, _, h4⟩ := h
  rw [cell_of_heap h1]; exact h4 i y hi
theorem Blk.free {w : World} {g S : Nat} {x : Str} (h : Blk w g S x) (i : Nat) : w.frozen? ⟨g, i, none⟩ = false := by
  obtain ⟨cs, h1, _⟩ := h
  exact free_of_heap h1 i
theorem Blk.lt {w : World} {g S : Nat} {x : Str} (h : Blk w g S x) : g < w.heap.size := by
  obtain ⟨cs, h1, _⟩ := h
  exact (Array.getElem?_eq_some_iff.1 h1).1
theorem Blk.keep {w w' : World} {g S : Nat} {x : Str} (h : Blk w g S x) (hb : w'.heap[g]? = w.heap[g]?) : Blk w' g S x := by
  obtain ⟨cs, h1, h2⟩ := h
  exact ⟨cs, hb.trans h1, h2⟩
theorem Blk.below {w w' : World} {g S B : Nat} {x : Str} (h : Blk w g S x) (hb : Below B w w') (hg : g < B) : Blk w' g S x := h.keep (hb.block g hg)
theorem Blk.set {w : World} {g S : Nat} {x : Str} (h : Blk w g S x) (i : Nat) (y : UInt8) (hi : i < x.length) : Blk (w.setCell ⟨g, i, none⟩ (.int .u8 y.toNat)) g S (x.set i y) := by
  obtain ⟨cs, h1, h2, h3, h4⟩ := h
  refine ⟨_, heap_setCell_at w g i _ h1, by simpa using h2, by simpa using h3, fun j z hj => ?_⟩
  rw [List.getElem?_set] at hj
  by_cases e : i = j
  · subst e
    rw [if_pos rfl, if_pos hi] at hj
    cases hj
    rw [Array.getElem?_setIfInBounds_self_of_lt (by omega)]
  · rw [if_neg e] at hj
    rw [Array.getElem?_setIfInBounds_ne e]; exact h4 j z hj
theorem laidAt_nil (x : Str) (o : Nat) : laidAt x o [] = x := by unfold laidAt; simp
theorem laidAt_snoc (x l : Str) (o : Nat) (y : UInt8) (h : o + l.length < x.length) : laidAt x o (l ++ [y]) = (laidAt x o l).set (o + l.length) y := by
  refine List.ext_getElem? fun j => ?_
  rw [laidAt_getElem? _ _ _ _ (by rw [List.length_append, List.length_singleton]; omega), List.getElem?_set, laidAt_length (by omega), laidAt_getElem? _ _ _ _ (by omega)]
  rw [List.length_append, List.length_singleton]
  by_cases h1 : o + l.length = j
  · subst h1
    rw [if_pos ⟨by omega, by omega⟩, if_pos rfl, if_pos h, Nat.add_sub_cancel_left, List.getElem?_append_right (Nat.le_refl _), Nat.sub_self]; rfl
  · rw [if_neg h1]
    by_cases h2 : o ≤ j ∧ j < o + l.length
    · rw [if_pos ⟨h2.1, by omega⟩, if_pos h2, List.getElem?_append_left (by omega)]
    · rw [if_neg (by omega), if_neg h2]
theorem Blk.cells {w : World} {g S : Nat} {x : Str} (h : Blk w g S x) (o : Nat) (ys : Str) (ho : o + ys.length ≤ x.length) : Blk (w.setCells g o (ys.map fun y => Value.int .u8 y.toNat)) g S (laidAt x o ys) ∧ Off (fun k => k = g) w (w.setCells g o (ys.map fun y => Value.int .u8 y.toNat)) := by
  induction ys generalizing w x o with
  | nil => exact ⟨by rw [laidAt_nil]; exact h, Off.refl _ _⟩
  | cons y ys ih =>
    rw [List.length_cons] at ho
    have h1 := h.set o y (by omega)
    obtain ⟨h2, h3⟩ := ih (x := x.set o y) h1 (o + 1) (by rw [List.length_set]; omega)
    have e : laidAt (x.set o y) (o + 1) ys = laidAt x o (y :: ys) := by
      refine List.ext_getElem? fun j => ?_
      rw [laidAt_getElem? _ _ _ _ (by rw [List.length_set]; omega), laidAt_getElem? _ _ _ _ (by rw [List.length_cons]; omega), List.length_cons, List.getElem?_set]
      by_cases h1 : j = o
      · subst h1
        rw [if_neg (by omega), if_pos rfl, if_pos (by omega), if_pos (by omega), Nat.sub_self]; rfl
      · by_cases h2 : o + 1 ≤ j ∧ j < o + 1 + ys.length
        · rw [if_pos h2, if_pos (show o ≤ j ∧ j < o + (ys.length + 1) by omega), show j - o = j - (o + 1) + 1 from by omega, List.getElem?_cons_succ]
        · rw [if_neg h2, if_neg (fun e => h1 e.symm), if_neg (show ¬ (o ≤ j ∧ j < o + (ys.length + 1)) by omega)]
    rw [← e]
    exact ⟨h2, ((Off.refl (fun k => k = g) w).setCell (p := ⟨g, o, none⟩) (.inl rfl) _).then h3⟩
theorem OwnB.blk {w : World} {B : Nat} {v : Value} {x : Str} (h : OwnB w B v x) (hx : x ≠ []) : ∃ g c, v = .slice (some ⟨g, 0, none⟩) x.length c ∧ B ≤ g ∧ Blk w g c x ∧ x.length ≤ c := by
  obtain ⟨h1, h2⟩ := h
  rcases h2 with ⟨rfl, h0⟩ | ⟨g, cap, cur, rfl, hB, hg, hc, hm, hs, ht⟩
  · exact absurd (List.length_eq_zero_iff.1 h0) hx
  · refine ⟨g, cap, rfl, hB, ⟨cur, hg, by omega, ⟨hc, hm⟩, fun i y hy => ?_⟩, hc⟩
    have hi : i < x.length := (List.getElem?_eq_some_iff.1 hy).1
    rw [← Array.getElem?_toList, ← List.getElem?_take_of_lt (show i < x.length * 1 by omega), ht, List.getElem?_map, hy]; rfl
theorem Blk.own {w : World} {B g c : Nat} {x : Str} (h : Blk w g c x) (hB : B ≤ g) (hx : x ≠ []) : OwnB w B (.slice (some ⟨g, 0, none⟩) x.length c) x := by
  obtain ⟨cs, h1, h2, h3, h4⟩ := h
  have hp := List.length_pos_iff.2 hx
  refine ⟨by simp, .inr ⟨g, c, cs, rfl, hB, h1, h3.1, h3.2, by omega, ?_⟩⟩
  refine List.ext_getElem? fun i => ?_
  have hl : cs.toList.length = c := by rw [Array.length_toList]; exact h2
  by_cases hi : i < x.length
  · rw [List.getElem?_take_of_lt (by omega), Array.getElem?_toList, h4 i _ (List.getElem?_eq_getElem hi), List.getElem?_map, List.getElem?_eq_getElem hi]; rfl
  · rw [List.getElem?_eq_none (by rw [List.length_take]; omega), List.getElem?_eq_none (by rw [List.length_map]; omega)]
theorem Blk.bytes {w : World} {g c : Nat} {x : Str} (h : Blk w g c x) (hl : x.length ≤ 140737488355328) : BytesAt w w.heap.size (.slice (some ⟨g, 0, none⟩) x.length c) x := by
  have hg := h.lt
  obtain ⟨cs, h1, h2, h3, h4⟩ := h
  exact ⟨_, c, rfl, ⟨h3.1, hl⟩, fun _ => ⟨g, 0, rfl, hg, fun i y hy => by rw [Nat.zero_add, cell_of_heap h1]; exact h4 i y hy⟩⟩
theorem Blk.sub {w : World} {g c : Nat} {x : Str} (h : Blk w g c x) (hl : x.length ≤ 140737488355328) (a n cap : Nat) (ha : a + n ≤ x.length) (hc : n ≤ cap) : BytesAt w w.heap.size (.slice (some ⟨g, a, none⟩) n cap) ((x.drop a).take n) := by
  have hg := h.lt
  have hn : ((x.drop a).take n).length = n := by rw [List.length_take, List.length_drop]; omega
  refine ⟨some ⟨g, a, none⟩, cap, by rw [hn], ⟨by omega, by omega⟩, fun _ => ⟨g, a, rfl, hg, fun i y hy => h.cell ?_⟩⟩
  have hi : i < n := by rw [← hn]; exact (List.getElem?_eq_some_iff.1 hy).1
  rw [List.getElem?_take_of_lt hi, List.getElem?_drop] at hy
  exact hy
theorem putN_getElem? (len n k : Nat) (hk : k < len) : (putN len n)[k]? = some (UInt8.ofNat (n / 2 ^ (8 * (len - 1 - k)))) := by
  unfold putN; rw [List.getElem?_map, List.getElem?_range hk]; rfl
set_option maxHeartbeats 1000000 in
theorem put_any (g o len c S n : Nat) (x : Str) (w : World) (hB : Blk w g S x) (ho : o + len ≤ x.length) (hl : len ≤ 4) (hc : len ≤ c) :
    Calls Tryz.prog 141 #[.slice (some ⟨g, o, none⟩) len c, .int .i64 n] w fun e w' => e = .returned (.tuple #[]) ∧ Blk w' g S (laidAt x o (putN len n)) ∧ Off (fun k => k = g) w w' := by
  have HB := Lib.hid hB
  clear hB
  go_enter Tryz.func141, Tryz.ntmps141
  go_wp2_with fail
  go_loopg [7] len (fun gg i wx => ∃ k : Nat, i = .int .i64 k ∧ gg = len - k ∧ k ≤ len ∧ Blk wx g S (laidAt x o ((putN len n).take k)) ∧ Off (fun k => k = g) w wx)
  case atStart => exact ⟨0, rfl, rfl, Nat.zero_le _, by rw [List.take_zero, laidAt_nil]; exact HB.out, Off.refl _ _⟩
  case round =>
    obtain ⟨k, rfl, rfl, hk, hb, hoff⟩ := hrel
    by_cases hlt : k < len
    · have hlt' : decide ((k : Int) < (len : Int)) = true := by simp; omega
      have hlay : o + ((putN len n).take k).length ≤ x.length := by rw [List.length_take, putN_length]; omega
      obtain ⟨y, hy⟩ : ∃ y, (laidAt x o ((putN len n).take k))[o + k]? = some y := ⟨_, List.getElem?_eq_getElem (by rw [laidAt_length hlay]; omega)⟩
      have hcell := hb.cell hy
      have hfr := hb.free (o + k)
      have hnext := hb.set (o + k) (UInt8.ofNat (n / 2 ^ (8 * (len - 1 - k)))) (by rw [laidAt_length hlay]; omega)
      have e2 : (laidAt x o ((putN len n).take k)).set (o + k) (UInt8.ofNat (n / 2 ^ (8 * (len - 1 - k)))) = laidAt x o ((putN len n).take (k + 1)) := by
        have hkl : ((putN len n).take k).length = k := by rw [List.length_take, putN_length]; omega
        rw [take_succ_at _ _ _ (putN_getElem? len n k hlt), laidAt_snoc _ _ _ _ (by rw [hkl]; omega), hkl]
      rw [e2] at hnext
      have hw1 : IntKind.i64.wrap ((len : Int) - 1) = (len : Int) - 1 := IntWalk.i64_in _ (by omega)
      have hw2 : IntKind.i64.wrap ((len : Int) - 1 - (k : Int)) = (len : Int) - 1 - (k : Int) := IntWalk.i64_in _ (by omega)
      have hw3 : IntKind.i64.wrap (8 * ((len : Int) - 1 - (k : Int))) = 8 * ((len : Int) - 1 - (k : Int)) := IntWalk.i64_in _ (by omega)
      have HN := Lib.hid hnext
      have HO := Lib.hid hoff
      clear hnext hoff hb hy e2 hlay
      go_wp2_with fail
      have e3 : ((n : Int) / 2 ^ (8 * (len - 1 - k)) % 256) = (((UInt8.ofNat (n / 2 ^ (8 * (len - 1 - k)))).toNat : Nat) : Int) := by
        rw [div_cast, UInt8.toNat_ofNat']; omega
      rw [e3]
      clear e3
      go_roundg (len - (k + 1))
      case measure => omega
      case rel => exact ⟨k + 1, by go_num, rfl, hlt, HN.out, HO.out.setCell (p := ⟨g, o + k, none⟩) (.inl rfl) _⟩
    · have hlt' : decide ((k : Int) < (len : Int)) = false := by simp; omega
      obtain rfl : k = len := by omega
      rw [List.take_of_length_le (by rw [putN_length]; exact Nat.le_refl _)] at hb
      have HN := Lib.hid hb
      have HO := Lib.hid hoff
      clear hb hoff
      go_wp2_with fail
      go_end0
      exact ⟨rfl, HN.out, HO.out⟩
end Go.Proofs.YtfgkgoddjemnfaaGreatDoor

namespace Go.Proofs.YtfgkgoddjemnfaaGreatDoor
open Go.RowKit Go.Shelf Pa
attribute [local go_sem] bs_toList bs_size
def ints (l : List Nat) : List Value := l.map fun n => Value.int .i64 (n : Nat)
/-- The cells of an inode that is open. -/
def cellsO (o : Opn) : List Value := [.int .i64 o.kind, .int .i64 o.mode, .int .i64 o.links, .int .i64 o.size] ++ (ints o.pages ++ (.int .i64 o.i :: ints o.more))
abbrev OpnV (o : Opn) : Value := .agg (cellsO o).toArray
/-- Its lengths are right. -/
structure Opn.Len (o : Opn) : Prop where
  pages : o.pages.length = 11
  more : o.more.length = 128
theorem Opn.none_len : Opn.none.Len := ⟨by simp [Opn.none], by simp [Opn.none]⟩
theorem cellsO_length {o : Opn} (h : o.Len) : (cellsO o).length = 144 := by
  unfold cellsO ints
  simp only [List.length_append, List.length_map, List.length_cons, List.length_nil, h.pages, h.more]
theorem ints_at (l : List Nat) (k : Nat) (h : k < l.length) : (ints l)[k]? = some (.int .i64 (l.getD k 0 : Nat)) := by
  unfold ints
  rw [List.getElem?_map, List.getElem?_eq_getElem h, List.getD_eq_getElem?_getD, List.getElem?_eq_getElem h]; rfl
theorem ints_set (l : List Nat) (k n : Nat) : (ints l).set k (.int .i64 (n : Nat)) = ints (l.set k n) := by unfold ints; rw [List.map_set]
theorem cellsO_page {o : Opn} (h : o.Len) (k : Nat) (hk : k < 11) : (cellsO o)[4 + k]? = some (.int .i64 (o.pages.getD k 0 : Nat)) := by
  unfold cellsO
  rw [List.getElem?_append_right (by show 4 ≤ 4 + k; omega), show 4 + k - ([Value.int .i64 o.kind, .int .i64 o.mode, .int .i64 o.links, .int .i64 o.size] : List Value).length = k from by show 4 + k - 4 = k; omega, List.getElem?_append_left (by simp [ints, h.pages, hk])]
  exact ints_at _ _ (by rw [h.pages]; exact hk)
theorem cellsO_i (o : Opn) (h : o.Len) : (cellsO o)[15]? = some (.int .i64 o.i) := by
  unfold cellsO
  rw [List.getElem?_append_right (by show 4 ≤ 15; omega), List.getElem?_append_right (by simp [ints, h.pages])]
  simp [ints, h.pages]
theorem cellsO_more {o : Opn} (h : o.Len) (k : Nat) (hk : k < 128) : (cellsO o)[16 + k]? = some (.int .i64 (o.more.getD k 0 : Nat)) := by
  unfold cellsO
  rw [List.getElem?_append_right (by show 4 ≤ 16 + k; omega), List.getElem?_append_right (by simp [ints, h.pages]; omega)]
  have e : 16 + k - ([Value.int .i64 o.kind, .int .i64 o.mode, .int .i64 o.links, .int .i64 o.size] : List Value).length - (ints o.pages).length = k + 1 := by simp [ints, h.pages]; omega
  rw [e, List.getElem?_cons_succ]
  exact ints_at _ _ (by rw [h.more]; exact hk)
theorem cellsO_setPage {o : Opn} (h : o.Len) (k n : Nat) (hk : k < 11) : (cellsO o).set (4 + k) (.int .i64 (n : Nat)) = cellsO { o with pages := o.pages.set k n } := by
  unfold cellsO
  rw [List.set_append_right _ _ (by show 4 ≤ 4 + k; omega), show 4 + k - ([Value.int .i64 o.kind, .int .i64 o.mode, .int .i64 o.links, .int .i64 o.size] : List Value).length = k from by show 4 + k - 4 = k; omega, List.set_append_left _ _ (by simp [ints, h.pages, hk]), ints_set]
theorem cellsO_setMore {o : Opn} (h : o.Len) (k n : Nat) : (cellsO o).set (16 + k) (.int .i64 (n : Nat)) = cellsO { o with more := o.more.set k n } := by
  unfold cellsO
  rw [List.set_append_right _ _ (by show 4 ≤ 16 + k; omega), List.set_append_right _ _ (by simp [ints, h.pages]; omega)]
  have e : 16 + k - ([Value.int .i64 o.kind, .int .i64 o.mode, .int .i64 o.links, .int .i64 o.size] : List Value).length - (ints o.pages).length = k + 1 := by simp [ints, h.pages]; omega
  rw [e, List.set_cons_succ, ints_set]
theorem cellsO_setI {o : Opn} (h : o.Len) (n : Nat) : (cellsO o).set 15 (.int .i64 (n : Nat)) = cellsO { o with i := n } := by
  unfold cellsO
  rw [List.set_append_right _ _ (by show 4 ≤ 15; omega), List.set_append_right _ _ (by simp [ints, h.pages])]
  have e : 15 - ([Value.int .i64 o.kind, .int .i64 o.mode, .int .i64 o.links, .int .i64 o.size] : List Value).length - (ints o.pages).length = 0 := by simp [ints, h.pages]
  rw [e, List.set_cons_zero]
/-- Block b is an inode that is open. -/
def OpnAt (w : World) (b : Nat) (o : Opn) : Prop := w.heap[b]? = some (.cells (cellsO o).toArray 123 (0, 0)) ∧ o.Len
theorem OpnAt.lt {w : World} {b : Nat} {o : Opn} (h : OpnAt w b o) : b < w.heap.size := (Array.getElem?_eq_some_iff.1 h.1).1
theorem OpnAt.keep {w w' : World} {b : Nat} {o : Opn} (h : OpnAt w b o) (hb : w'.heap[b]? = w.heap[b]?) : OpnAt w' b o := ⟨hb.trans h.1, h.2⟩
theorem OpnAt.free {w : World} {b : Nat} {o : Opn} (h : OpnAt w b o) (j : Nat) : w.frozen? ⟨b, j, none⟩ = false := free_of_heap h.1 j
theorem OpnAt.cell {w : World} {b : Nat} {o : Opn} (h : OpnAt w b o) (j : Nat) : w.cell? ⟨b, j, none⟩ = (cellsO o)[j]? := by rw [cell_of_heap h.1]; simp
theorem OpnAt.kind {w : World} {b : Nat} {o : Opn} (h : OpnAt w b o) : w.cell? ⟨b, 0, none⟩ = some (.int .i64 o.kind) := h.cell 0
theorem OpnAt.mode {w : World} {b : Nat} {o : Opn} (h : OpnAt w b o) : w.cell? ⟨b, 1, none⟩ = some (.int .i64 o.mode) := h.cell 1
theorem OpnAt.links {w : World} {b : Nat} {o : Opn} (h : OpnAt w b o) : w.cell? ⟨b, 2, none⟩ = some (.int .i64 o.links) := h.cell 2
theorem OpnAt.size {w : World} {b : Nat} {o : Opn} (h : OpnAt w b o) : w.cell? ⟨b, 3, none⟩ = some (.int .i64 o.size) := h.cell 3
theorem OpnAt.page {w : World} {b : Nat} {o : Opn} (h : OpnAt w b o) (k : Nat) (hk : k < 11) : w.cell? ⟨b, 4 + k, none⟩ = some (.int .i64 (o.pages.getD k 0 : Nat)) := (h.cell _).trans (cellsO_page h.2 k hk)
theorem OpnAt.num {w : World} {b : Nat} {o : Opn} (h : OpnAt w b o) : w.cell? ⟨b, 15, none⟩ = some (.int .i64 o.i) := (h.cell _).trans (cellsO_i o h.2)
theorem OpnAt.more {w : World} {b : Nat} {o : Opn} (h : OpnAt w b o) (k : Nat) (hk : k < 128) : w.cell? ⟨b, 16 + k, none⟩ = some (.int .i64 (o.more.getD k 0 : Nat)) := (h.cell _).trans (cellsO_more h.2 k hk)
theorem OpnAt.put {w : World} {b : Nat} {o o' : Opn} (h : OpnAt w b o) (j : Nat) (v : Value) (he : (cellsO o).set j v = cellsO o') (hl : o'.Len) : OpnAt (w.setCell ⟨b, j, none⟩ v) b o' := by
  refine ⟨?_, hl⟩
  rw [heap_setCell_at w b j v h.1, ← he]
  simp
theorem OpnAt.setPage {w : World} {b : Nat} {o : Opn} (h : OpnAt w b o) (k n : Nat) (hk : k < 11) : OpnAt (w.setCell ⟨b, 4 + k, none⟩ (.int .i64 (n : Nat))) b { o with pages := o.pages.set k n } := h.put _ _ (cellsO_setPage h.2 k n hk) ⟨by simpa using h.2.pages, h.2.more⟩
theorem OpnAt.setMore {w : World} {b : Nat} {o : Opn} (h : OpnAt w b o) (k n : Nat) : OpnAt (w.setCell ⟨b, 16 + k, none⟩ (.int .i64 (n : Nat))) b { o with more := o.more.set k n } := h.put _ _ (cellsO_setMore h.2 k n) ⟨h.2.pages, by simpa using h.2.more⟩
theorem OpnAt.setI {w : World} {b : Nat} {o : Opn} (h : OpnAt w b o) (n : Nat) : OpnAt (w.setCell ⟨b, 15, none⟩ (.int .i64 (n : Nat))) b { o with i := n } := h.put _ _ (cellsO_setI h.2 n) ⟨h.2.pages, h.2.more⟩
theorem OpnAt.setKind {w : World} {b : Nat} {o : Opn} (h : OpnAt w b o) (n : Nat) : OpnAt (w.setCell ⟨b, 0, none⟩ (.int .i64 (n : Nat))) b { o with kind := n } := h.put _ _ rfl ⟨h.2.pages, h.2.more⟩
theorem OpnAt.setMode {w : World} {b : Nat} {o : Opn} (h : OpnAt w b o) (n : Nat) : OpnAt (w.setCell ⟨b, 1, none⟩ (.int .i64 (n : Nat))) b { o with mode := n } := h.put _ _ rfl ⟨h.2.pages, h.2.more⟩
theorem OpnAt.setLinks {w : World} {b : Nat} {o : Opn} (h : OpnAt w b o) (n : Nat) : OpnAt (w.setCell ⟨b, 2, none⟩ (.int .i64 (n : Nat))) b { o with links := n } := h.put _ _ rfl ⟨h.2.pages, h.2.more⟩
theorem OpnAt.setSize {w : World} {b : Nat} {o : Opn} (h : OpnAt w b o) (n : Nat) : OpnAt (w.setCell ⟨b, 3, none⟩ (.int .i64 (n : Nat))) b { o with size := n } := h.put _ _ rfl ⟨h.2.pages, h.2.more⟩
theorem info_open : (Tryz.prog.info? 123).map (·.size) = some 144 := by kernel_rfl
theorem open_zero_cells : Tryz.zeroCells123 = (cellsO Opn.none).toArray := by kernel_rfl
theorem OpnAt.info {w : World} {b : Nat} {o : Opn} (h : OpnAt w b o) : (Tryz.prog.info? 123).map (·.size) = some (cellsO o).toArray.size := by rw [info_open, List.size_toArray, cellsO_length h.2]
theorem opn_new (w : World) : OpnAt (w.alloc (.cells Tryz.zeroCells123 123)) w.heap.size Opn.none := ⟨by rw [heap_alloc_new, open_zero_cells], Opn.none_len⟩
theorem opn_box (w : World) (o : Opn) (h : o.Len) : OpnAt (w.alloc (.cells (cellsO o).toArray 123)) w.heap.size o := ⟨heap_alloc_new _ _, h⟩
theorem ints_one (l : List Nat) : ∀ v ∈ ints l, v.oneCell' = true := fun v hv => by
  obtain ⟨n, _, rfl⟩ := List.mem_map.1 hv
  rfl
theorem cellsO_one (o : Opn) : (cellsO o).toArray.all (·.oneCell') = true := by
  rw [Array.all_eq_true_iff_forall_mem]
  intro v hv
  have hv : v ∈ cellsO o := by simpa using hv
  unfold cellsO at hv
  rcases List.mem_append.1 hv with hv | hv
  · simp at hv; rcases hv with rfl | rfl | rfl | rfl <;> rfl
  · rcases List.mem_append.1 hv with hv | hv
    · exact ints_one _ v hv
    · rcases List.mem_cons.1 hv with rfl | hv
      · rfl
      · exact ints_one _ v hv
theorem heap_setRow (w : World) (g : Nat) (cs cs' : Array Value) {t : TypeId} {f : Nat × Nat} (h : w.heap[g]? = some (.cells cs t f)) : (w.setRow g cs').heap[g]? = some (.cells cs' t f) := by
  simp [World.setRow, Array.getElem?_modify, h]
theorem off_setRow (w : World) (g : Nat) (cs : Array Value) : Off (fun k => k = g) w (w.setRow g cs) := by
  refine ⟨rfl, rfl, rfl, by simp [World.setRow], fun k _ hk => ?_⟩
  simp only [World.setRow, Array.getElem?_modify]
  rw [if_neg (fun e => hk e.symm)]
theorem OpnAt.row {w : World} {b : Nat} {o : Opn} (h : OpnAt w b o) (o' : Opn) (hl : o'.Len) : OpnAt (w.setRow b (cellsO o').toArray) b o' := ⟨heap_setRow w b _ _ h.1, hl⟩
/-- The results of a function whose first one is such a block. -/
theorem results_open {fn : Func} {p q : Tmp} (h : fn.results = #[.cell p 123, .tmp q]) (tmps : Array Value) (w : World) (b : Nat) (o : Opn) (hp : tmps.getD p undef = .pointer (some ⟨b, 0, none⟩)) (hb : OpnAt w b o) :
    (results fn tmps).run Tryz.prog w = .ok (.tuple #[OpnV o, tmps.getD q undef]) w := by
  have hl := run_loadVar_row (P := Tryz.prog) w b 123 123 (cellsO o).toArray (0, 0) _ hb.1 Tryz.underlying123 rfl hb.info
  rw [Array.getD_eq_getD_getElem?] at hp
  simp [results, h, hp, hl, OpnV, asAddr]
theorem setRow_self (w : World) (g : Nat) (cs : Array Value) {t : TypeId} {f : Nat × Nat} (h : w.heap[g]? = some (.cells cs t f)) : w.setRow g cs = w := by
  have e : w.heap.modify g (fun o => match o with | .cells _ elem frozen => .cells cs elem frozen | o => o) = w.heap := by
    apply Array.ext_getElem?
    intro i
    rw [Array.getElem?_modify]
    by_cases hi : g = i
    · subst hi; rw [if_pos rfl, h]; rfl
    · rw [if_neg hi]
  show { w with heap := w.heap.modify g (fun o => match o with | .cells _ elem frozen => .cells cs elem frozen | o => o) } = w
  rw [e]
theorem opn_store {w : World} {b : Nat} {o : Opn} (h : OpnAt w b o) (o' : Opn) (hl : o'.Len) : (storeCells ⟨b, 0, none⟩ (cellsO o')).run Tryz.prog w = .ok () (w.setRow b (cellsO o').toArray) := by
  have hs := run_storeVar_row (P := Tryz.prog) w b 123 123 (cellsO o).toArray (cellsO o').toArray h.1 (by rw [info_open, List.size_toArray, cellsO_length hl]) (by rw [List.size_toArray, List.size_toArray, cellsO_length hl, cellsO_length h.2]) (cellsO_one o')
  have hi := info_open
  cases hq : Tryz.prog.info? 123 with
  | none => rw [hq] at hi; cases hi
  | some i =>
    rw [hq] at hi
    have hi : i.size = 144 := by simpa using hi
    simpa [storeVar, sizeOf, typeInfo, hq, Value.cells, hi, cellsO_length hl] using hs
theorem opn_store_same {w : World} {b : Nat} {o : Opn} (h : OpnAt w b o) : (storeCells ⟨b, 0, none⟩ (cellsO o)).run Tryz.prog w = .ok () w := by
  rw [opn_store h o h.2, setRow_self w b _ h.1]
theorem opn_store_zero {w : World} {b : Nat} {o : Opn} (h : OpnAt w b o) : (storeCells ⟨b, 0, none⟩ Tryz.zeroCells123.toList).run Tryz.prog w = .ok () (w.setRow b (cellsO Opn.none).toArray) := by
  rw [open_zero_cells]
  exact opn_store h Opn.none Opn.none_len
theorem opn_load {w : World} {b : Nat} {o : Opn} (h : OpnAt w b o) : (loadCellsFrom ⟨b, 0, none⟩ 0 144 #[]).run Tryz.prog w = .ok (cellsO o).toArray w := by
  have := run_loadCells_list (P := Tryz.prog) w ⟨b, 0, none⟩ (cellsO o) (fun j v hv => by
    have hadd : (⟨b, 0, none⟩ : Addr).add j = ⟨b, j, none⟩ := by unfold Addr.add; split <;> simp_all
    rw [hadd, h.cell]; exact hv)
  rw [cellsO_length h.2] at this
  simpa [loadCells] using this
end Go.Proofs.YtfgkgoddjemnfaaGreatDoor

namespace Go.Proofs.YtfgkgoddjemnfaaGreatDoor
open Go.RowKit Go.Shelf Pa
attribute [local go_sem] bs_toList bs_size
abbrev storeO (m : Nat) : Obj := .cells #[.pointer (some ⟨m, 0, none⟩)] 107 (0, 0)
/-- The record of an inode. -/
def Ca.recd (C : Ca) (j : Nat) : Opn := decI (((C.rd (3 + j / 8)).drop (64 * (j % 8))).take 64) j
/-- What load hands back: the inode, the error. -/
def Ca.loadR (C : Ca) (ino : Nat) (i : Int) : Opn × Nat := match C.load ino i with | .ok o => (o, 0) | .error e => (Opn.none, e)
theorem loadR_range {C : Ca} {ino : Nat} {i : Int} (h : i ≤ 0 ∨ (ino : Int) ≤ i) : C.loadR ino i = (Opn.none, 2) := by unfold Ca.loadR Ca.load; rw [if_pos h]
theorem loadR_free {C : Ca} {ino : Nat} {j : Nat} (h : ¬ ((j : Int) ≤ 0 ∨ (ino : Int) ≤ (j : Int))) (hb : bitAt (C.rd 1) j = false) : C.loadR ino j = (Opn.none, 4) := by
  unfold Ca.loadR Ca.load; rw [if_neg h, Int.toNat_natCast, if_pos hb]
theorem loadR_none {C : Ca} {ino : Nat} {j : Nat} (h : ¬ ((j : Int) ≤ 0 ∨ (ino : Int) ≤ (j : Int))) (hb : bitAt (C.rd 1) j = true) (hk : (C.recd j).kind = 0) : C.loadR ino j = (Opn.none, 4) := by
  unfold Ca.loadR Ca.load
  rw [if_neg h, Int.toNat_natCast, if_neg (by rw [hb]; decide)]
  unfold Ca.recd at hk
  simp only [hk, if_pos]
theorem loadR_flat {C : Ca} {ino : Nat} {j : Nat} (h : ¬ ((j : Int) ≤ 0 ∨ (ino : Int) ≤ (j : Int))) (hb : bitAt (C.rd 1) j = true) (hk : (C.recd j).kind ≠ 0) (hi : (C.recd j).ind = 0) : C.loadR ino j = (C.recd j, 0) := by
  unfold Ca.loadR Ca.load
  rw [if_neg h, Int.toNat_natCast, if_neg (by rw [hb]; decide)]
  unfold Ca.recd at hk hi ⊢
  simp only [if_neg hk, hi, if_pos]
theorem loadR_deep {C : Ca} {ino : Nat} {j : Nat} (h : ¬ ((j : Int) ≤ 0 ∨ (ino : Int) ≤ (j : Int))) (hb : bitAt (C.rd 1) j = true) (hk : (C.recd j).kind ≠ 0) (hi : (C.recd j).ind ≠ 0) : C.loadR ino j = ({ C.recd j with more := decM (C.rd (C.recd j).ind) }, 0) := by
  unfold Ca.loadR Ca.load
  rw [if_neg h, Int.toNat_natCast, if_neg (by rw [hb]; decide)]
  unfold Ca.recd at hk hi ⊢
  simp only [if_neg hk, if_neg hi]
theorem upto_set (f : Nat → Nat) (n k : Nat) (hk : k < n) : ((List.range k).map f ++ List.replicate (n - k) 0).set k (f k) = (List.range (k + 1)).map f ++ List.replicate (n - (k + 1)) 0 := by
  rw [List.set_append_right _ _ (by simp), List.length_map, List.length_range, Nat.sub_self, show n - k = (n - (k + 1)) + 1 from by omega, List.replicate_succ, List.set_cons_zero, List.range_succ, List.map_append]
  simp
set_option maxRecDepth 100000 in
set_option maxHeartbeats 3000000 in
theorem load_any (s m c ino : Nat) (i : Int) (C : Ca) (R : Reg) (F : List (Nat × Obj)) (w : World) (h : Held w F c C R) (hm : (m, mapO c ino) ∈ F) (hs : (s, storeO m) ∈ F) (hi : ino ≤ 512) (hp : alFirst ino < C.G.pages)
    (hv : ∀ j, 1 ≤ j → j < ino → bitAt (C.rd 1) j = true → (C.recd j).ind < C.G.pages) :
    Calls Tryz.prog 60 #[.pointer (some ⟨s, 0, none⟩), .int .i64 i] w fun e w' => e = .returned (.tuple #[OpnV (C.loadR ino i).1, .int .i64 (C.loadR ino i).2]) ∧ Step w F c C R w' := by
  have hb0 : Below w.heap.size w (w.alloc (.cells Tryz.zeroCells123 123)) := (Below.refl _ _).alloc (Nat.le_refl _) _
  have h0 := h.below hb0
  have hO0 := opn_new w
  have k0 : (w.alloc (.cells Tryz.zeroCells123 123)).cell? ⟨s, 0, none⟩ = some (.pointer (some ⟨m, 0, none⟩)) := cell_of_heap (h0.fix _ hs).1 0
  have hsl : s < w.heap.size := h.lt s (.inr (h.fix _ hs).2)
  have hRl := h.lt
  -- what holds behind an act on W0 that leaves the block b
  have hfin : ∀ w1 w2, Step (w.alloc (.cells Tryz.zeroCells123 123)) F c C R w1 → Off (fun k => k = w.heap.size) w1 w2 → Step w F c C R w2 := by
    intro w1 w2 ⟨R1, g1, g2, g3⟩ ho
    rw [World.size_alloc] at g2
    refine ⟨R1, g1.off ho (fun k hk e => ?_), ⟨fun k hk => ?_, fun k hk => ?_⟩, ((Off.of_below hb0 _).trans g3 (fun k e => .inl e)).trans ho (fun k e => .inr (Nat.le_of_eq e.symm))⟩
    · subst e
      rcases g2.has hk with e | e
      · exact absurd (hRl _ e) (Nat.lt_irrefl _)
      · omega
    · rcases g2.m k hk with e | e
      · exact .inl e
      · right; omega
    · rcases g2.i k hk with e | e
      · exact .inl e
      · right; omega
  have HFin := Lib.hid hfin
  have HO0 := Lib.hid hO0
  have HB0 := Lib.hid hb0
  have H0 := Lib.hid h0
  have HRl := Lib.hid hRl
  have hlen : ∀ n, n < C.G.pages → (C.rd n).length = 512 := fun n hn => h.at_.rdlen hn
  have HLen := Lib.hid hlen
  have HS := Lib.hid hs
  have HM := Lib.hid hm
  have hmap := (h0.fix _ hm).1
  have HMp := Lib.hid hmap
  clear hfin hO0 hb0 h0 hRl hs hm h hmap hlen
  by_cases hbad : i < 0 ∨ (ino : Int) ≤ i
  · have HE := Lib.hid (loadR_range (C := C) (show i ≤ 0 ∨ (ino : Int) ≤ i by omega))
    have htb := table_bad m c ino i _ HMp.out hbad
    have HTb := Lib.hid htb
    have hz0 := opn_store_zero HO0.out
    clear htb
    go_enter Tryz.func60, Tryz.ntmps60
    go_wp2_with fail
    refine HTb.out.mono ?_
    rintro e w1 ⟨rfl, rfl⟩
    go_wp2_with fail
    (try simp only [Exit.inBlock, Exit.then])
    refine bodyPost_ret (results_open rfl _ _ _ Opn.none rfl (HO0.out.row _ Opn.none_len)) rfl ?_
    exact ⟨by rw [HE.out]; rfl, HFin.out _ _ (H0.out.step0 (Below.refl _ _)) (off_setRow _ _ _)⟩
  · obtain ⟨j, rfl⟩ : ∃ j : Nat, i = j := ⟨i.toNat, by omega⟩
    have hj : j < ino := by omega
    have htb := table_ok m c ino j _ HMp.out hi hj
    have HTb := Lib.hid htb
    clear htb
    by_cases hj0 : j = 0
    · subst hj0
      have HE := Lib.hid (loadR_range (C := C) (ino := ino) (i := (0 : Nat)) (.inl (by simp)))
      have hz0 := opn_store_zero HO0.out
      go_enter Tryz.func60, Tryz.ntmps60
      go_wp2_with fail
      refine HTb.out.mono ?_
      rintro e w1 ⟨rfl, rfl⟩
      go_wp2_with fail
      (try simp only [Exit.inBlock, Exit.then])
      refine bodyPost_ret (results_open rfl _ _ _ Opn.none rfl (HO0.out.row _ Opn.none_len)) rfl ?_
      exact ⟨by rw [HE.out]; rfl, HFin.out _ _ (H0.out.step0 (Below.refl _ _)) (off_setRow _ _ _)⟩
    · have hjI : ((j : Int) == 0) = false := by simp; omega
      have hno : ¬ ((j : Int) ≤ 0 ∨ (ino : Int) ≤ (j : Int)) := by omega
      have hp1 : 1 < C.G.pages := by unfold alFirst at hp; omega
      have hpt : 3 + j / 8 < C.G.pages := by unfold alFirst at hp; omega
      have hus := usedInode_any m c ino (j : Int) C R F _ H0.out HM.out hp1 hi
      have hisB : isB C ino 1 (j : Int) = bitAt (C.rd 1) j := by
        unfold isB
        rw [show cntB C ino 1 = ino from rfl, decide_eq_true (by omega : (0 : Int) ≤ (j : Int)), decide_eq_true (by omega : (j : Int) < (ino : Int))]
        rfl
      rw [hisB] at hus
      have HUs := Lib.hid hus
      have HNo2 := Lib.hid hno
      clear hus hisB hno
      go_enter Tryz.func60, Tryz.ntmps60
      go_wp2_with fail
      refine HTb.out.mono ?_
      rintro e w1 ⟨rfl, rfl⟩
      go_wp2_with fail
      refine HUs.out.mono ?_
      rintro e w2 ⟨rfl, hs2⟩
      obtain ⟨R2, g1, g2, g3⟩ := id hs2
      have hO2 : OpnAt w2 w.heap.size Opn.none := HO0.out.keep (g3.block _ HO0.out.lt (fun e => by have := HRl.out _ (.inl e); omega))
      have HO2 := Lib.hid hO2
      have HG2 := Lib.hid g1
      have HS2 := Lib.hid hs2
      have e0 : w2.cell? ⟨s, 0, none⟩ = some (.pointer (some ⟨m, 0, none⟩)) := cell_of_heap (g1.fix _ HS.out).1 0
      have hm2 := (g1.fix _ HM.out).1
      have HM2 := Lib.hid hm2
      clear hO2 g1 hs2 hm2
      cases hbt : bitAt (C.rd 1) j with
      | false =>
        have HE := Lib.hid (loadR_free HNo2.out hbt)
        have hz2 := opn_store_zero HO2.out
        clear hbt
        go_wp2_with fail
        (try simp only [Exit.inBlock, Exit.then])
        refine bodyPost_ret (results_open rfl _ _ _ Opn.none rfl (HO2.out.row _ Opn.none_len)) rfl ?_
        exact ⟨by rw [HE.out]; rfl, HFin.out _ _ HS2.out (off_setRow _ _ _)⟩
      | true =>
        have HBt := Lib.hid hbt
        have hmc := mcache_any m c ino w2 HM2.out
        have hrd := hread_any (3 + j / 8) c C R2 F w2 HG2.out hpt
        have HMc := Lib.hid hmc
        have HRd := Lib.hid hrd
        clear hbt hmc hrd
        go_wp2_with fail
        refine HMc.out.mono ?_
        rintro e w3 ⟨rfl, rfl⟩
        go_wp2_with fail
        refine HRd.out.mono ?_
        rintro e w4 ⟨v, rfl, hr⟩
        obtain ⟨page, hpage⟩ : ∃ page, page = C.rd (3 + j / 8) := ⟨_, rfl⟩
        have hpl : page.length = 512 := by rw [hpage]; exact HLen.out _ hpt
        rw [← hpage] at hr
        obtain ⟨R4, o4, g4, t4, f4, fr4⟩ := id hr
        obtain ⟨g, cv, rfl, hgB, hblk, hcv⟩ := o4.blk (by intro e; rw [e] at hpl; cases hpl)
        have hO4 : OpnAt w4 w.heap.size Opn.none := HO2.out.keep (f4.block _ HO2.out.lt (fun e => by
          rcases g2.m _ e with e | e
          · have := HRl.out _ (.inl e); omega
          · rw [World.size_alloc] at e; omega))
        have hS4 : Step w2 F c C R2 w4 := ⟨R4, g4, t4, f4⟩
        have hb4 : ¬ R4.has w.heap.size := fun e => by
          rcases (g2.trans t4 g3.size).has e with e | e
          · have := HRl.out _ e; omega
          · rw [World.size_alloc] at e; omega
        have HK4 := Lib.hid (⟨g4, g2.trans t4 g3.size, g3.trans f4 g2.m, hb4⟩ : Held w4 F c C R4 ∧ R.To R4 _ ∧ Off R.m _ w4 ∧ ¬ R4.has w.heap.size)
        have HO4 := Lib.hid hO4
        have HS4 := Lib.hid (hS4)
        have HBlk := Lib.hid hblk
        have HPage := Lib.hid hpage
        have HPl := Lib.hid hpl
        have hgl := hblk.lt
        have hbne : w.heap.size ≠ g := by have := HO2.out.lt; omega
        rw [hpl] at hcv
        have hcv64 : 64 * (j % 8) + 64 ≤ cv := by omega
        clear hr o4 g4 t4 f4 fr4 hblk hO4 hS4 hpage hb4 hpl
        have hO5 := HO4.out.setI j
        have f15 := HO4.out.free 15
        have n15 := HO4.out.num
        go_wp2_with fail
        rw [show 64 * (j % 8) + 64 - 64 * (j % 8) = 64 from by omega]
        obtain ⟨a, ha⟩ : ∃ a, a = 64 * (j % 8) := ⟨_, rfl⟩
        have ha8 : a + 64 ≤ 512 := by omega
        have hx : ((C.rd (3 + j / 8)).drop (64 * (j % 8))).take 64 = (page.drop a).take 64 := by rw [HPage.out, ha]
        rw [← ha] at hcv64 ⊢
        obtain ⟨cp, hcp⟩ : ∃ cp, cp = cv - a := ⟨_, rfl⟩
        rw [← hcp]
        have hcp64 : 64 ≤ cp := by omega
        obtain ⟨W5, hW5⟩ : ∃ W5, W5 = w4.setCell ⟨w.heap.size, 15, none⟩ (.int .i64 (j : Nat)) := ⟨_, rfl⟩
        rw [← hW5] at hO5 ⊢
        have hblk5 : Blk W5 g cv page := HBlk.out.keep (by rw [hW5]; exact Below.heap_setCell _ _ _ _ hbne.symm)
        have hget : ∀ (o n k : Nat) (W : World), Below W5.heap.size W5 W → o + n ≤ 64 → n ≤ 4 → n ≤ k → Calls Tryz.prog 117 #[.slice (some ⟨g, a + o, none⟩) n k] W fun e w' => e = .returned (.int .i64 (getN (((page.drop a).take 64).drop o |>.take n))) ∧ w' = W := fun o n k W hb h1 h2 h3 => by
          have h9 := (hblk5.below hb hblk5.lt).sub (by rw [HPl.out]; decide) (a + o) n k (by rw [HPl.out]; omega) h3
          refine (get_any _ _ W h9 (by rw [List.length_take]; omega)).mono ?_
          rintro e w' ⟨rfl, rfl⟩
          refine ⟨?_, rfl⟩
          rw [List.drop_take, List.drop_drop, List.take_take, show min n (64 - o) = n from by omega]
        have hb5 : Below W5.heap.size W5 W5 := Below.refl _ _
        have hcell0 := fun y (hy : page[a]? = some y) => hblk5.cell hy
        obtain ⟨y, hy⟩ : ∃ y, page[a]? = some y := ⟨_, List.getElem?_eq_getElem (by rw [HPl.out]; omega)⟩
        have hc0 := hcell0 y hy
        have HO5 := Lib.hid hO5
        have HW45 := Lib.hid (show Off (fun k => k = w.heap.size) w4 W5 by rw [hW5]; exact (Off.refl (fun k => k = w.heap.size) w4).setCell (p := ⟨w.heap.size, 15, none⟩) (.inl rfl) _)
        have HGet := Lib.hid hget
        have HBlk5 := Lib.hid hblk5
        have HY := Lib.hid hy
        have HX := Lib.hid hx
        have HA := Lib.hid ha
        have p0 := HO5.out.kind
        have p1 := HO5.out.mode
        have p2 := HO5.out.links
        have p3 := HO5.out.size
        have f0 := HO5.out.free 0
        have f1 := HO5.out.free 1
        have f2 := HO5.out.free 2
        have f3 := HO5.out.free 3
        clear hO5 hget hblk5 hy hx hcell0 hcp ha f15 n15 hW5
        have hc3 : 3 ≤ cp := by omega
        have hc5 : 5 ≤ cp := by omega
        have hc9 : 9 ≤ cp := by omega
        have hi3 : (3 : Int) ≤ (cp : Int) := by omega
        have hi5 : (5 : Int) ≤ (cp : Int) := by omega
        have hi9 : (9 : Int) ≤ (cp : Int) := by omega
        have hn1 : ¬ cp = 1 := by omega
        have hn3 : ¬ cp = 3 := by omega
        have hn5 : ¬ cp = 5 := by omega
        go_wp2_with fail
        go_cut [0, 1, 4, 8] (fun s0 s1 s4 s8 wx => s0 = .pointer (some ⟨s, 0, none⟩) ∧ s1 = .int .i64 j ∧ s4 = .pointer (some ⟨w.heap.size, 0, none⟩) ∧ s8 = .slice (some ⟨g, a, none⟩) 64 cp ∧ OpnAt wx w.heap.size ⟨y.toNat, numAt ((page.drop a).take 64) 1 2, numAt ((page.drop a).take 64) 3 2, numAt ((page.drop a).take 64) 5 4, List.replicate 11 0, j, List.replicate 128 0⟩ ∧ Off (fun k => k = w.heap.size) W5 wx)
        · go_region_held3 (fun w' => w'.cell? ⟨g, a, none⟩ = some (.int .u8 y.toNat))
            ((first | assumption | go_keep))
            ((go_simp; go_at_call 117; go_split_ands; refine (HGet.out _ _ _ _ (by with_reducible (repeat' first | assumption | refine Below.drew ?_)) (by omega) (by omega) (by omega)).mono ?_; rintro e w9 ⟨rfl, rfl⟩))
          have e1 : IntKind.i64.wrap ((y.toNat : Nat) : Int) = ((y.toNat : Nat) : Int) := IntWalk.i64_in _ (by have := UInt8.toNat_lt y; omega)
          have e2 : (List.take 64 (List.drop a page)).tail = List.drop 1 (List.take 64 (List.drop a page)) := by simp
          rw [e1, e2]
          clear e1 e2
          go_wp2_with fail
          go_meet
          refine ⟨rfl, rfl, rfl, rfl, (((HO5.out.setKind y.toNat).setMode (numAt ((page.drop a).take 64) 1 2)).setLinks (numAt ((page.drop a).take 64) 3 2)).setSize (numAt ((page.drop a).take 64) 5 4), ?_⟩
          exact ((((Off.refl (fun k => k = w.heap.size) W5).setCell (p := ⟨w.heap.size, 0, none⟩) (.inl rfl) _).setCell (p := ⟨w.heap.size, 1, none⟩) (.inl rfl) _).setCell (p := ⟨w.heap.size, 2, none⟩) (.inl rfl) _).setCell (p := ⟨w.heap.size, 3, none⟩) (.inl rfl) _ |>.drew
        · obtain ⟨rfl, rfl, rfl, rfl, hOc, hoc⟩ := hcut
          have hblkc : Blk wc g cv page := HBlk5.out.keep (hoc.block g HBlk5.out.lt (fun e => hbne e.symm))
          have hy2 : ((page.drop a).take 64).getD 0 0 = y := by
            rw [List.getD_eq_getElem?_getD, List.getElem?_take_of_lt (by decide), List.getElem?_drop, Nat.add_zero, HY.out]; rfl
          obtain ⟨rec, hrec⟩ : ∃ rec, rec = (page.drop a).take 64 := ⟨_, rfl⟩
          have hrl : rec.length = 64 := by rw [hrec, List.length_take, List.length_drop, HPl.out]; omega
          rw [← hrec] at hOc hy2
          have hdec : C.recd j = ⟨y.toNat, numAt rec 1 2, numAt rec 3 2, numAt rec 5 4, (List.range 11).map fun k => numAt rec (9 + 4 * k) 4, j, List.replicate 128 0⟩ := by
            unfold Ca.recd
            rw [HX.out, ← hrec]
            unfold decI
            rw [hy2]
          have HOc := Lib.hid hOc
          have HBlkc := Lib.hid hblkc
          have HDec := Lib.hid hdec
          have HRec := Lib.hid hrec
          have HRl2 := Lib.hid hrl
          clear hOc hblkc hdec hrec hrl hy2 hc0 p0 p1 p2 p3 f0 f1 f2 f3 hb5 hc3 hc5 hc9 hi3 hi5 hi9 hn1 hn3 hn5
          -- the pages that the inode names
          have hget2 : ∀ (o k : Nat) (W : World), Off (fun k => k = w.heap.size) wc W → o + 4 ≤ 64 → 4 ≤ k → Calls Tryz.prog 117 #[.slice (some ⟨g, a + o, none⟩) 4 k] W fun e w' => e = .returned (.int .i64 (numAt rec o 4)) ∧ W = w' := fun o k W ho h1 h3 => by
            have h9 := (HBlkc.out.keep (ho.block g HBlkc.out.lt (fun e => hbne e.symm))).sub (by rw [HPl.out]; decide) (a + o) 4 k (by rw [HPl.out]; omega) h3
            refine (get_any _ _ W h9 (by rw [List.length_take]; omega)).mono ?_
            rintro e w' ⟨rfl, rfl⟩
            refine ⟨?_, rfl⟩
            unfold numAt
            rw [HRec.out, List.drop_take, List.drop_drop, List.take_take, show min 4 (64 - o) = 4 from by omega]
          have HGet2 := Lib.hid hget2
          clear hget2
          go_wp2_with fail
          go_loopg [81] 11 (fun gg i wx => ∃ k : Nat, i = .int .i64 k ∧ gg = 11 - k ∧ k ≤ 11 ∧ OpnAt wx w.heap.size ⟨y.toNat, numAt rec 1 2, numAt rec 3 2, numAt rec 5 4, (List.range k).map (fun k => numAt rec (9 + 4 * k) 4) ++ List.replicate (11 - k) 0, j, List.replicate 128 0⟩ ∧ Off (fun k => k = w.heap.size) wc wx)
          case atStart => exact ⟨0, rfl, rfl, Nat.zero_le _, HOc.out, Off.refl _ _⟩
          case round =>
            obtain ⟨k, rfl, rfl, hk, hO, ho⟩ := hrel
            by_cases hlt : k < 11
            · have hlt' : decide ((k : Int) < 11) = true := by simp; omega
              have hg := HGet2.out (9 + 4 * k) (cp - (9 + 4 * k)) wr ho (by omega) (by omega)
              have hcell := hO.page k hlt
              have hfree := hO.free (4 + k)
              have hnext := hO.setPage k (numAt rec (9 + 4 * k) 4) hlt
              rw [show (⟨y.toNat, numAt rec 1 2, numAt rec 3 2, numAt rec 5 4, (List.range k).map (fun k => numAt rec (9 + 4 * k) 4) ++ List.replicate (11 - k) 0, j, List.replicate 128 0⟩ : Opn).pages = (List.range k).map (fun k => numAt rec (9 + 4 * k) 4) ++ List.replicate (11 - k) 0 from rfl, upto_set (fun k => numAt rec (9 + 4 * k) 4) 11 k hlt] at hnext
              have hnoff : Off (fun k => k = w.heap.size) wc (wr.setCell ⟨w.heap.size, 4 + k, none⟩ (.int .i64 (numAt rec (9 + 4 * k) 4 : Nat))) := ho.setCell (p := ⟨w.heap.size, 4 + k, none⟩) (.inl rfl) _
              have h13 : 13 + 4 * k ≤ cp := by omega
              have h9n : ¬ cp = 9 + 4 * k := by omega
              have HG := Lib.hid hg
              have HN := Lib.hid hnext
              have HNo := Lib.hid hnoff
              clear hg hnext hnoff hO ho
              go_wp2_with fail
              rw [show 13 + 4 * k - (9 + 4 * k) = 4 from by omega]
              refine HG.out.mono ?_
              rintro e w6 ⟨rfl, rfl⟩
              go_wp2_with fail
              go_roundg (11 - (k + 1))
              case measure => omega
              case rel => exact ⟨k + 1, by go_num, rfl, hlt, HN.out, HNo.out⟩
            · have hlt' : decide ((k : Int) < 11) = false := by simp; omega
              obtain rfl : k = 11 := by omega
              have e11 : (List.range 11).map (fun k => numAt rec (9 + 4 * k) 4) ++ List.replicate (11 - 11) 0 = (List.range 11).map (fun k => numAt rec (9 + 4 * k) 4) := by simp
              rw [e11, ← HDec.out] at hO
              have hkd : (C.recd j).kind = y.toNat := by rw [HDec.out]
              have hck := hO.kind
              obtain ⟨g4, t4, f4, b4⟩ := HK4.out
              have ho4 : Off (fun k => k = w.heap.size) w4 wr := (HW45.out.then hoc).then ho
              have hHr : Held wr F c C R4 := g4.off ho4 (fun k hk e => b4 (e ▸ hk))
              have hSt : ∀ wx, Off (fun k => k = w.heap.size) wr wx → Step w F c C R wx := fun wx h1 => HFin.out w4 wx ⟨R4, g4, t4, f4⟩ (ho4.then h1)
              have HSt := Lib.hid hSt
              have HO4r := Lib.hid ho4
              have HHr := Lib.hid hHr
              have HO := Lib.hid hO
              have HT4 := Lib.hid (⟨t4, f4, b4⟩ : _ ∧ _ ∧ _)
              have hskp : wr.cell? ⟨s, 0, none⟩ = some (.pointer (some ⟨m, 0, none⟩)) := cell_of_heap (hHr.fix _ HS.out).1 0
              have hmkp := (hHr.fix _ HM.out).1
              have HMk := Lib.hid hmkp
              clear hO ho g4 t4 f4 b4 hSt hHr hmkp e11
              rw [hkd] at hck
              by_cases hk0 : y.toNat = 0
              · have hk0' : (((y.toNat : Nat) : Int) == 0) = true := by rw [hk0]; rfl
                have HE := Lib.hid (loadR_none HNo2.out HBt.out (hkd.trans hk0))
                have hz6 := opn_store_zero HO.out
                clear hkd
                go_wp2_with fail
                (try simp only [Exit.inBlock, Exit.then])
                refine bodyPost_ret (results_open rfl _ _ _ Opn.none rfl (HO.out.row _ Opn.none_len)) rfl ?_
                exact ⟨by rw [HE.out]; rfl, HSt.out _ (off_setRow _ _ _)⟩
              · have hk0' : (((y.toNat : Nat) : Int) == 0) = false := by simp; exact hk0
                have hkn : (C.recd j).kind ≠ 0 := by rw [hkd]; exact hk0
                have hci := HO.out.page 10 (by decide)
                have hcind : (C.recd j).pages.getD 10 0 = (C.recd j).ind := rfl
                rw [hcind] at hci
                obtain ⟨nn, hnn⟩ : ∃ nn, nn = (C.recd j).ind := ⟨_, rfl⟩
                rw [← hnn] at hci
                have HKn := Lib.hid hkn
                have HNn := Lib.hid hnn
                clear hkd hkn hcind hnn
                by_cases hn0 : nn = 0
                · have hn0' : (((nn : Nat) : Int) != 0) = false := by rw [hn0]; rfl
                  have HE := Lib.hid (loadR_flat HNo2.out HBt.out HKn.out (HNn.out.symm.trans hn0))
                  have hl6 := opn_load HO.out
                  have hs6 := opn_store_same HO.out
                  go_wp2_with (refine wpList_load_row rfl 123 _ rfl w.heap.size rfl 123 (cellsO (C.recd j)).toArray (0, 0) _ HO.out.1 Tryz.underlying123 rfl HO.out.info ?_)
                  (try simp only [Exit.inBlock, Exit.then])
                  refine bodyPost_ret (results_open rfl _ _ _ (C.recd j) rfl HO.out) rfl ?_
                  exact ⟨by rw [HE.out]; rfl, HSt.out _ (Off.refl _ _)⟩
                · have hn0' : (((nn : Nat) : Int) != 0) = true := by simp; exact hn0
                  have hnp : nn < C.G.pages := by rw [HNn.out]; exact hv j (by omega) hj HBt.out
                  have HE := Lib.hid (loadR_deep HNo2.out HBt.out HKn.out (by rw [← HNn.out]; exact hn0))
                  have hmc6 := mcache_any m c ino wr HMk.out
                  have hrd6 := hread_any nn c C R4 F wr HHr.out hnp
                  have HMc6 := Lib.hid hmc6
                  have HRd6 := Lib.hid hrd6
                  clear hmc6 hrd6
                  go_wp2_with fail
                  refine HMc6.out.mono ?_
                  rintro e w5 ⟨rfl, rfl⟩
                  go_wp2_with fail
                  refine HRd6.out.mono ?_
                  rintro e w6 ⟨v, rfl, hr⟩
                  obtain ⟨page2, hpage2⟩ : ∃ page2, page2 = C.rd nn := ⟨_, rfl⟩
                  have hpl2 : page2.length = 512 := by rw [hpage2]; exact HLen.out _ hnp
                  rw [← hpage2] at hr
                  obtain ⟨R6, o6, g6, t6, f6, fr6⟩ := id hr
                  obtain ⟨q, cv2, rfl, hqB, hblk6, hcv2⟩ := o6.blk (by intro e; rw [e] at hpl2; cases hpl2)
                  have hO6 : OpnAt w6 w.heap.size (C.recd j) := HO.out.keep (f6.block _ HO.out.lt (fun e => HT4.out.2.2 (.inl e)))
                  have hbq : w.heap.size ≠ q := by have := HO.out.lt; omega
                  have hSt6 : ∀ wx, Off (fun k => k = w.heap.size) w6 wx → Step w F c C R wx := fun wx h1 => by
                    obtain ⟨t4, f4, b4⟩ := HT4.out
                    rw [World.size_alloc] at t4
                    have b6 : ¬ R6.has w.heap.size := t6.free b4 HO.out.lt
                    have toW : R.To R4 w.heap.size := ⟨fun k hk => (t4.m k hk).imp id (by omega), fun k hk => (t4.i k hk).imp id (by omega)⟩
                    have offW : Off R.m w wr := ((Off.of_below HB0.out _).then f4).trans (HO4r.out) (fun k e => .inr (Nat.le_of_eq e.symm))
                    exact ⟨R6, g6.off h1 (fun k hk e => b6 (e ▸ hk)), toW.trans t6 offW.size, (offW.trans f6 toW.m).trans h1 (fun k e => .inr (Nat.le_of_eq e.symm))⟩
                  have HO6 := Lib.hid hO6
                  have HBlk6 := Lib.hid hblk6
                  have HSt6 := Lib.hid hSt6
                  have HPg2 := Lib.hid hpage2
                  have HPl2 := Lib.hid hpl2
                  rw [hpl2] at hcv2
                  clear hr o6 g6 t6 f6 fr6 hO6 hblk6 hSt6 hpage2
                  rw [hpl2]
                  clear hpl2
                  have hget3 : ∀ (o k : Nat) (W : World), Off (fun k => k = w.heap.size) w6 W → o + 4 ≤ 512 → 4 ≤ k → Calls Tryz.prog 117 #[.slice (some ⟨q, o, none⟩) 4 k] W fun e w' => e = .returned (.int .i64 (numAt page2 o 4)) ∧ W = w' := fun o k W ho h1 h3 => by
                    have h9 := (HBlk6.out.keep (ho.block q HBlk6.out.lt (fun e => hbq e.symm))).sub (by rw [HPl2.out]; decide) o 4 k (by rw [HPl2.out]; omega) h3
                    refine (get_any _ _ W h9 (by rw [List.length_take]; omega)).mono ?_
                    rintro e w' ⟨rfl, rfl⟩
                    exact ⟨rfl, rfl⟩
                  have HGet3 := Lib.hid hget3
                  clear hget3
                  obtain ⟨rd, hrdE⟩ : ∃ rd, rd = C.recd j := ⟨_, rfl⟩
                  have hm0 : rd.more = List.replicate 128 0 := by rw [hrdE, HDec.out]
                  rw [← hrdE] at HO6
                  have HRdE := Lib.hid hrdE
                  have HM0 := Lib.hid hm0
                  clear hrdE hm0
                  go_wp2_with fail
                  go_loopg [119] 128 (fun gg i wx => ∃ k : Nat, i = .int .i64 k ∧ gg = 128 - k ∧ k ≤ 128 ∧ OpnAt wx w.heap.size { rd with more := (List.range k).map (fun k => numAt page2 (4 * k) 4) ++ List.replicate (128 - k) 0 } ∧ Off (fun k => k = w.heap.size) w6 wx)
                  case atStart => exact ⟨0, rfl, rfl, Nat.zero_le _, by have h9 := HO6.out; rw [show ({ rd with more := (List.range 0).map (fun k => numAt page2 (4 * k) 4) ++ List.replicate (128 - 0) 0 } : Opn) = rd from by cases rd; simp at HM0 ⊢; exact HM0.out.symm]; exact h9, Off.refl _ _⟩
                  case round =>
                    obtain ⟨k, rfl, rfl, hk, hO, ho⟩ := hrel
                    by_cases hlt : k < 128
                    · have hlt' : decide ((k : Int) < 128) = true := by simp; omega
                      have hg := HGet3.out (4 * k) (cv2 - 4 * k) wr ho (by omega) (by omega)
                      have hcell := hO.more k hlt
                      have hfree := hO.free (16 + k)
                      have hnext := hO.setMore k (numAt page2 (4 * k) 4)
                      rw [show ({ rd with more := (List.range k).map (fun k => numAt page2 (4 * k) 4) ++ List.replicate (128 - k) 0 } : Opn).more = (List.range k).map (fun k => numAt page2 (4 * k) 4) ++ List.replicate (128 - k) 0 from rfl, upto_set (fun k => numAt page2 (4 * k) 4) 128 k hlt] at hnext
                      have hnoff : Off (fun k => k = w.heap.size) w6 (wr.setCell ⟨w.heap.size, 16 + k, none⟩ (.int .i64 (numAt page2 (4 * k) 4 : Nat))) := ho.setCell (p := ⟨w.heap.size, 16 + k, none⟩) (.inl rfl) _
                      have h4k : 4 * k + 4 ≤ cv2 := by omega
                      have h4n : ¬ cv2 = 4 * k := by omega
                      have HG := Lib.hid hg
                      have HN := Lib.hid hnext
                      have HNo := Lib.hid hnoff
                      clear hg hnext hnoff hO ho
                      go_wp2_with fail
                      refine HG.out.mono ?_
                      rintro e w7 ⟨rfl, rfl⟩
                      go_wp2_with fail
                      go_roundg (128 - (k + 1))
                      case measure => omega
                      case rel => exact ⟨k + 1, by go_num, rfl, hlt, HN.out, HNo.out⟩
                    · have hlt' : decide ((k : Int) < 128) = false := by simp; omega
                      obtain rfl : k = 128 := by omega
                      have e128 : ({ rd with more := (List.range 128).map (fun k => numAt page2 (4 * k) 4) ++ List.replicate (128 - 128) 0 } : Opn) = { C.recd j with more := decM (C.rd (C.recd j).ind) } := by
                        rw [HRdE.out, ← HNn.out, ← HPg2.out]; simp [decM]
                      rw [e128] at hO
                      have hSt9 := HSt6.out wr ho
                      have HO9 := Lib.hid hO
                      have HSt9 := Lib.hid hSt9
                      clear hO ho hSt9 e128
                      have hs9 := opn_store_same HO9.out
                      go_wp2_with (refine wpList_load_row rfl 123 _ rfl w.heap.size rfl 123 (cellsO { C.recd j with more := decM (C.rd (C.recd j).ind) }).toArray (0, 0) _ HO9.out.1 Tryz.underlying123 rfl HO9.out.info ?_)
                      (try simp only [Exit.inBlock, Exit.then])
                      refine bodyPost_ret (results_open rfl _ _ _ { C.recd j with more := decM (C.rd (C.recd j).ind) } rfl HO9.out) rfl ?_
                      exact ⟨by rw [HE.out]; rfl, HSt9.out⟩
end Go.Proofs.YtfgkgoddjemnfaaGreatDoor

namespace Go.Proofs.YtfgkgoddjemnfaaGreatDoor
open Go.RowKit Go.Shelf Pa
attribute [local go_sem] bs_toList bs_size
theorem mode_any (n : Int) (w : World) : Calls Tryz.prog 85 #[.int .i64 n] w fun e w' => e = .returned (.bool (decide (0 ≤ n) && decide (n ≤ 4095))) ∧ w = w' := by
  by_cases h : 0 ≤ n
  · have h' : decide (0 ≤ n) = true := by simpa using h
    go_enter Tryz.func85, Tryz.ntmps85
    go_wp2
    go_ret
    exact ⟨ret_bool (by first | rfl | (rw [h']; rfl)), rfl⟩
  · have h' : decide (0 ≤ n) = false := by simpa using h
    go_enter Tryz.func85, Tryz.ntmps85
    go_wp2
    go_ret
    exact ⟨ret_bool (by first | rfl | (rw [h']; rfl)), rfl⟩
theorem npages_any (n : Nat) (w : World) (h : n ≤ 1000000) : Calls Tryz.prog 144 #[.int .i64 n] w fun e w' => e = .returned (.int .i64 (npg n)) ∧ w = w' := by
  have w1 : IntKind.i64.wrap ((n : Int) + 512) = (n : Int) + 512 := IntWalk.i64_in _ (by omega)
  have w2 : IntKind.i64.wrap ((n : Int) + 512 - 1) = (n : Int) + 512 - 1 := IntWalk.i64_in _ (by omega)
  go_enter Tryz.func144, Tryz.ntmps144
  go_wp2
  go_ret
  exact ⟨ret_int (by unfold npg; omega), rfl⟩
theorem inew_any (m : Nat) (w : World) : Calls Tryz.prog 40 #[.pointer (some ⟨m, 0, none⟩)] w fun e w' => e = .returned (.tuple #[.pointer (some ⟨w.heap.size, 0, none⟩), .int .i64 0]) ∧ w' = w.alloc (.cells #[.pointer (some ⟨m, 0, none⟩)] 107) := by
  go_enter Tryz.func40, Tryz.ntmps40
  go_wp2
  go_ret2
  exact ⟨rfl, rfl⟩
/-- Where page k of a file is named. -/
def slotOff (k : Nat) : Nat := if k < 10 then 4 + k else 16 + (k - 10)
theorem slot_any (b k : Nat) (w : World) (h : k < 138) : Calls Tryz.prog 62 #[.pointer (some ⟨b, 0, none⟩), .int .i64 k] w fun e w' => e = .returned (.pointer (some ⟨b, slotOff k, none⟩)) ∧ w = w' := by
  by_cases hk : k < 10
  · have hk' : decide ((k : Int) < 10) = true := by simp; omega
    have hk1 : (k : Int) < 11 := by omega
    go_enter Tryz.func62, Tryz.ntmps62
    go_wp2
    go_ret
    exact ⟨by unfold slotOff; rw [if_pos hk]; rfl, rfl⟩
  · have hk' : decide ((k : Int) < 10) = false := by simp; omega
    obtain ⟨j, rfl⟩ : ∃ j, k = 10 + j := ⟨k - 10, by omega⟩
    have w1 : IntKind.i64.wrap ((10 : Int) + (j : Int) - 10) = (j : Int) := by rw [IntWalk.i64_in _ (by omega)]; omega
    clear hk hk'
    have hk' : decide ((10 : Int) + (j : Int) < 10) = false := by simp; omega
    rw [show ((10 + j : Nat) : Int) = (10 : Int) + (j : Int) from by omega]
    have hj1 : (j : Int) < 128 := by omega
    have hj2 : j < 128 := by omega
    go_enter Tryz.func62, Tryz.ntmps62
    go_wp2
    go_ret
    exact ⟨by unfold slotOff; rw [if_neg (by omega), Nat.add_sub_cancel_left]; rfl, rfl⟩
theorem OpnAt.slot {w : World} {b : Nat} {o : Opn} (h : OpnAt w b o) (k : Nat) (hk : k < 138) : w.cell? ⟨b, slotOff k, none⟩ = some (.int .i64 (o.slot k : Nat)) := by
  unfold slotOff Opn.slot
  split
  · rename_i h1; exact h.page k (by omega)
  · exact h.more _ (by omega)
theorem OpnAt.setSlot {w : World} {b : Nat} {o : Opn} (h : OpnAt w b o) (k n : Nat) : OpnAt (w.setCell ⟨b, slotOff k, none⟩ (.int .i64 (n : Nat))) b (o.setSlot k n) := by
  unfold slotOff Opn.setSlot
  split
  · rename_i h1; exact h.setPage k n (by omega)
  · exact h.setMore _ n
theorem OpnAt.ind {w : World} {b : Nat} {o : Opn} (h : OpnAt w b o) : w.cell? ⟨b, 14, none⟩ = some (.int .i64 (o.ind : Nat)) := h.page 10 (by decide)
theorem OpnAt.setInd {w : World} {b : Nat} {o : Opn} (h : OpnAt w b o) (n : Nat) : OpnAt (w.setCell ⟨b, 14, none⟩ (.int .i64 (n : Nat))) b (o.setInd n) := h.setPage 10 n (by decide)
set_option maxHeartbeats 1000000 in
/-- write, where there is room. -/
theorem iwrite_any (s m c ino n : Nat) (v : Value) (x : Str) (C C' : Ca) (R : Reg) (F : List (Nat × Obj)) (w : World) (h : Held w F c C R) (hm : (m, mapO c ino) ∈ F) (hs : (s, storeO m) ∈ F) (hn : n < C.G.pages) (hv : BytesAt w w.heap.size v x) (hx : x.length = 512) (hw : C.w n x = some C') :
    Calls Tryz.prog 98 #[.pointer (some ⟨s, 0, none⟩), .int .i64 n, v] w fun e w' => e = .returned (.tuple #[]) ∧ Step w F c C' R w' := by
  have hmay : C.may n = true := by
    unfold Ca.w at hw
    split at hw
    · assumption
    · cases hw
  have hC' : C' = C.set n x := by unfold Ca.w at hw; rw [if_pos hmay] at hw; exact (Option.some.inj hw).symm
  have k0 : w.cell? ⟨s, 0, none⟩ = some (.pointer (some ⟨m, 0, none⟩)) := cell_of_heap (h.fix _ hs).1 0
  have hmc := mcache_any m c ino w (h.fix _ hm).1
  have hwr := hwrite_any n c C R F v x w h hn hv hx
  rw [if_pos hmay, if_pos hmay, ← hC'] at hwr
  have HMc := Lib.hid hmc
  have HWr := Lib.hid hwr
  obtain ⟨A, cp, rfl, _, _⟩ := hv
  clear hmc hwr h hm hs hw hC' hmay hx
  go_enter Tryz.func98, Tryz.ntmps98
  go_wp2_with fail
  refine HMc.out.mono ?_
  rintro e w1 ⟨rfl, rfl⟩
  go_wp2_with fail
  refine HWr.out.mono ?_
  rintro e w2 ⟨rfl, hs2⟩
  have HS := Lib.hid hs2
  clear hs2
  go_wp2_with fail
  go_end0
  exact ⟨rfl, HS.out⟩
set_option maxHeartbeats 1000000 in
theorem take_any (s m c ino n : Nat) (C C' : Ca) (R : Reg) (F : List (Nat × Obj)) (w : World) (h : Held w F c C R) (hm : (m, mapO c ino) ∈ F) (hs : (s, storeO m) ∈ F) (hp : 2 < C.G.pages) (hw : C.page = some (n, C')) :
    Calls Tryz.prog 145 #[.pointer (some ⟨s, 0, none⟩)] w fun e w' => e = .returned (.int .i64 n) ∧ Step w F c C' R w' := by
  have hR : C.pageR = (n, 0, C') := by unfold Ca.pageR; rw [hw]
  have k0 : w.cell? ⟨s, 0, none⟩ = some (.pointer (some ⟨m, 0, none⟩)) := cell_of_heap (h.fix _ hs).1 0
  have hpg := page_any m c ino C R F w h hm hp
  rw [hR] at hpg
  have HPg := Lib.hid hpg
  clear hpg h hm hs hw hR
  go_enter Tryz.func145, Tryz.ntmps145
  go_wp2_with fail
  refine HPg.out.mono ?_
  rintro e w1 ⟨rfl, hs1⟩
  have HS := Lib.hid hs1
  clear hs1
  go_wp2_with fail
  go_ret
  exact ⟨rfl, HS.out⟩
set_option maxHeartbeats 1000000 in
theorem igive_any (s m c ino n : Nat) (C C' : Ca) (R : Reg) (F : List (Nat × Obj)) (w : World) (h : Held w F c C R) (hm : (m, mapO c ino) ∈ F) (hs : (s, storeO m) ∈ F) (hp : 2 < C.G.pages) (hi : ino ≤ 512) (hw : C.giveP ino n = some C') :
    Calls Tryz.prog 146 #[.pointer (some ⟨s, 0, none⟩), .int .i64 n] w fun e w' => e = .returned (.tuple #[]) ∧ Step w F c C' R w' := by
  have hR : C.give 2 C.G.pages n (alFirst ino) = (0, C') := by
    unfold Ca.giveP at hw
    split at hw
    · rename_i C2 h2; rw [h2]; rw [Option.some.inj hw]
    · cases hw
  have k0 : w.cell? ⟨s, 0, none⟩ = some (.pointer (some ⟨m, 0, none⟩)) := cell_of_heap (h.fix _ hs).1 0
  have hpg := givePage_any n m c ino C R F w h hm hp hi
  rw [hR] at hpg
  have HPg := Lib.hid hpg
  clear hpg h hm hs hw hR
  go_enter Tryz.func146, Tryz.ntmps146
  go_wp2_with fail
  refine HPg.out.mono ?_
  rintro e w1 ⟨rfl, hs1⟩
  have HS := Lib.hid hs1
  clear hs1
  go_wp2_with fail
  go_end0
  exact ⟨rfl, HS.out⟩
end Go.Proofs.YtfgkgoddjemnfaaGreatDoor

namespace Go.Proofs.YtfgkgoddjemnfaaGreatDoor
open Go.RowKit Go.Shelf Pa
attribute [local go_sem] bs_toList bs_size
theorem int_plain (w : World) : (isAgg 3).run Tryz.prog w = .ok false w := by kernel_rfl
theorem size_int (w : World) : (sizeOf 3).run Tryz.prog w = .ok 1 w := by kernel_rfl
theorem run_index_ints {t : TypeId} {n : Nat} (ht : Tryz.prog.underlying t = some (.array n 3)) (l : List Nat) (hl : l.length = n) (k : Nat) (hk : k < n) (w : World) : (Instr.index t (.agg (ints l).toArray) (.int .i64 k)).run Tryz.prog w = .ok (.int .i64 (l.getD k 0 : Nat)) w := by
  have h1 : (ints l)[k]? = some (.int .i64 (l.getD k 0 : Nat)) := ints_at l k (by omega)
  simp [Instr.index, asIntOf, run_underlying ht, hk, part, int_plain, size_int, h1]
/-- A record under way: what is written, then zeros. -/
def stage (page : Str) (a : Nat) (pre : Str) : Str := laidAt page a (pre ++ List.replicate (64 - pre.length) 0)
theorem stage_length {page : Str} {a : Nat} {pre : Str} (h : pre.length ≤ 64) (ha : a + 64 ≤ page.length) : (stage page a pre).length = page.length := laidAt_length (by rw [List.length_append, List.length_replicate]; omega)
theorem stage_put {page : Str} {a : Nat} {pre y : Str} (h : pre.length + y.length ≤ 64) (ha : a + 64 ≤ page.length) : laidAt (stage page a pre) (a + pre.length) y = stage page a (pre ++ y) := by
  have hl1 : (pre ++ List.replicate (64 - pre.length) (0 : UInt8)).length = 64 := by rw [List.length_append, List.length_replicate]; omega
  have hl2 : (pre ++ y ++ List.replicate (64 - (pre ++ y).length) (0 : UInt8)).length = 64 := by rw [List.length_append, List.length_replicate, List.length_append]; omega
  refine List.ext_getElem? fun j => ?_
  rw [laidAt_getElem? _ _ _ _ (by rw [stage_length (by omega) ha]; omega)]
  unfold stage
  rw [laidAt_getElem? _ _ _ _ (by rw [hl1]; omega), laidAt_getElem? _ _ _ _ (by rw [hl2]; omega), hl1, hl2]
  by_cases h1 : a ≤ j ∧ j < a + 64
  · rw [if_pos h1, if_pos h1]
    by_cases h2 : a + pre.length ≤ j ∧ j < a + pre.length + y.length
    · rw [if_pos h2, List.append_assoc, List.getElem?_append_right (by omega), List.getElem?_append_left (by omega)]
      congr 1; omega
    · rw [if_neg h2]
      by_cases h3 : j - a < pre.length
      · rw [List.getElem?_append_left h3, List.append_assoc, List.getElem?_append_left h3]
      · rw [List.getElem?_append_right (by omega), List.getElem?_append_right (by rw [List.length_append]; omega), List.getElem?_replicate, List.getElem?_replicate, List.length_append, if_pos (by omega), if_pos (by omega)]
  · rw [if_neg h1, if_neg h1, if_neg (by omega)]
/-- The bytes of an inode up to its pages. -/
def headI (o : Opn) : Str := [UInt8.ofNat o.kind] ++ putN 2 o.mode ++ putN 2 o.links ++ putN 4 o.size
theorem headI_length (o : Opn) : (headI o).length = 9 := by unfold headI; simp only [List.length_append, putN_length, List.length_cons, List.length_nil]
def pagesI (o : Opn) (k : Nat) : Str := ((o.pages.take k).map (putN 4)).flatten
theorem pagesI_length (o : Opn) (k : Nat) (h : k ≤ o.pages.length) : (pagesI o k).length = 4 * k := by unfold pagesI; rw [flat4_length, List.length_take, Nat.min_eq_left h]
theorem pagesI_succ (o : Opn) (k : Nat) (h : k < o.pages.length) : pagesI o (k + 1) = pagesI o k ++ putN 4 (o.pages.getD k 0) := by
  unfold pagesI
  rw [take_succ_at _ _ _ (List.getElem?_eq_getElem h), List.map_append, List.flatten_append, List.getD_eq_getElem?_getD, List.getElem?_eq_getElem h]
  simp
theorem stage_all (page : Str) (a : Nat) (o : Opn) (h : o.pages.length = 11) : stage page a (headI o ++ pagesI o 11) = laidAt page a (encI o) := by
  unfold stage
  have e : (headI o ++ pagesI o 11).length = 53 := by rw [List.length_append, headI_length, pagesI_length o 11 (by omega)]
  rw [e]
  unfold encI headI pagesI
  rw [List.take_of_length_le (by omega)]
def moreI (o : Opn) (k : Nat) : Str := ((o.more.take k).map (putN 4)).flatten
theorem moreI_length (o : Opn) (k : Nat) (h : k ≤ o.more.length) : (moreI o k).length = 4 * k := by unfold moreI; rw [flat4_length, List.length_take, Nat.min_eq_left h]
theorem moreI_succ (o : Opn) (k : Nat) (h : k < o.more.length) : moreI o (k + 1) = moreI o k ++ putN 4 (o.more.getD k 0) := by
  unfold moreI
  rw [take_succ_at _ _ _ (List.getElem?_eq_getElem h), List.map_append, List.flatten_append, List.getD_eq_getElem?_getD, List.getElem?_eq_getElem h]
  simp
theorem rangeAt_pages {w : World} {b : Nat} {o : Opn} (h : OpnAt w b o) : w.rangeAt b 4 (ints o.pages) := fun j v hv => by
  have hj : j < o.pages.length := by have := (List.getElem?_eq_some_iff.1 hv).1; simpa [ints] using this
  rw [ints_at _ _ hj] at hv
  cases hv
  exact h.page j (by rw [← h.2.pages]; exact hj)
theorem rangeAt_more {w : World} {b : Nat} {o : Opn} (h : OpnAt w b o) : w.rangeAt b 16 (ints o.more) := fun j v hv => by
  have hj : j < o.more.length := by have := (List.getElem?_eq_some_iff.1 hv).1; simpa [ints] using this
  rw [ints_at _ _ hj] at hv
  cases hv
  exact h.more j (by rw [← h.2.more]; exact hj)
theorem info_pages : (Tryz.prog.info? 118).map (·.size) = some 11 := by kernel_rfl
theorem info_more : (Tryz.prog.info? 121).map (·.size) = some 128 := by kernel_rfl
end Go.Proofs.YtfgkgoddjemnfaaGreatDoor

namespace Go.Proofs.YtfgkgoddjemnfaaGreatDoor
open Go.RowKit Go.Shelf Pa
attribute [local go_sem] bs_toList bs_size
/-- A put into a record under way. -/
theorem put_stage {g cv a : Nat} {page : Str} {W : World} (ha : a + 64 ≤ page.length) (pre : Str) (len n k : Nat) (hB : Blk W g cv (stage page a pre)) (h1 : pre.length + len ≤ 64) (h2 : len ≤ 4) (h3 : len ≤ k) :
    Calls Tryz.prog 141 #[.slice (some ⟨g, a + pre.length, none⟩) len k, .int .i64 n] W fun e w' => e = .returned (.tuple #[]) ∧ Blk w' g cv (stage page a (pre ++ putN len n)) ∧ Off (fun k => k = g) W w' := by
  have := put_any g (a + pre.length) len k cv n _ W hB (by rw [stage_length (by omega) ha]; omega) h2 h3
  rw [stage_put (by rw [putN_length]; exact h1) ha] at this
  exact this
theorem laidAt_app {x p y : Str} {a : Nat} (h : a + p.length + y.length ≤ x.length) : laidAt (laidAt x a p) (a + p.length) y = laidAt x a (p ++ y) := by
  refine List.ext_getElem? fun j => ?_
  rw [laidAt_getElem? _ _ _ _ (by rw [laidAt_length (by omega)]; omega), laidAt_getElem? _ _ _ _ (by omega), laidAt_getElem? _ _ _ _ (by rw [List.length_append]; omega), List.length_append]
  by_cases h1 : a + p.length ≤ j ∧ j < a + p.length + y.length
  · rw [if_pos h1, if_pos (show a ≤ j ∧ j < a + (p.length + y.length) by omega), List.getElem?_append_right (by omega)]
    congr 1; omega
  · rw [if_neg h1]
    by_cases h2 : a ≤ j ∧ j < a + p.length
    · rw [if_pos h2, if_pos (show a ≤ j ∧ j < a + (p.length + y.length) by omega), List.getElem?_append_left (by omega)]
    · rw [if_neg h2, if_neg (by omega)]
theorem laidAt_full {x y : Str} (h : x.length = y.length) : laidAt x 0 y = y := by unfold laidAt; rw [List.take_zero, Nat.zero_add, ← h, List.drop_length]; simp
theorem blk_new (w : World) : Blk (w.alloc (.cells (madeCells #[.int .u8 0] 512) 5)) w.heap.size 512 pageZ := by
  refine ⟨_, heap_alloc_new _ _, by simp [size_madeCells], ⟨by rw [pageZ_length]; exact Nat.le_refl _, by unfold maxLen; omega⟩, fun i y hy => ?_⟩
  have hi : i < 512 := by have := (List.getElem?_eq_some_iff.1 hy).1; rwa [pageZ_length] at this
  unfold pageZ at hy
  rw [List.getElem?_replicate, if_pos hi] at hy
  cases hy
  simp [madeCells, hi, Nat.mod_one]
set_option maxRecDepth 100000 in
set_option maxHeartbeats 4000000 in
theorem save_any (s m c ino : Nat) (o : Opn) (C C' : Ca) (R : Reg) (F : List (Nat × Obj)) (w : World) (h : Held w F c C R) (hm : (m, mapO c ino) ∈ F) (hs : (s, storeO m) ∈ F) (hi : ino ≤ 512) (h8 : ino % 8 = 0) (hp : alFirst ino ≤ C.G.pages) (hl : o.Len) (hoi : o.i < ino) (hin : o.ind < C.G.pages) (hsv : C.save o = some C') :
    Calls Tryz.prog 89 #[.pointer (some ⟨s, 0, none⟩), OpnV o] w fun e w' => e = .returned (.tuple #[]) ∧ Step w F c C' R w' := by
  obtain ⟨n0, hn0⟩ : ∃ n0, n0 = 3 + o.i / 8 := ⟨_, rfl⟩
  have hn0p : n0 < C.G.pages := by unfold alFirst at hp; omega
  have hb0 : Below w.heap.size w (w.alloc (.cells (cellsO o).toArray 123)) := (Below.refl _ _).alloc (Nat.le_refl _) _
  have h0 := h.below hb0
  have hO0 := opn_box w o hl
  have hbR : ¬ R.has w.heap.size := fun e => Nat.lt_irrefl _ (h.lt _ e)
  have k0 : (w.alloc (.cells (cellsO o).toArray 123)).cell? ⟨s, 0, none⟩ = some (.pointer (some ⟨m, 0, none⟩)) := cell_of_heap (h0.fix _ hs).1 0
  have k15 := hO0.num
  have htb : ∀ q, Calls Tryz.prog 115 #[.pointer (some ⟨m, 0, none⟩), .int .i64 o.i] ((w.alloc (.cells (cellsO o).toArray 123)).drewN q) fun e w' => e = .returned (.tuple #[.int .i64 (3 + o.i / 8 : Nat), .int .i64 (64 * (o.i % 8) : Nat), .int .i64 0]) ∧ ∃ i, w' = (w.alloc (.cells (cellsO o).toArray 123)).drewN i := fun q =>
    (table_ok m c ino o.i ((w.alloc (.cells (cellsO o).toArray 123)).drewN q) (h0.fix _ hm).1 hi hoi).mono fun e w' hh => ⟨hh.1, q, hh.2.symm⟩
  have HTb := Lib.hid htb
  have HL := Lib.hid hl
  have HSv := Lib.hid hsv
  have hlen := h.at_.rdlen hn0p
  have HLen := Lib.hid hlen
  have HO0 := Lib.hid hO0
  have H0 := Lib.hid h0
  have HBR := Lib.hid hbR
  have HB0 := Lib.hid hb0
  have HS := Lib.hid hs
  have HM := Lib.hid hm
  have HN0 := Lib.hid hn0
  clear htb hl hsv hlen hO0 h0 hbR hb0 hs hm h
  go_enter Tryz.func89, Tryz.ntmps89
  go_wp2_with fail
  go_quiet ((go_at_call 115; exact HTb.out _))
  -- the page is read
  obtain ⟨W1, hW1⟩ : ∃ W1, W1 = (w.alloc (.cells (cellsO o).toArray 123)).drewN nq := ⟨_, rfl⟩
  rw [← hW1]
  have hb01 : Below (w.alloc (.cells (cellsO o).toArray 123)).heap.size (w.alloc (.cells (cellsO o).toArray 123)) W1 := by rw [hW1]; exact below_drewN (Below.refl _ _) _
  have h1 := H0.out.below hb01
  have hO1 : OpnAt W1 w.heap.size o := HO0.out.keep (hb01.block _ HO0.out.lt)
  have hmc := mcache_any m c ino W1 (h1.fix _ HM.out).1
  have hrd := hread_any n0 c C R F W1 h1 hn0p
  have k1 : W1.cell? ⟨s, 0, none⟩ = some (.pointer (some ⟨m, 0, none⟩)) := cell_of_heap (h1.fix _ HS.out).1 0
  have hBw1 : Below w.heap.size w W1 := HB0.out.trans (hb01.mono (by simp))
  rw [HN0.out] at hrd
  have HMc := Lib.hid hmc
  have HRd := Lib.hid hrd
  have HO1 := Lib.hid hO1
  have H1 := Lib.hid h1
  have HBw1 := Lib.hid hBw1
  clear hmc hrd hO1 h1 hBw1 hb01 hW1 k0 k15
  go_wp2_with fail
  refine HMc.out.mono ?_
  rintro e w1 ⟨rfl, rfl⟩
  go_wp2_with fail
  refine HRd.out.mono ?_
  rintro e w2 ⟨v, rfl, hr⟩
  rw [← HN0.out] at hr
  obtain ⟨page, hpage⟩ : ∃ page, page = C.rd n0 := ⟨_, rfl⟩
  have hpl : page.length = 512 := by rw [hpage]; exact HLen.out
  rw [← hpage] at hr
  obtain ⟨R2, o2, g2, t2, f2, fr2⟩ := id hr
  obtain ⟨g, cv, rfl, hgB, hblk, hcv⟩ := o2.blk (by intro e; rw [e] at hpl; cases hpl)
  rw [hpl] at hcv
  have hbne : w.heap.size ≠ g := by have := HO1.out.lt; omega
  have hO2 : OpnAt w2 w.heap.size o := HO1.out.keep (f2.block _ HO1.out.lt (fun e => HBR.out (.inl e)))
  obtain ⟨a, ha⟩ : ∃ a, a = 64 * (o.i % 8) := ⟨_, rfl⟩
  have ha64 : a + 64 ≤ 512 := by omega
  have hz8 : ∀ w, (zeroValue 5).run Tryz.prog w = .ok (.int .u8 0) w := fun _ => by kernel_rfl
  obtain ⟨hB3, hO3f⟩ := hblk.cells a (List.replicate 64 0) (by rw [List.length_replicate, hpl]; omega)
  have hrep : (List.replicate 64 (0 : UInt8)).map (fun y => Value.int .u8 y.toNat) = List.replicate 64 (.int .u8 0) := by rw [List.map_replicate]; rfl
  rw [hrep] at hB3 hO3f
  have hcl : ∀ ty, (Builtin.clear_ #[53] ty #[.slice (some ⟨g, a, none⟩) 64 (cv - a)]).run Tryz.prog w2 = .ok (.tuple #[]) (w2.setCells g a (List.replicate 64 (.int .u8 0))) := fun ty =>
    Lib.run_clear_slice w2 53 5 ty (.int .u8 0) Tryz.underlying53 hz8 rfl rfl g a 64 _ (by decide)
      (fun j hj => by rw [hblk.cell (i := a + j) (List.getElem?_eq_getElem (by rw [hpl]; omega))]; rfl) (fun j hj => hblk.free _)
  obtain ⟨W3, hW3⟩ : ∃ W3, W3 = w2.setCells g a (List.replicate 64 (.int .u8 0)) := ⟨_, rfl⟩
  rw [← hW3] at hcl hB3 hO3f
  have hst3 : Blk W3 g cv (stage page a []) := by unfold stage; exact hB3
  have hO3 : OpnAt W3 w.heap.size o := hO2.keep (hO3f.block _ hO2.lt hbne)
  have hcl0 := hcl 0
  have hk3 := hO3.kind
  have hslen : (stage page a []).length = 512 := by rw [stage_length (by simp) (by rw [hpl]; omega), hpl]
  obtain ⟨y0, hy0⟩ : ∃ y0, (stage page a [])[a]? = some y0 := ⟨_, List.getElem?_eq_getElem (by rw [hslen]; omega)⟩
  have hc3 := hst3.cell hy0
  have hf3 := hst3.free a
  have hcva : 64 * (o.i % 8) + 64 ≤ cv := by omega
  have HPl := Lib.hid hpl
  have HPage := Lib.hid hpage
  have HSt3 := Lib.hid hst3
  have HO3 := Lib.hid hO3
  have HO3f := Lib.hid hO3f
  have HK2 := Lib.hid (⟨g2, t2, f2, fr2 g rfl⟩ : Held w2 F c C R2 ∧ R.To R2 W1.heap.size ∧ Off R.m W1 w2 ∧ ¬ R2.has g)
  have HA := Lib.hid ha
  clear hr o2 g2 t2 f2 fr2 hblk hO2 hB3 hO3f hst3 hO3 hy0 hslen hrep hW3 hcl hpage
  rw [hpl]
  clear hpl
  rw [ha] at hcl0 hc3 hf3
  clear ha
  go_wp2_with fail
  rw [show 64 * (o.i % 8) + 64 - 64 * (o.i % 8) = 64 from by omega, ← HA.out]
  rw [← HA.out] at hcva
  clear hcl0 hc3 hf3
  obtain ⟨cp, hcp⟩ : ∃ cp, cp = cv - a := ⟨_, rfl⟩
  rw [← hcp]
  have hcp64 : 64 ≤ cp := by omega
  have e8 : ((o.kind : Int) % 256) = (((UInt8.ofNat o.kind).toNat : Nat) : Int) := by rw [UInt8.toNat_ofNat']; omega
  rw [e8]
  obtain ⟨W4, hW4⟩ : ∃ W4, W4 = W3.setCell ⟨g, a, none⟩ (.int .u8 (UInt8.ofNat o.kind).toNat) := ⟨_, rfl⟩
  rw [← hW4]
  have hB4 : Blk W4 g cv (stage page a [UInt8.ofNat o.kind]) := by
    have h9 := (HSt3.out.cells a [UInt8.ofNat o.kind] (by rw [stage_length (by simp) (by rw [HPl.out]; omega), HPl.out]; show a + 1 ≤ 512; omega)).1
    have h10 := stage_put (page := page) (a := a) (pre := []) (y := [UInt8.ofNat o.kind]) (by show 0 + 1 ≤ 64; decide) (by rw [HPl.out]; omega)
    rw [List.length_nil, Nat.add_zero, List.nil_append] at h10
    rw [h10] at h9
    rw [hW4]; exact h9
  have hof4 : Off (fun k => k = g) w2 W4 := by rw [hW4]; exact HO3f.out.setCell (p := ⟨g, a, none⟩) (.inl rfl) _
  have hO4 : OpnAt W4 w.heap.size o := HO3.out.keep (by rw [hW4]; exact Below.heap_setCell _ _ _ _ hbne)
  have hq6 : ∀ q, Calls Tryz.prog 141 #[.slice (some ⟨g, a + 1, none⟩) 2 (cp - 1), .int .i64 o.mode] (W4.drewN q) fun e w' => e = .returned (.tuple #[]) ∧ Blk w' g cv (stage page a ([UInt8.ofNat o.kind] ++ putN 2 o.mode)) ∧ Off (fun k => k = g) W4 w' := fun q => by
    refine (put_stage (by rw [HPl.out]; omega) [UInt8.ofNat o.kind] 2 o.mode (cp - 1) (hB4.keep (w' := W4.drewN q) rfl) (by show 1 + 2 ≤ 64; decide) (by decide) (by omega)).mono ?_
    rintro e w' ⟨rfl, h9, h10⟩
    exact ⟨rfl, h9, ((Off.refl (fun k => k = g) W4).drewN q).then h10⟩
  have k41 := hO4.mode
  have hc3 : 3 ≤ cp := by omega
  have hc5 : 5 ≤ cp := by omega
  have hc9 : 9 ≤ cp := by omega
  have hi3 : (3 : Int) ≤ (cp : Int) := by omega
  have hi5 : (5 : Int) ≤ (cp : Int) := by omega
  have hi9 : (9 : Int) ≤ (cp : Int) := by omega
  have hn1 : ¬ cp = 1 := by omega
  have hn3 : ¬ cp = 3 := by omega
  have hn5 : ¬ cp = 5 := by omega
  have HQ6 := Lib.hid hq6
  have HO4 := Lib.hid hO4
  have HOf4 := Lib.hid hof4
  clear hq6 hB4 hof4 hO4 hW4 e8 hcp hcva hk3
  go_cut [0, 3, 4, 7, 9] (fun s0 s3 s4 s7 s9 wx => s0 = .pointer (some ⟨s, 0, none⟩) ∧ s3 = .pointer (some ⟨w.heap.size, 0, none⟩) ∧ s4 = .int .i64 (3 + (o.i : Int) / 8) ∧ s7 = .slice (some ⟨g, 0, none⟩) 512 cv ∧ s9 = .slice (some ⟨g, a, none⟩) 64 cp ∧ Blk wx g cv (stage page a ([UInt8.ofNat o.kind] ++ putN 2 o.mode)) ∧ Off (fun k => k = g) W4 wx)
  · go_region_with (go_at_call 141; refine (HQ6.out 1).mono ?_; rintro e w9 ⟨rfl, hb9, ho9⟩)
    all_goals (have HB9 := Lib.hid hb9; have HO9 := Lib.hid ho9; clear hb9 ho9; go_wp2_with fail; go_meet; exact ⟨rfl, rfl, rfl, rfl, rfl, HB9.out, HO9.out⟩)
  · obtain ⟨rfl, rfl, rfl, rfl, rfl, hB5, hof5⟩ := hcut
    have hO5 : OpnAt wc w.heap.size o := HO4.out.keep (hof5.block _ HO4.out.lt hbne)
    have k52 := hO5.links
    have hq7 : ∀ q, Calls Tryz.prog 141 #[.slice (some ⟨g, a + 3, none⟩) 2 (cp - 3), .int .i64 o.links] (wc.drewN q) fun e w' => e = .returned (.tuple #[]) ∧ Blk w' g cv (stage page a ([UInt8.ofNat o.kind] ++ putN 2 o.mode ++ putN 2 o.links)) ∧ Off (fun k => k = g) wc w' := fun q => by
      refine (put_stage (by rw [HPl.out]; omega) ([UInt8.ofNat o.kind] ++ putN 2 o.mode) 2 o.links (cp - 3) (hB5.keep (w' := wc.drewN q) rfl) (by show 3 + 2 ≤ 64; decide) (by decide) (by omega)).mono ?_
      rintro e w' ⟨rfl, h9, h10⟩
      exact ⟨rfl, h9, ((Off.refl (fun k => k = g) wc).drewN q).then h10⟩
    obtain ⟨W5, hW5⟩ : ∃ W5, W5 = wc := ⟨_, rfl⟩
    rw [← hW5] at hof5 hO5 k52 hq7 ⊢
    have HQ7 := Lib.hid hq7
    have HO5 := Lib.hid hO5
    have HOf5 := Lib.hid (HOf4.out.then hof5)
    clear hq7 hB5 hof5 hO5 hW5 k41
    go_wp2_with fail
    go_cut [0, 3, 4, 7, 9] (fun s0 s3 s4 s7 s9 wx => s0 = .pointer (some ⟨s, 0, none⟩) ∧ s3 = .pointer (some ⟨w.heap.size, 0, none⟩) ∧ s4 = .int .i64 (3 + (o.i : Int) / 8) ∧ s7 = .slice (some ⟨g, 0, none⟩) 512 cv ∧ s9 = .slice (some ⟨g, a, none⟩) 64 cp ∧ Blk wx g cv (stage page a ([UInt8.ofNat o.kind] ++ putN 2 o.mode ++ putN 2 o.links)) ∧ Off (fun k => k = g) W5 wx)
    · go_region_with (go_at_call 141; refine (HQ7.out 1).mono ?_; rintro e w9 ⟨rfl, hb9, ho9⟩)
      all_goals (have HB9 := Lib.hid hb9; have HO9 := Lib.hid ho9; clear hb9 ho9; go_wp2_with fail; go_meet; exact ⟨rfl, rfl, rfl, rfl, rfl, HB9.out, HO9.out⟩)
    · obtain ⟨rfl, rfl, rfl, rfl, rfl, hB6, hof6⟩ := hcut
      have hO6 : OpnAt wc w.heap.size o := HO5.out.keep (hof6.block _ HO5.out.lt hbne)
      have k63 := hO6.size
      have hq8 : ∀ q, Calls Tryz.prog 141 #[.slice (some ⟨g, a + 5, none⟩) 4 (cp - 5), .int .i64 o.size] (wc.drewN q) fun e w' => e = .returned (.tuple #[]) ∧ Blk w' g cv (stage page a (headI o)) ∧ Off (fun k => k = g) wc w' := fun q => by
        refine (put_stage (by rw [HPl.out]; omega) ([UInt8.ofNat o.kind] ++ putN 2 o.mode ++ putN 2 o.links) 4 o.size (cp - 5) (hB6.keep (w' := wc.drewN q) rfl) (by show 5 + 4 ≤ 64; decide) (by decide) (by omega)).mono ?_
        rintro e w' ⟨rfl, h9, h10⟩
        exact ⟨rfl, h9, ((Off.refl (fun k => k = g) wc).drewN q).then h10⟩
      obtain ⟨W6, hW6⟩ : ∃ W6, W6 = wc := ⟨_, rfl⟩
      rw [← hW6] at hof6 hO6 k63 hq8 ⊢
      have HQ8 := Lib.hid hq8
      have HO6 := Lib.hid hO6
      have HOf6 := Lib.hid (HOf5.out.then hof6)
      clear hq8 hB6 hof6 hO6 hW6 k52
      go_wp2_with fail
      go_cut [0, 3, 4, 7, 9] (fun s0 s3 s4 s7 s9 wx => s0 = .pointer (some ⟨s, 0, none⟩) ∧ s3 = .pointer (some ⟨w.heap.size, 0, none⟩) ∧ s4 = .int .i64 (3 + (o.i : Int) / 8) ∧ s7 = .slice (some ⟨g, 0, none⟩) 512 cv ∧ s9 = .slice (some ⟨g, a, none⟩) 64 cp ∧ Blk wx g cv (stage page a (headI o)) ∧ Off (fun k => k = g) W6 wx)
      · go_region_with (go_at_call 141; refine (HQ8.out 1).mono ?_; rintro e w9 ⟨rfl, hb9, ho9⟩)
        all_goals (have HB9 := Lib.hid hb9; have HO9 := Lib.hid ho9; clear hb9 ho9; go_wp2_with fail; go_meet; exact ⟨rfl, rfl, rfl, rfl, rfl, HB9.out, HO9.out⟩)
      · obtain ⟨rfl, rfl, rfl, rfl, rfl, hB7, hof7⟩ := hcut
        have hO7 : OpnAt wc w.heap.size o := HO6.out.keep (hof7.block _ HO6.out.lt hbne)
        obtain ⟨W7, hW7⟩ : ∃ W7, W7 = wc := ⟨_, rfl⟩
        rw [← hW7] at hof7 hO7 hB7 ⊢
        have HO7 := Lib.hid hO7
        have HB7 := Lib.hid hB7
        have HOf7 := Lib.hid (HOf6.out.then hof7)
        have hidx : ∀ k : Nat, k < 11 → ∀ w, (Instr.index 118 (.agg (ints o.pages).toArray) (.int .i64 k)).run Tryz.prog w = .ok (.int .i64 (o.pages.getD k 0 : Nat)) w := fun k hk w => run_index_ints Tryz.underlying118 o.pages HL.out.pages k hk w
        have HIdx := Lib.hid hidx
        clear hB7 hof7 hO7 hW7 k63 hidx hc3 hc5 hc9 hi3 hi5 hi9 hn1 hn3 hn5
        go_wp2_with (refine wpList_load_mid rfl 118 _ rfl w.heap.size 4 rfl (ints o.pages) _ (rangeAt_pages HO7.out) Tryz.underlying118 rfl (by rw [info_pages]; simp [ints, HL.out.pages]) ?_)
        go_loopg [70] 11 (fun gg i wx => ∃ k : Nat, i = .int .i64 k ∧ gg = 11 - k ∧ k ≤ 11 ∧ Blk wx g cv (stage page a (headI o ++ pagesI o k)) ∧ Off (fun k => k = g) W7 wx)
        case atStart => exact ⟨0, rfl, rfl, Nat.zero_le _, by have := HB7.out; simpa [pagesI] using this, Off.refl _ _⟩
        case round =>
          obtain ⟨k, rfl, rfl, hk, hB, ho⟩ := hrel
          by_cases hlt : k < 11
          · have hlt' : decide ((k : Int) < 11) = true := by simp; omega
            have hix := HIdx.out k hlt
            have hpl9 : (headI o ++ pagesI o k).length = 9 + 4 * k := by rw [List.length_append, headI_length, pagesI_length o k (by rw [HL.out.pages]; omega)]
            have hpt := put_stage (by rw [HPl.out]; omega) (headI o ++ pagesI o k) 4 (o.pages.getD k 0) (cp - (9 + 4 * k)) hB (by rw [hpl9]; omega) (by decide) (by omega)
            rw [hpl9, List.append_assoc, ← pagesI_succ o k (by rw [HL.out.pages]; exact hlt)] at hpt
            have h13 : 13 + 4 * k ≤ cp := by omega
            have h9n : ¬ cp = 9 + 4 * k := by omega
            have HPt := Lib.hid hpt
            have HOo := Lib.hid ho
            clear hpt hB ho hpl9
            go_wp2_with fail
            rw [show 13 + 4 * k - (9 + 4 * k) = 4 from by omega]
            refine HPt.out.mono ?_
            rintro e w9 ⟨rfl, hb9, ho9⟩
            have HB9 := Lib.hid hb9
            have HO9 := Lib.hid (HOo.out.then ho9)
            clear hb9 ho9
            go_wp2_with fail
            go_roundg (11 - (k + 1))
            case measure => omega
            case rel => exact ⟨k + 1, by go_num, rfl, hlt, HB9.out, HO9.out⟩
          · have hlt' : decide ((k : Int) < 11) = false := by simp; omega
            obtain rfl : k = 11 := by omega
            rw [stage_all page a o HL.out.pages] at hB
            obtain ⟨g2, t2, f2, fg2⟩ := HK2.out
            have hofg : Off (fun k => k = g) w2 wr := HOf7.out.then ho
            have hHr : Held wr F c C R2 := g2.off hofg (fun k hk e => fg2 (e ▸ hk))
            have hbR2 : ¬ R2.has w.heap.size := t2.free HBR.out HO1.out.lt
            have toW : R.To R2 w.heap.size := ⟨fun k hk => (t2.m k hk).imp id (by have := HBw1.out.size; omega), fun k hk => (t2.i k hk).imp id (by have := HBw1.out.size; omega)⟩
            have offW : Off R.m w wr := ((Off.of_below HBw1.out _).then f2).trans hofg (fun k e => .inr (by have := HBw1.out.size; omega))
            have henl : (encI o).length = 64 := encI_length HL.out.pages
            have hxl : (laidAt page a (encI o)).length = 512 := by rw [laidAt_length (by rw [henl, HPl.out]; omega), HPl.out]
            have hby := hB.bytes (by rw [hxl]; decide)
            rw [hxl] at hby
            have hsv := HSv.out
            unfold Ca.save at hsv
            have hO8 : OpnAt wr w.heap.size o := HO7.out.keep (ho.block _ HO7.out.lt hbne)
            rw [← HN0.out, ← HPage.out, ← HA.out] at hsv
            cases hc1 : C.w n0 (laidAt page a (encI o)) with
            | none => rw [hc1] at hsv; cases hsv
            | some C1 =>
              rw [hc1] at hsv
              simp only at hsv
              have hwr := iwrite_any s m c ino n0 _ _ C C1 R2 F wr hHr HM.out HS.out hn0p hby hxl hc1
              rw [HN0.out] at hwr
              have hG1 : C1.G = C.G := by
                unfold Ca.w at hc1
                split at hc1
                · rw [← Option.some.inj hc1]; rfl
                · cases hc1
              have hafter : ∀ w9, Step wr F c C1 R2 w9 → OpnAt w9 w.heap.size o ∧ ∃ R9, Held w9 F c C1 R9 ∧ R2.To R9 wr.heap.size ∧ Off R2.m wr w9 := fun w9 ⟨R9, q1, q2, q3⟩ => ⟨hO8.keep (q3.block _ hO8.lt (fun e => hbR2 (.inl e))), R9, q1, q2, q3⟩
              have HWr := Lib.hid hwr
              have HToW := Lib.hid toW
              have HOffW := Lib.hid offW
              have HSv1 := Lib.hid hsv
              have HG1 := Lib.hid hG1
              have HAfter := Lib.hid hafter
              clear hwr toW offW hsv hafter hB ho hHr hofg g2 t2 f2 fg2 hby hxl henl hO8 hc1 hG1
              go_wp2_with fail
              refine HWr.out.mono ?_
              rintro e w9 ⟨rfl, hs9⟩
              obtain ⟨hO9, R9, q1, q2, q3⟩ := HAfter.out w9 hs9
              have hind := hO9.ind
              have HO9 := Lib.hid hO9
              have HS9 := Lib.hid hs9
              have HQ9 := Lib.hid (⟨q1, q2, q3⟩ : Held w9 F c C1 R9 ∧ R2.To R9 wr.heap.size ∧ Off R2.m wr w9)
              clear hO9 hs9 q1 q2 q3
              obtain ⟨nn, hnn⟩ : ∃ nn, nn = o.ind := ⟨_, rfl⟩
              rw [← hnn] at hind
              by_cases hz : nn = 0
              · have hz' : (((nn : Nat) : Int) != 0) = false := by rw [hz]; rfl
                have hCC : C1 = C' := by
                  have h9 := HSv1.out
                  rw [if_pos (hnn.symm.trans hz)] at h9
                  exact Option.some.inj h9
                have hfin : Step w F c C' R w9 := by rw [← hCC]; exact Step.trans HToW.out HOffW.out HS9.out
                have HFin := Lib.hid hfin
                clear hfin hCC hnn
                go_wp2_with fail
                go_end0
                exact ⟨rfl, HFin.out⟩
              · have hz' : (((nn : Nat) : Int) != 0) = true := by simp; exact hz
                have hw2 : C1.w nn (encM o.more) = some C' := by
                  have h9 := HSv1.out
                  rw [if_neg (fun e => hz (hnn.trans e)), ← hnn] at h9
                  exact h9
                have hms : ∀ w1, (Instr.makeSlice 53 (.int .i64 512) (.int .i64 512)).run Tryz.prog w1 = .ok (.slice (some ⟨w1.heap.size, 0, none⟩) 512 512) (w1.alloc (.cells (madeCells #[.int .u8 0] 512) 5)) := run_make_row' (P := Tryz.prog) 53 5 (.int .u8 0) 1 Tryz.underlying53 info_u8 rfl .i64 .i64 512 (by omega) (by omega)
                have hba : Below w9.heap.size w9 (w9.alloc (.cells (madeCells #[.int .u8 0] 512) 5)) := (Below.refl _ _).alloc (Nat.le_refl _) _
                have hOa : OpnAt (w9.alloc (.cells (madeCells #[.int .u8 0] 512) 5)) w.heap.size o := HO9.out.keep (hba.block _ HO9.out.lt)
                have hBa := blk_new w9
                have hidx : ∀ k : Nat, k < 128 → ∀ w, (Instr.index 121 (.agg (ints o.more).toArray) (.int .i64 k)).run Tryz.prog w = .ok (.int .i64 (o.more.getD k 0 : Nat)) w := fun k hk w => run_index_ints Tryz.underlying121 o.more HL.out.more k hk w
                have HIdx2 := Lib.hid hidx
                have HOa := Lib.hid hOa
                have HBa := Lib.hid hBa
                have HBla := Lib.hid hba
                have HW2 := Lib.hid hw2
                have hnnp : nn < C.G.pages := by rw [hnn]; exact hin
                clear hidx hOa hBa hba hw2 hnn
                go_wp2_with (refine wpList_load_mid rfl 121 _ rfl w.heap.size 16 rfl (ints o.more) _ (rangeAt_more HOa.out) Tryz.underlying121 rfl (by rw [info_more]; simp [ints, HL.out.more]) ?_)
                go_loopg [98] 128 (fun gg i wx => ∃ k : Nat, i = .int .i64 k ∧ gg = 128 - k ∧ k ≤ 128 ∧ Blk wx w9.heap.size 512 (laidAt pageZ 0 (moreI o k)) ∧ Off (fun k => k = w9.heap.size) (w9.alloc (.cells (madeCells #[.int .u8 0] 512) 5)) wx)
                case atStart => exact ⟨0, rfl, rfl, Nat.zero_le _, by have := HBa.out; simpa [moreI, laidAt_nil] using this, Off.refl _ _⟩
                case round =>
                  obtain ⟨k, rfl, rfl, hk, hB, ho⟩ := hrel
                  by_cases hlt : k < 128
                  · have hlt' : decide ((k : Int) < 128) = true := by simp; omega
                    have hix := HIdx2.out k hlt
                    have hml := moreI_length o k (by rw [HL.out.more]; omega)
                    have hpt := put_any w9.heap.size (4 * k) 4 (512 - 4 * k) 512 (o.more.getD k 0) _ wr hB (by rw [laidAt_length (by rw [hml, pageZ_length]; omega), pageZ_length]; omega) (by decide) (by omega)
                    have e4 : laidAt (laidAt pageZ 0 (moreI o k)) (4 * k) (putN 4 (o.more.getD k 0)) = laidAt pageZ 0 (moreI o (k + 1)) := by
                      have := laidAt_app (x := pageZ) (p := moreI o k) (y := putN 4 (o.more.getD k 0)) (a := 0) (by rw [hml, putN_length, pageZ_length]; omega)
                      rw [hml, Nat.zero_add] at this
                      rw [this, ← moreI_succ o k (by rw [HL.out.more]; exact hlt)]
                    rw [e4] at hpt
                    have h4k : 4 * k + 4 ≤ 512 := by omega
                    have h4n : ¬ 512 = 4 * k := by omega
                    have HPt := Lib.hid hpt
                    have HOo := Lib.hid ho
                    clear hpt hB ho hml e4
                    go_wp2_with fail
                    refine HPt.out.mono ?_
                    rintro e w11 ⟨rfl, hb11, ho11⟩
                    have HB11 := Lib.hid hb11
                    have HO11 := Lib.hid (HOo.out.then ho11)
                    clear hb11 ho11
                    go_wp2_with fail
                    go_roundg (128 - (k + 1))
                    case measure => omega
                    case rel => exact ⟨k + 1, by go_num, rfl, hlt, HB11.out, HO11.out⟩
                  · have hlt' : decide ((k : Int) < 128) = false := by simp; omega
                    obtain rfl : k = 128 := by omega
                    have hm128 : moreI o 128 = encM o.more := by unfold moreI encM; rw [List.take_of_length_le (by rw [HL.out.more]; exact Nat.le_refl _)]
                    have hel : (encM o.more).length = 512 := by rw [encM_length, HL.out.more]
                    rw [hm128, laidAt_full (by rw [pageZ_length, hel])] at hB
                    have hby := hB.bytes (by rw [hel]; decide)
                    rw [hel] at hby
                    obtain ⟨q1, q2, q3⟩ := HQ9.out
                    have hHr2 : Held wr F c C1 R9 := (q1.below HBla.out).off ho (fun k hk e => by have := q1.lt k hk; omega)
                    have hwr2 := iwrite_any s m c ino nn _ _ C1 C' R9 F wr hHr2 HM.out HS.out (by rw [HG1.out]; exact hnnp) hby hel HW2.out
                    have hoff9 : Off R9.m w9 wr := (Off.of_below HBla.out _).trans ho (fun k e => .inr (Nat.le_of_eq e.symm))
                    have hend : ∀ w12, Step wr F c C' R9 w12 → Step w F c C' R w12 := fun w12 h12 =>
                      Step.trans HToW.out HOffW.out (Step.trans q2 q3 (Step.trans (Reg.To.refl R9 w9.heap.size) hoff9 h12))
                    have HWr2 := Lib.hid hwr2
                    have HEnd := Lib.hid hend
                    clear hwr2 hend hby hB ho q1 q2 q3 hHr2 hoff9 hel hm128
                    go_wp2_with fail
                    refine HWr2.out.mono ?_
                    rintro e w12 ⟨rfl, hs12⟩
                    have HFin := Lib.hid (HEnd.out w12 hs12)
                    clear hs12
                    go_wp2_with fail
                    go_end0
                    exact ⟨rfl, HFin.out⟩
end Go.Proofs.YtfgkgoddjemnfaaGreatDoor

namespace Go.Proofs.YtfgkgoddjemnfaaGreatDoor
open Go.RowKit Go.Shelf Pa
attribute [local go_sem] bs_toList bs_size
theorem try1_idle (p q : Addr) (w : World) :
    CallsD Tryz.prog 137 #[.pointer (some p), .pointer (some q)] .returning w fun e u' w' => e = .returned (.tuple #[]) ∧ u' = .returning ∧ w' = w := by
  refine callsD_of_wpS Tryz.func137 rfl fun c₀ cs hu => ?_
  apply wpS_seq
  apply wpS_region
  simp [wpOpsS, go_sem, recoverD, hu, Tryz.ntmps137, Exit.thenS]
  refine wpS_of_wp ?_
  rw [show (#[Value.pointer (some p), Value.pointer (some q)] ++ (Array.replicate 15 undef).setIfInBounds 3 Value.nilIface : Array Value) = #[.pointer (some p), .pointer (some q), undef, undef, undef, .nilIface, undef, undef, undef, undef, undef, undef, undef, undef, undef, undef, undef] from rfl]
  go_wp2
  cases c₀
  simp_all [bodyPostS, results, Tryz.results137]
set_option maxHeartbeats 1000000 in
theorem try_any (s f : Nat) (caps : Array Value) (w : World) (P : World → Prop) (he : ∀ args w, (callFunc f args).run Tryz.prog w = .ok (.enter f args) w)
    (hf : Calls Tryz.prog f caps ((w.alloc (.cells #[.pointer (some ⟨s, 0, none⟩)] 23)).alloc (.cells #[.int .i64 0] 28)) fun e w1 => e = .returned (.tuple #[]) ∧ P w1)
    (hP : ∀ w1, P w1 → w1.heap[w.heap.size + 1]? = some (.cells #[.int .i64 0] 28 (0, 0))) :
    Calls Tryz.prog 86 #[.pointer (some ⟨s, 0, none⟩), .func (.func f) #[] caps] w fun e w' => e = .returned (.int .i64 0) ∧ ∃ w1, P w1 ∧ w' = w1.setCell ⟨w.heap.size + 1, 0, none⟩ (.int .i64 0) := by
  have hmf : ∀ (fn : Fn) (first cap : Array Value) (w : World), (Instr.makeFunc fn first cap).run Tryz.prog w = .ok (.func fn first cap) w := fun _ _ _ _ => rfl
  have HF := Lib.hid hf
  have HP := Lib.hid hP
  clear hf hP
  go_enter_defers Tryz.func86, Tryz.ntmps86
  go_wp2_with fail
  refine HF.out.mono ?_
  rintro e w1 ⟨rfl, hp⟩
  have hb := HP.out w1 hp
  have hc : w1.cell? ⟨w.heap.size + 1, 0, none⟩ = some (.int .i64 0) := cell_of_heap hb 0
  have hz : w1.frozen? ⟨w.heap.size + 1, 0, none⟩ = false := free_of_heap hb 0
  have HPp := Lib.hid hp
  clear hp hb
  go_wp2_with fail
  refine leaves_cons (f := 137) (args := #[.pointer (some ⟨w.heap.size, 0, none⟩), .pointer (some ⟨w.heap.size + 1, 0, none⟩)]) (by simp) (by simp [go_sem]) ?_
  refine (try1_idle ⟨w.heap.size, 0, none⟩ ⟨w.heap.size + 1, 0, none⟩ _).mono ?_
  rintro e u' w'' ⟨rfl, rfl, rfl⟩
  simp [Leaves, settle, results, Tryz.results86, go_sem, hc]
  exact ⟨w1, HPp.out, rfl⟩
end Go.Proofs.YtfgkgoddjemnfaaGreatDoor

namespace Go.Proofs.YtfgkgoddjemnfaaGreatDoor
open Go.RowKit Go.Shelf Pa
attribute [local go_sem] bs_toList bs_size
/-- What an act leaves that also writes blocks of one's own. -/
def StepX (w : World) (F : List (Nat × Obj)) (c : Nat) (C' : Ca) (R : Reg) (X : Nat → Prop) (w' : World) : Prop := ∃ R', Held w' F c C' R' ∧ R.To R' w.heap.size ∧ Off (fun k => R.m k ∨ X k) w w'
theorem Step.x {w w' : World} {F : List (Nat × Obj)} {c : Nat} {C' : Ca} {R : Reg} {X : Nat → Prop} (h : Step w F c C' R w') : StepX w F c C' R X w' := by
  obtain ⟨R', h1, h2, h3⟩ := h
  exact ⟨R', h1, h2, h3.mono fun k e => .inl (.inl e)⟩
theorem StepX.trans {w w1 w2 : World} {F : List (Nat × Obj)} {c : Nat} {C2 : Ca} {R R1 : Reg} {X : Nat → Prop} (ht : R.To R1 w.heap.size) (ho : Off (fun k => R.m k ∨ X k) w w1) (h2 : StepX w1 F c C2 R1 X w2) : StepX w F c C2 R X w2 := by
  obtain ⟨R2, h3, t2, o2⟩ := h2
  exact ⟨R2, h3, ht.trans t2 ho.size, ho.trans o2 fun k e => by
    rcases e with e | e
    · rcases ht.m k e with e | e
      · exact .inl (.inl e)
      · exact .inr e
    · exact .inl (.inr e)⟩
/-- The inode that Make makes. -/
def newO (k m n : Nat) : Opn := { Opn.none with kind := k, mode := m, links := 1, i := n }
theorem newO_len (k m n : Nat) : (newO k m n).Len := ⟨by simp [newO, Opn.none], by simp [newO, Opn.none]⟩
theorem built_new (k m n : Nat) : ((((((((((((((((Tryz.zeroCells123.setIfInBounds 0 (.int .i64 k)).setIfInBounds 1 (.int .i64 m)).setIfInBounds 2 (.int .i64 1)).setIfInBounds 3 (.int .i64 0)).setIfInBounds 4 (.int .i64 0)).setIfInBounds 5 (.int .i64 0)).setIfInBounds 6 (.int .i64 0)).setIfInBounds 7 (.int .i64 0)).setIfInBounds 8 (.int .i64 0)).setIfInBounds 9 (.int .i64 0)).setIfInBounds 10 (.int .i64 0)).setIfInBounds 11 (.int .i64 0)).setIfInBounds 12 (.int .i64 0)).setIfInBounds 13 (.int .i64 0)).setIfInBounds 14 (.int .i64 0)).setIfInBounds 15 (.int .i64 n)) = (cellsO (newO k m n)).toArray := by kernel_rfl
set_option maxRecDepth 100000 in
set_option maxHeartbeats 2000000 in
theorem make1_any (b0 b1 b2 b3 s m c ino k md n : Nat) (C C1 C2 : Ca) (R : Reg) (F : List (Nat × Obj)) (w : World) (h : Held w F c C R) (hm : (m, mapO c ino) ∈ F) (hs : (s, storeO m) ∈ F) (hi : ino ≤ 512) (h8 : ino % 8 = 0) (hp : alFirst ino ≤ C.G.pages)
    (q0 : w.heap[b0]? = some (.cells #[.pointer (some ⟨s, 0, none⟩)] 23 (0, 0))) (q1 : w.heap[b1]? = some (.cells #[.int .i64 0] 3 (0, 0))) (q2 : w.heap[b2]? = some (.cells #[.int .i64 k] 82 (0, 0))) (q3 : w.heap[b3]? = some (.cells #[.int .i64 md] 3 (0, 0)))
    (r0 : ¬ R.has b0) (r1 : ¬ R.has b1) (r2 : ¬ R.has b2) (r3 : ¬ R.has b3) (n01 : b0 ≠ b1) (n21 : b2 ≠ b1) (n31 : b3 ≠ b1)
    (hin : C.inode ino = some (n, C1)) (hni : n < ino) (hsv : C1.save (newO k md n) = some C2) (hG : C1.G = C.G) :
    Calls Tryz.prog 87 #[.pointer (some ⟨b0, 0, none⟩), .pointer (some ⟨b1, 0, none⟩), .pointer (some ⟨b2, 0, none⟩), .pointer (some ⟨b3, 0, none⟩)] w fun e w' => e = .returned (.tuple #[]) ∧ StepX w F c C2 R (fun k => k = b1) w' ∧ w'.heap[b1]? = some (.cells #[.int .i64 n] 3 (0, 0)) := by
  have hR : C.inodeR ino = (n, 0, C1) := by unfold Ca.inodeR; rw [hin]
  have hp1 : 1 < C.G.pages := by unfold alFirst at hp; omega
  have hio := inode_any m c ino C R F w h hm hp1 hi
  rw [hR] at hio
  have k0 : w.cell? ⟨b0, 0, none⟩ = some (.pointer (some ⟨s, 0, none⟩)) := cell_of_heap q0 0
  have ks : w.cell? ⟨s, 0, none⟩ = some (.pointer (some ⟨m, 0, none⟩)) := cell_of_heap (h.fix _ hs).1 0
  have l0 := (Array.getElem?_eq_some_iff.1 q0).1
  have l1 := (Array.getElem?_eq_some_iff.1 q1).1
  have l2 := (Array.getElem?_eq_some_iff.1 q2).1
  have l3 := (Array.getElem?_eq_some_iff.1 q3).1
  have hnext : ∀ w1, Step w F c C1 R w1 → w1.cell? ⟨b1, 0, none⟩ = some (.int .i64 0) ∧ w1.frozen? ⟨b1, 0, none⟩ = false ∧
      (w1.setCell ⟨b1, 0, none⟩ (.int .i64 n)).cell? ⟨b0, 0, none⟩ = some (.pointer (some ⟨s, 0, none⟩)) ∧ (w1.setCell ⟨b1, 0, none⟩ (.int .i64 n)).cell? ⟨b2, 0, none⟩ = some (.int .i64 k) ∧ (w1.setCell ⟨b1, 0, none⟩ (.int .i64 n)).cell? ⟨b3, 0, none⟩ = some (.int .i64 md) ∧ (w1.setCell ⟨b1, 0, none⟩ (.int .i64 n)).cell? ⟨b1, 0, none⟩ = some (.int .i64 n) ∧
      Calls Tryz.prog 89 #[.pointer (some ⟨s, 0, none⟩), OpnV (newO k md n)] (w1.setCell ⟨b1, 0, none⟩ (.int .i64 n)) fun e w' => e = .returned (.tuple #[]) ∧ StepX w F c C2 R (fun k => k = b1) w' ∧ w'.heap[b1]? = some (.cells #[.int .i64 n] 3 (0, 0)) := by
    intro w1 ⟨R1, g1, t1, o1⟩
    have hb : ∀ j, ¬ R.has j → j < w.heap.size → w1.heap[j]? = w.heap[j]? := fun j hj hl => o1.block j hl (fun e => hj (.inl e))
    have e1 : w1.heap[b1]? = _ := (hb b1 r1 l1).trans q1
    have e1' := heap_setCell_at w1 b1 0 (.int .i64 n) e1
    have oX : Off (fun k => k = b1) w1 (w1.setCell ⟨b1, 0, none⟩ (.int .i64 n)) := (Off.refl (fun k => k = b1) w1).setCell (p := ⟨b1, 0, none⟩) (.inl rfl) _
    have f1 : ¬ R1.has b1 := t1.free r1 l1
    have gX : Held (w1.setCell ⟨b1, 0, none⟩ (.int .i64 n)) F c C1 R1 := g1.off oX (fun j hj e => f1 (e ▸ hj))
    have hsz : (w1.setCell ⟨b1, 0, none⟩ (.int .i64 n)).heap.size = w1.heap.size := by simp [World.setCell]
    have l1' : b1 < w1.heap.size := Nat.lt_of_lt_of_le l1 o1.size
    refine ⟨cell_of_heap e1 0, free_of_heap e1 0, ?_, ?_, ?_, cell_of_heap e1' 0, ?_⟩
    · exact cell_of_heap ((Below.heap_setCell _ _ _ _ n01).trans ((hb b0 r0 l0).trans q0)) 0
    · exact cell_of_heap ((Below.heap_setCell _ _ _ _ n21).trans ((hb b2 r2 l2).trans q2)) 0
    · exact cell_of_heap ((Below.heap_setCell _ _ _ _ n31).trans ((hb b3 r3 l3).trans q3)) 0
    · refine (save_any s m c ino (newO k md n) C1 C2 R1 F _ gX hm hs hi h8 (by rw [hG]; exact hp) (newO_len k md n) hni (by show 0 < C1.G.pages; rw [hG]; omega) hsv).mono ?_
      rintro e w' ⟨rfl, R2, g2, t2, o2⟩
      refine ⟨rfl, ⟨R2, g2, t1.trans t2 (by rw [hsz]; exact o1.size), ?_⟩, ?_⟩
      · refine ((o1.mono fun k e => .inl (.inl e)).trans (oX.mono (M' := fun k => R.m k ∨ k = b1) fun k e => .inl (.inr e)) fun k e => .inl e).trans o2 fun k e => ?_
        rcases t1.m k e with e | e
        · exact .inl (.inl e)
        · exact .inr e
      · rw [o2.block b1 (by rw [hsz]; exact l1') (fun e => f1 (.inl e))]; exact e1'
  have HIo := Lib.hid hio
  have HNext := Lib.hid hnext
  clear hio hnext h hm hs hi h8 hp q0 q1 q2 q3 r0 r1 r2 r3 hin hni hsv hG hR
  go_enter Tryz.func87, Tryz.ntmps87
  go_wp2_with fail
  refine HIo.out.mono ?_
  rintro e w1 ⟨rfl, hs1⟩
  obtain ⟨a1, a2, a3, a4, a5, a6, a7⟩ := HNext.out w1 hs1
  have HSv := Lib.hid a7
  clear a7 hs1
  go_wp2_with fail
  rw [built_new]
  refine HSv.out.mono ?_
  rintro e w2 ⟨rfl, h2, h3⟩
  have HF := Lib.hid (⟨h2, h3⟩ : _ ∧ _)
  clear h2 h3
  go_wp2_with fail
  go_end0
  exact ⟨rfl, HF.out⟩
theorem alloc_old (w : World) (o : Obj) (k : Nat) (h : k < w.heap.size) : (w.alloc o).heap[k]? = w.heap[k]? := Below.heap_alloc w o k h
theorem alloc_at (w : World) (o : Obj) (k : Nat) (h : k = w.heap.size) : (w.alloc o).heap[k]? = some o := by subst h; exact heap_alloc_new w o
theorem alloc4 (w : World) (o0 o1 o2 o3 : Obj) : ((((w.alloc o0).alloc o1).alloc o2).alloc o3).heap[w.heap.size]? = some o0 ∧ ((((w.alloc o0).alloc o1).alloc o2).alloc o3).heap[w.heap.size + 1]? = some o1 ∧
    ((((w.alloc o0).alloc o1).alloc o2).alloc o3).heap[w.heap.size + 1 + 1]? = some o2 ∧ ((((w.alloc o0).alloc o1).alloc o2).alloc o3).heap[w.heap.size + 1 + 1 + 1]? = some o3 ∧ ((((w.alloc o0).alloc o1).alloc o2).alloc o3).heap.size = w.heap.size + 1 + 1 + 1 + 1 := by
  have s1 : (w.alloc o0).heap.size = w.heap.size + 1 := World.size_alloc _ _
  have s2 : ((w.alloc o0).alloc o1).heap.size = w.heap.size + 1 + 1 := by rw [World.size_alloc, s1]
  have s3 : (((w.alloc o0).alloc o1).alloc o2).heap.size = w.heap.size + 1 + 1 + 1 := by rw [World.size_alloc, s2]
  refine ⟨?_, ?_, ?_, alloc_at _ _ _ s3.symm, by rw [World.size_alloc, s3]⟩
  · rw [alloc_old _ _ _ (by omega), alloc_old _ _ _ (by omega), alloc_old _ _ _ (by omega)]; exact alloc_at _ _ _ rfl
  · rw [alloc_old _ _ _ (by omega), alloc_old _ _ _ (by omega)]; exact alloc_at _ _ _ s1.symm
  · rw [alloc_old _ _ _ (by omega)]; exact alloc_at _ _ _ s2.symm
set_option maxRecDepth 100000 in
set_option maxHeartbeats 2000000 in
theorem make_any (s m c ino k md n : Nat) (C C1 C2 : Ca) (R : Reg) (F : List (Nat × Obj)) (w : World) (h : Held w F c C R) (hm : (m, mapO c ino) ∈ F) (hs : (s, storeO m) ∈ F) (hi : ino ≤ 512) (h8 : ino % 8 = 0) (hp : alFirst ino ≤ C.G.pages)
    (hk : 1 ≤ k ∧ k ≤ 3) (hmd : md ≤ 4095) (hin : C.inode ino = some (n, C1)) (hni : n < ino) (hsv : C1.save (newO k md n) = some C2) (hG : C1.G = C.G) :
    Calls Tryz.prog 43 #[.pointer (some ⟨s, 0, none⟩), .int .i64 k, .int .i64 md] w fun e w' => e = .returned (.tuple #[.int .i64 n, .int .i64 0]) ∧ Step w F c C2 R w' := by
  have hmf : ∀ (fn : Fn) (first cap : Array Value) (w : World), (Instr.makeFunc fn first cap).run Tryz.prog w = .ok (.func fn first cap) w := fun _ _ _ _ => rfl
  have hk1 : decide ((k : Int) < 1) = false := by simp; omega
  have hk3 : decide ((3 : Int) < (k : Int)) = false := by simp; omega
  have hmode : ∀ W, Calls Tryz.prog 85 #[.int .i64 md] W fun e w' => e = .returned (.bool true) ∧ W = w' := fun W => (mode_any md W).mono fun e w' hh => ⟨hh.1.trans (by rw [decide_eq_true (by omega : (0 : Int) ≤ (md : Int)), decide_eq_true (by omega : (md : Int) ≤ 4095)]; rfl), hh.2⟩
  obtain ⟨W4, hW4⟩ : ∃ W4, W4 = ((((w.alloc (.cells #[.pointer (some ⟨s, 0, none⟩)] 23)).alloc (.cells #[.int .i64 k] 82)).alloc (.cells #[.int .i64 md] 3)).alloc (.cells #[.int .i64 0] 3)) := ⟨_, rfl⟩
  have hb4 : Below w.heap.size w W4 := by
    rw [hW4]
    exact ((((Below.refl _ _).alloc (Nat.le_refl _) _).alloc (by simp) _).alloc (by simp; omega) _).alloc (by simp; omega) _
  have HMode := Lib.hid hmode
  clear hmode
  go_enter Tryz.func43, Tryz.ntmps43
  go_wp2_with fail
  rw [← hW4]
  refine (HMode.out W4).mono ?_
  rintro e w1 ⟨rfl, rfl⟩
  obtain ⟨p0, p1, p2, p3, z4⟩ := alloc4 w (.cells #[.pointer (some ⟨s, 0, none⟩)] 23) (.cells #[.int .i64 k] 82) (.cells #[.int .i64 md] 3) (.cells #[.int .i64 0] 3)
  rw [← hW4] at p0 p1 p2 p3 z4
  obtain ⟨W6, hW6⟩ : ∃ W6, W6 = ((W4.alloc (.cells #[.pointer (some ⟨s, 0, none⟩)] 23)).alloc (.cells #[.int .i64 0] 28)) := ⟨_, rfl⟩
  have z6 : W6.heap.size = w.heap.size + 6 := by rw [hW6, World.size_alloc, World.size_alloc, z4]
  have hb46 : Below W4.heap.size W4 W6 := by rw [hW6]; exact ((Below.refl _ _).alloc (Nat.le_refl _) _).alloc (by simp) _
  have hb06 : Below w.heap.size w W6 := hb4.trans (hb46.mono hb4.size)
  have p6 : W6.heap[W4.heap.size + 1]? = some (.cells #[.int .i64 0] 28 (0, 0)) := by rw [hW6]; exact alloc_at _ _ _ (World.size_alloc _ _).symm
  have hR6 : ∀ k, w.heap.size ≤ k → ¬ R.has k := fun k hk e => by have := h.lt k e; omega
  have h6 := h.below hb06
  have hmk := make1_any w.heap.size (w.heap.size + 1 + 1 + 1) (w.heap.size + 1) (w.heap.size + 1 + 1) s m c ino k md n C C1 C2 R F W6 h6 hm hs hi h8 hp
    ((hb46.block _ (by omega)).trans p0) ((hb46.block _ (by omega)).trans p3) ((hb46.block _ (by omega)).trans p1) ((hb46.block _ (by omega)).trans p2)
    (hR6 _ (by omega)) (hR6 _ (by omega)) (hR6 _ (by omega)) (hR6 _ (by omega)) (by omega) (by omega) (by omega) hin hni hsv hG
  have htr := try_any s 87 #[.pointer (some ⟨w.heap.size, 0, none⟩), .pointer (some ⟨w.heap.size + 1 + 1 + 1, 0, none⟩), .pointer (some ⟨w.heap.size + 1, 0, none⟩), .pointer (some ⟨w.heap.size + 1 + 1, 0, none⟩)] W4
    (fun w1 => StepX W6 F c C2 R (fun k => k = w.heap.size + 1 + 1 + 1) w1 ∧ w1.heap[w.heap.size + 1 + 1 + 1]? = some (.cells #[.int .i64 n] 3 (0, 0)) ∧ w1.heap[W4.heap.size + 1]? = some (.cells #[.int .i64 0] 28 (0, 0)))
    (enters_of Tryz.func87 (by kernel_rfl) rfl)
    (by
      rw [← hW6]
      refine hmk.mono ?_
      rintro e w1 ⟨rfl, hx, h3⟩
      refine ⟨rfl, hx, h3, ?_⟩
      obtain ⟨R', _, _, o⟩ := hx
      exact (o.block _ (by omega) (fun e => by
        rcases e with e | e
        · exact hR6 _ (by omega) (.inl e)
        · omega)).trans p6)
    (fun w1 hh => hh.2.2)
  have hfin : ∀ w1, StepX W6 F c C2 R (fun k => k = w.heap.size + 1 + 1 + 1) w1 → ∀ u1 u2, Step w F c C2 R ((w1.setCell ⟨W4.heap.size + 1, 0, none⟩ u1).setCell ⟨w.heap.size + 1 + 1 + 1, 0, none⟩ u2) := by
    intro w1 ⟨R1, g1, t1, o1⟩ u1 u2
    have oX : Off (fun k => k = W4.heap.size + 1 ∨ k = w.heap.size + 1 + 1 + 1) w1 ((w1.setCell ⟨W4.heap.size + 1, 0, none⟩ u1).setCell ⟨w.heap.size + 1 + 1 + 1, 0, none⟩ u2) := ((Off.refl (fun k => k = W4.heap.size + 1 ∨ k = w.heap.size + 1 + 1 + 1) w1).setCell (p := ⟨W4.heap.size + 1, 0, none⟩) (.inl (.inl rfl)) u1).setCell (p := ⟨w.heap.size + 1 + 1 + 1, 0, none⟩) (.inl (.inr rfl)) u2
    have fr : ∀ k, w.heap.size ≤ k → k < W6.heap.size → ¬ R1.has k := fun k h1 h2 => t1.free (hR6 k h1) h2
    refine ⟨R1, g1.off oX (fun k hk e => ?_), ⟨fun k hk => ?_, fun k hk => ?_⟩, ((Off.of_below hb06 R.m).trans o1 (fun k e => ?_)).trans oX (fun k e => ?_)⟩
    · rcases e with rfl | rfl
      · exact fr _ (by omega) (by omega) hk
      · exact fr _ (by omega) (by omega) hk
    · exact (t1.m k hk).imp id (by omega)
    · exact (t1.i k hk).imp id (by omega)
    · rcases e with e | e
      · exact .inl e
      · right; omega
    · right; rcases e with e | e <;> omega
  have ks4 : W4.cell? ⟨w.heap.size, 0, none⟩ = some (.pointer (some ⟨s, 0, none⟩)) := cell_of_heap p0 0
  have hne43 : W4.heap.size + 1 ≠ w.heap.size + 1 + 1 + 1 := by omega
  have HTr := Lib.hid htr
  have HFin := Lib.hid hfin
  clear htr hfin hmk h6 hR6 p0 p1 p2 p3 p6 hb46 hb06 hW6 z6 hb4 hW4 h hm hs hin hsv
  go_wp2_with fail
  refine HTr.out.mono ?_
  rintro e w2 ⟨rfl, w3, ⟨hx, hn3, he3⟩, hw2⟩
  have k3 : w2.cell? ⟨w.heap.size + 1 + 1 + 1, 0, none⟩ = some (.int .i64 n) := by
    rw [hw2]
    exact (World.cell?_of_block (w := w3) (Below.heap_setCell _ _ _ _ (fun e => hne43 e.symm))).trans (cell_of_heap hn3 0)
  have f3 : w2.frozen? ⟨w.heap.size + 1 + 1 + 1, 0, none⟩ = false := by
    rw [hw2]
    exact (World.frozen?_of_block (w := w3) (Below.heap_setCell _ _ _ _ (fun e => hne43 e.symm))).trans (free_of_heap hn3 0)
  have hend : ∀ u2, Step w F c C2 R (w2.setCell ⟨w.heap.size + 1 + 1 + 1, 0, none⟩ u2) := fun u2 => by rw [hw2]; exact HFin.out w3 hx _ u2
  have HEnd := Lib.hid hend
  clear hend hx hn3 he3 hw2
  go_wp2_with fail
  (try simp only [Exit.inBlock, Exit.then])
  refine bodyPost_ret (v := .tuple #[.int .i64 n, .int .i64 0]) (by simp [results, Tryz.results43, go_sem, k3, f3]) rfl ?_
  exact ⟨rfl, HEnd.out _⟩
end Go.Proofs.YtfgkgoddjemnfaaGreatDoor

namespace Go.Proofs.YtfgkgoddjemnfaaGreatDoor
open Go.RowKit Go.Shelf Pa
attribute [local go_sem] bs_toList bs_size
/-- The cells of an inode as it is handed out. -/
def cellsI (o : Opn) : List Value := [.int .i64 o.kind, .int .i64 o.mode, .int .i64 o.links, .int .i64 o.size] ++ ints o.pages
theorem cellsI_length {o : Opn} (h : o.Len) : (cellsI o).length = 15 := by unfold cellsI; simp [ints, h.pages]
theorem cellsI_range {w : World} {b : Nat} {o : Opn} (h : OpnAt w b o) : w.rangeAt b 0 (cellsI o) := fun j v hv => by
  rw [Nat.zero_add, h.cell]
  unfold cellsO
  unfold cellsI at hv
  rw [← List.append_assoc]
  rw [List.getElem?_append_left (by have := (List.getElem?_eq_some_iff.1 hv).1; exact this)]
  exact hv
theorem cellsI_one (o : Opn) : (cellsI o).toArray.all (·.oneCell') = true := by
  rw [Array.all_eq_true_iff_forall_mem]
  intro v hv
  have hv : v ∈ cellsI o := by simpa using hv
  unfold cellsI at hv
  rcases List.mem_append.1 hv with hv | hv
  · simp at hv; rcases hv with rfl | rfl | rfl | rfl <;> rfl
  · exact ints_one _ v hv
theorem info_inode : (Tryz.prog.info? 120).map (·.size) = some 15 := by kernel_rfl
theorem results_inode {fn : Func} {p q : Tmp} (h : fn.results = #[.cell p 120, .tmp q]) (tmps : Array Value) (w : World) (b : Nat) (o : Opn) (hl : o.Len) (hp : tmps.getD p undef = .pointer (some ⟨b, 0, none⟩)) (hb : w.heap[b]? = some (.cells (cellsI o).toArray 120 (0, 0))) :
    (results fn tmps).run Tryz.prog w = .ok (.tuple #[.agg (cellsI o).toArray, tmps.getD q undef]) w := by
  have hl := run_loadVar_row (P := Tryz.prog) w b 120 120 (cellsI o).toArray (0, 0) _ hb Tryz.underlying120 rfl (by rw [info_inode, List.size_toArray, cellsI_length hl])
  rw [Array.getD_eq_getD_getElem?] at hp
  simp [results, h, hp, hl, asAddr]
theorem inode_store {w : World} {b : Nat} {old : Array Value} (h : w.heap[b]? = some (.cells old 120 (0, 0))) (ho : old.size = 15) (o : Opn) (hl : o.Len) : (storeCells ⟨b, 0, none⟩ (cellsI o)).run Tryz.prog w = .ok () (w.setRow b (cellsI o).toArray) := by
  have := run_storeCells_from (P := Tryz.prog) b 120 (cellsI o) 0 old w h (by rw [cellsI_length hl, ho]) (fun v hv => (Array.all_eq_true_iff_forall_mem.1 (cellsI_one o)) v (by simpa using hv))
  simpa using this
set_option maxRecDepth 100000 in
set_option maxHeartbeats 2000000 in
theorem get0_any (s m c ino : Nat) (i : Int) (C : Ca) (R : Reg) (F : List (Nat × Obj)) (w : World) (h : Held w F c C R) (hm : (m, mapO c ino) ∈ F) (hs : (s, storeO m) ∈ F) (hi : ino ≤ 512) (hp : alFirst ino < C.G.pages)
    (hv : ∀ j, 1 ≤ j → j < ino → bitAt (C.rd 1) j = true → (C.recd j).ind < C.G.pages) (hlen : (C.loadR ino i).1.Len) :
    Calls Tryz.prog 94 #[.pointer (some ⟨s, 0, none⟩), .int .i64 i] w fun e w' => e = .returned (.tuple #[.agg (cellsI (C.loadR ino i).1).toArray, .int .i64 (C.loadR ino i).2]) ∧ Step w F c C R w' := by
  obtain ⟨o, ho⟩ : ∃ o, o = (C.loadR ino i).1 := ⟨_, rfl⟩
  obtain ⟨ee, hee⟩ : ∃ ee, ee = (C.loadR ino i).2 := ⟨_, rfl⟩
  obtain ⟨W0, hW0⟩ : ∃ W0, W0 = w.alloc (.cells #[.int .i64 0, .int .i64 0, .int .i64 0, .int .i64 0, .int .i64 0, .int .i64 0, .int .i64 0, .int .i64 0, .int .i64 0, .int .i64 0, .int .i64 0, .int .i64 0, .int .i64 0, .int .i64 0, .int .i64 0] 120) := ⟨_, rfl⟩
  have hb0 : Below w.heap.size w W0 := by rw [hW0]; exact (Below.refl _ _).alloc (Nat.le_refl _) _
  have hz0 : W0.heap.size = w.heap.size + 1 := by rw [hW0, World.size_alloc]
  have hc0 := alloc_at w (.cells #[.int .i64 0, .int .i64 0, .int .i64 0, .int .i64 0, .int .i64 0, .int .i64 0, .int .i64 0, .int .i64 0, .int .i64 0, .int .i64 0, .int .i64 0, .int .i64 0, .int .i64 0, .int .i64 0, .int .i64 0] 120) _ rfl
  rw [← hW0] at hc0
  have h0 := h.below hb0
  have hld := load_any s m c ino i C R F W0 h0 hm hs hi hp hv
  rw [← ho, ← hee] at hld
  rw [← ho] at hlen
  have hbR : ¬ R.has w.heap.size := fun e => Nat.lt_irrefl _ (h.lt _ e)
  have hnext : ∀ w1, Step W0 F c C R w1 → w1.heap[w.heap.size]? = W0.heap[w.heap.size]? ∧ w.heap.size < w1.heap.size ∧ ∀ wx, Off (fun k => k = w.heap.size ∨ k = w1.heap.size) w1 wx → Step w F c C R wx := fun w1 ⟨R1, g1, t1, o1⟩ => by
    have hlt : w.heap.size < w1.heap.size := by have := o1.size; omega
    have f0 : ¬ R1.has w.heap.size := t1.free hbR (by omega)
    refine ⟨o1.block _ (by omega) (fun e => hbR (.inl e)), hlt, fun wx ho => ⟨R1, g1.off ho (fun k hk e => ?_), ⟨fun k hk => (t1.m k hk).imp id (by omega), fun k hk => (t1.i k hk).imp id (by omega)⟩, ((Off.of_below hb0 R.m).then o1).trans ho (fun k e => by right; rcases e with e | e <;> omega)⟩⟩
    rcases e with rfl | rfl
    · exact f0 hk
    · have := g1.lt _ hk; omega
  have HLd := Lib.hid hld
  have HNx := Lib.hid hnext
  have HLen := Lib.hid hlen
  have HOo := Lib.hid ho
  have HEe := Lib.hid hee
  have HC0 := Lib.hid hc0
  clear hld hnext hlen ho hee h0 h hb0 hc0 hm hs hp hv hbR
  go_enter Tryz.func94, Tryz.ntmps94
  go_wp2_with fail
  rw [← hW0]
  clear hW0
  refine HLd.out.mono ?_
  rintro e w1 ⟨rfl, hs1⟩
  obtain ⟨a1, a2, a3⟩ := HNx.out w1 hs1
  have hOn : OpnAt (w1.alloc (.cells Tryz.zeroCells123 123)) w1.heap.size Opn.none := opn_new w1
  have hst := opn_store hOn o HLen.out
  obtain ⟨W3, hW3⟩ : ∃ W3, W3 = (w1.alloc (.cells Tryz.zeroCells123 123)).setRow w1.heap.size (cellsO o).toArray := ⟨_, rfl⟩
  rw [← hW3] at hst
  have hO3 : OpnAt W3 w1.heap.size o := by rw [hW3]; exact hOn.row o HLen.out
  have ho3 : Off (fun k => k = w1.heap.size) w1 W3 := by
    rw [hW3]
    exact ((Off.refl (fun k => k = w1.heap.size) w1).alloc _).trans (off_setRow _ _ _) (fun k e => .inl e)
  have hc3 := (ho3.block w.heap.size a2 (by omega)).trans (a1.trans HC0.out)
  have hfin : ∀ cs, Step w F c C R (W3.setRow w.heap.size cs) := fun cs => a3 _ ((ho3.mono fun k e => .inl (.inr e)).trans (off_setRow _ _ _) (fun k e => .inl (.inl e)))
  have hst3 := inode_store hc3 rfl o HLen.out
  have hl15 := cellsI_length HLen.out
  have hl144 := cellsO_length HLen.out
  have HO3 := Lib.hid hO3
  have HC3 := Lib.hid hc3
  have HFin := Lib.hid hfin
  clear hO3 hc3 hfin ho3 hW3 hOn hs1 a1 a3
  go_wp2_with (refine wpList_load_mid rfl 120 _ rfl w1.heap.size 0 rfl (cellsI o) _ (cellsI_range HO3.out) Tryz.underlying120 rfl (by rw [info_inode, cellsI_length HLen.out]) ?_)
  (try simp only [Exit.inBlock, Exit.then])
  refine bodyPost_ret (results_inode rfl _ _ _ o HLen.out rfl (heap_setRow _ _ _ _ HC3.out)) rfl ?_
  exact ⟨by rw [← HOo.out, ← HEe.out]; rfl, HFin.out _⟩
end Go.Proofs.YtfgkgoddjemnfaaGreatDoor

namespace Go.Proofs.YtfgkgoddjemnfaaGreatDoor
open Go.RowKit Go.Shelf Pa Go.Maps
attribute [local go_sem] bs_toList bs_size
/-- All bytes of a file's pages. -/
def Ca.allP (C : Ca) (o : Opn) : Str := ((List.range (npg o.size)).map fun k => C.rd (o.slot k)).flatten
theorem flat512 (f : Nat → Str) (n : Nat) (h : ∀ k, k < n → (f k).length = 512) : ((List.range n).map f).flatten.length = 512 * n := by
  induction n with
  | zero => rfl
  | succ n ih =>
    rw [List.range_succ, List.map_append, List.flatten_append, List.length_append, ih (fun k hk => h k (by omega))]
    simp [h n (Nat.lt_succ_self n)]; omega
theorem flat512_at (f : Nat → Str) (n k : Nat) (hk : k < n) (h : ∀ k, k < n → (f k).length = 512) : (((List.range n).map f).flatten.drop (512 * k)).take 512 = f k := by
  induction n with
  | zero => omega
  | succ n ih =>
    have hl := flat512 f n (fun k hk => h k (by omega))
    rw [List.range_succ, List.map_append, List.flatten_append]
    by_cases hkn : k < n
    · rw [List.drop_append_of_le_length (by rw [hl]; omega), List.take_append_of_le_length (by rw [List.length_drop, hl]; omega)]
      exact ih hkn (fun k hk => h k (by omega))
    · obtain rfl : k = n := by omega
      rw [show 512 * k = (((List.range k).map f).flatten).length from hl.symm, List.drop_left]
      simp only [List.map_cons, List.map_nil, List.flatten_cons, List.flatten_nil, List.append_nil]
      exact List.take_of_length_le (by rw [h k (Nat.lt_succ_self k)]; exact Nat.le_refl _)
theorem take_step (A : Str) (at_ en k : Nat) (h1 : 512 * k < en) (h2 : at_ < en) (h3 : at_ < 512 * (k + 1)) (h4 : en ≤ A.length) :
    (A.drop at_).take (min (512 * k) en - at_) ++ ((((A.drop (512 * k)).take 512).drop (at_ - 512 * k)).take (min (en - 512 * k) 512 - (at_ - 512 * k))) = (A.drop at_).take (min (512 * (k + 1)) en - at_) := by
  refine List.ext_getElem? fun j => ?_
  rw [List.getElem?_append]
  simp only [List.getElem?_take, List.getElem?_drop, List.length_take, List.length_drop]
  by_cases hj : j < min (min (512 * k) en - at_) (A.length - at_)
  · rw [if_pos hj, if_pos (by omega), if_pos (by omega)]
  · rw [if_neg hj]
    by_cases hj2 : j < min (512 * (k + 1)) en - at_
    · rw [if_pos hj2, if_pos (by omega), if_pos (by omega)]
      congr 1; omega
    · rw [if_neg hj2, if_neg (by omega)]
/-- What stands at a round of Read: the bytes so far lie in a row of one's own; the inode's box lies apart. -/
def RdI (w : World) (F : List (Nat × Obj)) (c : Nat) (C : Ca) (R : Reg) (b : Nat) (o : Opn) (x : Str) (u : Value) (wx : World) : Prop :=
  ∃ R1, OwnB wx w.heap.size u x ∧ Held wx F c C R1 ∧ R.To R1 w.heap.size ∧ Off R.m w wx ∧ (∀ j, u.ownBlock = some j → ¬ R1.has j) ∧ OpnAt wx b o ∧ ¬ R1.has b ∧ u.ownBlock ≠ some b
theorem RdI.hrd {w wx : World} {F : List (Nat × Obj)} {c b : Nat} {C : Ca} {R : Reg} {o : Opn} {x : Str} {u : Value} (h : RdI w F c C R b o x u wx) : HRd w F c C R x u wx := by
  obtain ⟨R1, h1, h2, h3, h4, h5, _⟩ := h
  exact ⟨R1, h1, h2, h3, h4, h5⟩
theorem RdI.read {w wx w2 : World} {F : List (Nat × Obj)} {c b : Nat} {C : Ca} {R R1 : Reg} {o : Opn} {x page : Str} {u v : Value} (o1 : OwnB wx w.heap.size u x) (t1 : R.To R1 w.heap.size) (f1 : Off R.m w wx) (n1 : ∀ j, u.ownBlock = some j → ¬ R1.has j) (q1 : OpnAt wx b o) (b1 : ¬ R1.has b) (c1 : u.ownBlock ≠ some b) (hr : HRd wx F c C R1 page v w2) :
    RdI w F c C R b o x u w2 := by
  obtain ⟨R2, h1, h2, h3, h4, h5⟩ := hr
  have hz := f1.size
  refine ⟨R2, o1.off h4 (fun k hk e => n1 k hk (.inl e)), h2, ⟨fun k hk => ?_, fun k hk => ?_⟩, f1.trans h4 (fun k hk => (t1.m k hk)), fun k hk => h3.free (n1 k hk) (o1.block hk).2, q1.keep (h4.block _ q1.lt (fun e => b1 (.inl e))), h3.free b1 q1.lt, c1⟩
  · rcases h3.m k hk with e | e
    · exact t1.m k e
    · exact .inr (by omega)
  · rcases h3.i k hk with e | e
    · exact t1.i k e
    · exact .inr (by omega)
theorem RdI.grow {w w2 w3 : World} {F : List (Nat × Obj)} {c b : Nat} {C : Ca} {R : Reg} {o : Opn} {x : Str} {u v' : Value} (h : RdI w F c C R b o x u w2) (y : Str) (own : w3.ownsRow w.heap.size 5 1 v' (x.length + y.length) (x.map (fun z => Value.int .u8 (UInt8.toNat z)) ++ y.map (fun z => Value.int .u8 (UInt8.toNat z)))) (gr : w2.grownBy w3 u.ownBlock) (loc : v'.ownBlock = u.ownBlock ∨ v'.ownBlock = some w2.heap.size) :
    RdI w F c C R b o (x ++ y) v' w3 := by
  obtain ⟨R1, h1, h2, h3, h4, h5, h6, h7, h8⟩ := h
  have ho : Off (fun k => u.ownBlock = some k) w2 w3 := (Off.refl _ w2).grown gr (fun k e => .inl e)
  refine ⟨R1, ?_, h2.off ho (fun k hk e => h5 k e hk), h3, h4.trans ho (fun k e => .inr (h1.block e).1), fun k hk => ?_, h6.keep (ho.block _ h6.lt h8), h7, fun e => ?_⟩
  · unfold OwnB
    rw [List.length_append, List.map_append]; exact own
  · rcases loc with e | e
    · exact h5 k (e ▸ hk)
    · rw [e] at hk; injection hk with hk; intro hh; have := h2.lt _ hh; omega
  · rcases loc with e2 | e2
    · exact h8 (e2 ▸ e)
    · rw [e2] at e; injection e with e; have := h6.lt; omega
set_option maxRecDepth 100000 in
set_option maxHeartbeats 4000000 in
theorem iread_any (s m c ino i at_ n : Nat) (o : Opn) (C : Ca) (R : Reg) (F : List (Nat × Obj)) (w : World) (h : Held w F c C R) (hm : (m, mapO c ino) ∈ F) (hs : (s, storeO m) ∈ F) (hi : ino ≤ 512) (hp : alFirst ino < C.G.pages)
    (hv : ∀ j, 1 ≤ j → j < ino → bitAt (C.rd 1) j = true → (C.recd j).ind < C.G.pages) (hlo : C.loadR ino i = (o, 0)) (hlen : o.Len) (hsz : o.size ≤ 70656) (hsl : ∀ k, k < npg o.size → o.slot k < C.G.pages) (hat : at_ < o.size) (hn : n ≤ 1000000) (hn0' : 0 < n) :
    Calls Tryz.prog 26 #[.pointer (some ⟨s, 0, none⟩), .int .i64 i, .int .i64 at_, .int .i64 n] w fun e w' => ∃ v, e = .returned (.tuple #[v, .int .i64 0]) ∧ HRd w F c C R (((C.allP o).drop at_).take (min n (o.size - at_))) v w' := by
  obtain ⟨i0, hi0, hz0, hz1, hz2⟩ := info_parts info_u8
  have hld := load_any s m c ino i C R F w h hm hs hi hp hv
  rw [hlo] at hld
  have ha0 : decide ((at_ : Int) < 0) = false := by simp
  have hn0 : decide ((n : Int) < 0) = false := by simp
  have hge : decide (o.size ≤ at_) = false := by simp; omega
  obtain ⟨N, hN⟩ : ∃ N, N = min n (o.size - at_) := ⟨_, rfl⟩
  have hN0 : 0 < N := by omega
  have hNs : at_ + N ≤ o.size := by omega
  have hw1 : IntKind.i64.wrap ((o.size : Int) - (at_ : Int)) = (o.size : Int) - (at_ : Int) := IntWalk.i64_in _ (by omega)
  have hmin : min (n : Int) ((o.size : Int) - (at_ : Int)) = (N : Int) := by omega
  obtain ⟨A, hA⟩ : ∃ A, A = C.allP o := ⟨_, rfl⟩
  rw [← hN, ← hA]
  have hpl : ∀ k, k < npg o.size → (C.rd (o.slot k)).length = 512 := fun k hk => h.at_.rdlen (hsl k hk)
  have hAl : A.length = 512 * npg o.size := by rw [hA]; unfold Ca.allP; exact flat512 _ _ hpl
  have hAs : o.size ≤ A.length := by rw [hAl]; unfold npg; omega
  have hAk : ∀ k, 512 * k < o.size → k < npg o.size ∧ (A.drop (512 * k)).take 512 = C.rd (o.slot k) := fun k hk => by
    have h1 : k < npg o.size := by unfold npg; omega
    exact ⟨h1, by rw [hA]; unfold Ca.allP; exact flat512_at _ _ _ h1 hpl⟩
  have HLd := Lib.hid hld
  have HLen := Lib.hid hlen
  have HAk := Lib.hid hAk
  have HPl := Lib.hid hpl
  have HSl := Lib.hid hsl
  have HM := Lib.hid hm
  have HS := Lib.hid hs
  have hbR : ¬ R.has w.heap.size := fun e => Nat.lt_irrefl _ (h.lt _ e)
  have hRlt : ∀ k, R.has k → k < w.heap.size := h.lt
  have HRlt := Lib.hid hRlt
  clear hld hAk hpl hsl hm hs hbR hRlt h hv hlo hN hA hAl
  go_enter Tryz.func26, Tryz.ntmps26
  go_wp2_with fail
  refine HLd.out.mono ?_
  rintro e w1 ⟨rfl, R1, g1, t1, o1⟩
  have hst := opn_store (opn_new w1) o HLen.out
  obtain ⟨W3, hW3⟩ : ∃ W3, W3 = (w1.alloc (.cells Tryz.zeroCells123 123)).setRow w1.heap.size (cellsO o).toArray := ⟨_, rfl⟩
  rw [← hW3] at hst
  have hO3 : OpnAt W3 w1.heap.size o := by rw [hW3]; exact (opn_new w1).row o HLen.out
  have ho3 : Off (fun k => k = w1.heap.size) w1 W3 := by
    rw [hW3]
    exact ((Off.refl (fun k => k = w1.heap.size) w1).alloc _).trans (off_setRow _ _ _) (fun k e => .inl e)
  have hl144 := cellsO_length HLen.out
  have hsz3 := hO3.size
  have hI0 : RdI w F c C R w1.heap.size o [] (.slice none 0 0) W3 := by
    have hz := o1.size
    exact ⟨R1, World.ownsRow_nil _ _ _ _, g1.off ho3 (fun k hk e => by have := g1.lt _ hk; omega), t1, o1.trans ho3 (fun k e => .inr (by omega)), (fun j e => by cases e), hO3, (fun e => Nat.lt_irrefl _ (g1.lt _ e)), (fun e => by cases e)⟩
  have HI0 := Lib.hid hI0
  have hbw : w.heap.size ≤ w1.heap.size := o1.size
  clear hW3 hO3 ho3 hI0 g1 t1 o1
  go_wp2_with fail
  obtain ⟨b, hb⟩ : ∃ b, b = w1.heap.size := ⟨_, rfl⟩
  rw [← hb] at HI0 hbw ⊢
  clear hb hst hsz3
  have hx0 : (A.drop at_).take (min (512 * (at_ / 512)) (at_ + N) - at_) = [] := by rw [show min (512 * (at_ / 512)) (at_ + N) - at_ = 0 from by omega]; exact List.take_zero
  go_loopg [12, 14] (200 - at_ / 512) (fun gg u i wx => ∃ k : Nat, i = .int .i64 k ∧ gg = 200 - k ∧ at_ / 512 ≤ k ∧ k ≤ 150 ∧ RdI w F c C R b o ((A.drop at_).take (min (512 * k) (at_ + N) - at_)) u wx)
  case atStart => exact ⟨at_ / 512, by go_num, rfl, Nat.le_refl _, by omega, by rw [hx0]; exact HI0.out⟩
  case round =>
    obtain ⟨k, rfl, rfl, hk1, hk2, hI⟩ := hrel
    by_cases hlt : 512 * k < at_ + N
    · have hlt' : decide ((k : Int) * 512 < (at_ : Int) + (N : Int)) = true := by simp; omega
      obtain ⟨R1, o1, g1, t1, f1, n1, q1, b1, c1⟩ := id hI
      obtain ⟨hkn, hAp⟩ := HAk.out k (by omega)
      have k0 : wr.cell? ⟨s, 0, none⟩ = some (.pointer (some ⟨m, 0, none⟩)) := cell_of_heap (g1.fix _ HS.out).1 0
      have hmc := mcache_any m c ino wr (g1.fix _ HM.out).1
      have hsl := slot_any b k wr (by omega)
      have ksl := q1.slot k (by omega)
      have hrd := hread_any (o.slot k) c C R1 F wr g1 (HSl.out k hkn)
      have HMc := Lib.hid hmc
      have HSlot := Lib.hid hsl
      have HRdd := Lib.hid hrd
      have HN := Lib.hid (fun (v : Value) (w2 : World) (hh : HRd wr F c C R1 (C.rd (o.slot k)) v w2) => And.intro (RdI.read o1 t1 f1 n1 q1 b1 c1 hh) hh)
      have hpk := HPl.out k hkn
      have HPk := Lib.hid hpk
      have HAp := Lib.hid hAp
      clear hmc hsl hrd o1 g1 t1 f1 n1 q1 b1 c1 hI hpk hAp
      go_wp2_with fail
      refine HMc.out.mono ?_
      rintro e w1' ⟨rfl, rfl⟩
      go_wp2_with fail
      refine HSlot.out.mono ?_
      rintro e w1' ⟨rfl, rfl⟩
      go_wp2_with fail
      refine HRdd.out.mono ?_
      rintro e w2 ⟨v, rfl, hr⟩
      obtain ⟨hI2, hr⟩ := HN.out v w2 hr
      obtain ⟨page, hpage⟩ : ∃ page, page = C.rd (o.slot k) := ⟨_, rfl⟩
      rw [← hpage] at hr
      have hpl : page.length = 512 := by rw [hpage]; exact HPk.out
      obtain ⟨g, cv, rfl, hgB, hgl, hgc, hgf, hcv⟩ := hr.where_ (by intro e; rw [e] at hpl; cases hpl)
      obtain ⟨lo, hlo⟩ : ∃ lo, lo = at_ - 512 * k := ⟨_, rfl⟩
      obtain ⟨hh, hhh⟩ : ∃ hh, hh = min (at_ + N - 512 * k) 512 := ⟨_, rfl⟩
      have hlh : lo < hh := by omega
      have hh5 : hh ≤ 512 := by omega
      rw [hpl] at hcv
      have hmx : max ((at_ : Int) - (k : Int) * 512) 0 = (lo : Int) := by omega
      have hmn : min ((at_ : Int) + (N : Int) - (k : Int) * 512) 512 = (hh : Int) := by omega
      have hwa : IntKind.i64.wrap ((at_ : Int) - (k : Int) * 512) = (at_ : Int) - (k : Int) * 512 := IntWalk.i64_in _ (by omega)
      have hwb : IntKind.i64.wrap ((at_ : Int) + (N : Int) - (k : Int) * 512) = (at_ : Int) + (N : Int) - (k : Int) * 512 := IntWalk.i64_in _ (by omega)
      have hll : lo ≤ hh := by omega
      have hhc : hh ≤ cv := by omega
      have hcl : ¬ cv = lo := by omega
      rw [hpl]
      have hown := hI2
      obtain ⟨x, hx⟩ : ∃ x, x = (A.drop at_).take (min (512 * k) (at_ + N) - at_) := ⟨_, rfl⟩
      rw [← hx] at hI2
      have hxl : x.length ≤ 70656 := by rw [hx, List.length_take]; omega
      obtain ⟨y, hy⟩ : ∃ y, y = (page.drop lo).take (hh - lo) := ⟨_, rfl⟩
      have hyl : y.length = hh - lo := by rw [hy, List.length_take, List.length_drop, hpl]; omega
      have hxy : x ++ y = (A.drop at_).take (min (512 * (k + 1)) (at_ + N) - at_) := by
        rw [hx, hy, hpage, ← HAp.out, hlo, hhh]
        exact take_step A at_ (at_ + N) k hlt (by omega) (by omega) (by omega)
      have hnews : ∀ j u, (y.map (fun z => Value.int .u8 (UInt8.toNat z)))[j]? = some u → w2.cell? ((⟨g, lo, none⟩ : Addr).add j) = some u := by
        intro j u hj
        rw [List.getElem?_map] at hj
        obtain ⟨z, hz, rfl⟩ := Option.map_eq_some_iff.1 hj
        rw [hy] at hz
        have hz2 : page[lo + j]? = some z := by
          rw [List.getElem?_take] at hz
          split at hz
          · rwa [List.getElem?_drop] at hz
          · cases hz
        have := hgc _ _ hz2
        by_cases hj0 : j = 0
        · subst hj0; simpa [Addr.add] using this
        · simpa [Addr.add, hj0] using this
      have hone : ∀ u ∈ y.map (fun z => Value.int .u8 (UInt8.toNat z)), u.oneCell' = true := by
        intro u hu
        obtain ⟨z, _, rfl⟩ := List.mem_map.1 hu
        rfl
      have hyL : (y.map (fun z => Value.int .u8 (UInt8.toNat z))).length = (hh - lo) * 1 := by rw [List.length_map, hyl, Nat.mul_one]
      obtain ⟨R3, o3, g3, t3, f3, n3, q3, b3, c3⟩ := id hI2
      have hbase : w.heap.size ≤ w2.heap.size := f3.size
      have hI3 : ∀ v' w3, w3.ownsRow w.heap.size 5 1 v' (x.length + (hh - lo)) (x.map (fun z => Value.int .u8 (UInt8.toNat z)) ++ y.map (fun z => Value.int .u8 (UInt8.toNat z))) → w2.grownBy w3 u12.ownBlock → (v'.ownBlock = u12.ownBlock ∨ v'.ownBlock = some w2.heap.size) → RdI w F c C R b o ((A.drop at_).take (min (512 * (k + 1)) (at_ + N) - at_)) v' w3 := fun v' w3 h1 h2 h3 => by
        rw [← hxy]
        exact hI2.grow y (by rw [hyl]; exact h1) h2 h3
      have hkm : x.length + (hh - lo) ≤ maxLen := by unfold maxLen; omega
      have hkb : (x.length + (hh - lo)) * 1 ≤ 140737488355328 := by omega
      obtain ⟨z0, hz0⟩ : ∃ z, page[lo]? = some z := ⟨_, List.getElem?_eq_getElem (by omega)⟩
      have hck := hgc lo z0 hz0
      have HI3 := Lib.hid hI3
      have HO3 := Lib.hid o3
      have HNews := Lib.hid hnews
      have HOne := Lib.hid hone
      have HYL := Lib.hid hyL
      clear hpage HRdd HN HMc HSlot hr hown hx hy hyl hxy hI2 hI3 hnews hone hyL o3 g3 t3 f3 n3 q3 b3 c3 hlo hhh hgc HAp hz0
      go_wp2_with (at_builtin; refine wpList_append_own_at _ rfl _ _ 53 rfl w.heap.size 5 i0 (.int .u8 0) 1 1 Tryz.underlying53 hi0 hz0 hz1 hz2 rfl (by decide) u12 _ _ rfl HO3.out ⟨g, lo, none⟩ (hh - lo) (cv - lo) _ rfl HYL.out HNews.out HOne.out hkm hkb hbase ?_; intro v' w6 hown' hgrow hnil hloc; have hI6 := HI3.out v' w6 hown' hgrow hloc; have HI6 := Lib.hid hI6; clear hown' hgrow hnil hloc hI6)
      go_roundg (200 - (k + 1))
      case measure => omega
      case rel => exact ⟨k + 1, by go_num, rfl, by omega, by omega, HI6.out⟩
    · have hlt' : decide ((k : Int) * 512 < (at_ : Int) + (N : Int)) = false := by simp; omega
      rw [show min (512 * k) (at_ + N) - at_ = N from by omega] at hI
      have HI := Lib.hid hI.hrd
      clear hI
      go_wp2_with fail
      go_ret2
      exact ⟨_, rfl, HI.out⟩
end Go.Proofs.YtfgkgoddjemnfaaGreatDoor
