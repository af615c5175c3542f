/-
  The walk over the iterator of a directory's entries.
  The walks over super, numbers and may of the map.
  Rows of one's own, element by element; the walk over numbers.
  The walk over Make of the map: a file system's pages are laid (where there is room).
  The walk over Make of the map, itself.
  A file system that was just made, and the making of an inode, in plain Lean.
  A store of inodes in memory that stands for what the document says; the contracts of its calls in those words.
  Read at a store that stands for what the document says: the cases in which nothing is read, and all of them.
  The walk over look: a directory's bytes.
  strings.ContainsAny(s, "/\x00") at every text s, also where its bytes are no valid runes.
  dir.IsName: whether a text is a name, at every text.
  dir.Split: what a path's names are, at every text.
-/
import Derived.Test.YtfgkgoddjemnfaaGreatDoorG5
import Derived.Sort.BigQuietIn
import Derived.RangeFuncNested
import Derived.RangeFuncBound
import Derived.RangeFuncCalls
import Derived.RangeFuncLeaves
import Derived.Shelf.Abstract
import Derived.Shelf.RegionOpen
import Derived.WalkKit
import Derived.OwnWalkIn
import Derived.TacticsInMore
import Derived.LoopNIn
import Derived.LoopIn
import Derived.Sort.LoopGhostIn
import Derived.Laws.BytesString
import Derived.Laws.IdiomStrings
import Derived.Lib.LazyBuf
import Derived.Maps.AppendAt
import Derived.Lib.MapLaws
import Derived.Lib.DecodeN
import Derived.Laws.RangeAny
import Derived.Deep.QuietTactic
import Derived.BigQuiet
import Derived.WalkSmall
import Derived.Deep.LoopGhost
set_option linter.unusedVariables false
set_option linter.unusedSimpArgs false
set_option linter.deprecated false
namespace Go.Proofs.YtfgkgoddjemnfaaGreatDoor
open Go.RowKit Go.Shelf Pa
open Go.RowKit (wrap64)
attribute [local go_sem] bs_toList bs_size Oper.semAt_some
/-- An entry as it is handed to a round. -/
abbrev slV (x : Sl) : Value := .agg #[.int .i64 x.at_, .string (bs x.name), .int .i64 x.i]
theorem or_join (n : Nat) (s : Nat) (x : UInt8) (hs : s ≤ 24) (hn : n % 2 ^ (s + 8) = 0) (hb : n < 4294967296) : bits .or .i64 (n : Int) ((x.toNat * 2 ^ s : Nat) : Int) = ((n + x.toNat * 2 ^ s : Nat) : Int) := by
  have hx := UInt8.toNat_lt x
  have h1 : x.toNat * 2 ^ s < 2 ^ (s + 8) := by
    rw [Nat.pow_add, Nat.mul_comm]
    exact Nat.mul_lt_mul_of_pos_left (by simpa using hx) (Nat.two_pow_pos s)
  have h2 : 2 ^ (s + 8) ≤ 2 ^ 32 := Nat.pow_le_pow_right (by decide) (by omega)
  rw [i64_or_nat _ _ (by omega) (by omega), nat_join (s + 8) n _ hn h1]
theorem or4 (a b c d : UInt8) : bits .or .i64 (bits .or .i64 (bits .or .i64 (wrap64 (wrap64 (a.toNat : Int) * 16777216)) (wrap64 (wrap64 (b.toNat : Int) * 65536))) (wrap64 (wrap64 (c.toNat : Int) * 256))) (wrap64 (d.toNat : Int)) = ((getN [a, b, c, d] : Nat) : Int) := by
  have ha := UInt8.toNat_lt a
  have hb := UInt8.toNat_lt b
  have hc := UInt8.toNat_lt c
  have hd := UInt8.toNat_lt d
  have w : ∀ n : Nat, n < 4294967296 → wrap64 (n : Int) = (n : Int) := fun n h => by unfold wrap64; omega
  rw [w a.toNat (by omega), w b.toNat (by omega), w c.toNat (by omega), w d.toNat (by omega)]
  rw [show ((a.toNat : Int) * 16777216) = ((a.toNat * 16777216 : Nat) : Int) from by omega, show ((b.toNat : Int) * 65536) = ((b.toNat * 2 ^ 16 : Nat) : Int) from by omega, show ((c.toNat : Int) * 256) = ((c.toNat * 2 ^ 8 : Nat) : Int) from by omega]
  rw [w _ (by omega), w _ (by omega), w _ (by omega)]
  rw [or_join (a.toNat * 16777216) 16 b (by omega) (by omega) (by omega), or_join _ 8 c (by omega) (by omega) (by omega)]
  rw [show ((d.toNat : Int)) = ((d.toNat * 2 ^ 0 : Nat) : Int) from by omega, or_join _ 0 d (by omega) (by omega) (by omega)]
  unfold getN
  simp only [List.foldl_cons, List.foldl_nil]
  omega
theorem run_bytes_text {w : World} {g o c : Nat} {s : Str} (hc : ∀ j y, s[j]? = some y → w.cell? ⟨g, o + j, none⟩ = some (.int .u8 (UInt8.toNat y))) : (convert 53 9 (.slice (some ⟨g, o, none⟩) s.length c)).run Tryz.prog w = .ok (.string (bs s)) w := by
  have := run_convert_bytes_back (P := Tryz.prog) w 53 9 5 ⟨g, o, none⟩ c s Tryz.underlying53 Tryz.underlying5 Tryz.underlying9 (by
    intro j hj
    have h1 := hc j _ (List.getElem?_eq_getElem hj)
    by_cases hj0 : j = 0
    · subst hj0; simpa [Addr.add] using h1
    · simpa [Addr.add, hj0] using h1)
  exact this
set_option maxRecDepth 100000 in
set_option maxHeartbeats 1000000 in
theorem slots1_in (n : Nat) (hn : 1 ≤ n) (l Bn : Nat) (M : Nat → Prop) (v : Value) (b : Str) (J Jx : List Sl → World → Prop)
    (hY : ∀ pre x W, J pre W → pre.length < (slotsP b).length → YieldAt Fence.wide (n - 1) Tryz.prog l #[slV x] W fun e W' =>
      (e = .returned (.bool true) ∧ J (pre ++ [x]) W' ∧ Off M W W') ∨ (e = .returned (.bool false) ∧ Jx (pre ++ [x]) W'))
    (W : World) (hBn : W.cell? ⟨Bn, 0, none⟩ = some v) (hBl : Bn < W.heap.size) (hBm : ¬ M Bn) (hb : BytesI W (fun k => ¬ M k) v b) (hl : b.length ≤ 100000) (h0 : J [] W) (hJd : ∀ pre W, J pre W → J pre W.drew) :
    CallsIn Fence.wide n Tryz.prog 95 #[.func (.yield l) #[] #[], .pointer (some ⟨Bn, 0, none⟩)] W fun e W' => (∃ v, e = .returned v) ∧
      ((∃ ys, ys = slotsP b ∧ J ys W') ∨ (∃ pre, pre <+: slotsP b ∧ Jx pre W')) := by
  obtain ⟨A, c, rfl, ⟨hc, _⟩, hcells⟩ := id hb
  refine callsIn_of_wp Tryz.func95 rfl trivial ?_ rfl
  simp only [Tryz.ntmps95, List.size_toArray, List.length_cons, List.length_nil, Nat.reduceAdd, Nat.reduceSub, Array.replicate_succ, Array.replicate_zero, List.push_toArray, List.append_toArray, List.nil_append, List.cons_append]
  have HY := Lib.hid hY
  have HJd := Lib.hid hJd
  have HB := Lib.hid hb
  have HC := Lib.hid hcells
  clear hY hJd hb hcells
  gi_wp2
  gi_loopg [3] (b.length / 64) (fun g i wr => ∃ k : Nat, i = .int .i64 (64 * k : Nat) ∧ g = b.length / 64 - k ∧ k ≤ b.length / 64 ∧ J ((slotsP b).take k) wr ∧ Off M W wr)
  case atStart => exact ⟨0, rfl, rfl, Nat.zero_le _, by rw [List.take_zero]; exact h0, Off.refl _ _⟩
  case round =>
    obtain ⟨k, rfl, rfl, hk, hJ, hbw⟩ := hrel
    have cB := (hbw.cell (p := ⟨Bn, 0, none⟩) hBl hBm).trans hBn
    by_cases hlt : k < b.length / 64
    · obtain ⟨at_, hat⟩ : ∃ a, a = 64 * k := ⟨_, rfl⟩
      have hlen : at_ + 64 ≤ b.length := by omega
      have hle' : decide ((at_ : Int) + 64 ≤ (b.length : Int)) = true := by simp; omega
      have hw1 : IntKind.i64.wrap ((at_ : Int) + 64) = (at_ : Int) + 64 := IntWalk.i64_in _ (by omega)
      obtain ⟨g, o, rfl, ⟨hg, hgM⟩, hcell⟩ := HC.out (by intro e; rw [e] at hlen; simp at hlen)
      have hx : ∀ j, j < 64 → ∃ y, b[at_ + j]? = some y ∧ wr.cell? ⟨g, o + at_ + j, none⟩ = some (.int .u8 (UInt8.toNat y)) := fun j hj => by
        have h1 : b[at_ + j]? = some b[at_ + j] := List.getElem?_eq_getElem (by omega)
        exact ⟨_, h1, by rw [Nat.add_assoc]; exact (hbw.cell (p := ⟨g, o + (at_ + j), none⟩) hg hgM).trans (hcell _ _ h1)⟩
      obtain ⟨y4, e4, c4⟩ := hx 4 (by decide)
      obtain ⟨y0, e0, c0⟩ := hx 0 (by decide)
      obtain ⟨y1, e1, c1⟩ := hx 1 (by decide)
      obtain ⟨y2, e2, c2⟩ := hx 2 (by decide)
      obtain ⟨y3, e3, c3⟩ := hx 3 (by decide)
      rw [Nat.add_zero] at c0
      obtain ⟨nn, hnn⟩ : ∃ q, q = min y4.toNat 59 := ⟨_, rfl⟩
      have hmin : min ((y4.toNat : Nat) : Int) 59 = (nn : Int) := by omega
      have hn59 : nn ≤ 59 := by omega
      have hw4 : IntKind.i64.wrap ((y4.toNat : Nat) : Int) = ((y4.toNat : Nat) : Int) := IntWalk.i64_in _ (by have := UInt8.toNat_lt y4; omega)
      have hw5 : IntKind.i64.wrap (5 + (nn : Int)) = 5 + (nn : Int) := IntWalk.i64_in _ (by omega)
      have hc64 : at_ + 64 ≤ c := by omega
      have hcn : ¬ c = at_ := by omega
      rw [← hat]
      have HAt := Lib.hid hat
      have HX := Lib.hid hx
      have HCell := Lib.hid hcell
      have HNn := Lib.hid hnn
      obtain ⟨nm, hnm⟩ : ∃ nm, nm = (b.drop (at_ + 5)).take nn := ⟨_, rfl⟩
      have hnml : nm.length = nn := by rw [hnm, List.length_take, List.length_drop]; omega
      have hcv : (convert 53 9 (.slice (some ⟨g, o + at_ + 5, none⟩) nn (c - at_ - 5))).run Tryz.prog wr.drew = .ok (.string (bs nm)) wr.drew := by
        rw [← hnml]
        refine run_bytes_text fun j y hj => ?_
        have hjl : j < nn := by rw [← hnml]; exact (List.getElem?_eq_some_iff.1 hj).1
        rw [hnm, List.getElem?_take_of_lt hjl, List.getElem?_drop] at hj
        show wr.cell? _ = _
        rw [show o + at_ + 5 + j = o + (at_ + 5 + j) from by omega]
        exact (hbw.cell (p := ⟨g, o + (at_ + 5 + j), none⟩) hg hgM).trans (HCell.out _ _ hj)
      obtain ⟨ii, hii⟩ : ∃ ii, ii = getN [y0, y1, y2, y3] := ⟨_, rfl⟩
      have hor : bits .or .i64 (bits .or .i64 (bits .or .i64 (wrap64 (wrap64 (y0.toNat : Int) * 16777216)) (wrap64 (wrap64 (y1.toNat : Int) * 65536))) (wrap64 (wrap64 (y2.toNat : Int) * 256))) (wrap64 (y3.toNat : Int)) = ((ii : Nat) : Int) := by rw [hii]; exact or4 y0 y1 y2 y3
      have HOr := Lib.hid hor
      clear hor
      have hdec : decS b k = ⟨at_, nm, ii⟩ := by
        unfold decS
        have e4' : b.getD (64 * k + 4) 0 = y4 := by rw [← HAt.out, List.getD_eq_getElem?_getD, e4]; rfl
        have e03 : (b.drop (64 * k)).take 4 = [y0, y1, y2, y3] := by
          refine List.ext_getElem? fun j => ?_
          rw [List.getElem?_take, ← HAt.out, List.getElem?_drop]
          rw [Nat.add_zero] at e0
          match j with
          | 0 => simpa using e0
          | 1 => simpa using e1
          | 2 => simpa using e2
          | 3 => simpa using e3
          | n + 4 => simp; omega
        rw [e4', e03, ← HNn.out, ← HAt.out, ← hnm, ← hii]
      have hJn : ∀ W, J ((slotsP b).take k ++ [⟨at_, nm, ii⟩]) W → J ((slotsP b).take (k + 1)) W := fun W hj => by rw [slotsP_take b k hlt, hdec]; exact hj
      have hJp : ∀ W, Jx ((slotsP b).take k ++ [⟨at_, nm, ii⟩]) W → ∃ pre, pre <+: slotsP b ∧ Jx pre W := fun W hj => ⟨_, by rw [← hdec, ← slotsP_take b k hlt]; exact List.take_prefix _ _, hj⟩
      obtain ⟨fn, tmps, assign, body, hy, hR⟩ := HY.out ((slotsP b).take k) ⟨at_, nm, ii⟩ wr.drew (HJd.out _ _ hJ) (by rw [List.length_take, slotsP_length]; omega)
      have HJn := Lib.hid hJn
      have HJp := Lib.hid hJp
      have HBw := Lib.hid hbw
      have hR2 : RoundIn Fence.wide (n - 1) Tryz.prog l fn tmps assign body wr.drew fun e W' => ∃ bb, e = .returned (.bool bb) ∧ ((bb = true ∧ J ((slotsP b).take k ++ [⟨at_, nm, ii⟩]) W' ∧ Off M wr.drew W') ∨ (bb = false ∧ Jx ((slotsP b).take k ++ [⟨at_, nm, ii⟩]) W')) := hR.mono fun e W' hh => by
        rcases hh with ⟨h1, h2⟩ | ⟨h1, h2⟩
        · exact ⟨true, h1, .inl ⟨rfl, h2⟩⟩
        · exact ⟨false, h1, .inr ⟨rfl, h2⟩⟩
      have HR := Lib.hid hR2
      clear hR2
      have hend : IntKind.i64.wrap ((at_ : Int) + 64) = ((at_ + 64 : Nat) : Int) := by rw [IntWalk.i64_in _ (by omega)]; omega
      have HEnd := Lib.hid hend
      clear hat hcell hnn hnm hnml hii hdec hx hJn hJp e0 e1 e2 e3 e4 hR hJ hbw hend
      gi_wp2
      refine wpIn_region_pre (q := 30) (r := 2) rfl (by kernel_rfl) rfl (by kernel_rfl) (by kernel_rfl) (by kernel_rfl) (by kernel_rfl) (by kernel_rfl) ?_
      simp only [List.take_succ_cons, List.take_zero]
      repeat (gi_big_quiet_step (fail))
      refine wpQuietIn_nil ?_
      rw [HOr.out]
      refine wpAnyIn_next (j := 30) (by kernel_rfl) rfl rfl (fun K1 hK1 => ?_)
      gi_wp2
      refine HR.out.mono ?_
      rintro e W3 ⟨bb, rfl, hh⟩
      have HJ3 := Lib.hid hh
      clear hh
      refine hK1 _ _ ?_
      refine wpAnyIn_next (j := 31) (by kernel_rfl) rfl rfl (fun K2 hK2 => ?_)
      gi_wp2
      refine wpAnyIn_done (by kernel_rfl) ?_ _
      cases bb with
      | true =>
        obtain ⟨h1, h2⟩ : J ((slotsP b).take k ++ [⟨at_, nm, ii⟩]) W3 ∧ Off M wr.drew W3 := by
          rcases HJ3.out with ⟨_, h⟩ | ⟨h, _⟩
          · exact h
          · cases h
        have HJ4 := Lib.hid (HJn.out _ h1)
        have HB4 := Lib.hid ((HBw.out.drew).then h2)
        clear h1 h2
        gi_wp2
        gi_roundg (b.length / 64 - (k + 1))
        case measure => omega
        case rel => exact ⟨k + 1, by show Value.int .i64 ((at_ : Int) + 64) = .int .i64 ((64 * (k + 1) : Nat) : Int); congr 1; have := HAt.out; omega, rfl, hlt, HJ4.out, HB4.out⟩
      | false =>
        obtain h1 : Jx ((slotsP b).take k ++ [⟨at_, nm, ii⟩]) W3 := by
          rcases HJ3.out with ⟨h, _⟩ | ⟨_, h⟩
          · cases h
          · exact h
        have HP4 := Lib.hid (HJp.out _ h1)
        clear h1
        gi_wp2
        refine bodyPost_ret (results_none rfl _ _ _) rfl ?_
        exact ⟨⟨_, rfl⟩, .inr HP4.out⟩
    · obtain rfl : k = b.length / 64 := by omega
      have hle' : decide (((64 * (b.length / 64) : Nat) : Int) + 64 ≤ (b.length : Int)) = false := by simp; omega
      obtain ⟨q, hq⟩ : ∃ q, q = 64 * (b.length / 64) := ⟨_, rfl⟩
      rw [← hq] at hle' ⊢
      have hw1 : IntKind.i64.wrap ((q : Int) + 64) = (q : Int) + 64 := IntWalk.i64_in _ (by omega)
      rw [show (slotsP b).take (b.length / 64) = slotsP b from List.take_of_length_le (by rw [slotsP_length]; exact Nat.le_refl _)] at hJ
      have HJ4 := Lib.hid hJ
      have HQ := Lib.hid hq
      clear hJ hq
      gi_wp2
      go_end0
      exact ⟨⟨_, rfl⟩, .inl ⟨_, rfl, HJ4.out⟩⟩
/-- The entries' iterator hands out just the entries, in their order. -/
theorem slots_stops (n : Nat) (hn : 1 ≤ n) (Bn : Nat) (M : Nat → Prop) (v : Value) (b : Str) (w : World) (hBl : Bn < w.heap.size) (hBm : ¬ M Bn) (hM : ∀ k, w.heap.size ≤ k → M k) (hc : w.cell? ⟨Bn, 0, none⟩ = some v) (hb : BytesI w (fun k => ¬ M k) v b) (hl : b.length ≤ 100000) :
    SeqStopsK Fence.wide n Tryz.prog 95 #[.pointer (some ⟨Bn, 0, none⟩)] (fun x : Sl => #[slV x]) (Off M) (fun ys => ys = slotsP b) (fun pre => pre <+: slotsP b) (slotsP b).length w := fun l J Jx W hW hJ hJx hY h0 => by
  have ho : Off (fun _ => False) w W := Off.of_below hW _
  exact slots1_in n hn l Bn M v b J Jx hY W ((hW.cell (p := ⟨Bn, 0, none⟩) hBl).trans hc) (Nat.lt_of_lt_of_le hBl hW.size) hBm (hb.off ho (fun _ _ e => e)) hl h0 (fun pre W1 h => hJ pre W1 W1.drew none h ⟨rfl, rfl, rfl, Nat.le_refl _, fun _ _ _ => rfl⟩ (fun r e => by cases e))
theorem slots_any (A : Option Addr) (n c : Nat) (w : World) : Calls Tryz.prog 48 #[.slice A n c] w fun e w' => e = .returned (.func (.func 95) #[] #[.pointer (some ⟨w.heap.size, 0, none⟩)]) ∧ w' = w.alloc (.cells #[.slice A n c] 53) := by
  have hmf : ∀ (fn : Fn) (first cap : Array Value) (w : World), (Instr.makeFunc fn first cap).run Tryz.prog w = .ok (.func fn first cap) w := fun _ _ _ _ => rfl
  go_enter Tryz.func48, Tryz.ntmps48
  go_wp2
  go_ret
  exact ⟨rfl, rfl⟩
end Go.Proofs.YtfgkgoddjemnfaaGreatDoor

namespace Go.Proofs.YtfgkgoddjemnfaaGreatDoor
open Go.RowKit Go.Shelf Pa
attribute [local go_sem] bs_toList bs_size
/-- The first bytes of a list, then zeros. -/
def upZ (x : Str) (j n : Nat) : Str := x.take j ++ List.replicate (n - j) 0
theorem upZ_length {x : Str} {j n : Nat} (h1 : j ≤ x.length) (h2 : j ≤ n) : (upZ x j n).length = n := by unfold upZ; rw [List.length_append, List.length_take, List.length_replicate]; omega
theorem upZ_set {x : Str} {j n : Nat} (h1 : j < x.length) (h2 : j < n) {y : UInt8} (hy : x[j]? = some y) : (upZ x j n).set j y = upZ x (j + 1) n := by
  unfold upZ
  have hl : (x.take j).length = j := by rw [List.length_take]; omega
  rw [List.set_append_right _ _ (by omega), hl, Nat.sub_self, show n - j = (n - (j + 1)) + 1 from by omega, List.replicate_succ, List.set_cons_zero, List.take_add_one, hy, List.append_assoc]; rfl
theorem superB_get (P I : Nat) (i k : Nat) (hi : i < 2) (hk : k < 4) : (superB P I)[4 + 4 * i + k]? = some (UInt8.ofNat ((if i = 0 then P else I) / 2 ^ (8 * (3 - k)))) := by
  have h4 : ([68, 85, 78, 49] : Str).length = 4 := rfl
  unfold superB
  rcases (by omega : i = 0 ∨ i = 1) with rfl | rfl
  · rw [List.getElem?_append_left (by simp only [List.length_append, putN_length, h4]; omega), List.getElem?_append_left (by simp only [List.length_append, putN_length, h4]; omega), List.getElem?_append_right (by rw [h4]; omega), h4, show 4 + 4 * 0 + k - 4 = k from by omega, putN_getElem? 4 P k hk, if_pos rfl]
  · rw [List.getElem?_append_left (by simp only [List.length_append, putN_length, h4]; omega), List.getElem?_append_right (by simp only [List.length_append, putN_length, h4]; omega)]
    simp only [List.length_append, putN_length, h4]
    rw [show 4 + 4 * 1 + k - (4 + 4) = k from by omega, putN_getElem? 4 I k hk, if_neg (by decide)]
theorem superB_end (P I : Nat) : upZ (superB P I) 12 512 = superB P I := by
  unfold upZ
  have h : (superB P I).take 12 = [68, 85, 78, 49] ++ putN 4 P ++ putN 4 I := by
    unfold superB
    rw [List.take_left' (by simp only [List.length_append, putN_length]; rfl)]
  rw [h]; rfl
theorem blk_zero (w : World) (n : Nat) (hn : n ≤ 1000000) : Blk (w.alloc (.cells (madeCells #[.int .u8 0] n) 5)) w.heap.size n (List.replicate n 0) := by
  refine ⟨_, heap_alloc_new _ _, by simp [size_madeCells], ⟨by rw [List.length_replicate]; exact Nat.le_refl _, by unfold maxLen; omega⟩, fun i y hy => ?_⟩
  have hi : i < n := by have := (List.getElem?_eq_some_iff.1 hy).1; rwa [List.length_replicate] at this
  rw [List.getElem?_replicate, if_pos hi] at hy
  cases hy
  simp [madeCells, hi, Nat.mod_one]
set_option maxRecDepth 100000 in
set_option maxHeartbeats 4000000 in
theorem super_any (P I : Nat) (w : World) (hP : P < 4294967296) (hI : I < 4294967296) :
    Calls Tryz.prog 78 #[.int .i64 P, .int .i64 I] w fun e w' => ∃ g, e = .returned (.slice (some ⟨g, 0, none⟩) 512 512) ∧ w.heap.size ≤ g ∧ Blk w' g 512 (superB P I) ∧ Below w.heap.size w w' := by
  have hms : ∀ w1, (Instr.makeSlice 53 (.int .i64 512) (.int .i64 512)).run Tryz.prog w1 = .ok (.slice (some ⟨w1.heap.size, 0, none⟩) 512 512) (w1.alloc (.cells (madeCells #[.int .u8 0] 512) 5)) := run_make_row' (P := Tryz.prog) 53 5 (.int .u8 0) 1 Tryz.underlying53 info_u8 rfl .i64 .i64 512 (by omega) (by omega)
  obtain ⟨W1, hW1⟩ : ∃ W1, W1 = w.alloc (.cells (madeCells #[.int .u8 0] 512) 5) := ⟨_, rfl⟩
  have hB1 := blk_zero w 512 (by omega)
  rw [← hW1] at hB1
  have hb1 : Below w.heap.size w W1 := by rw [hW1]; exact (Below.refl _ _).alloc (Nat.le_refl _) _
  have hcp : ∀ ty, (Builtin.copy_ #[53, 9] ty #[.slice (some ⟨w.heap.size, 0, none⟩) 512 512, .string ⟨#[68, 85, 78, 49]⟩]).run Tryz.prog W1 = .ok (.int .i64 4) (W1.setCells w.heap.size 0 (([68, 85, 78, 49] : Str).map fun x => Value.int .u8 (UInt8.toNat x))) := fun ty =>
    run_copy_string (P := Tryz.prog) W1 53 9 ty 5 w.heap.size 0 512 512 ⟨#[68, 85, 78, 49]⟩ Tryz.underlying53 (fun w => by kernel_rfl) (by decide)
      (fun j hj => by
        have hj4 : j < 4 := hj
        rw [Nat.zero_add, hB1.cell (i := j) (by rw [List.getElem?_replicate, if_pos (by omega)])]; rfl) (fun j hj => hB1.free _)
  obtain ⟨hB2, ho2⟩ := hB1.cells 0 [68, 85, 78, 49] (by simp)
  have hst2 : laidAt (List.replicate 512 0) 0 [68, 85, 78, 49] = upZ (superB P I) 4 512 := by
    unfold laidAt upZ
    rw [show (superB P I).take 4 = [68, 85, 78, 49] from rfl]
    simp
  rw [hst2] at hB2
  obtain ⟨W2, hW2⟩ : ∃ W2, W2 = W1.setCells w.heap.size 0 (([68, 85, 78, 49] : Str).map fun x => Value.int .u8 (UInt8.toNat x)) := ⟨_, rfl⟩
  rw [← hW2] at hB2 ho2
  simp only [← hW2] at hcp
  have hb2 : Below w.heap.size w W2 := (Off.of_below hb1 (fun k => k = w.heap.size)).then ho2 |>.below (Nat.le_refl _) (fun k e => by omega)
  have hcpi := hcp 3
  have hms2 := hms w
  rw [← hW1] at hms2
  have HB2 := Lib.hid hB2
  have HBw := Lib.hid hb2
  clear hms hW1 hW2 hB1 hb1 hB2 ho2 hst2 hb2 hcp
  go_enter Tryz.func78, Tryz.ntmps78
  go_wp2_with fail
  obtain ⟨W3, hW3⟩ : ∃ W3, W3 = W2.alloc (.cells #[.int .i64 P, .int .i64 I] 3) := ⟨_, rfl⟩
  rw [← hW3]
  have hz2 := HB2.out.lt
  have harr : W3.heap[W2.heap.size]? = some (.cells #[.int .i64 P, .int .i64 I] 3 (0, 0)) := by rw [hW3]; exact heap_alloc_new _ _
  have hb23 : Below W2.heap.size W2 W3 := by rw [hW3]; exact (Below.refl _ _).alloc (Nat.le_refl _) _
  have hB3 := HB2.out.below hb23 hz2
  have hb3 := HBw.out.trans (hb23.mono HBw.out.size)
  have hnext : ∀ (wx : World) (i k : Nat), i < 2 → k < 4 → Blk wx w.heap.size 512 (upZ (superB P I) (4 + 4 * i + k) 512) → wx.heap[W2.heap.size]? = some (.cells #[.int .i64 P, .int .i64 I] 3 (0, 0)) → Below w.heap.size w wx →
      (∃ y, wx.cell? ⟨w.heap.size, 4 + 4 * i + k, none⟩ = some (.int .u8 (UInt8.toNat y))) ∧ wx.frozen? ⟨w.heap.size, 4 + 4 * i + k, none⟩ = false ∧ ∀ z : Int, z = (((if i = 0 then P else I) / 2 ^ (8 * (3 - k)) % 256 : Nat) : Int) →
        Blk (wx.setCell ⟨w.heap.size, 4 + 4 * i + k, none⟩ (.int .u8 z)) w.heap.size 512 (upZ (superB P I) (4 + 4 * i + (k + 1)) 512) ∧ (wx.setCell ⟨w.heap.size, 4 + 4 * i + k, none⟩ (.int .u8 z)).heap[W2.heap.size]? = some (.cells #[.int .i64 P, .int .i64 I] 3 (0, 0)) ∧ Below w.heap.size w (wx.setCell ⟨w.heap.size, 4 + 4 * i + k, none⟩ (.int .u8 z)) := by
    intro wx i k hi hk h1 h2 h3
    have hl := superB_length P I
    have hul : (upZ (superB P I) (4 + 4 * i + k) 512).length = 512 := upZ_length (by omega) (by omega)
    refine ⟨⟨_, h1.cell (List.getElem?_eq_getElem (by rw [hul]; omega))⟩, h1.free _, fun z hz => ?_⟩
    have hy := superB_get P I i k hi hk
    have hs := h1.set (4 + 4 * i + k) (UInt8.ofNat ((if i = 0 then P else I) / 2 ^ (8 * (3 - k)))) (by rw [hul]; omega)
    rw [upZ_set (by rw [hl]; omega) (by omega) hy, UInt8.toNat_ofNat', show (2 : Nat) ^ 8 = 256 from rfl, ← hz] at hs
    exact ⟨hs, (Below.heap_setCell _ _ _ _ (by show W2.heap.size ≠ w.heap.size; omega)).trans h2, h3.setCell (p := ⟨w.heap.size, 4 + 4 * i + k, none⟩) (Nat.le_refl _) _⟩
  have HNx := Lib.hid hnext
  have H3 := Lib.hid (⟨hB3, harr, hb3⟩ : Blk W3 w.heap.size 512 (upZ (superB P I) 4 512) ∧ _ ∧ Below w.heap.size w W3)
  clear hnext hB3 harr hb3 hb23 hW3 hcpi hms2
  go_loopg [16] 2 (fun gg u wx => ∃ i : Nat, u = .int .i64 i ∧ gg = 2 - i ∧ i ≤ 2 ∧ Blk wx w.heap.size 512 (upZ (superB P I) (4 + 4 * i) 512) ∧ wx.heap[W2.heap.size]? = some (.cells #[.int .i64 P, .int .i64 I] 3 (0, 0)) ∧ Below w.heap.size w wx)
  case atStart => exact ⟨0, rfl, rfl, by omega, H3.out⟩
  case round =>
    obtain ⟨i, rfl, rfl, hi, h1, h2, h3⟩ := hrel
    have HI := Lib.hid (⟨h1, h2, h3⟩ : _ ∧ _ ∧ _)
    clear h1 h2 h3
    rcases (by omega : i = 0 ∨ i = 1 ∨ i = 2) with rfl | rfl | rfl
    · have hc := cell_of_heap HI.out.2.1 0
      have hc0 : wr.cell? ⟨W2.heap.size, 0, none⟩ = some (.int .i64 P) := hc
      clear hc
      go_wp2_with fail
      go_loopg [21] 4 (fun gg u wx => ∃ k : Nat, u = .int .i64 k ∧ gg = 4 - k ∧ k ≤ 4 ∧ Blk wx w.heap.size 512 (upZ (superB P I) (4 + 4 * 0 + k) 512) ∧ wx.heap[W2.heap.size]? = some (.cells #[.int .i64 P, .int .i64 I] 3 (0, 0)) ∧ Below w.heap.size w wx)
      case atStart => exact ⟨0, rfl, rfl, by omega, HI.out⟩
      case round =>
        obtain ⟨k, rfl, rfl, hk, h1, h2, h3⟩ := hrel
        by_cases hk4 : k < 4
        · obtain ⟨⟨y, e1⟩, e2, e3⟩ := HNx.out wr 0 k (by omega) hk4 h1 h2 h3
          have HE := Lib.hid e3
          clear e3 h1 h2 h3
          rcases (by omega : k = 0 ∨ k = 1 ∨ k = 2 ∨ k = 3) with rfl | rfl | rfl | rfl <;> simp only [Nat.reduceMul, Nat.reduceAdd] at e1 e2 <;> go_wp2_with fail
          · go_roundg 3
            case measure => omega
            case rel => exact ⟨1, rfl, rfl, by omega, HE.out _ (by simp; try omega)⟩
          · go_roundg 2
            case measure => omega
            case rel => exact ⟨2, rfl, rfl, by omega, HE.out _ (by simp; try omega)⟩
          · go_roundg 1
            case measure => omega
            case rel => exact ⟨3, rfl, rfl, by omega, HE.out _ (by simp; try omega)⟩
          · go_roundg 0
            case measure => omega
            case rel => exact ⟨4, rfl, rfl, by omega, HE.out _ (by simp; try omega)⟩
        · obtain rfl : k = 4 := by omega
          have HF := Lib.hid (⟨h1, h2, h3⟩ : _ ∧ _ ∧ _)
          clear h1 h2 h3
          go_wp2_with fail
          go_roundg 1
          case measure => omega
          case rel => exact ⟨1, rfl, rfl, by omega, HF.out⟩
    · have hc := cell_of_heap HI.out.2.1 1
      have hc0 : wr.cell? ⟨W2.heap.size, 1, none⟩ = some (.int .i64 I) := hc
      clear hc
      go_wp2_with fail
      go_loopg [21] 4 (fun gg u wx => ∃ k : Nat, u = .int .i64 k ∧ gg = 4 - k ∧ k ≤ 4 ∧ Blk wx w.heap.size 512 (upZ (superB P I) (4 + 4 * 1 + k) 512) ∧ wx.heap[W2.heap.size]? = some (.cells #[.int .i64 P, .int .i64 I] 3 (0, 0)) ∧ Below w.heap.size w wx)
      case atStart => exact ⟨0, rfl, rfl, by omega, HI.out⟩
      case round =>
        obtain ⟨k, rfl, rfl, hk, h1, h2, h3⟩ := hrel
        by_cases hk4 : k < 4
        · obtain ⟨⟨y, e1⟩, e2, e3⟩ := HNx.out wr 1 k (by omega) hk4 h1 h2 h3
          have HE := Lib.hid e3
          clear e3 h1 h2 h3
          rcases (by omega : k = 0 ∨ k = 1 ∨ k = 2 ∨ k = 3) with rfl | rfl | rfl | rfl <;> simp only [Nat.reduceMul, Nat.reduceAdd] at e1 e2 <;> go_wp2_with fail
          · go_roundg 3
            case measure => omega
            case rel => exact ⟨1, rfl, rfl, by omega, HE.out _ (by simp; try omega)⟩
          · go_roundg 2
            case measure => omega
            case rel => exact ⟨2, rfl, rfl, by omega, HE.out _ (by simp; try omega)⟩
          · go_roundg 1
            case measure => omega
            case rel => exact ⟨3, rfl, rfl, by omega, HE.out _ (by simp; try omega)⟩
          · go_roundg 0
            case measure => omega
            case rel => exact ⟨4, rfl, rfl, by omega, HE.out _ (by simp; try omega)⟩
        · obtain rfl : k = 4 := by omega
          have HF := Lib.hid (⟨h1, h2, h3⟩ : _ ∧ _ ∧ _)
          clear h1 h2 h3
          go_wp2_with fail
          go_roundg 0
          case measure => omega
          case rel => exact ⟨2, rfl, rfl, by omega, HF.out⟩
    · have hB9 : Blk wr w.heap.size 512 (superB P I) := by rw [← superB_end]; exact HI.out.1
      have HF := Lib.hid (⟨hB9, HI.out.2.2⟩ : _ ∧ _)
      clear hB9
      go_wp2_with fail
      go_ret
      exact ⟨_, rfl, Nat.le_refl _, HF.out⟩
end Go.Proofs.YtfgkgoddjemnfaaGreatDoor

namespace Go.Proofs.YtfgkgoddjemnfaaGreatDoor
open Go.RowKit Go.Shelf Pa Go.Maps
attribute [local go_sem] bs_toList bs_size
/-- A row of one's own: a slice of one-celled elements in a block at or above B. -/
def OwnL (w : World) (B : Nat) (e : TypeId) (v : Value) (vs : List Value) : Prop := w.ownsRow B e 1 v vs.length vs
theorem OwnL.block {w : World} {B : Nat} {e : TypeId} {v : Value} {vs : List Value} (h : OwnL w B e v vs) {k : Nat} (hk : v.ownBlock = some k) : B ≤ k ∧ k < w.heap.size := World.ownsRow.lt h k hk
theorem OwnL.off {w w' : World} {B : Nat} {e : TypeId} {v : Value} {vs : List Value} {M : Nat → Prop} (h : OwnL w B e v vs) (ho : Off M w w') (hm : ∀ k, v.ownBlock = some k → ¬ M k) : OwnL w' B e v vs := by
  obtain ⟨h1, h⟩ := id h
  refine ⟨h1, ?_⟩
  rcases h with hn | ⟨g, cap, cur, rfl, hB, hg, hr⟩
  · exact .inl hn
  · refine .inr ⟨g, cap, cur, rfl, hB, ?_, hr⟩
    rw [ho.block g (Array.getElem?_eq_some_iff.1 hg).1 (hm g rfl)]
    exact hg
theorem OwnL.below {w w' : World} {B : Nat} {e : TypeId} {v : Value} {vs : List Value} (h : OwnL w B e v vs) (hb : Below w.heap.size w w') : OwnL w' B e v vs := h.off (Off.of_below hb (fun _ => False)) (fun _ _ e => e)
theorem OwnL.nil (w : World) (B : Nat) (e : TypeId) : OwnL w B e (.slice none 0 0) [] := World.ownsRow_nil _ _ _ _
theorem OwnL.at {w : World} {B : Nat} {e : TypeId} {v : Value} {vs : List Value} (h : OwnL w B e v vs) (h0 : vs ≠ []) : ∃ g c, v = .slice (some ⟨g, 0, none⟩) vs.length c ∧ B ≤ g ∧ g < w.heap.size ∧ vs.length ≤ c ∧ (∀ i x, vs[i]? = some x → w.cell? ⟨g, i, none⟩ = some x) ∧ ∀ i, w.frozen? ⟨g, i, none⟩ = false := by
  obtain ⟨h1, h⟩ := h
  rcases h with ⟨_, h2⟩ | ⟨g, cap, cur, rfl, hB, hg, hc, hm, hs, ht⟩
  · exact absurd (List.length_eq_zero_iff.1 h2) h0
  · refine ⟨g, cap, rfl, hB, (Array.getElem?_eq_some_iff.1 hg).1, hc, fun i x hx => ?_, fun i => free_of_heap hg i⟩
    have hi : i < vs.length := (List.getElem?_eq_some_iff.1 hx).1
    rw [cell_of_heap hg, ← Array.getElem?_toList, ← List.getElem?_take_of_lt (show i < vs.length * 1 by omega), ht]
    exact hx
theorem OwnL.nats {w : World} {B : Nat} {v : Value} {l : List Nat} (h : OwnL w B 3 v (l.map fun n => Value.int .i64 (n : Nat))) : NatsI w (fun k => v.ownBlock = some k) v l := by
  by_cases h0 : l = []
  · subst h0
    obtain ⟨h1, h⟩ := h
    rcases h with ⟨rfl, h2⟩ | ⟨g, cap, cur, rfl, _⟩
    · exact ⟨none, 0, rfl, Nat.le_refl _, fun e => absurd rfl e⟩
    · exact ⟨_, cap, rfl, Nat.zero_le _, fun e => absurd rfl e⟩
  · obtain ⟨g, c, rfl, _, hg, hc, hcell, _⟩ := h.at (by simpa using h0)
    rw [List.length_map] at hc ⊢
    refine ⟨_, c, rfl, hc, fun _ => ⟨g, 0, rfl, ⟨hg, by simp [Value.ownBlock]⟩, fun i x hx => ?_⟩⟩
    rw [Nat.zero_add]
    exact hcell i _ (by rw [List.getElem?_map, hx]; rfl)
set_option maxRecDepth 100000 in
set_option maxHeartbeats 2000000 in
theorem numbers_any (n : Nat) (w : World) (hn : n ≤ 10000) :
    Calls Tryz.prog 81 #[.int .i64 n] w fun e w' => ∃ v, e = .returned v ∧ OwnL w' w.heap.size 3 v ((List.range n).map fun k => Value.int .i64 (k : Nat)) ∧ Below w.heap.size w w' := by
  obtain ⟨i0, hi0, hz0, hz1, hz2⟩ := info_parts info_int
  go_enter Tryz.func81, Tryz.ntmps81
  go_wp2_with fail
  go_loopg [3, 6] n (fun gg u i wx => ∃ k : Nat, i = .int .i64 k ∧ gg = n - k ∧ k ≤ n ∧ OwnL wx w.heap.size 3 u ((List.range k).map fun k => Value.int .i64 (k : Nat)) ∧ Below w.heap.size w wx)
  case atStart => exact ⟨0, rfl, rfl, Nat.zero_le _, OwnL.nil _ _ _, Below.refl _ _⟩
  case round =>
    obtain ⟨k, rfl, rfl, hk, hO, hb⟩ := hrel
    by_cases hlt : k < n
    · have hlt' : decide ((k : Int) < (n : Int)) = true := by simp; omega
      have hown1 := World.ownsRow.alloc hO (.cells #[.int .i64 k] 3)
      have hkl : ((List.range k).map fun k => Value.int .i64 (k : Nat)).length = k := by simp
      rw [hkl] at hown1
      have hkm : k + 1 ≤ maxLen := by unfold maxLen; omega
      have hkb : (k + 1) * 8 ≤ 140737488355328 := by omega
      have hbs := hb.size
      have hbase : w.heap.size ≤ (wr.alloc (.cells #[.int .i64 k] 3)).heap.size := by simp; omega
      have hstep : ∀ v' w6, w6.ownsRow w.heap.size 3 1 v' (k + 1) (((List.range k).map fun k => Value.int .i64 (k : Nat)) ++ [.int .i64 k]) → (wr.alloc (.cells #[.int .i64 k] 3)).grownBy w6 u3.ownBlock → OwnL w6 w.heap.size 3 v' ((List.range (k + 1)).map fun k => Value.int .i64 (k : Nat)) ∧ Below w.heap.size w w6 := fun v' w6 h1 h2 => by
        refine ⟨?_, (hb.alloc hbs _).grown h2 (by simp; omega) (fun j e => (hO.block e).1)⟩
        unfold OwnL
        rw [List.range_succ, List.map_append, List.length_append, hkl]
        exact h1
      have HOwn := Lib.hid hown1
      have HStep := Lib.hid hstep
      clear hown1 hstep hO hb hkl
      go_wp2_with (at_builtin; refine wpList_append_own_at _ rfl _ _ 112 rfl w.heap.size 3 i0 (.int .i64 0) 1 8 Tryz.underlying112 hi0 hz0 hz1 hz2 rfl (by decide) u3 _ _ rfl HOwn.out ⟨wr.heap.size, 0, none⟩ 1 1 [.int .i64 (k : Nat)] rfl rfl (cell_one_new _ _ _) (by intro u hu; simp at hu; subst hu; rfl) hkm hkb hbase ?_; intro v' w6 hown' hgrow hnil hloc; have hS6 := HStep.out v' w6 hown' hgrow; have HS6 := Lib.hid hS6; clear hown' hgrow hnil hloc hS6)
      go_roundg (n - (k + 1))
      case measure => omega
      case rel => exact ⟨k + 1, by go_num, rfl, hlt, HS6.out⟩
    · have hlt' : decide ((k : Int) < (n : Int)) = false := by simp; omega
      obtain rfl : k = n := by omega
      have HF := Lib.hid (⟨hO, hb⟩ : _ ∧ _)
      clear hO hb
      go_wp2_with fail
      go_ret
      exact ⟨_, rfl, HF.out⟩
end Go.Proofs.YtfgkgoddjemnfaaGreatDoor

namespace Go.Proofs.YtfgkgoddjemnfaaGreatDoor
open Go.RowKit Go.Shelf Pa Go.Maps
attribute [local go_sem] bs_toList bs_size
/-- A page on which the first bits are set. -/
def onB : Nat → Str
  | 0 => pageZ
  | k + 1 => turnB (onB k) k
theorem onB_length (k : Nat) : (onB k).length = 512 := by
  induction k with
  | zero => exact pageZ_length
  | succ k ih => show (turnB (onB k) k).length = 512; rw [turnB_length]; exact ih
theorem bitAt_pageZ (j : Nat) : bitAt pageZ j = false := by
  unfold bitAt pageZ
  rw [List.getD_eq_getElem?_getD, List.getElem?_replicate]
  split <;> simp
theorem bitAt_onB (k j : Nat) (hk : k ≤ 4096) : bitAt (onB k) j = decide (j < k) := by
  induction k with
  | zero => show bitAt pageZ j = _; rw [bitAt_pageZ]; simp
  | succ k ih =>
    show bitAt (turnB (onB k) k) j = _
    rw [bitAt_turnB (by rw [onB_length]; omega), ih (by omega)]
    by_cases h : j = k
    · subst h
      rw [if_pos rfl, ih (by omega)]
      simp
    · rw [if_neg h]
      simp only [decide_eq_decide]
      omega
/-- What is laid on a page. -/
def layX (P ino n : Nat) : Str := if n = 2 then onB (alFirst ino) else if n = 1 then turnB pageZ 0 else if n = 0 then superB P ino else pageZ
theorem layX_length (P ino n : Nat) : (layX P ino n).length = 512 := by
  unfold layX
  split
  · exact onB_length _
  · split
    · rw [turnB_length]; exact pageZ_length
    · split
      · exact superB_length _ _
      · exact pageZ_length
/-- The first k pages are written. -/
def Ca.laid (C : Ca) (P ino : Nat) : Nat → Ca
  | 0 => C
  | k + 1 => (Ca.laid C P ino k).set k (layX P ino k)
theorem Ca.laid_G (C : Ca) (P ino k : Nat) : (C.laid P ino k).G = C.G := by
  induction k with
  | zero => rfl
  | succ k ih => exact ih
abbrev slB (g : Nat) : Value := .slice (some ⟨g, 0, none⟩) 512 512
/-- Pages under way: a row of blocks of one's own. -/
structure LayI (w0 : World) (B : Nat) (u : Value) (gs : List Nat) (φ : Nat → Str) (wx : World) : Prop where
  row : OwnL wx B 53 u (gs.map slB)
  nd : gs.Nodup
  blk : ∀ i g, gs[i]? = some g → Blk wx g 512 (φ i) ∧ (φ i).length = 512 ∧ B ≤ g ∧ u.ownBlock ≠ some g
  below : Below B w0 wx
theorem LayI.off {w0 : World} {B : Nat} {u : Value} {gs : List Nat} {φ : Nat → Str} {wx w2 : World} {M : Nat → Prop} (h : LayI w0 B u gs φ wx) (ho : Off M wx w2) (hM : ∀ k, M k → u.ownBlock ≠ some k ∧ k ∉ gs) (hb : Below B w0 w2) : LayI w0 B u gs φ w2 :=
  ⟨h.row.off ho (fun k hk e => (hM k e).1 hk), h.nd, fun i g hg => by
    obtain ⟨h1, h2⟩ := h.blk i g hg
    exact ⟨h1.keep (ho.block g h1.lt (fun e => (hM g e).2 (List.mem_of_getElem? hg))), h2⟩, hb⟩
/-- A byte is written. -/
theorem LayI.set {w0 : World} {B : Nat} {u : Value} {gs : List Nat} {φ : Nat → Str} {wx : World} (h : LayI w0 B u gs φ wx) {i g : Nat} (hg : gs[i]? = some g) (j : Nat) (y : UInt8) (hj : j < 512) (hB : B ≤ w0.heap.size) : LayI w0 B u gs (fun n => if n = i then (φ i).set j y else φ n) (wx.setCell ⟨g, j, none⟩ (.int .u8 y.toNat)) := by
  obtain ⟨h1, h2, h3, h4⟩ := h.blk i g hg
  have ho : Off (fun k => k = g) wx (wx.setCell ⟨g, j, none⟩ (.int .u8 y.toNat)) := (Off.refl (fun k => k = g) wx).setCell (p := ⟨g, j, none⟩) (.inl rfl) _
  refine ⟨h.row.off ho (fun k hk e => h4 (e ▸ hk)), h.nd, fun i' g' hg' => ?_, h.below.setCell (p := ⟨g, j, none⟩) h3 _⟩
  by_cases e : i' = i
  · subst e
    rw [hg] at hg'
    cases hg'
    simp only [if_true]
    exact ⟨h1.set j y (by rw [h2]; exact hj), by rw [List.length_set]; exact h2, h3, h4⟩
  · simp only [if_neg e]
    obtain ⟨k1, k2⟩ := h.blk i' g' hg'
    have hne : g' ≠ g := fun e2 => e (by
      have := (List.getElem?_inj (List.getElem?_eq_some_iff.1 hg').1 h.nd).1 (hg'.trans (by rw [e2]; exact hg.symm))
      exact this)
    exact ⟨k1.keep (ho.block g' k1.lt hne), k2⟩
/-- A page of zeros more. -/
theorem LayI.push {w0 : World} {B : Nat} {u v' : Value} {gs : List Nat} {φ : Nat → Str} {wx w6 : World} (h : LayI w0 B u gs φ wx) (hB : B ≤ w0.heap.size) {tmp : Obj} (hφ : φ gs.length = pageZ)
    (h1 : w6.ownsRow B 53 1 v' (gs.length + 1) (gs.map slB ++ [slB wx.heap.size])) (h2 : ((wx.alloc (.cells (madeCells #[.int .u8 0] 512) 5)).alloc tmp).grownBy w6 u.ownBlock) (h3 : v'.ownBlock = u.ownBlock ∨ v'.ownBlock = some (wx.heap.size + 1 + 1)) :
    LayI w0 B v' (gs ++ [wx.heap.size]) φ w6 := by
  have hs := h.below.size
  have hnew := blk_zero wx 512 (by omega)
  have hb1 : Below wx.heap.size wx ((wx.alloc (.cells (madeCells #[.int .u8 0] 512) 5)).alloc tmp) := ((Below.refl _ _).alloc (Nat.le_refl _) _).alloc (by simp) _
  have hb2 : Below (wx.heap.size + 1) (wx.alloc (.cells (madeCells #[.int .u8 0] 512) 5)) ((wx.alloc (.cells (madeCells #[.int .u8 0] 512) 5)).alloc tmp) := (Below.refl _ _).alloc (by simp) _
  have hnew2 := hnew.below hb2 (Nat.lt_succ_self _)
  have ho : Off (fun k => u.ownBlock = some k) ((wx.alloc (.cells (madeCells #[.int .u8 0] 512) 5)).alloc tmp) w6 := (Off.refl _ _).grown h2 (fun k e => .inl e)
  have hub : ∀ k, u.ownBlock = some k → B ≤ k ∧ k < wx.heap.size := fun k hk => h.row.block hk
  refine ⟨?_, ?_, fun i g hg => ?_, (h.below.trans (hb1.mono (Nat.le_trans hB hs))).grown h2 (by simp; omega) (fun k e => (hub k e).1)⟩
  · unfold OwnL
    rw [List.length_map, List.length_append, List.length_singleton, List.map_append]; exact h1
  · refine nodup_snoc h.nd fun hm => ?_
    obtain ⟨i, hi⟩ := List.getElem?_of_mem hm
    have := (h.blk i _ hi).1.lt
    omega
  · rw [List.getElem?_append] at hg
    split at hg
    · obtain ⟨k1, k2, k3, k4⟩ := h.blk i g hg
      refine ⟨(k1.below hb1 k1.lt).keep (ho.block g (Nat.lt_of_lt_of_le k1.lt hb1.size) k4), k2, k3, fun e => ?_⟩
      rcases h3 with h3 | h3
      · exact k4 (h3 ▸ e)
      · rw [h3] at e; injection e with e; have := k1.lt; omega
    · rename_i hge
      have hi : i = gs.length := by
        have := (List.getElem?_eq_some_iff.1 hg).1
        rw [List.length_singleton] at this
        omega
      subst hi
      rw [Nat.sub_self] at hg
      cases hg
      rw [hφ]
      refine ⟨hnew2.keep (ho.block _ (by simp; omega) (fun e => by have := (hub _ e).2; omega)), pageZ_length, by omega, fun e => ?_⟩
      rcases h3 with h3 | h3
      · rw [h3] at e; have := (hub _ e).2; omega
      · rw [h3] at e; injection e with e; omega
theorem LayI.at {w0 : World} {B : Nat} {u : Value} {gs : List Nat} {φ : Nat → Str} {wx : World} (h : LayI w0 B u gs φ wx) (h0 : gs ≠ []) : ∃ g c, u = .slice (some ⟨g, 0, none⟩) gs.length c ∧ gs.length ≤ c ∧ ∀ i b, gs[i]? = some b → wx.cell? ⟨g, i, none⟩ = some (slB b) := by
  obtain ⟨g, c, e, _, _, h3, h4, _⟩ := h.row.at (by simpa using h0)
  rw [List.length_map] at e h3
  exact ⟨g, c, e, h3, fun i b hb => h4 i _ (by rw [List.getElem?_map, hb]; rfl)⟩
theorem amay_any (P ino : Nat) (w : World) (h : 8 ≤ ino ∧ ino ≤ 512 ∧ ino % 8 = 0 ∧ P ≤ 4096 ∧ alFirst ino < P) : Calls Tryz.prog 77 #[.int .i64 P, .int .i64 ino] w fun e w' => e = .returned (.bool true) ∧ w = w' := by
  obtain ⟨h1, h2, h3, h4, h5⟩ := h
  unfold alFirst at h5
  have a1 : decide ((8 : Int) ≤ (ino : Int)) = true := by simp; omega
  have a2 : decide ((ino : Int) ≤ 512) = true := by simp; omega
  have a3 : ((ino : Int)).tmod 8 = 0 := by rw [show ((8 : Int)) = ((8 : Nat) : Int) from rfl, tmod_nat, h3]; rfl
  have a3' : ((ino : Int)) % 8 = 0 := by omega
  have a4 : decide ((P : Int) ≤ 4096) = true := by simp; omega
  obtain ⟨q, hq⟩ : ∃ q, q = ino / 8 := ⟨_, rfl⟩
  have a5 : ((ino : Int)).tdiv 8 = (q : Int) := by rw [show ((8 : Int)) = ((8 : Nat) : Int) from rfl, tdiv_nat, hq]
  have a5' : ((ino : Int)) / 8 = (q : Int) := by omega
  have a6 : IntKind.i64.wrap (3 + (q : Int)) = 3 + (q : Int) := IntWalk.i64_in _ (by omega)
  have a7 : decide ((3 : Int) + (q : Int) < (P : Int)) = true := by simp; omega
  have a11 : wrap64 (q : Int) = (q : Int) := by unfold wrap64; omega
  have a12 : wrap64 (3 + (q : Int)) = 3 + (q : Int) := by unfold wrap64; omega
  have a8 : decide (8 ≤ ino) = true := by simp; omega
  have a9 : decide (ino ≤ 512) = true := by simp; omega
  have a10 : decide (P ≤ 4096) = true := by simp; omega
  have HQ := Lib.hid hq
  clear hq h1 h2 h3 h4 h5
  go_enter Tryz.func77, Tryz.ntmps77
  go_wp2_with fail
  go_ret
  exact ⟨rfl, rfl⟩
end Go.Proofs.YtfgkgoddjemnfaaGreatDoor

namespace Go.Proofs.YtfgkgoddjemnfaaGreatDoor
open Go.RowKit Go.Shelf Pa Go.Maps
attribute [local go_sem] bs_toList bs_size
theorem or_eq_xor (x k : Nat) (h : x.testBit k = false) : x ||| 2 ^ k = x ^^^ 2 ^ k := by
  refine Nat.eq_of_testBit_eq fun i => ?_
  rw [Nat.testBit_or, Nat.testBit_xor, Nat.testBit_two_pow]
  by_cases e : k = i
  · subst e; rw [h]; simp
  · simp [e]
theorem u8_or_bit (y : UInt8) (k : Nat) (hk : k < 8) (h : y.toNat.testBit k = false) : bits .or .u8 ((y.toNat : Nat) : Int) (2 ^ k % 256) = (((UInt8.ofNat (y.toNat ^^^ 2 ^ k)).toNat : Nat) : Int) := by
  have h1 : (2 : Nat) ^ k < 2 ^ 8 := Nat.pow_lt_pow_right (by decide) hk
  have h3 : ((2 : Int) ^ k % 256) = ((2 ^ k : Nat) : Int) := by
    have : ((2 : Int) ^ k) = ((2 ^ k : Nat) : Int) := by simp
    have h2' : (2 : Nat) ^ k < 256 := h1
    rw [this]
    generalize (2 : Nat) ^ k = z at h2'
    omega
  have hx := UInt8.toNat_lt y
  have ho : y.toNat ||| 2 ^ k < 256 := Nat.or_lt_two_pow (n := 8) hx h1
  rw [h3, UInt8.toNat_ofNat', ← or_eq_xor _ _ h, Nat.mod_eq_of_lt ho]
  show IntKind.u8.wrap ((BitVec.ofInt 8 ((y.toNat : Nat) : Int) ||| BitVec.ofInt 8 ((2 ^ k : Nat) : Int)).toNat : Int) = _
  rw [BitVec.toNat_or]
  have e1 : (BitVec.ofInt 8 ((y.toNat : Nat) : Int)).toNat = y.toNat := by rw [BitVec.ofInt_natCast, BitVec.toNat_ofNat, Nat.mod_eq_of_lt hx]
  have e2 : (BitVec.ofInt 8 ((2 ^ k : Nat) : Int)).toNat = 2 ^ k := by
    have : (BitVec.ofInt 8 ((2 ^ k : Nat) : Int)).toNat = 2 ^ k % 2 ^ 8 := by rw [BitVec.ofInt_natCast, BitVec.toNat_ofNat]
    rw [this, Nat.mod_eq_of_lt h1]
  rw [e1, e2]
  show ((y.toNat ||| 2 ^ k : Nat) : Int) % 256 = _
  omega
theorem cell_one_new' (w : World) (v : Value) (t : TypeId) (g : Nat) (hg : g = w.heap.size) : ∀ j u, [v][j]? = some u → (w.alloc (.cells #[v] t)).cell? ((⟨g, 0, none⟩ : Addr).add j) = some u := by
  subst hg; exact cell_one_new w v t
theorem xor_ofNat (y : UInt8) (k : Nat) (hk : k < 8) : (UInt8.ofNat (y.toNat ^^^ 2 ^ k)).toNat = (y.toNat ^^^ 2 ^ k % 256) := by
  have h1 : (2 : Nat) ^ k < 2 ^ 8 := Nat.pow_lt_pow_right (by decide) hk
  rw [UInt8.toNat_ofNat', Nat.mod_eq_of_lt (xor_lt256 (UInt8.toNat_lt y) hk), Nat.mod_eq_of_lt h1]
theorem NatsI.any {w : World} {I : Nat → Prop} {v : Value} {l : List Nat} (h : NatsI w I v l) : NatsI w (fun _ => True) v l := by
  obtain ⟨A, c, e, hc, h⟩ := h
  refine ⟨A, c, e, hc, fun hn => ?_⟩
  obtain ⟨b, o, e1, e2, e3⟩ := h hn
  exact ⟨b, o, e1, ⟨e2.1, trivial⟩, e3⟩
theorem LayI.drew {w0 : World} {B : Nat} {u : Value} {gs : List Nat} {φ : Nat → Str} {wx : World} (h : LayI w0 B u gs φ wx) : LayI w0 B u gs φ wx.drew :=
  h.off (M := fun _ => False) ((Off.refl _ wx).drew) (fun k e => e.elim) h.below.drew
theorem LayI.cellAt {w0 : World} {B gr n c : Nat} {gs : List Nat} {φ : Nat → Str} {wx : World} (h : LayI w0 B (.slice (some ⟨gr, 0, none⟩) n c) gs φ wx) {i b : Nat} (hb : gs[i]? = some b) : wx.cell? ⟨gr, i, none⟩ = some (slB b) := by
  obtain ⟨g, c', e, _, hc⟩ := h.at (by intro e; rw [e] at hb; cases hb)
  injection e with e1 e2 e3
  injection e1 with e1
  injection e1 with e1
  rw [e1]; exact hc i b hb
theorem make512 : ∀ w1, (Instr.makeSlice 53 (.int .i64 512) (.int .i64 512)).run Tryz.prog w1 = .ok (.slice (some ⟨w1.heap.size, 0, none⟩) 512 512) (w1.alloc (.cells (madeCells #[.int .u8 0] 512) 5)) := run_make_row' (P := Tryz.prog) 53 5 (.int .u8 0) 1 Tryz.underlying53 info_u8 rfl .i64 .i64 512 (by omega) (by omega)
set_option maxRecDepth 100000 in
set_option maxHeartbeats 4000000 in
theorem amake_any (c ino : Nat) (C : Ca) (R : Reg) (F : List (Nat × Obj)) (w : World) (h : Held w F c C R) (hm : 8 ≤ ino ∧ ino ≤ 512 ∧ ino % 8 = 0 ∧ C.G.pages ≤ 4096 ∧ alFirst ino < C.G.pages) (hf : C.fits (List.range (alFirst ino)) = true) (hmy : ∀ k, k < alFirst ino → (C.laid C.G.pages ino k).may k = true) :
    Calls Tryz.prog 39 #[.pointer (some ⟨c, 0, none⟩), .int .i64 ino] w fun e w' => ∃ m, e = .returned (.tuple #[.pointer (some ⟨m, 0, none⟩), .int .i64 0]) ∧ (∃ R', Held w' ((m, mapO c ino) :: F) c (C.laid C.G.pages ino (alFirst ino)) R' ∧ R.To R' w.heap.size ∧ Off R.m w w') ∧ w.heap.size ≤ m := by
  obtain ⟨i0, hi0, hz0, hz1, hz2⟩ := info_parts info_row
  obtain ⟨P, hP⟩ : ∃ P, P = C.G.pages := ⟨_, rfl⟩
  obtain ⟨f, hff⟩ : ∃ f, f = alFirst ino := ⟨_, rfl⟩
  rw [← hP] at hm hmy ⊢
  rw [← hff] at hf hmy ⊢
  have hf4 : 4 ≤ f ∧ f ≤ 67 := by unfold alFirst at hff; omega
  have hfP : f < P := by rw [hff]; exact hm.2.2.2.2
  have hms := make512
  obtain ⟨row, p, hrl, hex, hcr⟩ := id h.at_
  have hlog := clog_any c C R row p w hcr
  have hpg := pages_any p.l C.G p.RL w hcr.log
  rw [← hP] at hpg
  have hmay := fun w => amay_any P ino w hm
  have HLog := Lib.hid hlog
  have HPg := Lib.hid hpg
  have HMay := Lib.hid hmay
  have H0 := Lib.hid h
  have HP := Lib.hid hP
  have HFf := Lib.hid hff
  clear hlog hpg hmay h hcr hP hff
  go_enter Tryz.func39, Tryz.ntmps39
  go_wp2_with fail
  refine HLog.out.mono ?_
  rintro e w1 ⟨rfl, rfl⟩
  go_wp2_with fail
  refine HPg.out.mono ?_
  rintro e w1 ⟨rfl, nq, rfl⟩
  go_wp2_with fail
  refine (HMay.out _).mono ?_
  rintro e w1 ⟨rfl, rfl⟩
  go_wp2_with fail
  obtain ⟨W2, hW2⟩ : ∃ W2, W2 = (w.drewN nq).alloc (.cells #[.pointer (some ⟨c, 0, none⟩), .int .i64 ino] 109) := ⟨_, rfl⟩
  rw [← hW2]
  have hb02 : Below w.heap.size w W2 := by rw [hW2]; exact (below_drewN (Below.refl _ _) nq).alloc (Nat.le_refl _) _
  have hz2 : W2.heap.size = w.heap.size + 1 := by rw [hW2]; exact World.size_alloc _ _
  have hmp : W2.heap[w.heap.size]? = some (mapO c ino) := by rw [hW2]; exact heap_alloc_new _ _
  obtain ⟨R2, g2, m2, i2⟩ := (H0.out.below hb02).more hmp (fun e => Nat.lt_irrefl _ (H0.out.lt _ (.inl e)))
  have hR2 : ∀ k, R2.has k → k < W2.heap.size := g2.lt
  have hsup := super_any P ino W2 (by omega) (by omega)
  have HSup := Lib.hid hsup
  have HG2 := Lib.hid (⟨g2, m2, i2, hR2⟩ : Held W2 ((w.heap.size, mapO c ino) :: F) c C R2 ∧ _ ∧ _ ∧ _)
  have HB02 := Lib.hid hb02
  have HZ2 := Lib.hid hz2
  obtain ⟨m, hmE⟩ : ∃ m, m = w.heap.size := ⟨_, rfl⟩
  rw [← hmE] at HG2 hmp ⊢
  have HMp := Lib.hid hmp
  have HME := Lib.hid hmE
  clear hsup g2 m2 i2 hR2 hb02 hz2 hmp hW2 hmE
  refine HSup.out.mono ?_
  rintro e w3 ⟨g0, rfl, hg0, hB0, hb3⟩
  obtain ⟨φ1, hφ1⟩ : ∃ φ : Nat → Str, φ = fun n => if n = 0 then superB P ino else pageZ := ⟨_, rfl⟩
  have hL1 : LayI W2 W2.heap.size (.slice (some ⟨w3.heap.size, 0, none⟩) 1 1) [g0] φ1 (w3.alloc (.cells #[slB g0] 53)) := by
    have hba : Below w3.heap.size w3 (w3.alloc (.cells #[slB g0] 53)) := (Below.refl _ _).alloc (Nat.le_refl _) _
    refine ⟨⟨by simp, .inr ⟨w3.heap.size, 1, #[slB g0], rfl, hb3.size, heap_alloc_new _ _, Nat.le_refl _, by unfold maxLen; omega, rfl, rfl⟩⟩, by simp, fun i g hg => ?_, hb3.trans (hba.mono hb3.size)⟩
    have hi : i = 0 := by
      have := (List.getElem?_eq_some_iff.1 hg).1
      simpa using this
    subst hi
    cases hg
    refine ⟨?_, by rw [hφ1]; exact superB_length _ _, hg0, fun e => ?_⟩
    · have h9 := hB0.below hba hB0.lt
      rw [hφ1]; exact h9
    · have e : w3.heap.size = g0 := by simpa [Value.ownBlock] using e
      have := hB0.lt; omega
  have hmpx : ∀ wx, Below W2.heap.size W2 wx → wx.heap[m]? = some (mapO c ino) := fun wx hb => (hb.block m (by have := HZ2.out; have := HME.out; omega)).trans HMp.out
  have hfst : ∀ wx, Below W2.heap.size W2 wx → Calls Tryz.prog 79 #[.pointer (some ⟨m, 0, none⟩)] wx fun e w' => e = .returned (.int .i64 f) ∧ wx = w' := fun wx hb => by
    rw [HFf.out]; exact first_any m c ino wx (hmpx wx hb) hm.2.1
  have HFst := Lib.hid hfst
  have HL1 := Lib.hid hL1
  obtain ⟨q, hq⟩ : ∃ q, q = f - 1 := ⟨_, rfl⟩
  have hwq : IntKind.i64.wrap ((f : Int) - 1) = (q : Int) := by rw [IntWalk.i64_in _ (by omega)]; omega
  have hq67 : q + 1 = f := by omega
  have HQ := Lib.hid hq67
  have hq66 : q ≤ 66 := by omega
  have HPhi := Lib.hid hφ1
  clear hfst hL1 hq hB0 hg0 hb3 hq67 hφ1 hmpx
  go_wp2_with fail
  refine (HFst.out _ HL1.out.below).mono ?_
  rintro e w1 ⟨rfl, rfl⟩
  go_wp2_with fail
  go_loopg [8, 32] q (fun gg u i wx => ∃ (k : Nat) (gs : List Nat), i = .int .i64 k ∧ gg = q - k ∧ k ≤ q ∧ gs.length = k + 1 ∧ LayI W2 W2.heap.size u gs φ1 wx)
  case atStart => exact ⟨0, [g0], rfl, rfl, Nat.zero_le _, rfl, HL1.out⟩
  case round =>
    obtain ⟨k, gs, rfl, rfl, hk, hgl, hL⟩ := hrel
    have HL := Lib.hid hL
    have HGl := Lib.hid hgl
    clear hL HL1 hgl
    by_cases hlt : k < q
    · have hlt' : decide ((k : Int) < (q : Int)) = true := by simp; omega
      have hown1 := World.ownsRow.alloc (World.ownsRow.alloc HL.out.row (.cells (madeCells #[.int .u8 0] 512) 5)) (.cells #[slB wr.heap.size] 53)
      rw [List.length_map, HGl.out] at hown1
      have hkm : k + 1 + 1 ≤ maxLen := by unfold maxLen; omega
      have hkb : (k + 1 + 1) * 24 ≤ 140737488355328 := by omega
      have hbs := HL.out.below.size
      have hbase : W2.heap.size ≤ ((wr.alloc (.cells (madeCells #[.int .u8 0] 512) 5)).alloc (.cells #[slB wr.heap.size] 53)).heap.size := by simp; omega
      have hstep : ∀ v' w6, w6.ownsRow W2.heap.size 53 1 v' (k + 1 + 1) (gs.map slB ++ [slB wr.heap.size]) → ((wr.alloc (.cells (madeCells #[.int .u8 0] 512) 5)).alloc (.cells #[slB wr.heap.size] 53)).grownBy w6 u8.ownBlock → (v'.ownBlock = u8.ownBlock ∨ v'.ownBlock = some (wr.heap.size + 1 + 1)) → LayI W2 W2.heap.size v' (gs ++ [wr.heap.size]) φ1 w6 := fun v' w6 h1 h2 h3 =>
        HL.out.push (Nat.le_refl _) (by rw [HGl.out, HPhi.out]; exact if_neg (by omega)) (by rw [HGl.out]; exact h1) h2 h3
      have hnl : (gs ++ [wr.heap.size]).length = k + 1 + 1 := by rw [List.length_append, HGl.out]; rfl
      have HNl := Lib.hid hnl
      have HOwn := Lib.hid hown1
      have HStep := Lib.hid hstep
      clear hown1 hstep hnl
      go_wp2_with (at_builtin; refine wpList_append_own_at _ rfl _ _ 141 rfl W2.heap.size 53 i0 (.slice none 0 0) 1 24 Tryz.underlying141 hi0 hz0 hz1 hz2 rfl (by decide) u8 _ _ rfl HOwn.out ⟨wr.heap.size + 1, 0, none⟩ 1 1 [slB wr.heap.size] rfl rfl (cell_one_new' _ _ _ _ (by simp)) (by intro u hu; simp at hu; subst hu; rfl) hkm hkb hbase ?_; intro v' w6 hown' hgrow hnil hloc; simp only [World.size_alloc] at hloc; have hS6 := HStep.out v' w6 hown' hgrow hloc; have HS6 := Lib.hid hS6; clear hown' hgrow hnil hloc hS6)
      go_roundg (q - (k + 1))
      case measure => omega
      case rel => exact ⟨k + 1, gs ++ [wr.heap.size], by go_num, rfl, hlt, HNl.out, HS6.out⟩
    · have hlt' : decide ((k : Int) < (q : Int)) = false := by simp; omega
      obtain rfl : k = q := by omega
      have hgf : gs.length = f := by rw [HGl.out]; exact HQ.out
      obtain ⟨gr, cr, rfl, hcr, hrc⟩ := HL.out.at (by intro e; rw [e] at hgf; simp at hgf; omega)
      rw [hgf] at hcr
      obtain ⟨g1, hg1⟩ : ∃ g, gs[1]? = some g := ⟨_, List.getElem?_eq_getElem (by omega)⟩
      have hc1 := hrc 1 g1 hg1
      have hp1 : φ1 1 = pageZ := by rw [HPhi.out]; rfl
      have hb1 : wr.cell? ⟨g1, 0, none⟩ = some (.int .u8 0) := by
        have h9 := (HL.out.blk 1 g1 hg1).1
        rw [hp1] at h9
        exact h9.cell (i := 0) (y := 0) rfl
      have hf1 : wr.frozen? ⟨g1, 0, none⟩ = false := (HL.out.blk 1 g1 hg1).1.free 0
      have hL2 := HL.out.set hg1 0 1 (by decide) (Nat.le_refl _)
      rw [hp1] at hL2
      obtain ⟨φ2, hφ2⟩ : ∃ φ : Nat → Str, φ = fun n => if n = 1 then turnB pageZ 0 else φ1 n := ⟨_, rfl⟩
      have hL3 : LayI W2 W2.heap.size (.slice (some ⟨gr, 0, none⟩) gs.length cr) gs φ2 (wr.setCell ⟨g1, 0, none⟩ (.int .u8 1)) := by rw [hφ2]; exact hL2
      rw [hgf] at hL3 ⊢
      have HL3 := Lib.hid hL3
      have HRc := Lib.hid hrc
      have HGf := Lib.hid hgf
      have HPhi2 := Lib.hid hφ2
      clear hL2 hL3 hrc hgf hp1 hg1 hφ2
      go_wp2_with fail
      refine (HFst.out _ HL3.out.below).mono ?_
      rintro e w1 ⟨rfl, rfl⟩
      go_wp2_with fail
      obtain ⟨g2, hg2⟩ : ∃ g, gs[2]? = some g := ⟨_, List.getElem?_eq_getElem (by rw [HGf.out]; omega)⟩
      have HG2i := Lib.hid hg2
      have hφ20 : (fun n => if n = 2 then onB 0 else φ2 n) = φ2 := by
        funext n
        by_cases e : n = 2
        · subst e
          rw [if_pos rfl, HPhi2.out]
          show pageZ = (if (2 : Nat) = 1 then turnB pageZ 0 else φ1 2)
          rw [if_neg (by decide), HPhi.out]; rfl
        · rw [if_neg e]
      have H20 := Lib.hid hφ20
      clear hg2 hφ20 hc1 hb1 hf1 hlt' hlt hk
      go_loopg [45] f (fun gg i wx => ∃ j : Nat, i = .int .i64 j ∧ gg = f - j ∧ j ≤ f ∧ LayI W2 W2.heap.size (.slice (some ⟨gr, 0, none⟩) f cr) gs (fun n => if n = 2 then onB j else φ2 n) wx)
      case atStart => exact ⟨0, rfl, rfl, Nat.zero_le _, by rw [H20.out]; exact HL3.out⟩
      case round =>
        obtain ⟨j, rfl, rfl, hj, hL⟩ := hrel
        have HLj := Lib.hid hL
        clear hL HL3 HL
        by_cases hlt : j < f
        · have hlt' : decide ((j : Int) < (f : Int)) = true := by simp; omega
          have hc2 := HLj.out.cellAt HG2i.out
          obtain ⟨b1, _, b3, b4⟩ := HLj.out.blk 2 g2 HG2i.out
          have hb2 : Blk wr g2 512 (onB j) := b1
          have hj8 : j / 8 < 512 := by omega
          obtain ⟨y, hy⟩ : ∃ y, (onB j)[j / 8]? = some y := ⟨_, List.getElem?_eq_getElem (by rw [onB_length]; omega)⟩
          have hby := hb2.cell hy
          have hfz := hb2.free (j / 8)
          have htb : y.toNat.testBit (j % 8) = false := by
            have h9 := bitAt_onB j j (by omega)
            unfold bitAt at h9
            rw [List.getD_eq_getElem?_getD, hy] at h9
            simpa using h9
          have hset := HLj.out.set HG2i.out (j / 8) (UInt8.ofNat (y.toNat ^^^ 2 ^ (j % 8))) hj8 (Nat.le_refl _)
          have he : (fun n => if n = 2 then ((fun n => if n = 2 then onB j else φ2 n) 2).set (j / 8) (UInt8.ofNat (y.toNat ^^^ 2 ^ (j % 8))) else (fun n => if n = 2 then onB j else φ2 n) n) = (fun n => if n = 2 then onB (j + 1) else φ2 n) := by
            funext n
            by_cases e : n = 2
            · subst e
              simp only [if_true]
              show _ = turnB (onB j) j
              unfold turnB
              rw [List.getD_eq_getElem?_getD, hy]; rfl
            · simp only [if_neg e]
          rw [he] at hset
          have horb := u8_or_bit y (j % 8) (Nat.mod_lt _ (by decide)) htb
          have HSet := Lib.hid hset
          have HOrb := Lib.hid horb
          clear hset he horb htb hy hb2 b1 b3 b4
          go_wp2_with fail
          go_region
          all_goals (rw [HOrb.out]; go_wp2_with fail)
          go_roundg (f - (j + 1))
          case measure => omega
          case rel => exact ⟨j + 1, by go_num, rfl, hlt, by have h9 := HSet.out.drew; rw [xor_ofNat y (j % 8) (Nat.mod_lt _ (by decide))] at h9; exact h9⟩
        · have hlt' : decide ((j : Int) < (f : Int)) = false := by simp; omega
          obtain rfl : j = f := by omega
          have he : (fun n => if n = 2 then onB j else φ2 n) = layX P ino := by
            funext n
            unfold layX
            rw [← HFf.out, HPhi2.out, HPhi.out]
          have HL9 := HLj.out
          rw [he] at HL9
          obtain ⟨g2', m2', i2', hR2⟩ := HG2.out
          have hHr : Held wr ((m, mapO c ino) :: F) c C R2 := g2'.below HL9.below
          have hnum := numbers_any j wr (by omega)
          have HNum := Lib.hid hnum
          have HHr := Lib.hid hHr
          have HL := Lib.hid HL9
          clear hnum hHr HL9 HLj he g2' m2' i2' hR2 hlt
          go_wp2_with fail
          refine (HFst.out _ HL.out.below).mono ?_
          rintro e w1 ⟨rfl, rfl⟩
          go_wp2_with fail
          refine HNum.out.mono ?_
          rintro e w4 ⟨v4, rfl, hO4, hb4⟩
          have hfits := fits_any m c ino v4 (List.range j) C R2 _ w4 (HHr.out.below hb4) (List.mem_cons_self ..) hO4.nats.any (by rw [List.length_range]; omega)
          rw [hf] at hfits
          have HFits := Lib.hid hfits
          have HL4 := Lib.hid (HL.out.below.trans (hb4.mono HL.out.below.size))
          have hrows : ∀ wx, Below wr.heap.size wr wx → ∀ i g, gs[i]? = some g → wx.cell? ⟨gr, i, none⟩ = some (slB g) ∧ Blk wx g 512 (layX P ino i) ∧ ¬ R2.has g ∧ gr < wr.heap.size ∧ g < wr.heap.size ∧ ¬ R2.has gr := fun wx hb i g hg => by
            obtain ⟨h1, _, h3, _⟩ := HL.out.blk i g hg
            have h5 := HL.out.cellAt hg
            have h6 : W2.heap.size ≤ gr ∧ gr < wr.heap.size := HL.out.row.block rfl
            refine ⟨(hb.cell (p := ⟨gr, i, none⟩) h6.2).trans h5, h1.below hb h1.lt, fun e => ?_, h6.2, h1.lt, fun e => ?_⟩
            · have := HG2.out.2.2.2 g e; omega
            · have := HG2.out.2.2.2 gr e; omega
          have HRows := Lib.hid hrows
          have HB4 := Lib.hid hb4
          clear hfits hO4 hb4 hrows
          go_wp2_with fail
          refine HFits.out.mono ?_
          rintro e w5 ⟨rfl, hb5⟩
          have hb45 : Below wr.heap.size wr w5 := HB4.out.trans (hb5.mono HB4.out.size)
          have hH5 := HHr.out.below hb45
          have HH5 := Lib.hid hH5
          have HB45 := Lib.hid hb45
          clear hb5 hb45 hH5
          go_wp2_with fail
          go_loopg [69] j (fun gg i wx => ∃ (k2 : Nat) (R4 : Reg), i = .int .i64 k2 ∧ gg = j - k2 ∧ k2 ≤ j ∧ Held wx ((m, mapO c ino) :: F) c (C.laid P ino k2) R4 ∧ R2.To R4 w5.heap.size ∧ Off R2.m w5 wx)
          case atStart => exact ⟨0, R2, rfl, rfl, Nat.zero_le _, HH5.out, Reg.To.refl _ _, Off.refl _ _⟩
          case round =>
            obtain ⟨k2, R4, rfl, rfl, hk2, h4, t4, o4⟩ := hrel
            by_cases hlt : k2 < j
            · have hlt' : decide ((k2 : Int) < (j : Int)) = true := by simp; omega
              obtain ⟨g, hg⟩ : ∃ g, gs[k2]? = some g := ⟨_, List.getElem?_eq_getElem (by rw [HGf.out]; exact hlt)⟩
              obtain ⟨r1, r2, r3, r4, r5, r6⟩ := HRows.out w5 HB45.out k2 g hg
              have hcg := (o4.cell (p := ⟨gr, k2, none⟩) (Nat.lt_of_lt_of_le r4 HB45.out.size) (fun e => r6 (.inl e))).trans r1
              have hbk : Blk wr g 512 (layX P ino k2) := r2.keep (o4.block g r2.lt (fun e => r3 (.inl e)))
              have hby := hbk.bytes (by rw [layX_length]; decide)
              rw [layX_length] at hby
              have hwr := hwrite_any k2 c (C.laid P ino k2) R4 _ (slB g) (layX P ino k2) wr h4 (by rw [Ca.laid_G, ← HP.out]; omega) hby (layX_length _ _ _)
              rw [if_pos (hmy k2 hlt), if_pos (hmy k2 hlt)] at hwr
              have HWr := Lib.hid hwr
              have HT4 := Lib.hid (⟨t4, o4⟩ : _ ∧ _)
              clear hwr h4 t4 o4 r1 r2 r3 r5 r6 hbk hby hg
              go_wp2_with fail
              refine HWr.out.mono ?_
              rintro e w6 ⟨rfl, R6, h6, t6, o6⟩
              have HF6 := Lib.hid (⟨h6, HT4.out.1.trans t6 HT4.out.2.size, HT4.out.2.trans o6 HT4.out.1.m⟩ : Held w6 ((m, mapO c ino) :: F) c (C.laid P ino (k2 + 1)) R6 ∧ R2.To R6 w5.heap.size ∧ Off R2.m w5 w6)
              clear h6 t6 o6
              go_wp2_with fail
              go_roundg (j - (k2 + 1))
              case measure => omega
              case rel => exact ⟨k2 + 1, R6, by go_num, rfl, hlt, HF6.out⟩
            · have hlt' : decide ((k2 : Int) < (j : Int)) = false := by simp; omega
              obtain rfl : k2 = j := by omega
              obtain ⟨_, m2, i2, hR2⟩ := HG2.out
              have hw5 : w.heap.size ≤ w5.heap.size := by
                have := HB45.out.size
                have h9 := HL4.out.size
                have := HZ2.out
                have := HL.out.below.size
                omega
              have hoff : Off R.m w wr := (((Off.of_below HB02.out R.m).step ((HL.out.below.trans (HB45.out.mono HL.out.below.size)))).trans o4 (fun e he => .inl ((m2 e).1 he)))
              have hto : R.To R4 w.heap.size := ⟨fun e he => by
                rcases t4.m e he with h1 | h1
                · exact .inl ((m2 e).1 h1)
                · right; omega, fun e he => by
                rcases t4.i e he with h1 | h1
                · rcases (i2 e).1 h1 with h2 | h2
                  · exact .inl h2
                  · right; rw [h2, HME.out]; exact Nat.le_refl _
                · right; omega⟩
              have HF := Lib.hid (⟨R4, h4, hto, hoff⟩ : ∃ R', Held wr ((m, mapO c ino) :: F) c (C.laid P ino k2) R' ∧ R.To R' w.heap.size ∧ Off R.m w wr)
              clear h4 t4 o4 hto hoff m2 i2 hR2
              go_wp2_with fail
              go_ret2
              exact ⟨m, rfl, HF.out, by rw [HME.out]; exact Nat.le_refl _⟩
end Go.Proofs.YtfgkgoddjemnfaaGreatDoor

namespace Go.Proofs.YtfgkgoddjemnfaaGreatDoor
open Go.RowKit Go.Shelf Pa
theorem laid_rd (C : Ca) (P ino k n : Nat) : (C.laid P ino k).rd n = if n < k then layX P ino n else C.rd n := by
  induction k with
  | zero => rw [if_neg (by omega)]; rfl
  | succ k ih =>
    show ((C.laid P ino k).set k (layX P ino k)).rd n = _
    rw [Ca.rd_set]
    by_cases e : n = k
    · subst e; rw [if_pos rfl, if_pos (by omega)]
    · rw [if_neg e, ih]
      by_cases e2 : n < k
      · rw [if_pos e2, if_pos (by omega)]
      · rw [if_neg e2, if_neg (by omega)]
theorem laid_rm {C : Ca} (h : C.Rm) (P ino k : Nat) (hk : k ≤ C.G.pages) : (C.laid P ino k).Rm := by
  induction k with
  | zero => exact h
  | succ k ih => exact (ih (by omega)).set (by rw [Ca.laid_G]; omega) (layX_length _ _ _)
def RS.fresh (P ino : Nat) : RS := ⟨List.replicate (alFirst ino) true ++ List.replicate (P - alFirst ino) false, true :: List.replicate (ino - 1) false, List.replicate ino RF.none⟩
theorem fresh_i (P ino : Nat) (h : 1 ≤ ino) : (RS.fresh P ino).i.length = ino := by show (true :: List.replicate (ino - 1) false).length = ino; rw [List.length_cons, List.length_replicate]; omega
theorem fresh_file (P ino j : Nat) : (RS.fresh P ino).file j = RF.none := by
  unfold RS.file RS.fresh
  rw [List.getD_eq_getElem?_getD, List.getElem?_replicate]
  split <;> rfl
theorem fresh_getI (P ino j : Nat) : (RS.fresh P ino).i.getD j false = decide (j = 0) := by
  show (true :: List.replicate (ino - 1) false).getD j false = _
  cases j with
  | zero => rfl
  | succ j =>
    rw [List.getD_eq_getElem?_getD, List.getElem?_cons_succ, List.getElem?_replicate]
    split <;> simp
theorem fresh_getP (P ino n : Nat) (hn : n < P) : (RS.fresh P ino).p.getD n false = decide (n < alFirst ino) := by
  show (List.replicate (alFirst ino) true ++ List.replicate (P - alFirst ino) false).getD n false = _
  rw [List.getD_eq_getElem?_getD]
  by_cases h : n < alFirst ino
  · rw [List.getElem?_append_left (by rw [List.length_replicate]; exact h), List.getElem?_replicate, if_pos h]; simp [h]
  · rw [List.getElem?_append_right (by rw [List.length_replicate]; omega), List.getElem?_replicate, List.length_replicate, if_pos (by omega)]; simp [h]
theorem rel_fresh {C : Ca} {ino : Nat} (hrm : C.Rm) (hall : ∀ n, n < C.G.pages → (C.rd n).length = 512) (hm : 8 ≤ ino ∧ ino ≤ 512 ∧ ino % 8 = 0 ∧ C.G.pages ≤ 4096 ∧ alFirst ino < C.G.pages) : Rel (C.laid C.G.pages ino (alFirst ino)) (RS.fresh C.G.pages ino) (fun _ => False) := by
  have hil := fresh_i C.G.pages ino (by omega)
  have hf3 : 4 ≤ alFirst ino := by unfold alFirst; omega
  have hnl : ∀ j, ¬ (RS.fresh C.G.pages ino).live j := fun j hj => by
    have h1 := hj.2
    rw [fresh_getI] at h1
    have : j = 0 := by simpa using h1
    have := hj.1
    omega
  refine { rm := laid_rm hrm _ _ _ (by omega), np := ?_, npl := by rw [Ca.laid_G]; exact hm.2.2.2.1, ino := ?_, ino8 := ?_, len := fun n hn => ?_, pb := fun n hn => ?_, ib := fun j hj => ?_, sys := fun n hn => ?_, zero := by rw [fresh_getI]; rfl, off := fun j _ => fresh_file _ _ _, files := fun j hj => absurd hj (hnl j), apart := fun j k n hj => ?_, rcd := fun j hj => absurd hj (hnl j) }
  · rw [Ca.laid_G]
    show (List.replicate (alFirst ino) true ++ List.replicate (C.G.pages - alFirst ino) false).length = _
    rw [List.length_append, List.length_replicate, List.length_replicate]; omega
  · rw [hil]; exact List.length_replicate ..
  · rw [hil, Ca.laid_G]; exact ⟨hm.2.2.1, hm.1, hm.2.1, hm.2.2.2.2⟩
  · rw [Ca.laid_G] at hn
    rw [laid_rd]
    split
    · exact layX_length _ _ _
    · exact hall n hn
  · rw [Ca.laid_G] at hn
    rw [laid_rd, if_pos (by omega), fresh_getP _ _ _ hn]
    show bitAt (layX C.G.pages ino 2) n = _
    unfold layX
    rw [if_pos rfl, bitAt_onB _ _ (by omega)]
  · rw [laid_rd, if_pos (by omega), fresh_getI]
    show bitAt (layX C.G.pages ino 1) j = _
    unfold layX
    rw [if_neg (by decide), if_pos rfl, bitAt_turnB (by rw [pageZ_length]; decide), bitAt_pageZ]
    by_cases h : j = 0
    · subst h; rfl
    · rw [if_neg h, bitAt_pageZ]; simp [h]
  · have hn : n < alFirst (RS.fresh C.G.pages ino).i.length := hn
    rw [hil] at hn
    rw [fresh_getP _ _ _ (by omega)]; simpa using hn
  · rw [fresh_file] at hj; cases hj
theorem fresh_tight (P ino : Nat) : (RS.fresh P ino).Tight := fun j => by rw [fresh_file]; rfl
/-- A new file. -/
def RF.new (k md : Nat) : RF := ⟨k, md, 1, [], [], 0⟩
def RS.mkI (T : RS) (j k md : Nat) : RS := { T with i := T.i.set j true, l := T.l.set j (RF.new k md) }
theorem newF_ok (C : Ca) (T : RS) (k md : Nat) (hk : k ≤ 3) (hm : md ≤ 4095) : FOk C T (RF.new k md) :=
  ⟨hk, hm, (by show 1 ≤ 65535; decide), (by show 0 ≤ 70656; decide), (by show 0 ≤ 138; decide), (by show 0 ≤ 512 * 0; decide), (by show 0 = 0 ↔ 0 ≤ 10; decide), fun n hn => (by cases hn), List.nodup_nil, fun q hq => (by cases hq)⟩
theorem opnOf_new (k md j : Nat) : opnOf (RF.new k md) j = { Opn.none with kind := k, mode := md, links := 1, i := j } := rfl
theorem Rel.mkInode {C : Ca} {T : RS} (h : Rel C T (fun _ => False)) {j k md : Nat} (ht : takeB T.i = some j) (hk : 1 ≤ k ∧ k ≤ 3) (hmd : md ≤ 4095) :
    ∃ C1 C2, C.inode T.inodes = some (j, C1) ∧ C1.save { Opn.none with kind := k, mode := md, links := 1, i := j } = some C2 ∧ Rel C2 (T.mkI j k md) (fun _ => False) ∧ C1.G = C.G ∧ (C2.G = C.G ∧ C2.most = C.most) ∧ j < T.inodes ∧ 1 ≤ j := by
  obtain ⟨t1, t2, t3⟩ := takeB_some ht
  have hs := h.small
  have hl1 := h.len 1 (by omega)
  have h512 := h.ino8.2.2.1
  have hj1 : 1 ≤ j := by
    rcases Nat.eq_zero_or_pos j with e | e
    · rw [e, h.zero] at t2; cases t2
    · exact e
  have hrd : ∀ m, m ≠ 1 → (C.set 1 (turnB (C.rd 1) j)).rd m = C.rd m := fun m hm => by rw [Ca.rd_set, if_neg hm]
  have hget : ∀ m, (T.i.set j true).getD m false = if m = j then true else T.i.getD m false := fun m => getD_setB _ _ _ _ t1
  have hlive : ∀ m, (T.mkI j k md).live m ↔ (m = j ∨ T.live m) := fun m => by
    unfold RS.live RS.mkI
    simp only [hget]
    by_cases e : m = j
    · subst e; simp [hj1]
    · simp [e]
  have hjl : j < T.l.length := by rw [h.ino]; exact t1
  have hfile : ∀ m, (T.mkI j k md).file m = if m = j then RF.new k md else T.file m := fun m => by
    have := file_set T j m (RF.new k md) hjl
    exact this
  have hpg : ∀ a m, m ∈ ((T.mkI j k md).file a).pgs → T.live a ∧ m ∈ (T.file a).pgs ∧ a ≠ j := fun a m hm => by
    rw [hfile] at hm
    by_cases e : a = j
    · rw [if_pos e] at hm; cases hm
    · rw [if_neg e] at hm
      exact ⟨h.owner hm, hm, e⟩
  have hino : (T.mkI j k md).i.length = T.i.length := List.length_set ..
  have hfirst : (T.mkI j k md).first = T.first := by unfold RS.first; rw [hino]
  have hrel : Rel (C.set 1 (turnB (C.rd 1) j)) (T.mkI j k md) (fun m => m = j) := by
    refine { rm := h.rm.set (by omega) (by rw [turnB_length]; exact hl1), np := h.np, npl := h.npl, ino := ?_, ino8 := by rw [hino]; exact h.ino8, len := fun m hm => ?_, pb := fun m hm => ?_, ib := fun m hm => ?_, sys := fun m hm => ?_, zero := ?_, off := fun m hm => ?_, files := fun m hm => ?_, apart := fun a b m ha hb => ?_, rcd := fun m hm he => ?_ }
    · show (T.l.set j _).length = (T.i.set j true).length
      rw [List.length_set, List.length_set]; exact h.ino
    · rw [Ca.rd_set]
      split
      · rw [turnB_length]; exact hl1
      · exact h.len m hm
    · rw [hrd _ (by decide)]; exact h.pb m hm
    · show bitAt _ m = (T.i.set j true).getD m false
      have hm : m < T.i.length := by rw [hino] at hm; exact hm
      rw [Ca.rd_set, if_pos rfl, bitAt_turnB (by rw [hl1]; omega), hget, h.ib j t1, t2]
      split
      · rfl
      · exact h.ib m hm
    · rw [hfirst] at hm; exact h.sys m hm
    · show (T.i.set j true).getD 0 false = true
      rw [hget, if_neg (by omega)]; exact h.zero
    · rw [hfile, if_neg (fun e => hm ((hlive m).2 (.inl e)))]
      exact h.off m (fun e => hm ((hlive m).2 (.inr e)))
    · rw [hfile]
      split
      · exact ⟨hk.1, newF_ok _ _ _ _ hk.2 hmd⟩
      · rename_i e
        have hm2 : T.live m := ((hlive m).1 hm).resolve_left e
        have hf := h.files m hm2
        refine ⟨hf.1, { hf.2 with own := fun n hn => ?_, bytes := fun q hq => ?_ }⟩
        · rw [hfirst]; exact hf.2.own n hn
        · rw [hrd _ (by have := (h.table_free hm2 (pgs_data (getD_mem hq))).1; omega)]; exact hf.2.bytes q hq
    · obtain ⟨_, a2, _⟩ := hpg a m ha
      obtain ⟨_, b2, _⟩ := hpg b m hb
      exact h.apart a b m a2 b2
    · have hm2 : T.live m := ((hlive m).1 hm).resolve_left he
      rw [hfile, if_neg he]
      have := h.rcd m hm2 (fun e => e)
      refine ⟨by rw [hrd _ (by omega)]; exact this.1, fun h0 => ?_⟩
      rw [hrd _ (by have := (h.table_free hm2 (pgs_ind h0)).1; omega)]; exact this.2 h0
  obtain ⟨C2, e2, r2, g2, m2⟩ := hrel.save (j := j) ((hlive j).2 (.inl rfl))
  rw [hfile, if_pos rfl, opnOf_new] at e2
  refine ⟨_, C2, ?_, e2, r2.mono (fun k e => e.2 e.1), rfl, ⟨g2, m2⟩, t1, hj1⟩
  unfold Ca.inode
  rw [h.ibits, ht]
  simp only
  rw [h.rm.fits (l := [1]) (fun m hm => by
    have : m = 1 := by simpa using hm
    omega), if_pos rfl]
theorem mkI_tight {T : RS} (ht : T.Tight) {j k md : Nat} (hj : j < T.l.length) : (T.mkI j k md).Tight := fun m => by
  have := file_set T j m (RF.new k md) hj
  rw [show (T.mkI j k md).file m = (T.set j (RF.new k md)).file m from rfl, this]
  split
  · show 0 = npg 0; decide
  · exact ht m
/-- What the bytes of a file's pages are. -/
theorem Rel.bytes {C : Ca} {T : RS} {ex : Nat → Prop} (h : Rel C T ex) {j : Nat} (hl : T.live j) (ht : T.Tight) (at_ n : Nat) : ((C.allP (opnOf (T.file j) j)).drop at_).take (min n ((T.file j).bytes.length - at_)) = ((T.file j).bytes.drop at_).take n := by
  obtain ⟨f, hf⟩ : ∃ f, f = T.file j := ⟨_, rfl⟩
  have hfo := (h.files j hl).2
  have htj := ht j
  rw [← hf] at hfo htj ⊢
  have hsz : (opnOf f j).size = f.bytes.length := rfl
  have hpl : ∀ k, k < npg f.bytes.length → C.rd ((opnOf f j).slot k) = pageOf f.bytes k := fun k hk => by
    rw [opnOf_slot]; exact hfo.bytes k (by rw [htj]; exact hk)
  have hA : ∀ i, i < f.bytes.length → (C.allP (opnOf f j))[i]? = f.bytes[i]? := fun i hi => by
    have hk : i / 512 < npg f.bytes.length := by unfold npg; omega
    have h1 := flat512_at (fun k => C.rd ((opnOf f j).slot k)) (npg f.bytes.length) (i / 512) hk (fun k hk => by rw [hpl k hk]; exact pageOf_length _ _)
    have h2 := congrArg (fun l => l[i % 512]?) h1
    rw [List.getElem?_take_of_lt (by omega), List.getElem?_drop, show 512 * (i / 512) + i % 512 = i from by omega, hpl _ hk, pageOf_getElem? _ _ _ (by omega), show 512 * (i / 512) + i % 512 = i from by omega] at h2
    unfold Ca.allP
    rw [hsz, h2, List.getD_eq_getElem?_getD, List.getElem?_eq_getElem hi]; rfl
  refine List.ext_getElem? fun i => ?_
  rw [List.getElem?_take, List.getElem?_take]
  by_cases hi : i < min n (f.bytes.length - at_)
  · rw [if_pos hi, if_pos (by omega), List.getElem?_drop, List.getElem?_drop]
    exact hA _ (by omega)
  · rw [if_neg hi]
    split
    · rw [List.getElem?_drop, List.getElem?_eq_none (by omega)]
    · rfl
end Go.Proofs.YtfgkgoddjemnfaaGreatDoor

namespace Go.Proofs.YtfgkgoddjemnfaaGreatDoor
open Go.RowKit Go.Shelf Pa
attribute [local go_sem] bs_toList bs_size
/-- A store stands for T; at most N ops have been done to its disk. -/
def StI (w : World) (s : Nat) (T : RS) (R : Reg) (N : Nat) : Prop :=
  ∃ m c C F, Held w F c C R ∧ (m, mapO c T.inodes) ∈ F ∧ (s, storeO m) ∈ F ∧ Rel C T (fun _ => False) ∧ T.Tight ∧ C.G.D.wait = [] ∧ C.G.D.ops.length ≤ N
def StStep (w : World) (s : Nat) (T' : RS) (R : Reg) (N : Nat) (w' : World) : Prop := ∃ R', StI w' s T' R' N ∧ R.To R' w.heap.size ∧ Off R.m w w'
/-- Bytes of one's own are handed back; nothing turns. -/
def StRd (w : World) (s : Nat) (T : RS) (R : Reg) (N : Nat) (x : Str) (v : Value) (w' : World) : Prop := ∃ R', OwnB w' w.heap.size v x ∧ StI w' s T R' N ∧ R.To R' w.heap.size ∧ Off R.m w w' ∧ ∀ k, v.ownBlock = some k → ¬ R'.has k
theorem StI.lt {w : World} {s : Nat} {T : RS} {R : Reg} {N : Nat} (h : StI w s T R N) : ∀ k, R.has k → k < w.heap.size := by obtain ⟨_, _, _, _, h, _⟩ := h; exact h.lt
theorem StI.apart {w : World} {s : Nat} {T : RS} {R : Reg} {N : Nat} (h : StI w s T R N) : ∀ k, R.m k → ¬ R.i k := by obtain ⟨_, _, _, _, h, _⟩ := h; exact h.apart
theorem StI.off {w w' : World} {s : Nat} {T : RS} {R : Reg} {N : Nat} {J : Nat → Prop} (h : StI w s T R N) (ho : Off J w w') (hd : ∀ k, R.has k → ¬ J k) : StI w' s T R N := by
  obtain ⟨m, c, C, F, h1, h2⟩ := h
  exact ⟨m, c, C, F, h1.off ho hd, h2⟩
theorem StI.below {w w' : World} {s : Nat} {T : RS} {R : Reg} {N : Nat} (h : StI w s T R N) (hb : Below w.heap.size w w') : StI w' s T R N := h.off (Off.of_below hb (fun _ => False)) (fun _ _ e => e)
theorem StI.more {w : World} {s : Nat} {T : RS} {R : Reg} {N N' : Nat} (h : StI w s T R N) (hn : N ≤ N') : StI w s T R N' := by
  obtain ⟨m, c, C, F, h1, h2, h3, h4, h5, h6, h7⟩ := h
  exact ⟨m, c, C, F, h1, h2, h3, h4, h5, h6, by omega⟩
theorem StStep.refl {w : World} {s : Nat} {T : RS} {R : Reg} {N : Nat} (h : StI w s T R N) : StStep w s T R N w := ⟨R, h, Reg.To.refl _ _, Off.refl _ _⟩
theorem StStep.below {w w' : World} {s : Nat} {T : RS} {R : Reg} {N : Nat} (h : StI w s T R N) (hb : Below w.heap.size w w') : StStep w s T R N w' := ⟨R, h.below hb, Reg.To.refl _ _, Off.of_below hb _⟩
theorem StStep.trans {w w1 w2 : World} {s : Nat} {T2 : RS} {R R1 : Reg} {N : Nat} (ht : R.To R1 w.heap.size) (ho : Off R.m w w1) (h2 : StStep w1 s T2 R1 N w2) : StStep w s T2 R N w2 := by
  obtain ⟨R2, h3, t2, o2⟩ := h2
  exact ⟨R2, h3, ht.trans t2 ho.size, ho.trans o2 ht.m⟩
theorem StStep.step {w w1 w2 : World} {s : Nat} {T1 : RS} {R : Reg} {N : Nat} (h : StStep w s T1 R N w1) (hb : Below w1.heap.size w1 w2) : StStep w s T1 R N w2 := by
  obtain ⟨R1, h1, t1, o1⟩ := h
  exact ⟨R1, h1.below hb, t1, o1.step hb⟩
theorem StRd.st {w w' : World} {s : Nat} {T : RS} {R : Reg} {N : Nat} {x : Str} {v : Value} (h : StRd w s T R N x v w') : StStep w s T R N w' := by
  obtain ⟨R', _, h2, h3, h4, _⟩ := h
  exact ⟨R', h2, h3, h4⟩
theorem Rel.recInd {C : Ca} {T : RS} (h : Rel C T (fun _ => False)) : ∀ j, 1 ≤ j → j < T.inodes → bitAt (C.rd 1) j = true → (C.recd j).ind < C.G.pages := by
  intro j h1 h2 h3
  have hs := h.small
  rw [h.ib j h2] at h3
  have hl : T.live j := ⟨h1, h3⟩
  obtain ⟨r1, _⟩ := h.rcd j hl (fun e => e)
  have hf := (h.files j hl).2
  unfold Ca.recd
  rw [r1, show decI (encI (opnOf (T.file j) j)) j = { opnOf (T.file j) j with more := List.replicate 128 0 } from decI_encI (hf.fit h.npl j)]
  show (opnOf (T.file j) j).ind < _
  rw [opnOf_ind]
  by_cases h0 : (T.file j).ind = 0
  · omega
  · exact (h.table_free hl (pgs_ind h0)).2
theorem Rel.loadR {C : Ca} {T : RS} (h : Rel C T (fun _ => False)) (i : Int) : C.loadR T.inodes i = (if T.look i = 0 then opnOf (T.file i.toNat) i.toNat else Opn.none, T.look i) := by
  unfold Ca.loadR
  rw [h.load i (fun e => e)]
  by_cases h0 : T.look i = 0
  · rw [if_pos h0, if_pos h0, h0]
  · rw [if_neg h0, if_neg h0]
theorem look_live {T : RS} {i : Int} (h : T.look i = 0) : T.live i.toNat ∧ i = (i.toNat : Int) ∧ i.toNat < T.inodes ∧ (T.file i.toNat).kind ≠ 0 := by
  unfold RS.look at h
  by_cases h1 : i < 1 ∨ (T.inodes : Int) ≤ i
  · rw [if_pos h1] at h; cases h
  · rw [if_neg h1] at h
    by_cases h2 : T.i.getD i.toNat false = false ∨ (T.file i.toNat).kind = 0
    · rw [if_pos h2] at h; cases h
    · refine ⟨⟨by omega, ?_⟩, by omega, by omega, fun e => h2 (.inr e)⟩
      cases hb : T.i.getD i.toNat false with
      | true => rfl
      | false => exact absurd (.inl hb) h2
theorem Rel.lookLive {C : Ca} {T : RS} {ex : Nat → Prop} (h : Rel C T ex) {j : Nat} (hl : T.live j) : T.look (j : Int) = 0 := by
  unfold RS.look
  have h1 := RS.live_lt hl
  have h2 := hl.1
  have h3 := (h.files j hl).1
  rw [if_neg (by unfold RS.inodes; omega), if_neg]
  rintro (h4 | h4)
  · rw [Int.toNat_natCast] at h4; rw [hl.2] at h4; cases h4
  · rw [Int.toNat_natCast] at h4; omega
theorem opnOf_len {C : Ca} {T : RS} {f : RF} (h : FOk C T f) (hn : C.G.pages ≤ 4096) (j : Nat) : (opnOf f j).Len := ⟨(h.fit hn j).pages, (h.more hn j).1⟩
theorem loadR_len {C : Ca} {T : RS} (h : Rel C T (fun _ => False)) (i : Int) : (C.loadR T.inodes i).1.Len := by
  rw [h.loadR]
  show (if T.look i = 0 then opnOf (T.file i.toNat) i.toNat else Opn.none).Len
  split
  · rename_i h0
    exact opnOf_len (h.files _ (look_live h0).1).2 h.npl _
  · exact Opn.none_len
/-- What Get hands back. -/
def getR (T : RS) (i : Int) : Opn := if T.look i = 0 then opnOf (T.file i.toNat) i.toNat else Opn.none
theorem sget_any (s N : Nat) (i : Int) (T : RS) (R : Reg) (w : World) (h : StI w s T R N) :
    Calls Tryz.prog 94 #[.pointer (some ⟨s, 0, none⟩), .int .i64 i] w fun e w' => e = .returned (.tuple #[.agg (cellsI (getR T i)).toArray, .int .i64 (T.look i : Nat)]) ∧ StStep w s T R N w' := by
  obtain ⟨m, c, C, F, h1, h2, h3, h4, h5, h6, h7⟩ := h
  refine (get0_any s m c T.inodes i C R F w h1 h2 h3 h4.ino8.2.2.1 h4.ino8.2.2.2 h4.recInd (loadR_len h4 i)).mono ?_
  rintro e w' ⟨rfl, R', k1, k2, k3⟩
  rw [h4.loadR]
  exact ⟨rfl, R', ⟨m, c, C, F, k1, h2, h3, h4, h5, h6, h7⟩, k2, k3⟩
theorem swrite_any (s N j at_ : Nat) (b : Str) (v : Value) (T T' : RS) (R : Reg) (w : World) (h : StI w s T R N) (hl : T.live j) (hb : b ≠ []) (hsz : at_ + b.length ≤ 70656) (hv : BytesI w (fun k => ¬ R.m k) v b) (hw : T.write j at_ b = some T') :
    Calls Tryz.prog 49 #[.pointer (some ⟨s, 0, none⟩), .int .i64 j, .int .i64 at_, v] w fun e w' => e = .returned (.int .i64 0) ∧ StStep w s T' R N w' := by
  obtain ⟨m, c, C, F, h1, h2, h3, h4, h5, h6, h7⟩ := h
  obtain ⟨o1, C1, C2, C3, a1, a2, a3, a4, a5, a6, a7, a8, a9, a10, a11, a12, a13⟩ := h4.write h5 hl hsz hw
  have hlk := h4.lookLive hl
  have hlo := h4.loadR (j : Int)
  rw [hlk, if_pos rfl, Int.toNat_natCast] at hlo
  have hfo := (h4.files j hl).2
  have hl' : T'.live j := by unfold RS.live; rw [a8]; exact hl
  have hfo' := (a4.files j hl').2
  have hG3 : C3.G.pages = C.G.pages := by rw [a5.1]
  have hnpl := h4.npl
  have hs := h4.small
  have ho1s : o1.size = max (T.file j).bytes.length (at_ + b.length) := by rw [a12]; exact a13
  have hino : T'.inodes = T.inodes := by unfold RS.inodes; rw [a8]
  refine (iwr_any s m c T.inodes j at_ v b (opnOf (T.file j) j) o1 C C1 C2 C3 R F w h1 h2 h3 h4.ino8.2.2.1 h4.ino8.1 h4.ino8.2.2.2 h4.recInd hlo (opnOf_len hfo hnpl j) hv hb hsz hfo.size a1 a2 a3 a6.1 ?_ ?_ ?_ ?_ ho1s).mono ?_
  · intro k hk
    rw [ho1s] at hk
    rw [a12, opnOf_slot, ← hG3]
    exact (hfo'.own _ (pgs_data (getD_mem (by rw [a7 j, a13]; exact hk)))).2.1
  · rw [a12]; exact RS.live_lt hl
  · rw [a12, opnOf_ind, ← hG3]
    by_cases h0 : (T'.file j).ind = 0
    · rw [h0, hG3]; omega
    · exact (hfo'.own _ (pgs_ind h0)).2.1
  · rw [a12]; exact opnOf_len hfo' a4.npl j
  · rintro e w' ⟨rfl, R', k1, k2, k3⟩
    exact ⟨rfl, R', ⟨m, c, C3, F, k1, by rw [hino]; exact h2, h3, a4, a7, by rw [a5.1]; exact h6, by rw [a5.1]; exact h7⟩, k2, k3⟩
theorem sresize_any (s N j size : Nat) (T T' : RS) (R : Reg) (w : World) (h : StI w s T R N) (hl : T.live j) (hsz : size ≤ 70656) (hne : size ≠ (T.file j).bytes.length) (hw : T.resize j size = some T') :
    Calls Tryz.prog 52 #[.pointer (some ⟨s, 0, none⟩), .int .i64 j, .int .i64 size] w fun e w' => e = .returned (.int .i64 0) ∧ StStep w s T' R N w' := by
  obtain ⟨m, c, C, F, h1, h2, h3, h4, h5, h6, h7⟩ := h
  have hr := h4.resize (j := j) (size := size) (fun _ e => e.elim) h5 hl hsz
  rw [hw] at hr
  obtain ⟨C1, a1, a2, a3, a4⟩ := hr
  have hl' : T'.live j := by unfold RS.live; rw [a4.i]; exact hl
  obtain ⟨C2, b1, b2, b3, b4⟩ := a2.save hl'
  have hlk := h4.lookLive hl
  have hlo := h4.loadR (j : Int)
  rw [hlk, if_pos rfl, Int.toNat_natCast] at hlo
  have hfo := (h4.files j hl).2
  have hfo' := (a2.files j hl').2
  have hG3 : C1.G.pages = C.G.pages := by rw [a3.1]
  have hnpl := h4.npl
  have hs := h4.small
  have hino : T'.inodes = T.inodes := by unfold RS.inodes; rw [a4.i]
  have hbl : (T'.file j).bytes.length = size := by rw [a4.bytes, fitTo_length]
  refine (irs_any s m c T.inodes j size (opnOf (T.file j) j) (opnOf (T'.file j) j) C C1 C2 R F w h1 h2 h3 h4.ino8.2.2.1 h4.ino8.1 h4.ino8.2.2.2 h4.recInd hlo (opnOf_len hfo hnpl j) hsz hfo.size hne a1 b1 a3.1 ?_ (RS.live_lt hl) ?_ (opnOf_len hfo' a2.npl j)).mono ?_
  · intro h0
    rw [opnOf_slot, ← hG3]
    exact (hfo'.own _ (pgs_data (getD_mem (by rw [a4.tight j, hbl]; unfold npg; omega)))).2.1
  · rw [opnOf_ind, ← hG3]
    by_cases h0 : (T'.file j).ind = 0
    · rw [h0, hG3]; omega
    · exact (hfo'.own _ (pgs_ind h0)).2.1
  · rintro e w' ⟨rfl, R', k1, k2, k3⟩
    exact ⟨rfl, R', ⟨m, c, C2, F, k1, by rw [hino]; exact h2, h3, b2.mono (fun k e => e.2 e.1), a4.tight, by rw [b3, a3.1]; exact h6, by rw [b3, a3.1]; exact h7⟩, k2, k3⟩
theorem smake_any (s N j k md : Nat) (T : RS) (R : Reg) (w : World) (h : StI w s T R N) (ht : takeB T.i = some j) (hk : 1 ≤ k ∧ k ≤ 3) (hmd : md ≤ 4095) :
    Calls Tryz.prog 43 #[.pointer (some ⟨s, 0, none⟩), .int .i64 k, .int .i64 md] w fun e w' => e = .returned (.tuple #[.int .i64 j, .int .i64 0]) ∧ StStep w s (T.mkI j k md) R N w' := by
  obtain ⟨m, c, C, F, h1, h2, h3, h4, h5, h6, h7⟩ := h
  obtain ⟨C1, C2, a1, a2, a3, a4, a5, a6, a7⟩ := h4.mkInode ht hk hmd
  have hino : (T.mkI j k md).inodes = T.inodes := List.length_set ..
  refine (make_any s m c T.inodes k md j C C1 C2 R F w h1 h2 h3 h4.ino8.2.2.1 h4.ino8.1 (Nat.le_of_lt h4.ino8.2.2.2) hk hmd a1 a6 a2 a4).mono ?_
  rintro e w' ⟨rfl, R', k1, k2, k3⟩
  exact ⟨rfl, R', ⟨m, c, C2, F, k1, by rw [hino]; exact h2, h3, a3, mkI_tight h5 (by rw [h4.ino]; exact a6), by rw [a5.1]; exact h6, by rw [a5.1]; exact h7⟩, k2, k3⟩
theorem CacheAt.safe {w : World} {c : Nat} {C : Ca} {R : Reg} (h : CacheAt w c C R) : C.G.D.safe.length = C.G.D.first.length := by
  obtain ⟨_, p, _, _, h⟩ := h
  obtain ⟨a, came, RD, _, hD, _, _⟩ := h.log.cells
  exact hD.ok.len
theorem imap_any' (s m : Nat) (w : World) (h : w.heap[s]? = some (storeO m)) : Calls Tryz.prog 21 #[.pointer (some ⟨s, 0, none⟩)] w fun e w' => e = .returned (.pointer (some ⟨m, 0, none⟩)) ∧ w = w' := by
  have c0 : w.cell? ⟨s, 0, none⟩ = some (.pointer (some ⟨m, 0, none⟩)) := cell_of_heap h 0
  go_enter Tryz.func21, Tryz.ntmps21
  go_wp2
  go_ret
  exact ⟨rfl, rfl⟩
/-- s.Map().Cache().Commit(). -/
theorem scommit_any (s N : Nat) (T : RS) (R : Reg) (w : World) (h : StI w s T R N) (hN : N + 1000 < 1000000000) : ∃ m c,
    Calls Tryz.prog 21 #[.pointer (some ⟨s, 0, none⟩)] w (fun e w' => e = .returned (.pointer (some ⟨m, 0, none⟩)) ∧ w = w') ∧
    Calls Tryz.prog 22 #[.pointer (some ⟨m, 0, none⟩)] w (fun e w' => e = .returned (.pointer (some ⟨c, 0, none⟩)) ∧ w = w') ∧
    Calls Tryz.prog 23 #[.pointer (some ⟨c, 0, none⟩)] w fun e w' => e = .returned (.int .i64 0) ∧ StStep w s T R (N + 206) w' := by
  obtain ⟨m, c, C, F, h1, h2, h3, h4, h5, h6, h7⟩ := h
  refine ⟨m, c, imap_any' s m w (h1.fix _ h3).1, mcache_any m c T.inodes w (h1.fix _ h2).1, ?_⟩
  refine (hcommit_any c C R F w h1 h6 (by omega)).mono ?_
  rintro e w' ⟨rfl, G', hG, R', k1, k2, k3⟩
  have hrd : ∀ n, n < C.G.pages → (⟨G', C.most, []⟩ : Ca).rd n = C.rd n := fun n hn => hG.rd h1.at_.ok h1.at_.nodup h1.at_.safe hn
  have hpg : (⟨G', C.most, []⟩ : Ca).G.pages = C.G.pages := hG.pages
  have hs := h4.small
  have hrel : Rel ⟨G', C.most, []⟩ T (fun _ => False) := by
    have hok : (⟨G', C.most, []⟩ : Ca).Ok := k1.at_.ok
    refine { h4 with rm := ⟨hok, List.nodup_nil, by show G'.pages ≤ G'.cap; rw [hG.pages, hG.cap]; exact h4.rm.cap⟩, np := by rw [hpg]; exact h4.np, npl := by rw [hpg]; exact h4.npl, ino8 := by rw [hpg]; exact h4.ino8, len := fun n hn => ?_, pb := fun n hn => ?_, ib := fun j hj => ?_, files := fun j hl => ⟨(h4.files j hl).1, { (h4.files j hl).2 with own := fun n hn => by rw [hpg]; exact (h4.files j hl).2.own n hn, bytes := fun k hk => ?_ }⟩, rcd := fun j hl he => ⟨?_, fun h0 => ?_⟩ }
    · rw [hpg] at hn; rw [hrd n hn]; exact h4.len n hn
    · rw [hpg] at hn; rw [hrd 2 (by omega)]; exact h4.pb n hn
    · rw [hrd 1 (by omega)]; exact h4.ib j hj
    · rw [hrd _ (h4.table_free hl (pgs_data (getD_mem hk))).2]; exact (h4.files j hl).2.bytes k hk
    · have hlt := RS.live_lt hl
      have h8 := h4.ino8.1
      have : 3 + j / 8 < T.first := by unfold RS.first alFirst; omega
      rw [hrd _ (by omega)]; exact (h4.rcd j hl he).1
    · rw [hrd _ (h4.table_free hl (pgs_ind h0)).2]; exact (h4.rcd j hl he).2 h0
  exact ⟨rfl, R', ⟨m, c, _, F, k1, h2, h3, hrel, h5, hG.wait h6, by have := hG.ops h1.at_.ok; show G'.D.ops.length ≤ _; omega⟩, k2, k3⟩
end Go.Proofs.YtfgkgoddjemnfaaGreatDoor

namespace Go.Proofs.YtfgkgoddjemnfaaGreatDoor
open Go.RowKit Go.Shelf Pa
attribute [local go_sem] bs_toList bs_size
set_option maxRecDepth 100000 in
set_option maxHeartbeats 2000000 in
theorem ireadN_any (s m c ino at_ n e0 : Nat) (i : Int) (o : Opn) (C : Ca) (R : Reg) (F : List (Nat × Obj)) (w : World) (h : Held w F c C R) (hm : (m, mapO c ino) ∈ F) (hs : (s, storeO m) ∈ F) (hi : ino ≤ 512) (hp : alFirst ino < C.G.pages)
    (hv : ∀ j, 1 ≤ j → j < ino → bitAt (C.rd 1) j = true → (C.recd j).ind < C.G.pages) (hlo : C.loadR ino i = (o, e0)) (hlen : o.Len) (hc : e0 ≠ 0 ∨ (e0 = 0 ∧ o.size ≤ at_)) :
    Calls Tryz.prog 26 #[.pointer (some ⟨s, 0, none⟩), .int .i64 i, .int .i64 at_, .int .i64 n] w fun e w' => e = .returned (.tuple #[.slice none 0 0, .int .i64 e0]) ∧ Step w F c C R w' := by
  have hld := load_any s m c ino i C R F w h hm hs hi hp hv
  rw [hlo] at hld
  have ha0 : decide ((at_ : Int) < 0) = false := by simp
  have hn0 : decide ((n : Int) < 0) = false := by simp
  have HLd := Lib.hid hld
  have HLen := Lib.hid hlen
  clear hld hlen h hm hs hv hlo
  go_enter Tryz.func26, Tryz.ntmps26
  go_wp2_with fail
  refine HLd.out.mono ?_
  rintro e w1 ⟨rfl, hs1⟩
  have hst := opn_store (opn_new w1) o HLen.out
  obtain ⟨W3, hW3⟩ : ∃ W3, W3 = (w1.alloc (.cells Tryz.zeroCells123 123)).setRow w1.heap.size (cellsO o).toArray := ⟨_, rfl⟩
  rw [← hW3] at hst
  have hO3 : OpnAt W3 w1.heap.size o := by rw [hW3]; exact (opn_new w1).row o HLen.out
  have ho3 : Off (fun k => k = w1.heap.size) w1 W3 := by
    rw [hW3]
    exact ((Off.refl (fun k => k = w1.heap.size) w1).alloc _).trans (off_setRow _ _ _) (fun k e => .inl e)
  have hl144 := cellsO_length HLen.out
  have hsz3 := hO3.size
  have hfin : Step w F c C R W3 := by
    obtain ⟨R1, g1, t1, o1⟩ := hs1
    have hz := o1.size
    exact ⟨R1, g1.off ho3 (fun k hk e => by have := g1.lt _ hk; omega), t1, o1.trans ho3 (fun k e => .inr (by omega))⟩
  have HFin := Lib.hid hfin
  clear hW3 hO3 ho3 hfin hs1
  by_cases he : e0 = 0
  · subst he
    have hge : decide (o.size ≤ at_) = true := by simp; omega
    have hge2 : decide ((o.size : Int) ≤ (at_ : Int)) = true := by simp; omega
    clear hc
    go_wp2_with fail
    go_ret2
    exact ⟨rfl, HFin.out⟩
  · have he' : ((e0 : Int) != 0) = true := by simp; exact he
    clear hc he
    go_wp2_with fail
    go_ret2
    exact ⟨rfl, HFin.out⟩
/-- What Read hands back. -/
def readR (T : RS) (i : Int) (at_ n : Nat) : Str := if T.look i = 0 then ((T.file i.toNat).bytes.drop at_).take n else []
theorem stread_any (s N at_ n : Nat) (i : Int) (T : RS) (R : Reg) (w : World) (h : StI w s T R N) (hn : n ≤ 1000000) (hn0 : T.look i = 0 → at_ < (T.file i.toNat).bytes.length → 0 < n) :
    Calls Tryz.prog 26 #[.pointer (some ⟨s, 0, none⟩), .int .i64 i, .int .i64 at_, .int .i64 n] w fun e w' => ∃ v, e = .returned (.tuple #[v, .int .i64 (T.look i : Nat)]) ∧ StRd w s T R N (readR T i at_ n) v w' := by
  obtain ⟨m, c, C, F, h1, h2, h3, h4, h5, h6, h7⟩ := h
  have hnil : readR T i at_ n = [] → ∀ w', Step w F c C R w' → StRd w s T R N (readR T i at_ n) (.slice none 0 0) w' := fun e w' ⟨R', k1, k2, k3⟩ => by
    rw [e]
    exact ⟨R', World.ownsRow_nil _ _ _ _, ⟨m, c, C, F, k1, h2, h3, h4, h5, h6, h7⟩, k2, k3, fun k hk => by cases hk⟩
  have hlo := h4.loadR i
  by_cases h0 : T.look i = 0
  · obtain ⟨hl, hij, hlt, _⟩ := look_live h0
    rw [h0, if_pos rfl] at hlo
    have hfo := (h4.files _ hl).2
    have hnpl := h4.npl
    by_cases hat : at_ < (T.file i.toNat).bytes.length
    · have hrd := iread_any s m c T.inodes i.toNat at_ n (opnOf (T.file i.toNat) i.toNat) C R F w h1 h2 h3 h4.ino8.2.2.1 h4.ino8.2.2.2 h4.recInd (by rw [← hij]; exact hlo) (opnOf_len hfo hnpl _) hfo.size (fun k hk => by
        rw [opnOf_slot]
        exact (hfo.own _ (pgs_data (getD_mem (by rw [h5]; exact hk)))).2.1) hat hn (hn0 h0 hat)
      rw [← hij] at hrd
      refine hrd.mono ?_
      rintro e w' ⟨v, rfl, R', k1, k2, k3, k4, k5⟩
      rw [show (opnOf (T.file i.toNat) i.toNat).size = (T.file i.toNat).bytes.length from rfl, h4.bytes hl h5] at k1
      refine ⟨v, by rw [h0]; rfl, R', ?_, ⟨m, c, C, F, k2, h2, h3, h4, h5, h6, h7⟩, k3, k4, k5⟩
      unfold readR
      rw [if_pos h0]; exact k1
    · refine (ireadN_any s m c T.inodes at_ n 0 i _ C R F w h1 h2 h3 h4.ino8.2.2.1 h4.ino8.2.2.2 h4.recInd hlo (opnOf_len hfo hnpl _) (.inr ⟨rfl, by show (T.file i.toNat).bytes.length ≤ at_; omega⟩)).mono ?_
      rintro e w' ⟨rfl, hst⟩
      refine ⟨_, by rw [h0], hnil ?_ w' hst⟩
      unfold readR
      rw [if_pos h0, List.drop_eq_nil_of_le (by omega)]; exact List.take_nil
  · rw [if_neg h0] at hlo
    refine (ireadN_any s m c T.inodes at_ n (T.look i) i _ C R F w h1 h2 h3 h4.ino8.2.2.1 h4.ino8.2.2.2 h4.recInd hlo Opn.none_len (.inl h0)).mono ?_
    rintro e w' ⟨rfl, hst⟩
    refine ⟨_, rfl, hnil ?_ w' hst⟩
    unfold readR
    rw [if_neg h0]
end Go.Proofs.YtfgkgoddjemnfaaGreatDoor

namespace Go.Proofs.YtfgkgoddjemnfaaGreatDoor
open Go.RowKit Go.Shelf Pa
attribute [local go_sem] bs_toList bs_size
theorem OwnB.base {w : World} {B B' : Nat} {v : Value} {x : Str} (h : OwnB w B v x) (hB : B' ≤ B) : OwnB w B' v x := by
  obtain ⟨h1, h⟩ := h
  exact ⟨h1, h.imp id fun ⟨g, cap, cur, e1, e2, e3⟩ => ⟨g, cap, cur, e1, by omega, e3⟩⟩
theorem StRd.from_ {w w1 w' : World} {s : Nat} {T : RS} {R R1 : Reg} {N : Nat} {x : Str} {v : Value} (ht : R.To R1 w.heap.size) (ho : Off R.m w w1) (h : StRd w1 s T R1 N x v w') : StRd w s T R N x v w' := by
  obtain ⟨R2, h1, h2, h3, h4, h5⟩ := h
  exact ⟨R2, h1.base ho.size, h2, ht.trans h3 ho.size, ho.trans h4 ht.m, h5⟩
/-- The error of a look at a directory; its bytes. -/
def lookE (T : RS) (i : Int) : Nat := if T.look i ≠ 0 then T.look i else if (T.file i.toNat).kind ≠ 2 then 10 else 0
def lookB (T : RS) (i : Int) : Str := if lookE T i = 0 then (T.file i.toNat).bytes else []
theorem lookE_ok {T : RS} {i : Int} (h : lookE T i = 0) : T.look i = 0 ∧ (T.file i.toNat).kind = 2 := by
  unfold lookE at h
  by_cases h1 : T.look i = 0
  · rw [if_neg (fun e => e h1)] at h
    by_cases h2 : (T.file i.toNat).kind = 2
    · exact ⟨h1, h2⟩
    · rw [if_pos h2] at h; cases h
  · rw [if_pos h1] at h; exact absurd h h1
set_option maxRecDepth 100000 in
set_option maxHeartbeats 2000000 in
theorem look_any' (s N : Nat) (i : Int) (T : RS) (R : Reg) (w : World) (h : StI w s T R N) :
    Calls Tryz.prog 46 #[.pointer (some ⟨s, 0, none⟩), .int .i64 i] w fun e w' => ∃ v, e = .returned (.tuple #[v, .int .i64 (lookE T i : Nat)]) ∧ StRd w s T R N (lookB T i) v w' := by
  have hge := sget_any s N i T R w h
  have hlen : (getR T i).Len := by
    obtain ⟨m, c, C, F, _, _, _, h4, _⟩ := h
    have := loadR_len h4 i
    rw [h4.loadR] at this
    exact this
  have hsz : T.look i = 0 → (T.file i.toNat).bytes.length ≤ 70656 := fun h0 => by
    obtain ⟨m, c, C, F, _, _, _, h4, _⟩ := h
    exact (h4.files _ (look_live h0).1).2.size
  have hnil : ∀ w1, StStep w s T R N w1 → ∀ wx, Below w1.heap.size w1 wx ∨ Off (fun k => k = w1.heap.size) w1 wx → lookB T i = [] → StRd w s T R N (lookB T i) (.slice none 0 0) wx := fun w1 ⟨R1, g1, t1, o1⟩ wx ho e => by
    rw [e]
    have hz := o1.size
    have ho' : Off (fun k => k = w1.heap.size) w1 wx := by
      rcases ho with ho | ho
      · exact Off.of_below ho _
      · exact ho
    exact ⟨R1, World.ownsRow_nil _ _ _ _, g1.off ho' (fun k hk e => by have := g1.lt _ hk; omega), t1, o1.trans ho' (fun k e => .inr (by omega)), fun k hk => by cases hk⟩
  obtain ⟨o, ho⟩ : ∃ o, o = getR T i := ⟨_, rfl⟩
  rw [← ho] at hge hlen
  have HGe := Lib.hid hge
  have HLen := Lib.hid hlen
  have HNil := Lib.hid hnil
  have HO := Lib.hid ho
  clear hge hlen hnil h ho
  go_enter Tryz.func46, Tryz.ntmps46
  go_wp2_with fail
  refine HGe.out.mono ?_
  rintro e w1 ⟨rfl, hs1⟩
  have hc0 := alloc_at w1 (.cells #[.int .i64 0, .int .i64 0, .int .i64 0, .int .i64 0, .int .i64 0, .int .i64 0, .int .i64 0, .int .i64 0, .int .i64 0, .int .i64 0, .int .i64 0, .int .i64 0, .int .i64 0, .int .i64 0, .int .i64 0] 120) _ rfl
  have hst := inode_store hc0 rfl o HLen.out
  obtain ⟨W3, hW3⟩ : ∃ W3, W3 = (w1.alloc (.cells #[.int .i64 0, .int .i64 0, .int .i64 0, .int .i64 0, .int .i64 0, .int .i64 0, .int .i64 0, .int .i64 0, .int .i64 0, .int .i64 0, .int .i64 0, .int .i64 0, .int .i64 0, .int .i64 0, .int .i64 0] 120)).setRow w1.heap.size (cellsI o).toArray := ⟨_, rfl⟩
  rw [← hW3] at hst
  have hrow : W3.heap[w1.heap.size]? = some (.cells (cellsI o).toArray 120 (0, 0)) := by rw [hW3]; exact heap_setRow _ _ _ _ hc0
  have ho3 : Off (fun k => k = w1.heap.size) w1 W3 := by
    rw [hW3]
    exact ((Off.refl (fun k => k = w1.heap.size) w1).alloc _).trans (off_setRow _ _ _) (fun k e => .inl e)
  have hk3 : W3.cell? ⟨w1.heap.size, 0, none⟩ = some (.int .i64 o.kind) := by rw [cell_of_heap hrow]; rfl
  have hs3 : W3.cell? ⟨w1.heap.size, 3, none⟩ = some (.int .i64 o.size) := by rw [cell_of_heap hrow]; rfl
  have hl15 := cellsI_length HLen.out
  have HO3 := Lib.hid ho3
  have HS1 := Lib.hid hs1
  clear hc0 hW3 hrow ho3 hs1
  by_cases h0 : T.look i = 0
  · have hok : o = opnOf (T.file i.toNat) i.toNat := by rw [HO.out]; unfold getR; rw [if_pos h0]
    have hkd : o.kind = (T.file i.toNat).kind := by rw [hok]; rfl
    have hsd : o.size = (T.file i.toNat).bytes.length := by rw [hok]; rfl
    rw [hkd] at hk3
    rw [hsd] at hs3
    have hsz0 := hsz h0
    obtain ⟨kd, hkde⟩ : ∃ k, k = (T.file i.toNat).kind := ⟨_, rfl⟩
    obtain ⟨sz, hsze⟩ : ∃ k, k = (T.file i.toNat).bytes.length := ⟨_, rfl⟩
    rw [← hkde] at hk3
    rw [← hsze] at hs3 hsz0
    by_cases hk2 : kd = 2
    · have hk2' : ((kd : Int) != 2) = false := by rw [hk2]; rfl
      have hE : lookE T i = 0 := by unfold lookE; rw [if_neg (fun e => e h0), if_neg (fun e => e (by rw [← hkde]; exact hk2))]
      have hB : lookB T i = readR T i 0 sz := by
        unfold lookB readR
        rw [if_pos hE, if_pos h0, List.drop_zero, hsze, List.take_length]
      have hrd : ∃ R1, R.To R1 w.heap.size ∧ Off R.m w W3 ∧ Calls Tryz.prog 26 #[.pointer (some ⟨s, 0, none⟩), .int .i64 i, .int .i64 0, .int .i64 sz] W3 fun e w' => ∃ v, e = .returned (.tuple #[v, .int .i64 (T.look i : Nat)]) ∧ StRd W3 s T R1 N (readR T i 0 sz) v w' := by
        obtain ⟨R1, g1, t1, o1⟩ := HS1.out
        have hz := o1.size
        exact ⟨R1, t1, o1.trans HO3.out (fun k e => .inr (by omega)), stread_any s N 0 sz i T R1 W3 (g1.off HO3.out (fun k hk e => by have := g1.lt _ hk; omega)) (by omega) (fun _ hlt => by omega)⟩
      obtain ⟨R1, t1, o1, hrd⟩ := hrd
      rw [h0] at hrd
      have HRd := Lib.hid hrd
      have HT := Lib.hid (⟨t1, o1⟩ : _ ∧ _)
      have HE := Lib.hid hE
      have HB := Lib.hid hB
      have HH0 := Lib.hid h0
      clear hrd t1 o1 hE hB hkd hsd hok hkde hsze hsz hk2
      rw [h0]
      clear h0
      go_wp2_with fail
      refine HRd.out.mono ?_
      rintro e w2 ⟨v, rfl, hr⟩
      have HF := Lib.hid (StRd.from_ HT.out.1 HT.out.2 hr)
      clear hr
      go_wp2_with fail
      go_ret2
      exact ⟨v, by rw [HE.out]; rfl, by rw [HB.out]; exact HF.out⟩
    · have hk2' : ((kd : Int) != 2) = true := by simp; omega
      have hE : lookE T i = 10 := by unfold lookE; rw [if_neg (fun e => e h0), if_pos (by rw [← hkde]; exact hk2)]
      have hB : lookB T i = [] := by unfold lookB; rw [if_neg (by rw [hE]; decide)]
      have HF := Lib.hid (HNil.out w1 HS1.out W3 (.inr HO3.out) hB)
      have HE := Lib.hid hE
      clear hE hB hkd hsd hok hkde hsze hsz hk2
      rw [h0]
      clear h0
      go_wp2_with fail
      go_ret2
      exact ⟨_, by rw [HE.out]; rfl, HF.out⟩
  · have hE : lookE T i = T.look i := by unfold lookE; rw [if_pos h0]
    have hB : lookB T i = [] := by unfold lookB; rw [if_neg (by rw [hE]; exact h0)]
    have HF := Lib.hid (HNil.out w1 HS1.out W3 (.inr HO3.out) hB)
    have h0' : (((T.look i : Nat) : Int) != 0) = true := by simp; exact h0
    have HE := Lib.hid hE
    clear hE hB hsz h0
    go_wp2_with fail
    go_ret2
    exact ⟨_, by rw [HE.out]; rfl, HF.out⟩
end Go.Proofs.YtfgkgoddjemnfaaGreatDoor

namespace Go.Proofs.YtfgkgoddjemnfaaGreatDoor
open Go.RowKit Go.Shelf Pa
def two : ByteArray := ⟨#[47, 0]⟩
/-- Is a byte one of the two? -/
def isBad (x : UInt8) : Bool := x == 47 || x == 0
/-- What a rune of a text is: its one byte, if that is below 128; else it is 128 at least, and its bytes are. -/
theorem decode_two (s : ByteArray) (i : Nat) (hi : i < s.size) :
    ((s[i]'hi).toNat < 128 ∧ Utf8.decode s i = ((s[i]'hi).toNat, 1)) ∨
    (128 ≤ (Utf8.decode s i).1 ∧ ((Utf8.decode s i).1 < 55296 ∨ 57344 ≤ (Utf8.decode s i).1 ∧ (Utf8.decode s i).1 ≤ 1114111) ∧ 1 ≤ (Utf8.decode s i).2 ∧ i + (Utf8.decode s i).2 ≤ s.size ∧
      ∀ j (hj : j < s.size), i ≤ j → j < i + (Utf8.decode s i).2 → 128 ≤ (s[j]'hj).toNat) := by
  have hg : ∀ k (hk : k < s.size), s.get! k = s[k]'hk := fun k hk => by
    show s.data[k]! = _
    rw [getElem!_pos s.data k hk]; rfl
  rw [Lib.decode_at]
  have e0 := hg i hi
  rcases Lib.decodeN_shape (s.size - i) (s.get! i).toNat (s.get! (i + 1)).toNat (s.get! (i + 2)).toNat (s.get! (i + 3)).toNat with h | h | h | h | h
  · left; rw [e0] at h ⊢; exact h
  · obtain ⟨h0, hn, h1, hc, e⟩ := h
    right; rw [e]
    refine ⟨hc, by omega, by omega, by show i + 2 ≤ _; omega, fun j hj h1' h2' => ?_⟩
    have : j = i ∨ j = i + 1 := by have : j < i + 2 := h2'; omega
    rcases this with rfl | rfl
    · rw [← hg _ hj]; omega
    · rw [← hg _ hj]; omega
  · obtain ⟨h0, hn, h1, h2, hc, hv, e⟩ := h
    right; rw [e]
    refine ⟨by show 128 ≤ _; omega, by show _ ∨ _; omega, by show 1 ≤ 3; omega, by show i + 3 ≤ _; omega, fun j hj h1' h2' => ?_⟩
    have : j = i ∨ j = i + 1 ∨ j = i + 2 := by have : j < i + 3 := h2'; omega
    rcases this with rfl | rfl | rfl <;> (rw [← hg _ hj]; omega)
  · obtain ⟨h0, hn, h1, h2, h3, hc, hv, e⟩ := h
    right; rw [e]
    refine ⟨by show 128 ≤ _; omega, by show _ ∨ _; omega, by show 1 ≤ 4; omega, by show i + 4 ≤ _; omega, fun j hj h1' h2' => ?_⟩
    have : j = i ∨ j = i + 1 ∨ j = i + 2 ∨ j = i + 3 := by have : j < i + 4 := h2'; omega
    rcases this with rfl | rfl | rfl | rfl <;> (rw [← hg _ hj]; omega)
  · by_cases ha : (s[i]'hi).toNat < 128
    · left
      refine ⟨ha, ?_⟩
      unfold Lib.decodeN
      rw [e0, if_pos ha]
    · right; rw [h]
      refine ⟨by show 128 ≤ 65533; omega, by show _ ∨ _; omega, by show 1 ≤ 1; omega, by show i + 1 ≤ _; omega, fun j hj h1' h2' => ?_⟩
      have : j = i := by have : j < i + 1 := h2'; omega
      subst this
      omega
/-- The bytes of a rune above 127. -/
theorem encode_high (c : Nat) (h : 128 ≤ c) (hv : c < 55296 ∨ 57344 ≤ c ∧ c ≤ 1114111) :
    (∃ a b : UInt8, Utf8.encode (c : Int) = ⟨#[a, b]⟩ ∧ 128 ≤ b.toNat) ∨ (∃ a b d : UInt8, Utf8.encode (c : Int) = ⟨#[a, b, d]⟩) ∨ ∃ a b d e : UInt8, Utf8.encode (c : Int) = ⟨#[a, b, d, e]⟩ := by
  have hval : Utf8.valid (c : Int) = true := by
    unfold Utf8.valid
    simp only [Bool.or_eq_true, Bool.and_eq_true, decide_eq_true_eq]
    omega
  unfold Utf8.encode
  simp only [hval, if_true, Int.toNat_natCast]
  rw [if_neg (by omega)]
  split
  · left
    refine ⟨_, _, rfl, ?_⟩
    rw [UInt8.toNat_ofNat']
    omega
  · split
    · right; left; exact ⟨_, _, _, rfl⟩
    · right; right; exact ⟨_, _, _, _, rfl⟩
set_option maxRecDepth 100000 in
set_option maxHeartbeats 800000 in
theorem indexRune_err (w : World) :
    Calls Tryz.prog 174 #[.string two, .int .i32 65533] w fun e w' => e = .returned (.int .i64 (-1)) ∧ BelowD w.heap.size w w' := by
  unfold two
  go_enter Tryz.func174, Tryz.ntmps174
  go_wp2_with fail
  go_loopg [5, 6] 2 (fun g _ _ wx => ∃ i : Nat, i + g = 2 ∧ wx = w.iter ⟨#[47, 0]⟩ i)
  case atStart => exact ⟨0, by omega, rfl⟩
  case round =>
    obtain ⟨i, hig, rfl⟩ := hrel
    cases gk with
    | zero =>
      obtain rfl : i = 2 := by omega
      have hnx := run_next_end (P := Tryz.prog) w ⟨#[47, 0]⟩ 2
      go_wp2
      go_ret
      exact ⟨rfl, (BelowD.refl _ _).alloc (Nat.le_refl _) _⟩
    | succ g =>
      have hi : i = 0 ∨ i = 1 := by omega
      rcases hi with rfl | rfl
      · have hnx := fun ty => run_next_ascii (P := Tryz.prog) w ⟨#[47, 0]⟩ 0 ty (by decide) (by decide)
        go_wp2
        go_roundg g
        case measure => omega
        case rel => exact ⟨1, by omega, rfl⟩
      · have hnx := fun ty => run_next_ascii (P := Tryz.prog) w ⟨#[47, 0]⟩ 1 ty (by decide) (by decide)
        go_wp2
        go_roundg g
        case measure => omega
        case rel => exact ⟨2, by omega, rfl⟩
set_option maxRecDepth 100000 in
set_option maxHeartbeats 800000 in
theorem indexRune_high (c : Nat) (w : World) (h : 128 ≤ c) (hv : c < 55296 ∨ 57344 ≤ c ∧ c ≤ 1114111) (hne : c ≠ 65533) :
    Calls Tryz.prog 174 #[.string two, .int .i32 c] w fun e w' => e = .returned (.int .i64 (-1)) ∧ BelowD w.heap.size w w' := by
  have h1 : (0 : Int) ≤ c := by omega
  have h2 : ¬ ((c : Int) < 128) := by omega
  have h3 : ((c : Int) == 65533) = false := by simp; omega
  have hvr : Calls Tryz.prog 200 #[.int .i32 c] w fun e w' => e = .returned (.bool true) ∧ w' = w := by
    have hval : Lib.validRune (c : Int) = true := by
      unfold Lib.validRune
      simp
      omega
    rw [← hval]
    exact Tryz.utf8_ValidRune c w
  have h4 := encode_high c h hv
  clear h hv hne
  unfold two
  rcases h4 with ⟨a, b, he, hb⟩ | ⟨a, b, d, he⟩ | ⟨a, b, d, e', he⟩
  · have hb1 : ((0 : Int) != (b.toNat : Int)) = true := by rw [bne_iff_ne]; omega
    have hb2 : ((0 : Int) == (b.toNat : Int)) = false := by rw [beq_eq_false_iff_ne]; omega
    have hix : Lib.indexByte ([] : List UInt8) b = -1 := rfl
    have i1 : ∀ h, (⟨#[47, 0]⟩ : ByteArray)[1]'h = 0 := fun _ => rfl
    have i2 : ∀ h, (⟨#[a, b]⟩ : ByteArray)[1]'h = b := fun _ => rfl
    have hz : ((0 : UInt8).toNat : Int) = 0 := rfl
    go_enter Tryz.func174, Tryz.ntmps174
    go_wp2_with (go_at_call 200; refine hvr.mono ?_; rintro e w' ⟨rfl, rfl⟩)
    go_step3
    go_wp2_with fail
    apply wp_loop_once
    go_wp2_with fail
    go_step3
    go_wp2_with fail
    go_region
    all_goals go_wp2_with fail
    have hb0 : BelowD w'.heap.size w' w'.drew := (BelowD.refl _ _).drew
    generalize w'.drew = W1 at hb0 ⊢
    have hcon : ∀ W : World, Calls Tryz.prog 199 #[.string ByteArray.empty, .int .u8 b.toNat] W fun e w' => e = .returned (.int .i64 (-1)) ∧ w' = W := fun W => by
      have := Tryz.strings_IndexByte ByteArray.empty (b.toNat : Int) W
      simpa [Lib.indexByte] using this
    have hw2 : IntKind.i64.wrap 2 = 2 := by decide
    go_quiet ((go_at_call 199; exact Calls.quiet_of_same (hcon _)))
    go_wp2_with fail
    simp only [Exit.noGoto_ret, Exit.inBlock]
    go_wp2
    simp only [Exit.noGoto_ret, Exit.inBlock]
    go_wp2
    go_ret
    exact ⟨rfl, belowD_drewN hb0 _⟩
  · go_enter Tryz.func174, Tryz.ntmps174
    go_wp2_with (go_at_call 200; refine hvr.mono ?_; rintro e w' ⟨rfl, rfl⟩)
    go_step3
    go_wp2_with fail
    apply wp_loop_once
    go_wp2
    rw [Exit.noGoto_ret]
    go_ret
    exact ⟨rfl, BelowD.refl _ _⟩
  · go_enter Tryz.func174, Tryz.ntmps174
    go_wp2_with (go_at_call 200; refine hvr.mono ?_; rintro e w' ⟨rfl, rfl⟩)
    go_step3
    go_wp2_with fail
    apply wp_loop_once
    go_wp2
    rw [Exit.noGoto_ret]
    go_ret
    exact ⟨rfl, BelowD.refl _ _⟩
/-- strings.IndexRune at the two bytes. -/
theorem indexRune_any (s : ByteArray) (i : Nat) (hi : i < s.size) (w : World) :
    Calls Tryz.prog 174 #[.string two, .int .i32 ((Utf8.decode s i).1 : Nat)] w fun e w' => ∃ r : Int, e = .returned (.int .i64 r) ∧ BelowD w.heap.size w w' ∧ (0 ≤ r ↔ isBad (s[i]'hi) = true) ∧ -1 ≤ r ∧ r ≤ 1 := by
  rcases decode_two s i hi with ⟨h1, e⟩ | ⟨h1, h2, h3, h4, h5⟩
  · rw [e]
    refine (Tryz.strings_IndexRune_ascii two ((s[i]'hi).toNat : Int) w (by omega) (by omega)).mono ?_
    rintro e w' ⟨rfl, rfl⟩
    refine ⟨_, rfl, BelowD.refl _ _, ?_, ?_⟩
    · have hx : ((((s[i]'hi).toNat : Int)).toNat.toUInt8) = s[i]'hi := by simp
      rw [hx]
      generalize s[i]'hi = x
      show 0 ≤ Lib.indexByte [47, 0] x ↔ _
      unfold isBad
      by_cases h47 : x = 47
      · subst h47; simp [Lib.indexByte]
      · by_cases h0 : x = 0
        · subst h0; decide
        · simp [Lib.indexByte, h47, h0, Ne.symm h47, Ne.symm h0]
    · have hx : ((((s[i]'hi).toNat : Int)).toNat.toUInt8) = s[i]'hi := by simp
      rw [hx]
      generalize s[i]'hi = x
      show -1 ≤ Lib.indexByte [47, 0] x ∧ Lib.indexByte [47, 0] x ≤ 1
      by_cases h47 : x = 47
      · subst h47; decide
      · by_cases h0 : x = 0
        · subst h0; decide
        · simp [Lib.indexByte, Ne.symm h47, Ne.symm h0]
  · have hb := h5 i hi (Nat.le_refl _) (by omega)
    have hbad : isBad (s[i]'hi) = false := by
      unfold isBad
      simp only [Bool.or_eq_false_iff, beq_eq_false_iff_ne]
      constructor <;> (intro e; rw [e] at hb; simp at hb)
    rw [hbad]
    have fin : Calls Tryz.prog 174 #[.string two, .int .i32 ((Utf8.decode s i).1 : Nat)] w fun e w' => e = .returned (.int .i64 (-1)) ∧ BelowD w.heap.size w w' := by
      by_cases he : (Utf8.decode s i).1 = 65533
      · rw [he]; exact indexRune_err w
      · exact indexRune_high _ w h1 h2 he
    exact fin.mono fun e w' ⟨a, b⟩ => ⟨-1, a, b, by simp, by omega, by omega⟩
end Go.Proofs.YtfgkgoddjemnfaaGreatDoor

namespace Go.Proofs.YtfgkgoddjemnfaaGreatDoor
open Go.RowKit Go.Shelf Pa
theorem indexAny_bad : ∀ l : Str, 0 ≤ Lib.indexAny l [47, 0] ↔ l.any isBad = true
  | [] => by simp [Lib.indexAny]
  | b :: l => by
    have ih := indexAny_bad l
    have hge := Lib.indexAny_ge [47, 0] l
    rw [Lib.indexAny, List.any_cons]
    have hc : ([47, 0] : List UInt8).contains b = isBad b := by rw [isBad]; simp only [List.contains_cons, List.contains_nil, Bool.or_false]
    rw [hc]
    cases hb : isBad b
    · simp only [Bool.false_eq_true, if_false, Bool.false_or]
      rw [← ih]
      split
      · rename_i h; have := beq_iff_eq.1 h; omega
      · rename_i h; have : Lib.indexAny l [47, 0] ≠ -1 := fun e => h (beq_iff_eq.2 e); omega
    · simp
theorem any_bad_at (s : ByteArray) (i : Nat) (hi : i < s.size) (hb : isBad (s[i]'hi) = true) : s.data.toList.any isBad = true :=
  List.any_eq_true.2 ⟨_, List.mem_of_getElem? (Lib.data_getElem? s i hi), hb⟩
/-- No byte of the first ones is one of the two. -/
def NoBad (s : ByteArray) (i : Nat) : Prop := ∀ j (hj : j < s.size), j < i → isBad (s[j]'hj) = false
theorem NoBad.all {s : ByteArray} (h : NoBad s s.size) : s.data.toList.any isBad = false := by
  rw [List.any_eq_false]
  intro x hx
  obtain ⟨j, hj, e⟩ := List.mem_iff_getElem.1 hx
  have hj' : j < s.size := by simpa using hj
  have h1 := h j hj' hj'
  have h2 : s[j]'hj' = x := e
  rw [h2] at h1
  simp [h1]
theorem NoBad.step {s : ByteArray} {i : Nat} (h : NoBad s i) (hi : i < s.size) (hb : isBad (s[i]'hi) = false) : NoBad s (i + (Utf8.decode s i).2) ∧ i < i + (Utf8.decode s i).2 ∧ i + (Utf8.decode s i).2 ≤ s.size := by
  rcases decode_two s i hi with ⟨_, e⟩ | ⟨_, _, h3, h4, h5⟩
  · rw [e]
    refine ⟨fun j hj hlt => ?_, by simp, by show i + 1 ≤ _; omega⟩
    have : j < i + 1 := hlt
    rcases Nat.lt_or_ge j i with h' | h'
    · exact h j hj h'
    · obtain rfl : j = i := by omega
      exact hb
  · refine ⟨fun j hj hlt => ?_, by omega, h4⟩
    rcases Nat.lt_or_ge j i with h' | h'
    · exact h j hj h'
    · have hb' := h5 j hj h' hlt
      unfold isBad
      simp only [Bool.or_eq_false_iff, beq_eq_false_iff_ne]
      constructor <;> (intro e; rw [e] at hb'; simp at hb')
set_option maxHeartbeats 800000 in
theorem indexAny_short (s : ByteArray) (w : World) (h8 : s.size ≤ 8) :
    Calls Tryz.prog 130 #[.string s, .string two] w fun e w' => ∃ r : Int, e = .returned (.int .i64 r) ∧ BelowD w.heap.size w w' ∧ (0 ≤ r ↔ s.data.toList.any isBad = true) := by
  have h8z : decide ((8 : Int) < (s.size : Int)) = false := decide_eq_false (by omega)
  have hR := fun i (hi : i < s.size) w => indexRune_any s i hi w
  have HR := Lib.hid hR
  clear hR
  unfold two
  go_enter Tryz.func130, Tryz.ntmps130
  go_wp2_with (go_at_call 175; refine (Tryz.strings_shouldUseASCIISet _ _).mono ?_; rintro e w' ⟨rfl, hw⟩; obtain rfl := hw.symm)
  go_loopg [9, 10] s.size (fun g _ _ wx => ∃ i : Nat, i + g = s.size ∧ wx.heap[w.heap.size]? = some (.stringIter s i) ∧ NoBad s i ∧ BelowD w.heap.size w wx)
  case atStart => exact ⟨0, by omega, World.iter_heap _ _ _, fun _ _ h => absurd h (Nat.not_lt_zero _), (BelowD.refl _ _).alloc (Nat.le_refl _) _⟩
  case round =>
    obtain ⟨i, hig, hit, hno, hb⟩ := hrel
    obtain ⟨wx, rfl⟩ : ∃ wx, wx = wr := ⟨_, rfl⟩
    have HN := Lib.hid hno
    clear hno
    cases gk with
    | zero =>
      obtain rfl : i = s.size := by omega
      have hnx := fun ty => Lib.run_next_end_at (P := Tryz.prog) wx _ s s.size ty hit (by omega)
      clear hit
      go_wp2
      go_ret
      exact ⟨-1, rfl, hb, by rw [HN.out.all]; simp⟩
    | succ g =>
      have hi : i < s.size := by omega
      have hnx := fun ty => Lib.run_next_any_at (P := Tryz.prog) wx _ s i ty hit hi
      have hit' := Lib.iterAt_heap wx _ s i (i + (Utf8.decode s i).2) hit
      have hb' : BelowD w.heap.size w (wx.iterAt w.heap.size s (i + (Utf8.decode s i).2)) := hb.trans ⟨⟨rfl, rfl, rfl, by simp [World.iterAt], fun k hk => by simp only [World.iterAt]; rw [Array.getElem?_setIfInBounds_ne (by omega)]⟩, Nat.le_refl _⟩
      have HI := Lib.hid hit'
      clear hit hit'
      go_wp2_with fail
      generalize wx.iterAt w.heap.size s (i + (Utf8.decode s i).2) = W1 at hb' HI ⊢
      refine (HR.out i hi W1).mono ?_
      rintro e w2 ⟨r, rfl, hb2, hr, hr1, hr2⟩
      have hlt : w.heap.size < W1.heap.size := (Array.getElem?_eq_some_iff.1 HI.out).1
      have hb3 := hb'.trans (hb2.mono (Nat.le_of_lt hlt))
      have hit2 := (hb2.block _ hlt).trans HI.out
      by_cases hr0 : 0 ≤ r
      · have hfin := any_bad_at s i hi (hr.1 hr0)
        clear hit2 hr
        go_wp2
        go_ret
        exact ⟨i, rfl, hb3, by rw [hfin]; simp⟩
      · have hbad : isBad (s[i]'hi) = false := by
          cases h : isBad (s[i]'hi)
          · rfl
          · exact absurd (hr.2 h) hr0
        obtain ⟨s1, s2, s3⟩ := HN.out.step hi hbad
        have HI2 := Lib.hid hit2
        clear hit2 hr
        go_wp2
        go_roundg (s.size - (i + (Utf8.decode s i).2))
        case measure => omega
        case rel => exact ⟨i + (Utf8.decode s i).2, by omega, HI2.out, s1, hb3⟩
theorem indexAny_two (s : ByteArray) (w : World) (hs : s.size < 4294967281) :
    Calls Tryz.prog 130 #[.string s, .string two] w fun e w' => ∃ r : Int, e = .returned (.int .i64 r) ∧ BelowD w.heap.size w w' ∧ (0 ≤ r ↔ s.data.toList.any isBad = true) := by
  by_cases h8 : s.size ≤ 8
  · exact indexAny_short s w h8
  · refine (Tryz.strings_IndexAny_long (fun _ => by kernel_rfl) s two w (by decide) (by omega) hs (by decide) ?_).mono ?_
    · intro j b hj
      have : two.data.toList = [47, 0] := rfl
      rw [this] at hj
      match j, hj with
      | 0, hj => simp at hj; subst hj; decide
      | 1, hj => simp at hj; subst hj; decide
      | j + 2, hj => simp at hj
    · rintro e w' ⟨rfl, rfl⟩
      exact ⟨_, rfl, ((BelowD.refl _ _).alloc (Nat.le_refl _) _).alloc (by simp) _, indexAny_bad _⟩
set_option maxHeartbeats 400000 in
theorem containsAny_two (s : ByteArray) (w : World) (hs : s.size < 4294967281) :
    Calls Tryz.prog 69 #[.string s, .string two] w fun e w' => e = .returned (.bool (s.data.toList.any isBad)) ∧ BelowD w.heap.size w w' := by
  have hc := indexAny_two s w hs
  unfold two at *
  go_enter Tryz.func69, Tryz.ntmps69
  go_wp2_with fail
  refine hc.mono ?_
  rintro e w' ⟨r, rfl, hb, hr⟩
  have : s.data.toList.any isBad = decide (0 ≤ r) := by
    rw [Bool.eq_iff_iff, ← hr, decide_eq_true_eq]
  have HR := Lib.hid this
  clear this hr
  go_wp2
  go_ret
  exact ⟨ret_bool HR.out.symm, hb⟩
theorem any_isBad : ∀ s : Str, s.any isBad = (s.contains 47 || s.contains 0)
  | [] => rfl
  | b :: l => by
    have h1 : (47 == b) = (b == 47) := by rw [Bool.eq_iff_iff, beq_iff_eq, beq_iff_eq]; exact eq_comm
    have h2 : (0 == b) = (b == 0) := by rw [Bool.eq_iff_iff, beq_iff_eq, beq_iff_eq]; exact eq_comm
    rw [List.any_cons, any_isBad l, isBad, List.contains_cons, List.contains_cons, h1, h2]
    cases (b == 47) <;> cases (b == 0) <;> cases l.contains 47 <;> simp
theorem nameOk_eq (s : Str) : nameOk s = (!s.isEmpty && decide (s.length ≤ 59) && s != [46] && s != [46, 46] && !s.any isBad) := by
  rw [any_isBad, nameOk, Bool.not_or]
  simp only [Bool.and_assoc]
attribute [local go_sem] bs_toList bs_size
set_option maxHeartbeats 400000 in
theorem isName_any (s : Str) (w : World) :
    Calls Tryz.prog 34 #[.string (bs s)] w fun e w' => e = .returned (.bool (nameOk s)) ∧ BelowD w.heap.size w w' := by
  go_enter Tryz.func34, Tryz.ntmps34
  go_wp2_with (go_at_call 69; refine (containsAny_two _ _ (by simp only [bs_size]; omega)).mono ?_; rintro e w' ⟨rfl, hb⟩)
  · have h : s = [] := by assumption
    go_ret
    exact ⟨ret_bool (by rw [h]; rfl), BelowD.refl _ _⟩
  · have h : s = [46] := by assumption
    go_ret
    exact ⟨ret_bool (by rw [h]; rfl), BelowD.refl _ _⟩
  · have h : s = [46, 46] := by assumption
    go_ret
    exact ⟨ret_bool (by rw [h]; rfl), BelowD.refl _ _⟩
  · have h1 : (s.length : Int) ≤ 59 := by assumption
    go_ret
    refine ⟨ret_bool ?_, hb⟩
    rw [nameOk_eq, decide_eq_true (show s.length ≤ 59 by omega)]
    simp [bs, bne]
  · have h1 : 59 < (s.length : Int) := by assumption
    go_ret
    refine ⟨ret_bool ?_, BelowD.refl _ _⟩
    rw [nameOk_eq, decide_eq_false (show ¬ s.length ≤ 59 by omega)]
    simp
end Go.Proofs.YtfgkgoddjemnfaaGreatDoor

namespace Go.Proofs.YtfgkgoddjemnfaaGreatDoor
open Go.RowKit Go.Shelf Pa
/-- The library's own variable holds a number. -/
def MaxOk (w : World) : Prop := ∃ m, w.cell? ⟨0, 0, none⟩ = some (.int .i64 m)
theorem MaxOk.below {w w' : World} {B : Nat} (h : MaxOk w) (hb : Below B w w') (hB : 0 < B) : MaxOk w' := by
  obtain ⟨m, hm⟩ := h
  exact ⟨m, (hb.cell (p := ⟨0, 0, none⟩) hB).trans hm⟩
theorem MaxOk.lt {w : World} (h : MaxOk w) : 0 < w.heap.size := by
  obtain ⟨m, hm⟩ := h
  rcases Nat.lt_or_ge 0 w.heap.size with h | h
  · exact h
  · rw [World.cell?, Array.getElem?_eq_none h] at hm; cases hm
theorem MaxOk.grow {w w' : World} (h : MaxOk w) (hb : Below w.heap.size w w') : MaxOk w' := h.below hb h.lt
def strVals (l : List Str) : List Value := l.map fun s => .string (bs s)
theorem split_spl (t : Str) (w : World) (hs : t.length < 4294967281) (hm : MaxOk w) :
    Calls Tryz.prog 66 #[.string (bs t), .string ⟨#[47]⟩] w fun e w' =>
      e = .returned (.slice (some ⟨w.heap.size, 0, none⟩) (spl t).length (spl t).length) ∧ w' = w.alloc (.cells (strVals (spl t)).toArray 9) := by
  obtain ⟨m, hm⟩ := hm
  have hd : (Lib.splitB ⟨#[47]⟩ 0 (Lib.countB (bs t) ⟨#[47]⟩) (bs t)).map (·.data.toList) = spl t := by
    rw [Lib.splitB_data]
    exact split_eq_spl t
  have hlen : Lib.countB (bs t) ⟨#[47]⟩ + 1 = (spl t).length := by
    rw [← hd, List.length_map, Lib.splitB_all ⟨#[47]⟩ (by decide) 0 _ _ rfl]
  have hvals : (Lib.splitB ⟨#[47]⟩ 0 (Lib.countB (bs t) ⟨#[47]⟩) (bs t)).map Value.string = strVals (spl t) := by
    unfold strVals
    rw [← hd, List.map_map]
    rfl
  have h := Tryz.strings_Split (bs t) ⟨#[47]⟩ m w (by rw [bs_size]; exact hs) hm (by decide)
  rw [hlen, hvals] at h
  exact h
theorem spl_length : ∀ s, (spl s).length ≤ s.length + 1
  | [] => by simp [spl]
  | c :: s => by
    have ih := spl_length s
    unfold spl
    split
    · simp; omega
    · split
      · simp
      · rename_i h t e; rw [e] at ih; simp at ih ⊢; omega
theorem strVals_at (l : List Str) (i : Nat) (s : Str) (h : l[i]? = some s) : (strVals l)[i]? = some (.string (bs s)) := by
  unfold strVals; rw [List.getElem?_map, h]; rfl
attribute [local go_sem] bs_toList bs_size
/-- What dir.Split answers. -/
def SplitPostD (p : Str) (w : World) (e : Ending) (w' : World) : Prop :=
  ∃ v n, e = .returned (.tuple #[v, .int .i64 n]) ∧ BelowD w.heap.size w w' ∧
    match splitP p with
    | some l => n = 0 ∧ StrsAt w' w'.heap.size v l
    | none => n = 8 ∧ v = .slice none 0 0
theorem SplitPostD.none {p : Str} {w w' : World} (h : splitP p = .none) (hb : BelowD w.heap.size w w') : SplitPostD p w (.returned (.tuple #[.slice .none 0 0, .int .i64 8])) w' := by
  refine ⟨_, _, rfl, hb, ?_⟩
  rw [h]; exact ⟨rfl, rfl⟩
theorem SplitPostD.some {p : Str} {l : List Str} {w w' : World} {v : Value} (h : splitP p = .some l) (hb : BelowD w.heap.size w w') (hv : StrsAt w' w'.heap.size v l) : SplitPostD p w (.returned (.tuple #[v, .int .i64 0])) w' := by
  refine ⟨_, _, rfl, hb, ?_⟩
  rw [h]; exact ⟨rfl, hv⟩
theorem hasPrefix_stroke (p : Str) : Lib.hasPrefix p [47] = decide (p.head? = some 47) := by
  cases p with
  | nil => rfl
  | cons c p =>
    by_cases h : c = 47
    · subst h; simp [Lib.hasPrefix, List.isPrefixOf]
    · simp [Lib.hasPrefix, List.isPrefixOf, h, Ne.symm h]
/-- Is it found by the first i pieces that a text is no path? -/
def badTo (L : List Str) (i : Nat) : Bool := decide (16 < L.length) || (L.take i).any (fun s => !nameOk s)
theorem badTo_zero (L : List Str) : badTo L 0 = decide (16 < (L.length : Int)) := by
  unfold badTo
  by_cases h : 16 < L.length
  · simp [h]; omega
  · simp [h]; omega
theorem badTo_succ (L : List Str) (i : Nat) (s : Str) (h : L[i]? = some s) : badTo L (i + 1) = (badTo L i || !nameOk s) := by
  unfold badTo
  rw [List.take_add_one, h]
  simp [Bool.or_assoc]
theorem badTo_mono (L : List Str) (i : Nat) (h : badTo L i = true) : badTo L L.length = true := by
  unfold badTo at *
  simp only [Bool.or_eq_true, List.any_eq_true, decide_eq_true_eq, List.take_length] at *
  rcases h with h | ⟨x, hx, h⟩
  · exact .inl h
  · exact .inr ⟨x, List.mem_of_mem_take hx, h⟩
theorem badTo_split {p : Str} {L : List Str} (h : splitP p = if L.length ≤ 16 ∧ L.all nameOk then some L else none) : splitP p = if badTo L L.length then none else some L := by
  rw [h]
  unfold badTo
  rw [List.take_length]
  by_cases h1 : L.length ≤ 16
  · by_cases h2 : L.all nameOk = true
    · rw [if_pos ⟨h1, h2⟩, if_neg]
      simp only [Bool.or_eq_true, decide_eq_true_eq, List.any_eq_true, not_or, not_exists, not_and]
      exact ⟨by omega, fun x hx => by simp [List.all_eq_true.1 h2 x hx]⟩
    · rw [if_neg (fun h => h2 h.2), if_pos]
      simp only [Bool.or_eq_true, List.any_eq_true]
      right
      simpa using h2
  · rw [if_neg (fun h => h1 h.1), if_pos]
    simp; omega
set_option maxHeartbeats 1000000 in
theorem split_d (p : Str) (w : World) (hm : MaxOk w) : Calls Tryz.prog 30 #[.string (bs p)] w (SplitPostD p w) := by
  have hpre : ∀ w : World, Calls Tryz.prog 65 #[.string (bs p), .string ⟨#[47]⟩] w fun e w' => e = .returned (.bool (decide (p.head? = some 47))) ∧ w' = w := fun w => by
    rw [← hasPrefix_stroke]; exact Tryz.strings_HasPrefix (bs p) ⟨#[47]⟩ w
  by_cases hh : p.head? = some 47
  case neg =>
    have hd : decide (p.head? = some 47) = false := decide_eq_false hh
    rw [hd] at hpre
    have hn : splitP p = none := by unfold splitP; rw [if_neg (fun h => hh h.1)]
    clear hm
    go_enter Tryz.func30, Tryz.ntmps30
    go_wp2_with fail
    go_step3
    go_wp2_with (go_at_call 65; refine (hpre _).mono ?_; rintro e w' ⟨rfl, hw⟩; obtain rfl := hw.symm)
    rw [Exit.noGoto_ret]
    go_ret2
    exact SplitPostD.none hn (BelowD.refl _ _)
  have hd : decide (p.head? = some 47) = true := decide_eq_true hh
  rw [hd] at hpre
  have HH := Lib.hid hh
  clear hh hd
  by_cases hlen : p.length ≤ 255
  case neg =>
    have hn : splitP p = none := by unfold splitP; rw [if_neg (fun h => hlen h.2)]
    have h2 : (255 : Int) < p.length := by omega
    clear hm
    go_enter Tryz.func30, Tryz.ntmps30
    go_wp2_with fail
    go_step3
    go_wp2_with (go_at_call 65; refine (hpre _).mono ?_; rintro e w' ⟨rfl, hw⟩; obtain rfl := hw.symm)
    rw [Exit.noGoto_ret]
    go_ret2
    exact SplitPostD.none hn (BelowD.refl _ _)
  have h2 : ¬ (255 : Int) < p.length := by omega
  by_cases hroot : p = [47]
  case pos =>
    have hn : splitP p = some [] := by rw [hroot]; exact splitP_root
    have hb : (p == [47]) = true := beq_iff_eq.2 hroot
    have HR := Lib.hid hroot
    clear hm hroot
    go_enter Tryz.func30, Tryz.ntmps30
    go_wp2_with fail
    go_step3
    go_wp2_with (go_at_call 65; refine (hpre _).mono ?_; rintro e w' ⟨rfl, hw⟩; obtain rfl := hw.symm)
    rw [Exit.noGoto_ret]
    go_ret2
    exact SplitPostD.some hn (BelowD.refl _ _) (StrsAt.nil _ _ _ _)
  have hb : (p == [47]) = false := beq_eq_false_iff_ne.2 hroot
  have hsp : splitP p = if (spl p.tail).length ≤ 16 ∧ (spl p.tail).all nameOk then some (spl p.tail) else none := by
    unfold splitP; rw [if_pos ⟨HH.out, hlen⟩, if_neg hroot]
  have hex : (bs p).extract 1 p.length = bs p.tail := by
    have : p.tail = p.drop 1 := by simp
    rw [this]
    have e : ((bs p).extract 1 p.length).data.toList = p.drop 1 := by
      rw [Lib.extract_data, bs_list]
      exact List.take_of_length_le (by simp)
    exact e ▸ (bs_of _).symm
  have hcon := split_spl p.tail w (by simp; omega) hm
  have hlt := hm.lt
  have h1len : 1 ≤ p.length := by have := HH.out; cases p <;> simp_all
  clear hm hroot
  have HS := Lib.hid hsp
  clear hsp
  have hL : (spl p.tail).length ≤ 9223372036854775807 := by have := spl_length p.tail; simp at this; omega
  generalize spl p.tail = L at hcon HS hL
  go_enter Tryz.func30, Tryz.ntmps30
  go_wp2_with fail
  go_step3
  go_wp2_with (first | (go_at_call 65; refine (hpre _).mono ?_; rintro e w' ⟨rfl, hw⟩; obtain rfl := hw.symm) | (go_at_call 66; refine hcon.mono ?_; rintro e w' ⟨rfl, rfl⟩))
  go_step3
  go_wp2_with fail
  have hB1 : BelowD w.heap.size w (w.alloc (.cells (strVals L).toArray 9)) := (BelowD.refl _ _).alloc (Nat.le_refl _) _
  have hC1 : ∀ i s, L[i]? = some s → (w.alloc (.cells (strVals L).toArray 9)).cell? ⟨w.heap.size, i, none⟩ = some (.string (bs s)) := fun i s hs => by
    rw [World.cell?_alloc_at _ _ _ _ rfl, List.getElem?_toArray, strVals_at L i s hs]
  have hz1 : (w.alloc (.cells (strVals L).toArray 9)).heap.size = w.heap.size + 1 := by simp
  have HC1 := Lib.hid hC1
  have Hz1 := Lib.hid hz1
  clear hC1 hz1
  generalize w.alloc (.cells (strVals L).toArray 9) = W1 at hB1 HC1 Hz1 ⊢
  have hq0 := badTo_zero L
  have HQ := Lib.hid (badTo_split HS.out)
  clear HS
  go_loopg [5, 26] L.length (fun g s5 s26 wx => ∃ i : Nat, i + g = L.length ∧ s26 = .int .i64 i ∧ s5 = .bool (badTo L i) ∧ BelowD (w.heap.size + 1) W1 wx)
  case atStart => exact ⟨0, by omega, rfl, by rw [hq0], BelowD.refl _ _⟩
  case round =>
    obtain ⟨i, hig, rfl, rfl, hb⟩ := hrel
    obtain ⟨wx, rfl⟩ : ∃ wx, wx = wr := ⟨_, rfl⟩
    have hbw : BelowD w.heap.size w wx := hB1.trans (hb.mono (by omega))
    have hv : ∀ l, L = l → StrsAt wx wx.heap.size (.slice (some ⟨w.heap.size, 0, none⟩) L.length L.length) l := fun l hl => by
      subst hl
      have hz := Hz1.out
      have hs := hb.size
      exact ⟨_, _, rfl, Nat.le_refl _, fun _ => ⟨_, _, rfl, by omega, fun i s h => by
        rw [Nat.zero_add, hb.cell (p := ⟨w.heap.size, i, none⟩) (Nat.lt_succ_self _)]; exact HC1.out i s h⟩⟩
    have HV := Lib.hid hv
    clear hv hq0
    cases gk with
    | zero =>
      obtain rfl : i = L.length := by omega
      cases hq : badTo L L.length with
      | true =>
        have hn : splitP p = none := by rw [HQ.out, hq]; rfl
        go_wp2
        rw [Exit.noGoto_ret]
        go_ret2
        exact SplitPostD.none hn hbw
      | false =>
        have hn : splitP p = some L := by rw [HQ.out, hq]; rfl
        go_wp2
        rw [Exit.noGoto_ret]
        go_ret2
        exact SplitPostD.some hn hbw (HV.out _ rfl)
    | succ g =>
      have hi : i < L.length := by omega
      have hLi : L[i]? = some L[i] := List.getElem?_eq_getElem hi
      have hcell : wx.cell? ⟨w.heap.size, i, none⟩ = some (.string (bs L[i])) := by
        rw [hb.cell (p := ⟨w.heap.size, i, none⟩) (Nat.lt_succ_self _)]; exact HC1.out i _ hLi
      have hstep := badTo_succ L i _ hLi
      have hmono := badTo_mono L i
      generalize L[i] = s at hcell hstep
      have HStep := Lib.hid hstep
      have HMono := Lib.hid hmono
      have hsz : w.heap.size + 1 ≤ wx.heap.size := by have := hb.size; have := Hz1.out; omega
      clear hstep hmono hLi
      cases hq : badTo L i with
      | true =>
        have hn : splitP p = none := by rw [HQ.out, HMono.out hq]; rfl
        go_wp2
        rw [Exit.noGoto_ret]
        go_ret2
        exact SplitPostD.none hn hbw
      | false =>
        cases hnm : nameOk s with
        | true =>
          go_wp2_with (go_at_call 34; refine (isName_any s _).mono ?_; rintro e w2 ⟨rfl, hb2⟩; rw [hnm])
          go_roundg g
          case measure => omega
          case rel => exact ⟨i + 1, by omega, by go_num, by rw [HStep.out, hq, hnm]; rfl, hb.trans (hb2.mono hsz)⟩
        | false =>
          go_wp2_with (go_at_call 34; refine (isName_any s _).mono ?_; rintro e w2 ⟨rfl, hb2⟩; rw [hnm])
          go_roundg g
          case measure => omega
          case rel => exact ⟨i + 1, by omega, by go_num, by rw [HStep.out, hq, hnm]; rfl, hb.trans (hb2.mono hsz)⟩
/-- The same, without the draws. -/
def SplitPost (p : Str) (w : World) (e : Ending) (w' : World) : Prop :=
  ∃ v n, e = .returned (.tuple #[v, .int .i64 n]) ∧ Below w.heap.size w w' ∧
    match splitP p with
    | none => n = 8 ∧ v = .slice none 0 0
    | some l => n = 0 ∧ StrsAt w' w'.heap.size v l
theorem split_any (p : Str) (w : World) (hm : MaxOk w) : Calls Tryz.prog 30 #[.string (bs p)] w (SplitPost p w) :=
  (split_d p w hm).mono fun _ _ ⟨v, n, h1, h2, h3⟩ => ⟨v, n, h1, h2.toBelow, by
    cases hp : splitP p <;> rw [hp] at h3 <;> exact h3⟩
end Go.Proofs.YtfgkgoddjemnfaaGreatDoor
