/-
  The walks over the document's SameTexts and the law package's live; rows of strings.
  Both stores side by side, with rows of one's own aside that stay: the calls of dir in these words.
  The walk over the law DirOrder: it answers true of all names.
  Arguments opened: slices of texts, of deeds.
  The reference's IsName: whether a text is a name.
  The reference's GivePage, data.
  What stands while the reference resizes a file of few pages.
  The walk over the reference's resize, of files of few pages.
  The walk over the reference's Resize, of files of few pages.
  The walk over the reference's Write, of files of few pages.
  Free of the store; the entries with no empty leftovers (DirV); rows of one's own beside both stores.
-/
import Derived.Test.YtfgkgoddjemnfaaGreatDoorG8
import Derived.Deep.Cut
import Derived.Deep.CutBlock
import Derived.Laws.Cover1
import Derived.ProofKit
import Derived.Deep.Slices
import Derived.Maps.AppendAt
import Derived.Laws.ComplexArith
set_option linter.unusedVariables false
set_option linter.unusedSimpArgs false
set_option linter.deprecated false
namespace Go.Proofs.YtfgkgoddjemnfaaGreatDoor
open Go.RowKit Go.Shelf Pa
attribute [local go_sem] bs_toList bs_size
theorem take_sameL {a b : List Str} {k : Nat} {x y : Str} (h : a.take k = b.take k) (ha : a[k]? = some x) (hb : b[k]? = some y) (e : x = y) : a.take (k + 1) = b.take (k + 1) := by
  obtain ⟨h1, h2⟩ := List.getElem?_eq_some_iff.1 ha
  obtain ⟨h3, h4⟩ := List.getElem?_eq_some_iff.1 hb
  rw [List.take_succ_eq_append_getElem h1, List.take_succ_eq_append_getElem h3, h, h2, h4, e]
theorem OwnS.strs {w : World} {B : Nat} {v : Value} {l : List Str} (h : OwnS w B v l) : StrsAt w w.heap.size v l := by
  obtain ⟨h1, h⟩ := h
  rcases h with ⟨rfl, h0⟩ | ⟨g, cap, cur, rfl, hB, hg, hc, hm, hs, ht⟩
  · have : l = [] := List.length_eq_zero_iff.1 h0
    subst this
    exact StrsAt.nil _ _ _ _
  · refine ⟨_, cap, rfl, hc, fun _ => ⟨g, 0, rfl, (Array.getElem?_eq_some_iff.1 hg).1, fun i s hi => ?_⟩⟩
    have hlt : i < l.length := (List.getElem?_eq_some_iff.1 hi).1
    rw [Nat.zero_add, cell_of_heap hg, ← Array.getElem?_toList, ← List.getElem?_take_of_lt (show i < l.length * 1 by omega), ht, List.getElem?_map, hi]
    rfl
set_option maxHeartbeats 1000000 in
theorem sameTexts_any (a b : List Str) (va vb : Value) (B B' : Nat) (w : World) (ha : StrsAt w B va a) (hb : StrsAt w B' vb b) (hn : a.length ≤ 1000000) :
    Calls Tryz.prog 15 #[va, vb] w fun e w' => e = .returned (.bool (decide (a = b))) ∧ ∃ n, w' = w.drewN n := by
  obtain ⟨A, ca, rfl, hca, hfa⟩ := ha
  obtain ⟨A2, cb, rfl, hcb, hfb⟩ := hb
  have HA := Lib.hid hfa
  have HB := Lib.hid hfb
  clear hfa hfb
  by_cases hl : a.length = b.length
  · have hl' : ((a.length : Int) != (b.length : Int)) = false := by simp [hl]
    have HL := Lib.hid hl
    clear hl
    go_enter Tryz.func15, Tryz.ntmps15
    go_wp2_with fail
    go_loopg [5] a.length (fun g i wx => ∃ k : Nat, i = .int .i64 k ∧ g = a.length - k ∧ k ≤ a.length ∧ a.take k = b.take k ∧ ∃ n, wx = w.drewN n)
    case atStart => exact ⟨0, rfl, rfl, Nat.zero_le _, rfl, 0, rfl⟩
    case round =>
      obtain ⟨k, rfl, rfl, hk, htk, nd, hw⟩ := hrel
      have HTk := Lib.hid htk
      have HW := Lib.hid hw
      clear htk hw
      by_cases hlt : k < a.length
      · have hlt' : decide ((k : Int) < (a.length : Int)) = true := by simp; omega
        have hltb : k < b.length := by rw [← HL.out]; exact hlt
        obtain ⟨ba, oa, rfl, _, hxa⟩ := HA.out (by rintro rfl; simp at hlt)
        obtain ⟨bb, ob, rfl, _, hxb⟩ := HB.out (by rintro rfl; simp at hltb)
        have ka : wr.cell? ⟨ba, oa + k, none⟩ = _ := (by rw [HW.out]; rfl : wr.cell? ⟨ba, oa + k, none⟩ = w.cell? ⟨ba, oa + k, none⟩).trans (hxa k _ (List.getElem?_eq_getElem hlt))
        have kb : wr.cell? ⟨bb, ob + k, none⟩ = _ := (by rw [HW.out]; rfl : wr.cell? ⟨bb, ob + k, none⟩ = w.cell? ⟨bb, ob + k, none⟩).trans (hxb k _ (List.getElem?_eq_getElem hltb))
        have hg1 := List.getElem?_eq_getElem hlt
        have hg2 := List.getElem?_eq_getElem hltb
        generalize a[k] = x at ka hg1
        generalize b[k] = y at kb hg2
        have HG1 := Lib.hid hg1
        have HG2 := Lib.hid hg2
        clear hg1 hg2 hxa hxb
        by_cases hxy : x = y
        · have hne : (x == y) = true := by simp [hxy]
          have HXy := Lib.hid hxy
          clear hxy
          go_wp2_with fail
          go_quiet (fail)
          go_wp2_with fail
          go_roundg (a.length - (k + 1))
          case measure => omega
          case rel => exact ⟨k + 1, by go_num, rfl, hlt, take_sameL HTk.out HG1.out HG2.out HXy.out, nd + nq, by rw [HW.out]; exact World.drewN_drewN _ _ _⟩
        · have hne : (x == y) = false := by simpa using hxy
          have HXy := Lib.hid hxy
          have hab : decide (a = b) = false := by
            simp only [decide_eq_false_iff_not]
            rintro rfl
            exact HXy.out (Option.some.inj (HG1.out.symm.trans HG2.out))
          have HAb := Lib.hid hab
          clear hxy hab
          go_wp2_with fail
          go_quiet (fail)
          go_wp2_with fail
          go_ret
          exact ⟨ret_bool HAb.out.symm, nd + nq, by rw [HW.out]; exact World.drewN_drewN _ _ _⟩
      · have hlt' : decide ((k : Int) < (a.length : Int)) = false := by simp; omega
        have hall : decide (a = b) = true := by
          have h := HTk.out
          rw [List.take_of_length_le (by omega), List.take_of_length_le (by rw [← HL.out]; omega)] at h
          simpa using h
        have HAll := Lib.hid hall
        clear hall
        go_wp2_with fail
        go_ret
        exact ⟨ret_bool HAll.out.symm, nd, HW.out⟩
  · have hl' : ((a.length : Int) != (b.length : Int)) = true := by simp; omega
    have hne : decide (a = b) = false := by simp; rintro rfl; exact hl rfl
    have HNe := Lib.hid hne
    clear hl hne
    go_enter Tryz.func15, Tryz.ntmps15
    go_wp2_with fail
    go_ret
    exact ⟨ret_bool HNe.out.symm, 0, rfl⟩
theorem padd_any (B s r N L : Nat) (d i : Int) (nm : Str) (T U K : RS) (u : Nat → List Ent) (w : World) (h : Pair B w s r T U K N) (hd : DirU T u L) (hL : L ≤ 60) :
    Calls Tryz.prog 13 #[.pointer (some ⟨s, 0, none⟩), .int .i64 d, .string (bs nm), .int .i64 i] w fun e w' => e = .returned (.int .i64 (addE T d nm i : Nat)) ∧ Pair B w' s r (addT T d nm i) U K N ∧ Below B w w' := by
  obtain ⟨R, g, hl⟩ := h.left
  obtain ⟨C, hr, ht⟩ := g.rel
  refine (dadd_any s N d i nm T (addT T d nm i) R w g ?_).mono ?_
  · by_cases he : addE T d nm i = 0
    · rw [if_pos he]
      exact (hd.add hr ht hL he).1
    · rw [if_neg he]; unfold addT; rw [if_neg he]
  · rintro e w' ⟨rfl, hst⟩
    exact ⟨rfl, hl w' _ _ hst⟩
/-- What Add leaves of the entries. -/
def addU (T : RS) (u : Nat → List Ent) (d : Int) (nm : Str) (i : Int) : Nat → List Ent := if addE T d nm i = 0 then fun j => if j = d.toNat then (nm, i.toNat) :: u j else u j else u
theorem Pair.dir {B s r N L : Nat} {d i : Int} {nm : Str} {T U K : RS} {u : Nat → List Ent} {w : World} (h : Pair B w s r T U K N) (hd : DirU T u L) (hL : L ≤ 60) : DirU (addT T d nm i) (addU T u d nm i) (L + 1) := by
  obtain ⟨R, g, hl⟩ := h.left
  obtain ⟨C, hr, ht⟩ := g.rel
  unfold addU
  by_cases he : addE T d nm i = 0
  · rw [if_pos he]; exact (hd.add hr ht hL he).2
  · rw [if_neg he]
    unfold addT
    rw [if_neg he]; exact hd.more (by omega)
theorem plist_any (B s r N : Nat) (d : Int) (T U K : RS) (w : World) (h : Pair B w s r T U K N) :
    Calls Tryz.prog 14 #[.pointer (some ⟨s, 0, none⟩), .int .i64 d] w fun e w' => ∃ v, e = .returned (.tuple #[v, .int .i64 (lookE T d)]) ∧ OwnS w' w.heap.size v (listP (lookB T d)) ∧ Pair B w' s r T U K N ∧ Below B w w' ∧ StrsAt w' w'.heap.size v (listP (lookB T d)) := by
  obtain ⟨R, g, hl⟩ := h.left
  refine (dlist_any s N d T R w g).mono ?_
  rintro e w' ⟨v, rfl, ho, R', g', t', o', _⟩
  obtain ⟨a, b⟩ := hl w' T N ⟨R', g', t', o'⟩
  exact ⟨v, rfl, ho, a, b, ho.strs⟩
/-- The entries that live lays. -/
def uB : Nat → List Ent := fun j => if j = 1 then [([98], 2)] else []
def uL : Nat → List Ent := fun j => if j = 1 then [([97], 3), ([98], 2)] else []
theorem live_plain {B s r N : Nat} {U K : RS} {w : World} (h : Pair B w s r T0 U K N) : ∃ T1, T1 = addT T0 1 [98] 2 ∧ addE T0 1 [98] 2 = 0 ∧ DirU T1 uB 1 ∧ ∀ w1, Pair B w1 s r T1 U K N → ∃ T2, T2 = addT T1 1 [97] 3 ∧ addE T1 1 [97] 3 = 0 ∧ DirU T2 uL 2 ∧ lookE T2 1 = 0 ∧ listP (lookB T2 1) = [[97], [98]] := by
  have hd := DirU.zero
  have l0 : lookE T0 1 = 0 := (hd.look0 1).2 (.inl rfl)
  have e0 : addE T0 1 [98] 2 = 0 := by
    rw [hd.addE, l0]; rfl
  have d1 := h.dir (d := 1) (i := 2) (nm := [98]) hd (by omega)
  have hu : addU T0 (fun _ => []) 1 [98] 2 = uB := by
    unfold addU
    rw [if_pos e0]; rfl
  rw [hu] at d1
  refine ⟨_, rfl, e0, d1, fun w1 h1 => ?_⟩
  have l1 : lookE (addT T0 1 [98] 2) 1 = 0 := (d1.look0 1).2 (.inl rfl)
  have e1 : addE (addT T0 1 [98] 2) 1 [97] 3 = 0 := by
    rw [d1.addE, l1]; rfl
  have d2 := h1.dir (d := 1) (i := 3) (nm := [97]) d1 (by omega)
  have hu2 : addU (addT T0 1 [98] 2) uB 1 [97] 3 = uL := by
    unfold addU
    rw [if_pos e1]
    funext j
    unfold uL uB
    by_cases hj : j = 1
    · subst hj; rfl
    · have : ¬ j = Int.toNat 1 := hj
      simp only [if_neg this, if_neg hj]
  rw [hu2] at d2
  have l2 : lookE (addT (addT T0 1 [98] 2) 1 [97] 3) 1 = 0 := (d2.look0 1).2 (.inl rfl)
  refine ⟨_, rfl, e1, d2, l2, ?_⟩
  rw [d2.list l2]
  show List.mergeSort [[97], [98]] (fun x y : Str => decide (x ≤ y)) = [[97], [98]]
  exact List.mergeSort_of_pairwise (by decide)
theorem split_ab : splitP [47, 97, 47, 98] = some [[97], [98]] := by decide
theorem strs_ab (w : World) : StrsAt (w.alloc (.cells #[.string ⟨#[97]⟩, .string ⟨#[98]⟩] 9)) (w.heap.size + 1) (.slice (some ⟨w.heap.size, 0, none⟩) 2 2) [[97], [98]] := by
  refine ⟨_, 2, rfl, Nat.le_refl _, fun _ => ⟨w.heap.size, 0, rfl, by omega, fun i x hx => ?_⟩⟩
  rw [Nat.zero_add, cell_of_heap (heap_alloc_new w _)]
  match i with
  | 0 => cases hx; rfl
  | 1 => cases hx; rfl
  | i + 2 => simp at hx
set_option maxRecDepth 100000 in
set_option maxHeartbeats 4000000 in
theorem live_any (w : World) (hm : MaxOk w) : Calls Tryz.prog 12 #[] w fun e w' => e = .returned (.bool true) ∧ Below w.heap.size w w' := by
  have HM := Lib.hid hm
  clear hm
  go_enter Tryz.func12, Tryz.ntmps12
  go_wp2_with fail
  refine (opened_any w).mono ?_
  rintro e w1 ⟨s, r, rfl, hP, hb⟩
  obtain ⟨T1, hT1, e0, d1, hnx⟩ := live_plain hP
  have hA := padd_any w.heap.size s r 206 0 1 2 [98] T0 T0 T0 _ w1 hP DirU.zero (by omega)
  rw [e0, ← hT1] at hA
  have HA := Lib.hid hA
  have HB := Lib.hid hb
  have HN := Lib.hid hnx
  have HD1 := Lib.hid d1
  clear hA hb hnx hP e0 hT1 d1
  go_wp2_with fail
  refine HA.out.mono ?_
  rintro e w2 ⟨rfl, hP2, hb2⟩
  obtain ⟨T2, hT2, e1, d2, l2, hl2⟩ := HN.out w2 hP2
  have hA2 := padd_any w.heap.size s r 206 1 1 3 [97] T1 T0 T0 _ w2 hP2 HD1.out (by omega)
  rw [e1, ← hT2] at hA2
  have HA2 := Lib.hid hA2
  have HB2 := Lib.hid (HB.out.trans hb2)
  have HL := Lib.hid (⟨l2, hl2⟩ : _ ∧ _)
  clear hA2 hb2 hP2 e1 hT2 d2 l2 hl2 HA HB HN HD1
  go_wp2_with fail
  refine HA2.out.mono ?_
  rintro e w3 ⟨rfl, hP3, hb3⟩
  have hLi := plist_any w.heap.size s r 206 1 T2 T0 T0 w3 hP3
  rw [HL.out.1, HL.out.2] at hLi
  have HLi := Lib.hid hLi
  have HB3 := Lib.hid (HB2.out.trans hb3)
  clear hLi hP3 hb3 HA2 HB2
  go_wp2_with fail
  refine HLi.out.mono ?_
  rintro e w4 ⟨v, rfl, ho4, hP4, hb4, hs4⟩
  have HB4 := Lib.hid (HB3.out.trans hb4)
  have HS4 := Lib.hid hs4
  have hsp := split_any [47, 97, 47, 98] w4 (HM.out.grow HB4.out)
  have HSp := Lib.hid hsp
  clear ho4 hP4 hb4 hs4 hsp HLi HB3
  go_wp2_with fail
  refine HSp.out.mono ?_
  rintro e w5 ⟨v2, n2, rfl, hb5, hm5⟩
  rw [split_ab] at hm5
  obtain ⟨rfl, hs5⟩ := hm5
  obtain ⟨A5, c5, rfl, _, _⟩ := hs5
  have hz4 := HB4.out.size
  have hb45 := HB4.out.trans (hb5.mono hz4)
  have hs45 : StrsAt w5 w5.heap.size v [[97], [98]] := (HS4.out.below hb5).more hb5.size
  obtain ⟨A4, c4, rfl, hc4, hf4⟩ := id hs45
  have hba : Below w5.heap.size w5 (w5.alloc (.cells #[.string ⟨#[97]⟩, .string ⟨#[98]⟩] 9)) := (Below.refl _ _).alloc (Nat.le_refl _) _
  have hst := sameTexts_any [[97], [98]] [[97], [98]] _ _ _ _ _ (hs45.below hba) (strs_ab w5) (by simp)
  have HSt := Lib.hid hst
  have HB5 := Lib.hid (hb45.trans (hba.mono (Nat.le_trans HB4.out.size hb5.size)))
  clear hb5 hb45 hs45 hf4 hba hst HSp HS4 HB4
  go_wp2_with (go_at_call 15; refine HSt.out.mono ?_; rintro e w6 ⟨rfl, q, rfl⟩)
  go_ret
  exact ⟨rfl, below_drewN HB5.out q⟩
end Go.Proofs.YtfgkgoddjemnfaaGreatDoor

namespace Go.Proofs.YtfgkgoddjemnfaaGreatDoor
open Go.RowKit Go.Shelf Pa
attribute [local go_sem] bs_toList bs_size
/-- As Pair; the blocks of Z are no part of either store. -/
def PairZ (B : Nat) (w : World) (s r : Nat) (T U K : RS) (N : Nat) (Z : Nat → Prop) : Prop := ∃ R Q, StI w s T R N ∧ RefI w r U K Q ∧ (∀ k, R.has k → ¬ Q.has k) ∧ (∀ k, R.has k → B ≤ k) ∧ (∀ k, Q.has k → B ≤ k) ∧ B ≤ w.heap.size ∧ ∀ k, Z k → ¬ R.has k ∧ ¬ Q.has k ∧ k < w.heap.size
/-- What stays: all below B, and the blocks of Z. -/
structure KeptZ (B : Nat) (Z : Nat → Prop) (w w' : World) : Prop where
  below : Below B w w'
  z : ∀ k, Z k → w'.heap[k]? = w.heap[k]?
theorem KeptZ.refl (B : Nat) (Z : Nat → Prop) (w : World) : KeptZ B Z w w := ⟨Below.refl _ _, fun _ _ => rfl⟩
theorem KeptZ.trans {B : Nat} {Z : Nat → Prop} {a b c : World} (h : KeptZ B Z a b) (k : KeptZ B Z b c) : KeptZ B Z a c := ⟨h.below.trans k.below, fun j hj => (k.z j hj).trans (h.z j hj)⟩
theorem Pair.z {B : Nat} {w : World} {s r : Nat} {T U K : RS} {N : Nat} (h : Pair B w s r T U K N) : PairZ B w s r T U K N (fun _ => False) := by
  obtain ⟨R, Q, h1, h2, h3, h4, h5, h6⟩ := h
  exact ⟨R, Q, h1, h2, h3, h4, h5, h6, fun _ e => e.elim⟩
theorem PairZ.pair {B : Nat} {w : World} {s r : Nat} {T U K : RS} {N : Nat} {Z : Nat → Prop} (h : PairZ B w s r T U K N Z) : Pair B w s r T U K N := by
  obtain ⟨R, Q, h1, h2, h3, h4, h5, h6, _⟩ := h
  exact ⟨R, Q, h1, h2, h3, h4, h5, h6⟩
theorem PairZ.left {B : Nat} {w : World} {s r : Nat} {T U K : RS} {N : Nat} {Z : Nat → Prop} (h : PairZ B w s r T U K N Z) : ∃ R, StI w s T R N ∧ ∀ w' R' T' N', StI w' s T' R' N' → R.To R' w.heap.size → Off R.m w w' → ∀ Z' : Nat → Prop, (∀ k, Z' k → Z k ∨ (¬ R'.has k ∧ w.heap.size ≤ k ∧ k < w'.heap.size)) → PairZ B w' s r T' U K N' Z' ∧ KeptZ B Z w w' := by
  obtain ⟨R, Q, h1, h2, hd, hR, hQ, hB, hZ⟩ := h
  refine ⟨R, h1, fun w' R' T' N' g t o Z' hZ' => ⟨⟨R', Q, g, h2.off o (fun k hk e => hd k (.inl e) hk), fun k hk e => ?_, fun k hk => ?_, hQ, Nat.le_trans hB o.size, fun k hk => ?_⟩, o.below hB (fun k hk => hR k (.inl hk)), fun k hk => ?_⟩⟩
  · rcases t.has hk with hk | hk
    · exact hd k hk e
    · have := h2.lt k e; omega
  · rcases t.has hk with hk | hk
    · exact hR k hk
    · omega
  · rcases hZ' k hk with hk | ⟨a, b, c⟩
    · obtain ⟨a, b, c⟩ := hZ k hk
      exact ⟨t.free a c, b, Nat.lt_of_lt_of_le c o.size⟩
    · exact ⟨a, fun e => by have := h2.lt k e; omega, c⟩
  · obtain ⟨a, b, c⟩ := hZ k hk
    exact o.block k c (fun e => a (.inl e))
theorem PairZ.step {B : Nat} {w : World} {s r : Nat} {T U K : RS} {N : Nat} {Z : Nat → Prop} (h : PairZ B w s r T U K N Z) : ∃ R, StI w s T R N ∧ ∀ w' T' N', StStep w s T' R N' w' → PairZ B w' s r T' U K N' Z ∧ KeptZ B Z w w' := by
  obtain ⟨R, g, hl⟩ := h.left
  exact ⟨R, g, fun w' T' N' ⟨R', g', t, o⟩ => hl w' R' T' N' g' t o Z (fun k hk => .inl hk)⟩
theorem PairZ.right {B : Nat} {w : World} {s r : Nat} {T U K : RS} {N : Nat} {Z : Nat → Prop} (h : PairZ B w s r T U K N Z) : ∃ Q, RefI w r U K Q ∧ ∀ w' U' K', RefStep w r U' K' Q w' → PairZ B w' s r T U' K' N Z ∧ KeptZ B Z w w' := by
  obtain ⟨R, Q, h1, h2, hd, hR, hQ, hB, hZ⟩ := h
  refine ⟨Q, h2, fun w' U' K' ⟨Q', g, t, o⟩ => ⟨⟨R, Q', h1.off o (fun k hk e => hd k hk (.inl e)), g, fun k hk e => ?_, hR, fun k hk => ?_, Nat.le_trans hB o.size, fun k hk => ?_⟩, o.below hB (fun k hk => hQ k (.inl hk)), fun k hk => ?_⟩⟩
  · rcases t.has e with e | e
    · exact hd k hk e
    · have := h1.lt k hk; omega
  · rcases t.has hk with hk | hk
    · exact hQ k hk
    · omega
  · obtain ⟨a, b, c⟩ := hZ k hk
    exact ⟨a, t.free b c, Nat.lt_of_lt_of_le c o.size⟩
  · obtain ⟨a, b, c⟩ := hZ k hk
    exact o.block k c (fun e => b (.inl e))
theorem PairZ.below {B : Nat} {w w' : World} {s r : Nat} {T U K : RS} {N : Nat} {Z : Nat → Prop} (h : PairZ B w s r T U K N Z) (hb : Below w.heap.size w w') : PairZ B w' s r T U K N Z ∧ KeptZ B Z w w' := by
  obtain ⟨R, Q, h1, h2, hd, hR, hQ, hB, hZ⟩ := h
  exact ⟨⟨R, Q, h1.below hb, h2.below hb, hd, hR, hQ, Nat.le_trans hB hb.size, fun k hk => ⟨(hZ k hk).1, (hZ k hk).2.1, Nat.lt_of_lt_of_le (hZ k hk).2.2 hb.size⟩⟩, hb.mono hB, fun k hk => hb.block k (hZ k hk).2.2⟩
theorem row_kept {w w' : World} {B k n : Nat} {e : TypeId} {v : Value} {xs : List Value} {Z : Nat → Prop} (h : w.ownsRow B e k v n xs) (hz : ∀ k, Z k → w'.heap[k]? = w.heap[k]?) (hm : ∀ k, v.ownBlock = some k → Z k) : w'.ownsRow B e k v n xs := by
  obtain ⟨h1, h⟩ := id h
  refine ⟨h1, ?_⟩
  rcases h with hn | ⟨g, cap, cur, rfl, hB, hg, hr⟩
  · exact .inl hn
  · exact .inr ⟨g, cap, cur, rfl, hB, (hz g (hm g rfl)).trans hg, hr⟩
theorem paddZ_any (B s r N L : Nat) (d i : Int) (nm : Str) (T U K : RS) (u : Nat → List Ent) (Z : Nat → Prop) (w : World) (h : PairZ B w s r T U K N Z) (hd : DirU T u L) (hL : L ≤ 60) :
    Calls Tryz.prog 13 #[.pointer (some ⟨s, 0, none⟩), .int .i64 d, .string (bs nm), .int .i64 i] w fun e w' => e = .returned (.int .i64 (addE T d nm i : Nat)) ∧ PairZ B w' s r (addT T d nm i) U K N Z ∧ KeptZ B Z w w' := by
  obtain ⟨R, g, hl⟩ := h.step
  obtain ⟨C, hr, ht⟩ := g.rel
  refine (dadd_any s N d i nm T (addT T d nm i) R w g ?_).mono ?_
  · by_cases he : addE T d nm i = 0
    · rw [if_pos he]
      exact (hd.add hr ht hL he).1
    · rw [if_neg he]; unfold addT; rw [if_neg he]
  · rintro e w' ⟨rfl, hst⟩
    exact ⟨rfl, hl w' _ _ hst⟩
theorem PairZ.dir {B s r N L : Nat} {d i : Int} {nm : Str} {T U K : RS} {u : Nat → List Ent} {Z : Nat → Prop} {w : World} (h : PairZ B w s r T U K N Z) (hd : DirU T u L) (hL : L ≤ 60) : DirU (addT T d nm i) (addU T u d nm i) (L + 1) := h.pair.dir hd hL
theorem plistZ_any (B s r N : Nat) (d : Int) (T U K : RS) (Z : Nat → Prop) (w : World) (h : PairZ B w s r T U K N Z) :
    Calls Tryz.prog 14 #[.pointer (some ⟨s, 0, none⟩), .int .i64 d] w fun e w' => ∃ v, e = .returned (.tuple #[v, .int .i64 (lookE T d)]) ∧ OwnS w' w.heap.size v (listP (lookB T d)) ∧ PairZ B w' s r T U K N (fun k => Z k ∨ v.ownBlock = some k) ∧ KeptZ B Z w w' := by
  obtain ⟨R, g, hl⟩ := h.left
  refine (dlist_any s N d T R w g).mono ?_
  rintro e w' ⟨v, rfl, ho, R', g', t', o', hn⟩
  refine ⟨v, rfl, ho, hl w' R' T N g' t' o' _ fun k hk => ?_⟩
  rcases hk with hk | hk
  · exact .inl hk
  · exact .inr ⟨hn k hk, World.ownsRow.lt ho k hk⟩
theorem pfindZ_any (B s r N : Nat) (d : Int) (nm : Str) (T U K : RS) (Z : Nat → Prop) (w : World) (h : PairZ B w s r T U K N Z) :
    Calls Tryz.prog 16 #[.pointer (some ⟨s, 0, none⟩), .int .i64 d, .string (bs nm)] w fun e w' => e = .returned (.tuple #[.int .i64 (findR T d nm).1.i, .int .i64 (findR T d nm).2.2]) ∧ PairZ B w' s r T U K N Z ∧ KeptZ B Z w w' := by
  obtain ⟨R, g, hl⟩ := h.step
  refine (dfind_any s N d nm T R w g).mono ?_
  rintro e w' ⟨rfl, hst⟩
  exact ⟨rfl, hl w' _ _ hst⟩
theorem pemptyZ_any (B s r N : Nat) (d : Int) (T U K : RS) (Z : Nat → Prop) (w : World) (h : PairZ B w s r T U K N Z) :
    Calls Tryz.prog 18 #[.pointer (some ⟨s, 0, none⟩), .int .i64 d] w fun e w' => e = .returned (.tuple #[.bool (decide (lookE T d = 0) && (listP (lookB T d)).isEmpty), .int .i64 (lookE T d)]) ∧ PairZ B w' s r T U K N Z ∧ KeptZ B Z w w' := by
  obtain ⟨R, g, hl⟩ := h.step
  refine (dempty_any s N d T R w g).mono ?_
  rintro e w' ⟨rfl, hst⟩
  exact ⟨rfl, hl w' _ _ hst⟩
theorem pdropZ_any (B s r N L : Nat) (d : Int) (nm : Str) (T U K : RS) (u : Nat → List Ent) (Z : Nat → Prop) (w : World) (h : PairZ B w s r T U K N Z) (hd : DirU T u L) (hL : L ≤ 60) :
    Calls Tryz.prog 17 #[.pointer (some ⟨s, 0, none⟩), .int .i64 d, .string (bs nm)] w fun e w' => e = .returned (.tuple #[.int .i64 (if (findR T d nm).2.2 = 0 then (findR T d nm).1.i else 0 : Nat), .int .i64 (findR T d nm).2.2]) ∧ PairZ B w' s r (drpT T d nm) U K N Z ∧ KeptZ B Z w w' := by
  obtain ⟨R, g, hl⟩ := h.step
  obtain ⟨C, hr, ht⟩ := g.rel
  refine (ddrop_any s N d nm T (drpT T d nm) R w g ?_).mono ?_
  · by_cases he : (findR T d nm).2.2 = 0
    · rw [if_pos he]
      exact (hd.drop hr ht hL he).1
    · rw [if_neg he]; unfold drpT; rw [if_neg he]
  · rintro e w' ⟨rfl, hst⟩
    exact ⟨rfl, hl w' _ _ hst⟩
/-- What Drop leaves of the entries. -/
def drpU (T : RS) (u : Nat → List Ent) (d : Int) (nm : Str) : Nat → List Ent := if (findR T d nm).2.2 = 0 then fun j => if j = d.toNat then (u j).erase (nm, (findR T d nm).1.i) else u j else u
theorem PairZ.dirDrop {B s r N L : Nat} {d : Int} {nm : Str} {T U K : RS} {u : Nat → List Ent} {Z : Nat → Prop} {w : World} (h : PairZ B w s r T U K N Z) (hd : DirU T u L) (hL : L ≤ 60) : DirU (drpT T d nm) (drpU T u d nm) L ∧ ((findR T d nm).2.2 = 0 → (nm, (findR T d nm).1.i) ∈ u d.toNat) := by
  obtain ⟨R, g, _⟩ := h.step
  obtain ⟨C, hr, ht⟩ := g.rel
  unfold drpU
  by_cases he : (findR T d nm).2.2 = 0
  · rw [if_pos he]
    obtain ⟨_, a, b⟩ := hd.drop hr ht hL he
    exact ⟨a, fun _ => b⟩
  · rw [if_neg he]
    unfold drpT
    rw [if_neg he]
    exact ⟨hd, fun e => absurd e he⟩
/-- s.Map().Cache().Commit(). -/
theorem pcommitZ_any (B s r N : Nat) (T U K : RS) (Z : Nat → Prop) (w : World) (h : PairZ B w s r T U K N Z) (hN : N + 1000 < 1000000000) : ∃ m c,
    Calls Tryz.prog 21 #[.pointer (some ⟨s, 0, none⟩)] w (fun e w' => e = .returned (.pointer (some ⟨m, 0, none⟩)) ∧ w = w') ∧
    Calls Tryz.prog 22 #[.pointer (some ⟨m, 0, none⟩)] w (fun e w' => e = .returned (.pointer (some ⟨c, 0, none⟩)) ∧ w = w') ∧
    Calls Tryz.prog 23 #[.pointer (some ⟨c, 0, none⟩)] w fun e w' => e = .returned (.int .i64 0) ∧ PairZ B w' s r T U K (N + 206) Z ∧ KeptZ B Z w w' := by
  obtain ⟨R, g, hl⟩ := h.step
  obtain ⟨m, c, h1, h2, h3⟩ := scommit_any s N T R w g hN
  refine ⟨m, c, h1, h2, h3.mono ?_⟩
  rintro e w' ⟨rfl, hst⟩
  exact ⟨rfl, hl w' _ _ hst⟩
/-- Membership behind an Add of inode 5. -/
theorem addU_mem {T : RS} {u : Nat → List Ent} {L : Nat} (h : DirU T u L) {d : Int} (hd : d = 1 ∨ d = 3) (nm : Str) {i : Int} (hi : 1 ≤ i ∧ i < 512) : (∀ x, x ∈ (addU T u d nm i d.toNat).map (·.1) ↔ x ∈ (u d.toNat).map (·.1) ∨ (x = nm ∧ nameOk nm = true)) ∧ ∀ j, j ≠ d.toNat → addU T u d nm i j = u j := by
  have h0 : lookE T d = 0 := (h.look0 d).2 hd
  have ha := h.addE d i nm
  rw [if_neg (fun e => e h0), if_neg (show ¬ (i < 1 ∨ 512 ≤ i) by omega)] at ha
  unfold addU
  by_cases h1 : nameOk nm = false
  · rw [if_pos h1] at ha
    rw [if_neg (by rw [ha]; decide)]
    exact ⟨fun x => ⟨.inl, fun h => h.elim id fun h => by rw [h1] at h; cases h.2⟩, fun _ _ => rfl⟩
  · rw [if_neg h1] at ha
    have h1 : nameOk nm = true := by simpa using h1
    rcases fnd_two (u d.toNat) nm with ⟨i, hm, e⟩ | ⟨hn, e⟩
    · rw [e, if_pos rfl] at ha
      rw [if_neg (by rw [ha]; decide)]
      refine ⟨fun x => ⟨.inl, fun h => h.elim id fun h => ?_⟩, fun _ _ => rfl⟩
      rw [h.1]; exact List.mem_map.2 ⟨_, hm, rfl⟩
    · rw [e, if_neg (by decide)] at ha
      rw [if_pos ha]
      refine ⟨fun x => ?_, fun j hj => if_neg hj⟩
      show x ∈ (if d.toNat = d.toNat then (nm, i.toNat) :: u d.toNat else u d.toNat).map (·.1) ↔ _
      rw [if_pos rfl, List.map_cons, List.mem_cons]
      constructor
      · rintro (h | h)
        · exact .inr ⟨h, h1⟩
        · exact .inl h
      · rintro (h | h)
        · exact .inr h
        · exact .inl h.1
end Go.Proofs.YtfgkgoddjemnfaaGreatDoor

namespace Go.Proofs.YtfgkgoddjemnfaaGreatDoor
open Go.RowKit Go.Shelf Pa
attribute [local go_sem] bs_toList bs_size
/-- Texts that are an argument. -/
def TextsIn (w : World) (v : Value) (ls : List Str) : Prop := StrsAt w w.heap.size v ls ∧ ls.length ≤ 8796093022208
/-- The names of a list of entries are just those that are names among some texts. -/
def NamesOf (u : List Ent) (l : List Str) : Prop := ∀ x, x ∈ u.map (·.1) ↔ x ∈ l ∧ nameOk x = true
theorem NamesOf.nil : NamesOf [] [] := fun x => by simp
theorem NamesOf.snoc {u u' : List Ent} {l : List Str} {nm : Str} (h : NamesOf u l) (hu : ∀ x, x ∈ u'.map (·.1) ↔ x ∈ u.map (·.1) ∨ (x = nm ∧ nameOk nm = true)) : NamesOf u' (l ++ [nm]) := fun x => by
  rw [hu, h x, List.mem_append, List.mem_singleton]
  constructor
  · rintro (⟨a, b⟩ | ⟨a, b⟩)
    · exact ⟨.inl a, b⟩
    · exact ⟨.inr a, by rw [a]; exact b⟩
  · rintro ⟨a | a, b⟩
    · exact .inl ⟨a, b⟩
    · exact .inr ⟨a, by rw [← a]; exact b⟩
theorem NamesOf.cons {u u' : List Ent} {l : List Str} {nm : Str} (h : NamesOf u l) (hu : ∀ x, x ∈ u'.map (·.1) ↔ x ∈ u.map (·.1) ∨ (x = nm ∧ nameOk nm = true)) : NamesOf u' (nm :: l) := fun x => by
  rw [hu, h x, List.mem_cons]
  constructor
  · rintro (⟨a, b⟩ | ⟨a, b⟩)
    · exact ⟨.inr a, b⟩
    · exact ⟨.inl a, by rw [a]; exact b⟩
  · rintro ⟨a | a, b⟩
    · exact .inr ⟨a, by rw [← a]; exact b⟩
    · exact .inl ⟨a, b⟩
theorem StrsAt.drewN {w : World} {B : Nat} {v : Value} {l : List Str} (h : StrsAt w B v l) (q : Nat) : StrsAt (w.drewN q) B v l := h
/-- What stands while names are added to 1. -/
def Ord1 (B : Nat) (s r : Nat) (ls : List Str) (k : Nat) (wx : World) : Prop := ∃ T u, PairZ B wx s r T T0 T0 206 (fun _ => False) ∧ DirU T u k ∧ NamesOf (u 1) (ls.take k) ∧ u 3 = []
theorem Ord1.step {B s r k : Nat} {ls : List Str} {nm : Str} {wx : World} (h : Ord1 B s r ls k wx) (hk : k < 30) (hnm : ls[k]? = some nm) : Calls Tryz.prog 13 #[.pointer (some ⟨s, 0, none⟩), .int .i64 1, .string (bs nm), .int .i64 5] wx fun e w' => (∃ v, e = .returned v) ∧ Ord1 B s r ls (k + 1) w' ∧ Below B wx w' := by
  obtain ⟨T, u, h1, h2, h3, h4⟩ := h
  refine (paddZ_any B s r 206 k 1 5 nm T T0 T0 u _ wx h1 h2 (by omega)).mono ?_
  rintro e w' ⟨rfl, hp, hkz⟩
  obtain ⟨m1, m2⟩ := addU_mem h2 (d := 1) (.inl rfl) nm (i := 5) (by omega)
  refine ⟨⟨_, rfl⟩, ⟨_, _, hp, h1.dir h2 (by omega), ?_, ?_⟩, hkz.below⟩
  · rw [List.take_add_one, hnm]
    exact h3.snoc m1
  · rw [m2 3 (by decide)]; exact h4
/-- What stands while names are added to 3, from behind. -/
def Ord3 (B : Nat) (s r : Nat) (ls : List Str) (k : Nat) (wx : World) : Prop := ∃ T u, PairZ B wx s r T T0 T0 206 (fun _ => False) ∧ DirU T u (30 + (30 - min 30 k)) ∧ NamesOf (u 1) (ls.take 30) ∧ NamesOf (u 3) ((ls.take 30).drop k)
theorem Ord3.step {B s r k : Nat} {ls : List Str} {nm : Str} {wx : World} (h : Ord3 B s r ls (k + 1) wx) (hk : k < 30) (hnm : ls[k]? = some nm) : Calls Tryz.prog 13 #[.pointer (some ⟨s, 0, none⟩), .int .i64 3, .string (bs nm), .int .i64 5] wx fun e w' => (∃ v, e = .returned v) ∧ Ord3 B s r ls k w' ∧ Below B wx w' := by
  obtain ⟨T, u, h1, h2, h3, h4⟩ := h
  refine (paddZ_any B s r 206 _ 3 5 nm T T0 T0 u _ wx h1 h2 (by omega)).mono ?_
  rintro e w' ⟨rfl, hp, hkz⟩
  obtain ⟨m1, m2⟩ := addU_mem h2 (d := 3) (.inr rfl) nm (i := 5) (by omega)
  refine ⟨⟨_, rfl⟩, ⟨_, _, hp, (h1.dir h2 (by omega)).more (by omega), ?_, ?_⟩, hkz.below⟩
  · rw [m2 1 (by decide)]; exact h3
  · have hk30 : k < (ls.take 30).length := by
      have := (List.getElem?_eq_some_iff.1 hnm).1
      rw [List.length_take]; omega
    have he : (ls.take 30)[k] = nm := by
      have h1 : (ls.take 30)[k]? = some nm := by rw [List.getElem?_take_of_lt hk]; exact hnm
      exact (List.getElem?_eq_some_iff.1 h1).2
    rw [List.drop_eq_getElem_cons hk30, he]
    exact h4.cons m1
theorem Ord3.far {B s r k : Nat} {ls : List Str} {wx : World} (h : Ord3 B s r ls (k + 1) wx) (hk : 30 ≤ k) : Ord3 B s r ls k wx := by
  obtain ⟨T, u, h1, h2, h3, h4⟩ := h
  refine ⟨T, u, h1, h2.more (by omega), h3, ?_⟩
  rw [List.drop_eq_nil_of_le (by rw [List.length_take]; omega)] at h4 ⊢
  exact h4
theorem Ord1.turn {B s r k : Nat} {ls : List Str} {wx : World} (h : Ord1 B s r ls k wx) (hk : k ≤ 30) (hl : k = 30 ∨ ls.length ≤ k) : Ord3 B s r ls ls.length wx := by
  obtain ⟨T, u, h1, h2, h3, h4⟩ := h
  refine ⟨T, u, h1, h2.more (by omega), ?_, ?_⟩
  · rcases hl with rfl | hl
    · exact h3
    · rw [List.take_of_length_le hl] at h3
      rw [List.take_of_length_le (by omega)]; exact h3
  · rw [h4, List.drop_eq_nil_of_le (by rw [List.length_take]; omega)]
    exact NamesOf.nil
end Go.Proofs.YtfgkgoddjemnfaaGreatDoor

namespace Go.Proofs.YtfgkgoddjemnfaaGreatDoor
open Go.RowKit Go.Shelf Pa
open Go.ChangeShapes Go.WideShapes Go.Deep
section
variable {H : Type} {enc : TypeId × Value → H} {w : World} {base : Nat} {spare : Nat → Bool} {held : Bool}
theorem spot_none {a : Addr} {v : Value} (h : w.cell? (a.add 0) = some v) : a.spot = none := by
  simpa [Addr.add] using World.cell?_spot h
/-- No slice in it is greater than may be reached. -/
def Small (t : TypeId) (d : DataW H) : Prop := ∀ n ∈ d.weights Tryz.prog t, n ≤ reachBytes
theorem Small.slice {t e : TypeId} {elems sp : List (DataW H)} (h : Small t (.slice elems sp)) (ht : Tryz.prog.underlying t = some (.slice e)) : elems.length * Tryz.prog.bytesOf e ≤ 140737488351232 ∧ ∀ d ∈ elems, Small e d := by
  have hall : ∀ (l : List (DataW H)) d, d ∈ l → ∀ n ∈ d.weights Tryz.prog e, n ∈ DataW.weightsAll Tryz.prog e l := by
    intro l
    induction l with
    | nil => intro d hd; cases hd
    | cons x l ih =>
      intro d hd n hn
      rw [DataW.weightsAll, List.mem_append]
      rcases List.mem_cons.1 hd with rfl | hd
      · exact .inl hn
      · exact .inr (ih d hd n hn)
  refine ⟨?_, fun d hd n hn => ?_⟩
  · have := h ((elems.length + sp.length) * Tryz.prog.bytesOf e) (by simp [DataW.weights, ht])
    have h2 : elems.length * Tryz.prog.bytesOf e ≤ (elems.length + sp.length) * Tryz.prog.bytesOf e := Nat.mul_le_mul_right _ (by omega)
    unfold reachBytes at this
    omega
  · refine h n ?_
    simp only [DataW.weights, ht]
    exact List.mem_cons_of_mem _ (List.mem_append_left _ (hall elems d hd n hn))
theorem Small.field {t : TypeId} {fs : Array Field} {parts : List (DataW H)} (h : Small t (.agg parts)) (ht : Tryz.prog.underlying t = some (.struct fs)) {j : Nat} {f : Field} {d : DataW H} (hf : fs[j]? = some f) (hd : parts[j]? = some d) : Small f.type d := by
  intro n hn
  refine h n ?_
  simp only [DataW.weights, ht]
  exact DataW.weights_mem_each (by rw [List.getElem?_map]; simp [hf]) hd n hn
theorem add_flat (b o j : Nat) : (⟨b, o, none⟩ : Addr).add j = ⟨b, o + j, none⟩ := by
  unfold Addr.add
  split
  · rename_i h; subst h; rfl
  · rfl
theorem list4 {α : Type} : ∀ {l : List α}, l.length = 4 → ∃ a b c d, l = [a, b, c, d]
  | [a, b, c, d], _ => ⟨a, b, c, d, rfl⟩
/-- Out of facts on each place: a list. -/
theorem list_of {α : Type} [Inhabited α] {p : Nat → α → Prop} (n : Nat) (h : ∀ i, i < n → ∃ a, p i a) : ∃ l : List α, l.length = n ∧ ∀ i a, l[i]? = some a → p i a := by
  induction n with
  | zero => exact ⟨[], rfl, fun i a h => by simp at h⟩
  | succ n ih =>
    obtain ⟨l, hl, hp⟩ := ih fun i hi => h i (by omega)
    obtain ⟨a, ha⟩ := h n (by omega)
    refine ⟨l ++ [a], by simp [hl], fun i b hb => ?_⟩
    by_cases hi : i < l.length
    · rw [List.getElem?_append_left hi] at hb
      exact hp i b hb
    · have hie : i = n := by
        have := (List.getElem?_eq_some_iff.1 hb).1
        simp at this; omega
      subst hie
      rw [List.getElem?_append_right (by omega), hl] at hb
      simp at hb
      subst hb
      exact ha
end
end Go.Proofs.YtfgkgoddjemnfaaGreatDoor

namespace Go.Proofs.YtfgkgoddjemnfaaGreatDoor
open Go.RowKit Go.Shelf Pa
attribute [local go_sem] bs_toList bs_size
theorem bs_index (t : TypeId) (ht : Tryz.prog.underlying t = some .string) (p : Str) (k : Nat) (c : UInt8) (h : p[k]? = some c) (w : World) : (Instr.index t (.string (bs p)) (.int .i64 k)).run Tryz.prog w = .ok (.int .u8 c.toNat) w := by
  obtain ⟨h1, h2⟩ := List.getElem?_eq_some_iff.1 h
  rw [run_index_string (P := Tryz.prog) w t (bs p) .i64 k ht, dif_pos ⟨Int.natCast_nonneg _, by rw [bs_size]; omega⟩]
  have : (bs p)[((k : Int)).toNat]'(by rw [bs_size]; exact h1) = c := h2
  rw [this]
theorem take_any_succ (p : Str) (k : Nat) (c : UInt8) (h : p[k]? = some c) : (p.take (k + 1)).any isBad = ((p.take k).any isBad || isBad c) := by
  rw [List.take_add_one, h, List.any_append]; simp
theorem nameOk_bad {p : Str} {k : Nat} {c : UInt8} (h : p[k]? = some c) (hb : isBad c = true) : nameOk p = false := by
  rw [nameOk_eq, show p.any isBad = true from List.any_eq_true.2 ⟨c, List.mem_of_getElem? h, hb⟩]; simp
set_option maxRecDepth 100000 in
set_option maxHeartbeats 2000000 in
theorem rname7_big (p : Str) (w : World) (hp : p.length ≤ 140737488355328) :
    Calls Tryz.prog 35 #[.string (bs p)] w fun e w' => e = .returned (.bool (nameOk p)) ∧ w' = w := by
  have HIx := Lib.hid (fun k c h w => bs_index 9 Tryz.underlying9 p k c h w)
  go_enter Tryz.func35, Tryz.ntmps35
  go_wp2_with fail
  go_loopg [3] p.length (fun g i wx => ∃ k : Nat, i = .int .i64 k ∧ g = p.length - k ∧ k ≤ p.length ∧ wx = w ∧ (p.take k).any isBad = false)
  case atStart => exact ⟨0, rfl, rfl, Nat.zero_le _, rfl, by simp⟩
  case round =>
    obtain ⟨k, rfl, rfl, hk, rfl, hno⟩ := hrel
    by_cases hlt : k < p.length
    · have hltI : decide ((k : Int) < (p.length : Int)) = true := by simp; omega
      obtain ⟨c, hc⟩ : ∃ c, p[k]? = some c := ⟨_, List.getElem?_eq_getElem hlt⟩
      have hix := HIx.out k c hc
      have hstep := take_any_succ p k c hc
      rw [hno, Bool.false_or] at hstep
      have HStep := Lib.hid hstep
      have HC := Lib.hid hc
      clear hstep hno hc
      by_cases h0 : c = 0
      · subst h0
        go_wp2_with fail
        go_ret
        exact ⟨ret_bool (nameOk_bad HC.out (by decide)).symm, rfl⟩
      · have h0' : ((c.toNat : Int) == 0) = false := by
          rw [beq_eq_false_iff_ne]; intro e; exact h0 (UInt8.toNat_inj.1 (by show c.toNat = 0; omega))
        by_cases h47 : c = 47
        · subst h47
          go_wp2_with fail
          go_ret
          exact ⟨ret_bool (nameOk_bad HC.out (by decide)).symm, rfl⟩
        · have h47' : ((c.toNat : Int) == 47) = false := by
            rw [beq_eq_false_iff_ne]; intro e; exact h47 (UInt8.toNat_inj.1 (by show c.toNat = 47; omega))
          have hok : isBad c = false := by unfold isBad; simp [h0, h47]
          have HOk := Lib.hid hok
          clear hok
          go_wp2_with fail
          go_roundg (p.length - (k + 1))
          case measure => omega
          case rel => exact ⟨k + 1, by go_num, rfl, hlt, rfl, by rw [HStep.out, HOk.out]⟩
    · have hltI : decide ((k : Int) < (p.length : Int)) = false := by simp; omega
      obtain rfl : k = p.length := by omega
      rw [List.take_length] at hno
      have HNo := Lib.hid (show nameOk p = (!p.isEmpty && decide (p.length ≤ 59) && p != [46] && p != [46, 46]) by rw [nameOk_eq, hno]; simp)
      clear hno HIx
      have hemp : ∀ q : Str, (1 : Int) ≤ (q.length : Int) → q.isEmpty = false := fun q h => by
        cases q with
        | nil => simp at h
        | cons a q => rfl
      have hemp0 : ∀ q : Str, (q.length : Int) < 1 → q.isEmpty = true := fun q h => by
        cases q with
        | nil => rfl
        | cons a q => simp at h; omega
      have HE := Lib.hid hemp
      have HE0 := Lib.hid hemp0
      clear hemp hemp0
      go_wp2_with fail
      all_goals go_ret
      all_goals refine ⟨ret_bool ?_, rfl⟩
      all_goals rw [HNo.out]
      all_goals first
        | (have h : p = [46] := by assumption
           subst h; rfl)
        | (have h1 : (p.length : Int) < 1 := by assumption
           rw [HE0.out _ h1]; rfl)
        | (have h1 : 59 < (p.length : Int) := by assumption
           rw [decide_eq_false (show ¬ p.length ≤ 59 by omega)]; simp)
        | (have h1 : (p.length : Int) ≤ 59 := by assumption
           have h2 : (1 : Int) ≤ (p.length : Int) := by assumption
           rw [decide_eq_true (show p.length ≤ 59 by omega), HE.out _ h2]; simp [bne])
end Go.Proofs.YtfgkgoddjemnfaaGreatDoor

namespace Go.Proofs.YtfgkgoddjemnfaaGreatDoor
open Go.RowKit Go.Shelf Pa
attribute [local go_sem] bs_toList bs_size
theorem rdata_any (n : Nat) (w : World) (hn : n ≤ 1000000) : Calls Tryz.prog 158 #[.int .i64 n] w fun e w' => e = .returned (.int .i64 (npg n : Nat)) ∧ w' = w := by
  have hq : ((n : Int) + 511).tdiv 512 = ((npg n : Nat) : Int) := by
    have := tdiv_nat (n + 511) 512
    unfold npg
    simpa using this
  have hnp : npg n ≤ 2000 := by unfold npg; omega
  go_enter Tryz.func158, Tryz.ntmps158
  go_wp2
  go_ret
  exact ⟨rfl, rfl⟩
set_option maxRecDepth 100000 in
set_option maxHeartbeats 1000000 in
theorem rgiveP_any (I : Nat → Prop) (m n : Nat) (p i : List Bool) (pv iv : Value) (w : World) (h : RMap w I m p i pv iv) (ha : ¬ I m) (h1 : alFirst i.length ≤ n) (h2 : n < p.length) (h3 : p.getD n false = true) :
    Calls Tryz.prog 160 #[.pointer (some ⟨m, 0, none⟩), .int .i64 n] w fun e w' => e = .returned (.int .i64 0) ∧ ∃ pv', RMap w' (wid I w w') m (p.set n false) i pv' iv ∧ Off (fun k => k = m) w w' := by
  obtain ⟨A, cA, rfl⟩ := h.rp.1.shape
  have c2 : w.cell? ⟨m, 2, none⟩ = some (.slice A (boolV p).length cA) := cell_of_heap h.at_ 2
  have hml := h.lt
  have hfirst : ∀ W, Off (fun _ => False) w W → Calls Tryz.prog 83 #[.pointer (some ⟨m, 0, none⟩)] W fun e w9 => e = .returned (.int .i64 (alFirst i.length)) ∧ w9 = W := fun W ho =>
    rfirst_any I m p i _ iv W (h.off ho (fun _ _ e => e) (fun e => e))
  have hgive : ∀ W, Off (fun _ => False) w W → Calls Tryz.prog 189 #[.slice A (boolV p).length cA, .int .i64 n, .int .i64 (alFirst i.length)] W fun e w9 => ∃ A' c', e = .returned (.tuple #[.slice A' (boolV (p.set n false)).length c', .int .i64 0]) ∧ (w9.cell? ⟨m, 2, none⟩ = some (.slice A (boolV p).length cA) ∧ w9.frozen? ⟨m, 2, none⟩ = false) ∧
      Hid (∀ W2, Off (fun _ => False) w9 W2 → RMap (W2.setCell ⟨m, 2, none⟩ (.slice A' (boolV (p.set n false)).length c')) (wid I w (W2.setCell ⟨m, 2, none⟩ (.slice A' (boolV (p.set n false)).length c'))) m (p.set n false) i (.slice A' (boolV (p.set n false)).length c') iv ∧ Off (fun k => k = m) w (W2.setCell ⟨m, 2, none⟩ (.slice A' (boolV (p.set n false)).length c'))) := fun W ho => by
    have hW := h.off ho (fun _ _ e => e) (fun e => e)
    refine (rgive_any p n (alFirst i.length) _ 0 W hW.rp.1 (by have := h.few; omega) h1 h2 h3).mono ?_
    rintro e w9 ⟨v', rfl, hown, hb⟩
    obtain ⟨A', c', rfl⟩ := hown.shape
    have h9 := hW.below hb
    refine ⟨A', c', rfl, ⟨cell_of_heap h9.at_ 2, free_of_heap h9.at_ 2⟩, Lib.hid fun W2 ho2 => ?_⟩
    have ho9 : Off (fun _ => False) w w9 := ho.then (Off.of_below hb _)
    have h10 := (h9.off ho2 (fun _ _ e => e) (fun e => e)).mono (J := wid I w W2) (fun k hk _ => .inl hk)
    have hown2 : SlI W2 (wid I w W2) 4 (.slice A' (boolV (p.set n false)).length c') (boolV (p.set n false)) :=
      ⟨(hown.base (Nat.zero_le _)).off ho2 (fun _ _ e => e), fun k hk => .inr ⟨Nat.le_trans ho.size (hown.block hk).1, Nat.lt_of_lt_of_le (hown.block hk).2 ho2.size⟩⟩
    obtain ⟨a, b⟩ := h10.setP (p' := p.set n false) (wid_not ha hml) hown2 (List.length_set ..)
    refine ⟨a.mono (fun k hk _ => ?_), ((ho9.then ho2).mono (fun _ e => e.elim)).then b⟩
    rcases hk with hk | hk
    · exact .inl hk
    · exact .inr ⟨hk.1, Nat.lt_of_lt_of_le hk.2 b.size⟩
  have HF := Lib.hid hfirst
  have HG := Lib.hid hgive
  clear hfirst hgive h
  go_enter Tryz.func160, Tryz.ntmps160
  go_wp2_with fail
  go_region_with (first
    | (go_at_call 83; refine (HF.out _ (by repeat' (first | exact Off.refl _ _ | refine Off.drew ?_ | refine Off.drewN ?_ _))).mono ?_; rintro e w8 ⟨rfl, hw8⟩; obtain rfl := hw8.symm)
    | (go_at_call 189; refine (HG.out _ (by repeat' (first | exact Off.refl _ _ | refine Off.drew ?_ | refine Off.drewN ?_ _))).mono ?_; rintro e w9 ⟨A', c', rfl, ⟨d2, z2⟩, HW⟩))
  all_goals go_wp2_with fail
  all_goals (go_ret; exact ⟨rfl, _, HW.out _ (by repeat' (first | exact Off.refl _ _ | refine Off.drew ?_ | refine Off.drewN ?_ _))⟩)
end Go.Proofs.YtfgkgoddjemnfaaGreatDoor

namespace Go.Proofs.YtfgkgoddjemnfaaGreatDoor
open Go.RowKit Go.Shelf Pa
attribute [local go_sem] bs_toList bs_size
/-- A file's box at w's end, its pages' row v8, the map's pages p. -/
structure RZ (w : World) (R : Reg) (m : Nat) (i p : List Bool) (f : RF) (bv dv v8 : Value) (d : List Nat) (wx : World) : Prop where
  off : Off (fun k => k = m) w wx
  box : wx.heap[w.heap.size]? = some (.cells #[.int .i64 f.kind, .int .i64 f.mode, .int .i64 f.links, bv, dv, .int .i64 f.ind] 131 (0, 0))
  row : OwnL wx w.heap.size 3 v8 (natV d)
  nb : v8.ownBlock ≠ some w.heap.size
  map : ∃ pv iv, RMap wx (fun k => (R.i k ∨ w.heap.size ≤ k) ∧ k < wx.heap.size ∧ k ≠ w.heap.size ∧ v8.ownBlock ≠ some k) m p i pv iv
theorem RZ.size {w wx : World} {R : Reg} {m : Nat} {i p : List Bool} {f : RF} {bv dv v8 : Value} {d : List Nat} (h : RZ w R m i p f bv dv v8 d wx) : w.heap.size < wx.heap.size := (Array.getElem?_eq_some_iff.1 h.box).1
/-- The map's pages turned by a call. -/
theorem RZ.turn {w wx w' : World} {R : Reg} {m : Nat} {i p p' : List Bool} {f : RF} {bv dv v8 pv' iv' : Value} {d : List Nat} (h : RZ w R m i p f bv dv v8 d wx) (hm : m < w.heap.size)
    (hr : RMap w' (wid (fun k => (R.i k ∨ w.heap.size ≤ k) ∧ k < wx.heap.size ∧ k ≠ w.heap.size ∧ v8.ownBlock ≠ some k) wx w') m p' i pv' iv') (ho : Off (fun k => k = m) wx w') : RZ w R m i p' f bv dv v8 d w' := by
  have hs := h.size
  refine ⟨h.off.then ho, (ho.block _ hs (by omega)).trans h.box, h.row.off ho (fun k hk e => by have := (h.row.block hk).1; omega), h.nb, pv', iv', hr.mono fun k hk hlt => ?_⟩
  rcases hk with ⟨a, b, c, e⟩ | ⟨a, b⟩
  · exact ⟨a, hlt, c, e⟩
  · exact ⟨.inr (by omega), b, by omega, fun e => by have := (h.row.block e).2; omega⟩
/-- One's own row turned. -/
theorem RZ.push {w wx w' : World} {R : Reg} {m : Nat} {i p : List Bool} {f : RF} {bv dv v8 v8' : Value} {d d' : List Nat} (h : RZ w R m i p f bv dv v8 d wx) (hm : m < w.heap.size)
    (ho : Off (fun k => v8.ownBlock = some k) wx w') (hrow : OwnL w' w.heap.size 3 v8' (natV d')) (hv : ∀ k, v8'.ownBlock = some k → v8.ownBlock = some k ∨ wx.heap.size ≤ k) : RZ w R m i p f bv dv v8' d' w' := by
  have hs := h.size
  obtain ⟨pv, iv, hr⟩ := h.map
  refine ⟨h.off.trans ho (fun k hk => .inr (h.row.block hk).1), (ho.block _ hs h.nb).trans h.box, hrow, fun e => ?_, pv, iv, (hr.off ho (fun k hk => hk.2.2.2) (fun e => by have := (h.row.block e).1; omega)).mono fun k hk hlt => ⟨hk.1, hlt, hk.2.2.1, fun e => ?_⟩⟩
  · rcases hv _ e with e | e
    · exact h.nb e
    · omega
  · rcases hv _ e with e | e
    · exact hk.2.2.2 e
    · have := hk.2.1; omega
theorem RZ.quiet {w wx w' : World} {R : Reg} {m : Nat} {i p : List Bool} {f : RF} {bv dv v8 : Value} {d : List Nat} (h : RZ w R m i p f bv dv v8 d wx) (hm : m < w.heap.size) (hb : Below wx.heap.size wx w') : RZ w R m i p f bv dv v8 d w' :=
  h.push hm ((Off.of_below hb _)) (h.row.off (Off.of_below hb (fun _ => False)) (fun _ _ e => e)) (fun k hk => .inl hk)
theorem RZ.start {w w1 : World} {R : Reg} {r m : Nat} {T : RS} {lv u2 u3 pv iv v8 bv dv : Value} {X : List RFX} {f : RF} (h : RNow w R r m T lv u2 u3 pv iv X)
    (hb : Below w.heap.size w w1) (hbox : w1.heap[w.heap.size]? = some (.cells #[.int .i64 f.kind, .int .i64 f.mode, .int .i64 f.links, bv, dv, .int .i64 f.ind] 131 (0, 0))) (hrow : OwnL w1 (w.heap.size + 1) 3 v8 (natV f.data)) : RZ w R m T.i T.p f bv dv v8 f.data w1 := by
  have hml := h.lt m (.inl h.mm)
  refine ⟨Off.of_below hb _, hbox, hrow.base (by omega), fun e => by have := (hrow.block e).1; omega, pv, iv, (h.map.below hb).mono fun k hk hlt => ⟨.inl hk, hlt, fun e => by have := h.lt k (.inr hk); omega, fun e => ?_⟩⟩
  have := (hrow.block e).1
  have := h.lt k (.inr hk)
  omega
/-- The store, midway. -/
theorem RZ.now {w wx : World} {R : Reg} {r m : Nat} {T : RS} {lv u2 u3 pv iv v8 bv dv : Value} {X : List RFX} {f : RF} {p : List Bool} {d : List Nat} (h : RNow w R r m T lv u2 u3 pv iv X) (hz : RZ w R m T.i p f bv dv v8 d wx) :
    ∃ pv' iv', RNow wx (R.plus (w.heap.size + 1) wx.heap.size) r m { T with p := p } lv u2 u3 pv' iv' X ∧ SlI wx (R.plus (w.heap.size + 1) wx.heap.size).i 3 v8 (natV d) := by
  obtain ⟨pv', iv', hr⟩ := hz.map
  have hrl := h.lt r (.inl h.mr)
  refine ⟨pv', iv', ⟨(hz.off.block r hrl h.ne).trans h.at_, h.mr, h.mm, hr.mono fun k hk hlt => ?_, (h.files.off hz.off (fun k hk e => h.apart m h.mm (e ▸ hk))).mono (fun k hk _ => .inl hk), h.eq, h.small, fun k hk e => ?_, fun k hk => ?_⟩, hz.row.base (Nat.zero_le _), fun k hk => .inr ⟨?_, (hz.row.block hk).2⟩⟩
  · rcases hk.1 with e | e
    · exact .inl e
    · exact .inr ⟨by have := hk.2.2.1; omega, hlt⟩
  · rcases e with e | e
    · exact h.apart k hk e
    · have := h.lt k (.inl hk); omega
  · have := hz.off.size
    rcases hk with hk | hk | hk
    · have := h.lt k (.inl hk); omega
    · have := h.lt k (.inr hk); omega
    · exact hk.2
  · have := (hz.row.block hk).1
    have : k ≠ w.heap.size := fun e => hz.nb (e ▸ hk)
    omega
theorem OwnL.two {w : World} {B : Nat} {e : TypeId} {v : Value} {vs : List Value} (h : OwnL w B e v vs) : (v = .slice none 0 0 ∧ vs = []) ∨ ∃ g c, v = .slice (some ⟨g, 0, none⟩) vs.length c ∧ vs.length ≤ c := by
  rcases h.2 with ⟨e, h0⟩ | ⟨g, cap, cur, e, hB, hg, hc, _⟩
  · exact .inl ⟨e, List.length_eq_zero_iff.1 h0⟩
  · exact .inr ⟨g, cap, e, hc⟩
/-- The last element gone. -/
theorem OwnL.pop {w : World} {B c n : Nat} {A : Option Addr} {e : TypeId} {vs : List Value} (h : OwnL w B e (.slice A n c) vs) (hn : n = vs.length) (h0 : 0 < n) : ∃ g, A = some ⟨g, 0, none⟩ ∧ OwnL w B e (.slice A (n - 1) c) vs.dropLast := by
  subst hn
  obtain ⟨h1, h2⟩ := h
  rcases h2 with ⟨h2, h3⟩ | ⟨g, cap, cur, e', hB, hg, hc, hm, hs, ht⟩
  · omega
  · injection e' with e1 e2 e3
    subst e1 e3
    refine ⟨g, rfl, by rw [List.length_dropLast]; omega, .inr ⟨g, c, cur, by rw [List.length_dropLast], hB, hg, by rw [List.length_dropLast]; omega, hm, hs, ?_⟩⟩
    have ht' : vs.take (vs.length - 1) = (cur.toList.take (vs.length * 1)).take (vs.length - 1) := by rw [ht]
    rw [List.length_dropLast, Nat.mul_one, List.dropLast_eq_take, ht', List.take_take]
    congr 1
    omega
theorem natV_append (a b : List Nat) : natV (a ++ b) = natV a ++ natV b := List.map_append
theorem bytV_append (a b : Str) : bytV (a ++ b) = bytV a ++ bytV b := List.map_append
theorem OwnL.cut {w : World} {B c n k : Nat} {A : Option Addr} {e : TypeId} {vs : List Value} (h : OwnL w B e (.slice A n c) vs) (hn : n = vs.length) (h0 : k ≤ n) (hA : A ≠ none) : OwnL w B e (.slice A k c) (vs.take k) := by
  subst hn
  obtain ⟨h1, h2⟩ := h
  rcases h2 with ⟨h2, h3⟩ | ⟨g, cap, cur, e', hB, hg, hc, hm, hs, ht⟩
  · injection h2 with h2; exact absurd h2 hA
  · injection e' with e1 e2 e3
    subst e1 e3
    refine ⟨by rw [List.length_take]; omega, .inr ⟨g, c, cur, by rw [List.length_take, Nat.min_eq_left h0], hB, hg, by rw [List.length_take]; omega, hm, hs, ?_⟩⟩
    have ht' : vs.take k = (cur.toList.take (vs.length * 1)).take k := by rw [ht]
    rw [List.length_take, Nat.min_eq_left h0, Nat.mul_one, ht', List.take_take]
    congr 1
    omega
end Go.Proofs.YtfgkgoddjemnfaaGreatDoor

namespace Go.Proofs.YtfgkgoddjemnfaaGreatDoor
open Go.RowKit Go.Shelf Pa
attribute [local go_sem] bs_toList bs_size
theorem rgrow_few {T : RS} {f : RF} {p : List Bool} {d : List Nat} {s1 : TF} {n : Nat} (hd : d.length ≤ 9) (h : rgrowN (n + 1) ({ T with p := p }, { f with data := d }) = some s1) : ∃ k, takeB p = some k ∧ rgrowN n ({ T with p := p.set k true }, { f with data := d ++ [k] }) = some s1 := by
  have e : rgrow1 ({ T with p := p }, { f with data := d }) = match takeB p with | none => none | some k => some ({ T with p := p.set k true }, { f with data := d ++ [k] }) := by
    unfold rgrow1
    rw [if_neg (fun e => by have : d.length = 10 := e.1; omega)]
    simp only [RS.takeP]
    cases takeB p <;> rfl
  rw [rgrowN, e] at h
  cases ht : takeB p with
  | none => rw [ht] at h; cases h
  | some k => rw [ht] at h; exact ⟨k, rfl, h⟩
theorem rshr_few {T : RS} {f : RF} {p : List Bool} {d : List Nat} {b : Str} {n : Nat} (hd : d.length ≤ 10) : rshrinkN (n + 1) ({ T with p := p }, { f with data := d, bytes := b }) = rshrinkN n ({ T with p := p.set (d.getD (d.length - 1) 0) false }, { f with data := d.dropLast, bytes := b.take (512 * (d.length - 1)) }) := by
  rw [rshrinkN]
  congr 1
  unfold rshrink1
  dsimp only
  rw [if_neg (by omega)]
  rfl
/-- The pages of d are taken ones. -/
def Took (i p : List Bool) (d : List Nat) : Prop := d.Nodup ∧ ∀ n ∈ d, alFirst i.length ≤ n ∧ n < p.length ∧ p.getD n false = true
theorem Took.pop {i p : List Bool} {d : List Nat} (h : Took i p d) (hd : 0 < d.length) : Took i (p.set (d.getD (d.length - 1) 0) false) d.dropLast := by
  have hg : d.getD (d.length - 1) 0 = d[d.length - 1]'(by omega) := by rw [List.getD_eq_getElem?_getD, List.getElem?_eq_getElem (by omega)]; rfl
  refine ⟨h.1.sublist (List.dropLast_sublist _), fun n hn => ?_⟩
  obtain ⟨a, b, c⟩ := h.2 n ((List.dropLast_sublist _).mem hn)
  refine ⟨a, by rw [List.length_set]; exact b, ?_⟩
  rw [List.getD_eq_getElem?_getD, List.getElem?_set, if_neg, ← List.getD_eq_getElem?_getD]
  · exact c
  · intro e
    obtain ⟨k, hk⟩ := List.getElem?_of_mem hn
    have hkl := (List.getElem?_eq_some_iff.1 hk).1
    rw [List.length_dropLast] at hkl
    rw [List.getElem?_dropLast, if_pos (by omega)] at hk
    rw [hg] at e
    have h1 := (List.getElem?_eq_some_iff.1 hk)
    have h2 : d[k]'h1.1 = d[d.length - 1]'(by omega) := h1.2.trans e.symm
    exact List.pairwise_iff_getElem.1 h.1 k (d.length - 1) h1.1 (by omega) (by omega) h2
theorem Took.last {i p : List Bool} {d : List Nat} (h : Took i p d) (hd : 0 < d.length) : alFirst i.length ≤ d.getD (d.length - 1) 0 ∧ d.getD (d.length - 1) 0 < p.length ∧ p.getD (d.getD (d.length - 1) 0) false = true := by
  refine h.2 _ ?_
  rw [List.getD_eq_getElem?_getD, List.getElem?_eq_getElem (by omega)]
  exact List.getElem_mem _
theorem info_byte : (Tryz.prog.info? 5).map (fun i => (i.zero, i.size, i.bytes)) = some (some (.int .u8 0), 1, 1) := by kernel_rfl
theorem fit_eq (b : Str) (n size : Nat) (h : size ≤ b.length + n) (h2 : n = 0 ∨ b.length + n ≤ size) : (b ++ List.replicate n 0).take size = fitTo b size := by
  unfold fitTo
  rcases h2 with rfl | h2
  · rw [List.replicate_zero, List.append_nil, show size - b.length = 0 from by omega, List.replicate_zero, List.append_nil]
  · have e : size - b.length = n := by omega
    rw [e, List.take_of_length_le (by rw [List.length_append, List.length_replicate]; omega), List.take_of_length_le (by omega)]
theorem bytV_take (b : Str) (k : Nat) : bytV (b.take k) = (bytV b).take k := List.map_take ..
/-- A file of few pages that may be made to be of this size. -/
structure Few (T : RS) (j size : Nat) : Prop where
  lt : j < T.i.length
  ind : (T.file j).ind = 0
  data : (T.file j).data.length ≤ 9
  took : Took T.i T.p (T.file j).data
  len : (T.file j).bytes.length ≤ 4608
  size : size ≤ 4608
set_option maxRecDepth 100000 in
set_option maxHeartbeats 4000000 in
theorem rres6_any (r j size : Nat) (T T' K : RS) (R : Reg) (w : World) (h : RefI w r T K R) (hf : Few T j size) (hT : T.resize j size = some T') :
    Calls Tryz.prog 106 #[.pointer (some ⟨r, 0, none⟩), .int .i64 j, .int .i64 size] w fun e w' => e = .returned (.bool true) ∧ RefStep w r T' K R w' := by
  obtain ⟨i0, hi0, hz0, hz1, hz2⟩ := info_parts info_int
  obtain ⟨i1, hi1, hy0, hy1, hy2⟩ := info_parts info_byte
  obtain ⟨m, lv, u2, u3, pv, iv, X, mk, pk, ik, Y, h1, h2⟩ := h
  have hlt := hf.lt
  obtain ⟨g, c, rfl, _, hgl, hcs⟩ := h1.cells (by omega)
  have c0 : w.cell? ⟨r, 0, none⟩ = some (.pointer (some ⟨m, 0, none⟩)) := cell_of_heap h1.at_ 0
  have c1 : w.cell? ⟨r, 1, none⟩ = some (.slice (some ⟨g, 0, none⟩) T.i.length c) := cell_of_heap h1.at_ 1
  obtain ⟨bv, dv, hx, n1, n2, hq⟩ := hcs j hlt
  obtain ⟨Ab, cb, rfl⟩ := n1.1.shape
  obtain ⟨Ad, cd, rfl⟩ := n2.1.shape
  obtain ⟨f, hfe⟩ : ∃ f, f = T.file j := ⟨_, rfl⟩
  have hdl := hf.data
  have hlen := hf.len
  have hsz := hf.size
  have hind := hf.ind
  have htk := hf.took
  unfold RS.resize at hT
  rw [← hfe] at hq n1 n2 hdl hlen hind htk hT
  rw [bytV_length] at hq
  rw [natV_length] at hq
  have q0 := hq 0 _ rfl
  have q1 := hq 1 _ rfl
  have q2 := hq 2 _ rfl
  have q3 := hq 3 _ rfl
  have q4 := hq 4 _ rfl
  have q5 := hq 5 _ rfl
  rw [Nat.add_zero] at q0
  have hnp : npg size ≤ 9 := by unfold npg; omega
  have hml := h1.lt m (.inl h1.mm)
  obtain ⟨W0, hW0⟩ : ∃ W, W = w.alloc (.cells #[.int .i64 f.kind, .int .i64 f.mode, .int .i64 f.links, .slice Ab f.bytes.length cb, .slice Ad f.data.length cd, .int .i64 f.ind] 131) := ⟨_, rfl⟩
  have hb0 : Below w.heap.size w W0 := by rw [hW0]; exact (Below.refl _ _).alloc (Nat.le_refl _) _
  have hs0 : W0.heap.size = w.heap.size + 1 := by rw [hW0, World.size_alloc]
  have hbox0 : W0.heap[w.heap.size]? = some (.cells #[.int .i64 f.kind, .int .i64 f.mode, .int .i64 f.links, .slice Ab f.bytes.length cb, .slice Ad f.data.length cd, .int .i64 f.ind] 131 (0, 0)) := by rw [hW0]; exact heap_alloc_new _ _
  have hdrow : W0.ownsRow 0 3 1 (.slice Ad f.data.length cd) f.data.length (natV f.data) := by
    have := n2.1.off (Off.of_below hb0 (fun _ => False)) (fun _ _ e => e)
    unfold OwnL at this
    rw [natV_length] at this
    exact this
  have hstart : ∀ v8 w1, w1.ownsRow W0.heap.size 3 1 v8 f.data.length (natV f.data) → Below W0.heap.size W0 w1 → RZ w R m T.i T.p f (.slice Ab f.bytes.length cb) (.slice Ad f.data.length cd) v8 f.data w1 := fun v8 w1 ho hb => by
    refine RZ.start h1 (hb0.trans (hb.mono (by omega))) ((hb.block _ (by omega)).trans hbox0) ?_
    rw [← hs0]
    unfold OwnL
    rw [natV_length]
    exact ho
  have HSt := Lib.hid hstart
  have HDr := Lib.hid hdrow
  have HN := Lib.hid h1
  have HK := Lib.hid h2
  have HT := Lib.hid hT
  have HTk := Lib.hid htk
  have HNb := Lib.hid n1
  have HInd := Lib.hid hind
  clear hstart hdrow h1 h2 hT htk n1 n2 hcs hq hx hf hfe hbox0 hind
  subst hW0
  go_enter Tryz.func106, Tryz.ntmps106
  go_wp2_with (at_builtin; refine wpList_append_clone rfl _ _ 112 rfl 3 i0 (.int .i64 0) 1 8 Tryz.underlying112 hi0 hz0 hz1 hz2 rfl (by decide) (.slice Ad f.data.length cd) f.data.length 0 _ rfl rfl HDr.out (natV_one _) (by unfold maxLen; omega) (by omega) ?_; intro v' w1 hown1 hb1; have HZ := Lib.hid (HSt.out v' w1 hown1 hb1); clear hb1 HSt)
  have hdata := fun w => rdata_any size w (by omega)
  have HData := Lib.hid hdata
  clear hdata
  cases hg : rgrowN (npg size - f.data.length) (T, f) with
  | none => have hT := HT.out; rw [hg] at hT; cases hT
  | some s1 =>
  have hT' : (rshrinkN (s1.2.data.length - npg size) s1).1.set j { (rshrinkN (s1.2.data.length - npg size) s1).2 with bytes := fitTo f.bytes size } = T' := by
    have hT := HT.out; rw [hg] at hT; exact Option.some.inj hT
  have hmax : f.data.length ≤ npg size ∨ npg size - f.data.length = 0 := by omega
  have HG0 := Lib.hid hg
  have HT2 := Lib.hid hT'
  clear hg hT' HT
  go_loopg [8] (npg size - f.data.length) (fun gg v8 wx => ∃ (p : List Bool) (d : List Nat) (A8 : Option Addr) (c8 : Nat), v8 = .slice A8 d.length c8 ∧ gg = npg size - d.length ∧ rgrowN (npg size - d.length) ({ T with p := p }, { f with data := d }) = some s1 ∧ RZ w R m T.i p f (.slice Ab f.bytes.length cb) (.slice Ad f.data.length cd) (.slice A8 d.length c8) d wx ∧ d.length ≤ 9 ∧ (d.length ≤ npg size ∨ (p = T.p ∧ d = f.data)))
  case atStart =>
    obtain ⟨A8, c8, rfl⟩ := ownsRow_slice hown1
    exact ⟨T.p, f.data, A8, c8, rfl, rfl, HG0.out, HZ.out, hdl, .inr ⟨rfl, rfl⟩⟩
  case round =>
    obtain ⟨p, d, A8, c8, rfl, rfl, hgr, hz, hd9, hor⟩ := hrel
    have hdat := HData.out wr
    by_cases hlt2 : d.length < npg size
    · have hlt' : decide ((d.length : Int) < (npg size : Int)) = true := by simp; omega
      obtain ⟨n, hn⟩ : ∃ n, npg size - d.length = n + 1 := ⟨npg size - d.length - 1, by omega⟩
      rw [hn] at hgr
      obtain ⟨k, hk, hgr2⟩ := rgrow_few hd9 hgr
      have h10 : ((d.length : Int) == 10) = false := by rw [beq_eq_false_iff_ne]; omega
      obtain ⟨pv9, iv9, hmp⟩ := hz.map
      have hnI : ¬ ((R.i m ∨ w.heap.size ≤ m) ∧ m < wr.heap.size ∧ m ≠ w.heap.size ∧ (Value.slice A8 d.length c8).ownBlock ≠ some m) := fun e => by
        rcases e.1 with e | e
        · exact HN.out.apart m HN.out.mm e
        · omega
      have hrm := HN.out.ne
      have hrl := HN.out.lt r (.inl HN.out.mr)
      have d0 : wr.cell? ⟨r, 0, none⟩ = some (.pointer (some ⟨m, 0, none⟩)) := (hz.off.cell (p := ⟨r, 0, none⟩) hrl (fun e => hrm e)).trans c0
      have hpage := (rpage_any _ m p T.i pv9 iv9 wr hmp hnI).mono (R' := fun e w' => e = .returned (.tuple #[.int .i64 k, .int .i64 0]) ∧ RZ w R m T.i (p.set k true) f (.slice Ab f.bytes.length cb) (.slice Ad f.data.length cd) (.slice A8 d.length c8) d w') (fun e w' hp => by
        unfold TakenP at hp
        rw [hk] at hp
        obtain ⟨rfl, pv', iv', hr, ho⟩ := hp
        exact ⟨rfl, hz.turn hml hr ho⟩)
      have HPage := Lib.hid hpage
      have HGr := Lib.hid hgr2
      have hn2 : n = npg size - (d.length + 1) := by omega
      have hor2 : d.length + 1 ≤ npg size := hlt2
      have hd8 : d.length ≤ 8 := by omega
      clear hpage hgr hgr2 hk hz hmp hor hnI hn
      go_wp2_with (go_at_call 158; refine hdat.mono ?_; rintro e w9 ⟨rfl, hw9⟩; obtain rfl := hw9.symm)
      refine HPage.out.mono ?_
      rintro e w3 ⟨rfl, hz3⟩
      have hbx := hz3.quiet hml ((Below.refl _ _).alloc (Nat.le_refl _) (.cells #[.int .i64 k] 3))
      have HZ3 := Lib.hid hz3
      have hkm : d.length + 1 ≤ maxLen := by unfold maxLen; omega
      have hkb : (d.length + 1) * 8 ≤ 140737488355328 := by omega
      have hbase : w.heap.size ≤ (w3.alloc (.cells #[.int .i64 k] 3)).heap.size := Nat.le_of_lt hbx.size
      have hownA : (w3.alloc (.cells #[.int .i64 k] 3)).ownsRow w.heap.size 3 1 (.slice A8 d.length c8) d.length (natV d) := by
        have := hbx.row
        unfold OwnL at this
        rw [natV_length] at this
        exact this
      have hnext : ∀ v' w6, w6.ownsRow w.heap.size 3 1 v' (d.length + 1) (natV d ++ [.int .i64 k]) → (w3.alloc (.cells #[.int .i64 k] 3)).grownBy w6 (Value.slice A8 d.length c8).ownBlock → (v'.ownBlock = (Value.slice A8 d.length c8).ownBlock ∨ v'.ownBlock = some (w3.alloc (.cells #[.int .i64 k] 3)).heap.size) → ∃ A9 c9, v' = .slice A9 (d ++ [k]).length c9 ∧ RZ w R m T.i (p.set k true) f (.slice Ab f.bytes.length cb) (.slice Ad f.data.length cd) (.slice A9 (d ++ [k]).length c9) (d ++ [k]) w6 := fun v' w6 r1 r2 r3 => by
        have hrow : OwnL w6 w.heap.size 3 v' (natV (d ++ [k])) := by
          unfold OwnL
          rw [natV_length, List.length_append, natV_append]
          exact r1
        obtain ⟨A9, c9, rfl⟩ := hrow.shape
        rw [natV_length] at hrow r3 ⊢
        refine ⟨A9, c9, rfl, hbx.push hml ((Off.refl _ _).grown r2 (fun j e => .inl e)) hrow (fun j hj => ?_)⟩
        rcases r3 with e | e
        · exact .inl (e ▸ hj)
        · right
          rw [e] at hj
          injection hj with hj
          omega
      have HNext := Lib.hid hnext
      have HOwnA := Lib.hid hownA
      clear hnext hownA hbx hz3
      go_wp2_with (at_builtin; refine wpList_append_own_at _ rfl _ _ 112 rfl w.heap.size 3 i0 (.int .i64 0) 1 8 Tryz.underlying112 hi0 hz0 hz1 hz2 rfl (by decide) (.slice A8 d.length c8) _ _ rfl HOwnA.out ⟨w3.heap.size, 0, none⟩ 1 1 [.int .i64 k] rfl rfl (World.news_of_block (heap_alloc_new _ _)) (by intro u hu; simp at hu; subst hu; rfl) hkm hkb hbase ?_; intro v' w6 hown' hgrow hnil hloc; have hI6 := HNext.out v' w6 hown' hgrow hloc; have HI6 := Lib.hid hI6; clear hown' hgrow hnil hloc hI6)
      go_roundg (npg size - (d.length + 1))
      case measure => omega
      case rel =>
        obtain ⟨A9, c9, e1, hz9⟩ := HI6.out
        exact ⟨p.set k true, d ++ [k], A9, c9, e1, by rw [List.length_append]; rfl, by rw [List.length_append]; show rgrowN (npg size - (d.length + 1)) _ = _; rw [← hn2]; exact HGr.out, hz9, by rw [List.length_append]; show d.length + 1 ≤ 9; omega, .inl (by rw [List.length_append]; exact hor2)⟩
    · have hlt' : decide ((d.length : Int) < (npg size : Int)) = false := by simp; omega
      rw [show npg size - d.length = 0 from by omega] at hgr
      have hs1 : s1 = ({ T with p := p }, { f with data := d }) := (Option.some.inj hgr).symm
      have hfin2 := HT2.out
      rw [hs1] at hfin2
      have hst2 : d.length ≤ npg size ∨ Took T.i p d := by
        rcases hor with e | ⟨rfl, rfl⟩
        · exact .inl e
        · exact .inr HTk.out
      have HZ2 := Lib.hid hz
      have HF2 := Lib.hid hfin2
      have HS2 := Lib.hid hst2
      have hw9 := hz.off
      clear hgr hs1 hfin2 hst2 hor hz HT2 HG0 hmax
      go_wp2_with (go_at_call 158; refine hdat.mono ?_; rintro e w9 ⟨rfl, hw9⟩; obtain rfl := hw9.symm)
      go_loopg [8] (d.length - npg size) (fun gg v8 wx => ∃ (p2 : List Bool) (d2 : List Nat) (b2 : Str) (A8 : Option Addr) (c8 : Nat), v8 = .slice A8 d2.length c8 ∧ gg = d2.length - npg size ∧ rshrinkN (d2.length - npg size) ({ T with p := p2 }, { f with data := d2, bytes := b2 }) = rshrinkN (d.length - npg size) ({ T with p := p }, { f with data := d }) ∧ RZ w R m T.i p2 f (.slice Ab f.bytes.length cb) (.slice Ad f.data.length cd) (.slice A8 d2.length c8) d2 wx ∧ d2.length ≤ 9 ∧ npg size ≤ d2.length ∧ (d2.length ≤ npg size ∨ Took T.i p2 d2))
      case atStart => exact ⟨p, d, f.bytes, A8, c8, rfl, rfl, rfl, HZ2.out, hd9, by omega, HS2.out⟩
      case round =>
        obtain ⟨p2, d2, b2, A8, c8, rfl, rfl, hsh, hz, hd9, hge, hor⟩ := hrel
        have hdat := HData.out wr
        by_cases hlt3 : npg size < d2.length
        · have hlt3' : decide ((npg size : Int) < (d2.length : Int)) = true := by simp; omega
          obtain ⟨q, hq⟩ : ∃ q, q + 1 = d2.length := ⟨d2.length - 1, by omega⟩
          have htk := hor.resolve_left (by omega)
          have hpop := (hz.row.pop (by rw [natV_length]) (by omega))
          obtain ⟨g8, rfl, hrow⟩ := hpop
          obtain ⟨g9, eg, _, _, hcs⟩ := ent_of hz.row (by rw [natV_length]) q (by rw [natV_length]; omega)
          injection eg with eg
          injection eg with eg
          subst eg
          have hcell := hcs q _ (natV_at d2 q (by omega))
          obtain ⟨k, hk⟩ : ∃ k, k = d2.getD q 0 := ⟨_, rfl⟩
          rw [← hk] at hcell
          have hqe : d2.length - 1 = q := by omega
          have hla := htk.last (by omega)
          have hpo := htk.pop (by omega)
          rw [hqe, ← hk] at hla hpo
          have hqc : d2.length ≤ c8 := by
            rcases hz.row.2 with ⟨e, _⟩ | ⟨g, cap, cur, e, _, _, h9, _⟩
            · cases e
            · injection e with _ _ e; rw [natV_length] at h9; omega
          have hshr := rshr_few (T := T) (f := f) (p := p2) (d := d2) (b := b2) (n := d2.length - npg size - 1) (by omega)
          rw [show d2.length - npg size - 1 + 1 = d2.length - npg size from by omega, hsh, hqe, ← hk] at hshr
          have hw2 : IntKind.i64.wrap ((d2.length : Int) - 1) = (q : Int) := by rw [IntWalk.i64_in _ (by omega)]; omega
          obtain ⟨pv9, iv9, hmp⟩ := hz.map
          have hnI : ¬ ((R.i m ∨ w.heap.size ≤ m) ∧ m < wr.heap.size ∧ m ≠ w.heap.size ∧ (Value.slice (some ⟨g8, 0, none⟩) d2.length c8).ownBlock ≠ some m) := fun e => by
            rcases e.1 with e | e
            · exact HN.out.apart m HN.out.mm e
            · omega
          have hrm := HN.out.ne
          have hrl := HN.out.lt r (.inl HN.out.mr)
          have d0 : wr.cell? ⟨r, 0, none⟩ = some (.pointer (some ⟨m, 0, none⟩)) := (hz.off.cell (p := ⟨r, 0, none⟩) hrl (fun e => hrm e)).trans c0
          have hgive : ∀ W, Off (fun _ => False) wr W → Calls Tryz.prog 160 #[.pointer (some ⟨m, 0, none⟩), .int .i64 k] W fun e w' => e = .returned (.int .i64 0) ∧ Hid (RZ w R m T.i (p2.set k false) f (.slice Ab f.bytes.length cb) (.slice Ad f.data.length cd) (.slice (some ⟨g8, 0, none⟩) d2.length c8) d2 w' ∧ w'.cell? ⟨r, 0, none⟩ = some (.pointer (some ⟨m, 0, none⟩))) := fun W ho => by
            have hW := hz.quiet hml (ho.below (Nat.le_refl _) (fun k e => e.elim))
            obtain ⟨pv9, iv9, hmp⟩ := hW.map
            have hnI : ¬ ((R.i m ∨ w.heap.size ≤ m) ∧ m < W.heap.size ∧ m ≠ w.heap.size ∧ (Value.slice (some ⟨g8, 0, none⟩) d2.length c8).ownBlock ≠ some m) := fun e => by
              rcases e.1 with e | e
              · exact HN.out.apart m HN.out.mm e
              · omega
            refine (rgiveP_any _ m k p2 T.i pv9 iv9 W hmp hnI hla.1 hla.2.1 hla.2.2).mono ?_
            rintro e w' ⟨rfl, pv', hr, ho2⟩
            have h9 := hW.turn hml hr ho2
            exact ⟨rfl, Lib.hid ⟨h9, (h9.off.cell (p := ⟨r, 0, none⟩) hrl (fun e => hrm e)).trans c0⟩⟩
          have hnext : ∀ w6, RZ w R m T.i (p2.set k false) f (.slice Ab f.bytes.length cb) (.slice Ad f.data.length cd) (.slice (some ⟨g8, 0, none⟩) d2.length c8) d2 w6 → RZ w R m T.i (p2.set k false) f (.slice Ab f.bytes.length cb) (.slice Ad f.data.length cd) (.slice (some ⟨g8, 0, none⟩) q c8) d2.dropLast w6 := fun w6 h6 => by
            obtain ⟨_, _, h7⟩ := h6.row.pop (by rw [natV_length]) (by omega)
            rw [hqe] at h7
            refine h6.push hml (Off.refl _ _) ?_ (fun j hj => .inl hj)
            have e : natV d2.dropLast = (natV d2).dropLast := by unfold natV; rw [List.map_dropLast]
            rw [e]; exact h7
          have h10 : ((q : Int) == 10) = false := by rw [beq_eq_false_iff_ne]; omega
          have HGive := Lib.hid hgive
          have HNext := Lib.hid hnext
          have HShr := Lib.hid hshr
          have HPo := Lib.hid hpo
          have HQ := Lib.hid hq
          have HQe := Lib.hid hqe
          have hq9 : q ≤ 8 := by omega
          have hqc2 : q ≤ c8 := by omega
          have hql : (q : Int) < (d2.length : Int) := by omega
          have HK := Lib.hid hk
          clear hgive hnext hshr hpo hla hz hmp hnI hor hsh hcs hrow htk hk hq hqe
          go_wp2_with (go_at_call 158; refine hdat.mono ?_; rintro e w9 ⟨rfl, hw9⟩; obtain rfl := hw9.symm)
          go_region_with (go_at_call 160; refine (HGive.out _ (by repeat' (first | exact Off.refl _ _ | refine Off.drew ?_ | refine Off.drewN ?_ _))).mono ?_; rintro e w6 ⟨rfl, HZ6⟩)
          all_goals go_wp2_with fail
          all_goals
            go_roundg (q - npg size)
            case measure => omega
            case rel =>
              have hq := HQ.out
              have hdq : d2.dropLast.length = q := by rw [List.length_dropLast]; omega
              refine ⟨p2.set k false, d2.dropLast, b2.take (512 * q), some ⟨g8, 0, none⟩, c8, by rw [hdq], by rw [hdq], ?_, by rw [hdq]; exact HNext.out _ HZ6.out.1, by omega, by omega, .inr HPo.out⟩
              have := HShr.out
              rw [show d2.length - npg size - 1 = q - npg size from by omega] at this
              rw [hdq]
              exact this.symm
        · have hlt3' : decide ((npg size : Int) < (d2.length : Int)) = false := by simp; omega
          rw [show d2.length - npg size = 0 from by omega] at hsh
          have hfin := HF2.out
          rw [← hsh] at hfin
          have hfin : ({ T with p := p2 } : RS).set j { f with data := d2, bytes := fitTo f.bytes size } = T' := hfin
          have HFin := Lib.hid hfin
          have hbrow : wr.ownsRow 0 5 1 (.slice Ab f.bytes.length cb) f.bytes.length (bytV f.bytes) := by
            have := HNb.out.off hz.off (fun k hk e => HN.out.apart m HN.out.mm (e ▸ hk))
            have := this.1
            unfold OwnL at this
            rw [bytV_length] at this
            exact this
          have hbx := cell_of_heap hz.box 3
          have HBr := Lib.hid hbrow
          have HZ3 := Lib.hid hz
          clear hsh hfin hbrow hz hor HF2 HS2 HZ2 hw9
          go_wp2_with (first | (go_at_call 158; refine hdat.mono ?_; rintro e w9 ⟨rfl, hw9⟩; obtain rfl := hw9.symm) | (at_builtin; refine wpList_append_clone rfl _ _ 53 rfl 5 i1 (.int .u8 0) 1 1 Tryz.underlying53 hi1 hy0 hy1 hy2 rfl (by decide) (.slice Ab f.bytes.length cb) f.bytes.length 0 _ rfl rfl HBr.out (bytV_one _) (by unfold maxLen; omega) (by omega) ?_; intro v13 w13 hown13 hb13; have HO13 := Lib.hid hown13; have HB13 := Lib.hid hb13; clear hown13 hb13))
          obtain ⟨wq, rfl⟩ : ∃ wq, wq = wr := ⟨_, rfl⟩
          clear HNb HBr
          go_loopg [13] (size - f.bytes.length) (fun gg v13 wx => ∃ (n : Nat) (A13 : Option Addr) (c13 : Nat), v13 = .slice A13 (f.bytes.length + n) c13 ∧ gg = size - (f.bytes.length + n) ∧ (n = 0 ∨ f.bytes.length + n ≤ size) ∧ OwnL wx wq.heap.size 5 (.slice A13 (f.bytes.length + n) c13) (bytV (f.bytes ++ List.replicate n 0)) ∧ Below wq.heap.size wq wx)
          case atStart =>
            have h13 := HO13.out
            obtain ⟨A13, c13, rfl⟩ := ownsRow_slice h13
            refine ⟨0, A13, c13, rfl, rfl, .inl rfl, ?_, HB13.out⟩
            unfold OwnL
            rw [List.replicate_zero, List.append_nil, bytV_length]
            exact h13
          case round =>
            obtain ⟨n, A13, c13, rfl, rfl, hn, hown, hbw⟩ := hrel
            by_cases hlt4 : f.bytes.length + n < size
            · have hlt4' : decide (((f.bytes.length + n : Nat) : Int) < (size : Int)) = true := by simp; omega
              have hbase : wq.heap.size ≤ (wr.alloc (.cells #[.int .u8 0] 5)).heap.size := by rw [World.size_alloc]; exact Nat.le_succ_of_le hbw.size
              have hownA : (wr.alloc (.cells #[.int .u8 0] 5)).ownsRow wq.heap.size 5 1 (.slice A13 (f.bytes.length + n) c13) (f.bytes.length + n) (bytV (f.bytes ++ List.replicate n 0)) := by
                have h8 := hown
                unfold OwnL at h8
                rw [bytV_length, List.length_append, List.length_replicate] at h8
                exact World.ownsRow.alloc h8 _
              have hkm : f.bytes.length + n + 1 ≤ maxLen := by unfold maxLen; omega
              have hkb : (f.bytes.length + n + 1) * 1 ≤ 140737488355328 := by omega
              have hnext : ∀ v' w6, w6.ownsRow wq.heap.size 5 1 v' (f.bytes.length + n + 1) (bytV (f.bytes ++ List.replicate n 0) ++ [.int .u8 0]) → (wr.alloc (.cells #[.int .u8 0] 5)).grownBy w6 (Value.slice A13 (f.bytes.length + n) c13).ownBlock → ∃ A9 c9, v' = .slice A9 (f.bytes.length + (n + 1)) c9 ∧ OwnL w6 wq.heap.size 5 (.slice A9 (f.bytes.length + (n + 1)) c9) (bytV (f.bytes ++ List.replicate (n + 1) 0)) ∧ Below wq.heap.size wq w6 := fun v' w6 r1 r2 => by
                have hrow : OwnL w6 wq.heap.size 5 v' (bytV (f.bytes ++ List.replicate (n + 1) 0)) := by
                  unfold OwnL
                  rw [bytV_length, List.length_append, List.length_replicate, List.replicate_succ', ← List.append_assoc, bytV_append]
                  exact r1
                obtain ⟨A9, c9, rfl⟩ := hrow.shape
                rw [bytV_length, List.length_append, List.length_replicate] at hrow ⊢
                exact ⟨A9, c9, rfl, hrow, (hbw.alloc hbw.size _).grown r2 hbase (fun j hj => (World.ownsRow.lt hownA j hj).1)⟩
              have HNext := Lib.hid hnext
              have HOwnA := Lib.hid hownA
              clear hnext hownA hown hbw
              go_wp2_with (at_builtin; refine wpList_append_own_at _ rfl _ _ 53 rfl wq.heap.size 5 i1 (.int .u8 0) 1 1 Tryz.underlying53 hi1 hy0 hy1 hy2 rfl (by decide) (.slice A13 (f.bytes.length + n) c13) _ _ rfl HOwnA.out ⟨wr.heap.size, 0, none⟩ 1 1 [.int .u8 0] rfl rfl (World.news_of_block (heap_alloc_new _ _)) (by intro u hu; simp at hu; subst hu; rfl) hkm hkb hbase ?_; intro v' w6 hown' hgrow hnil hloc; have hI6 := HNext.out v' w6 hown' hgrow; have HI6 := Lib.hid hI6; clear hown' hgrow hnil hloc hI6)
              go_roundg (size - (f.bytes.length + (n + 1)))
              case measure => omega
              case rel =>
                obtain ⟨A9, c9, e1, e2, e3⟩ := HI6.out
                exact ⟨n + 1, A9, c9, e1, rfl, .inr (by omega), e2, e3⟩
            · have hlt4' : decide (((f.bytes.length + n : Nat) : Int) < (size : Int)) = false := by simp; omega
              have hL : size ≤ f.bytes.length + n := by omega
              have hzr := HZ3.out.quiet hml hbw
              have hfit := fit_eq f.bytes n size hL hn
              have hset : ∀ A' c', OwnL wr wq.heap.size 5 (.slice A' size c') (bytV (fitTo f.bytes size)) → ∀ W, Off (fun k => k = w.heap.size) wr W → Calls Tryz.prog 92 #[.pointer (some ⟨r, 0, none⟩), .int .i64 j, .agg #[.int .i64 f.kind, .int .i64 f.mode, .int .i64 f.links, .slice A' size c', .slice A8 d2.length c8, .int .i64 f.ind]] W fun e w' => e = .returned (.tuple #[]) ∧ Hid (RefStep w r T' K R w') := fun A' c' h13 W ho => by
                obtain ⟨pv', iv', hnw, hsl⟩ := hzr.now HN.out
                have hsq := HZ3.out.size
                have hd : ∀ k, (R.plus (w.heap.size + 1) wr.heap.size).has k → ¬ k = w.heap.size := fun k hk e => by
                  rcases hk with hk | hk | hk
                  · have := HN.out.lt k (.inl hk); omega
                  · have := HN.out.lt k (.inr hk); omega
                  · omega
                have hnW := hnw.off ho hd
                have hbW : SlI W (R.plus (w.heap.size + 1) wr.heap.size).i 5 (.slice A' size c') (bytV (fitTo f.bytes size)) := ⟨(h13.base (Nat.zero_le _)).off ho (fun k hk e => by have := (h13.block hk).1; omega), fun k hk => .inr ⟨by have := (h13.block hk).1; omega, (h13.block hk).2⟩⟩
                have hdW := hsl.off ho (fun k hk => hd k (.inr hk))
                refine (rset_any r m j { T with p := p2 } _ _ u2 u3 pv' iv' (.slice A' size c') (.slice A8 d2.length c8) X { f with data := d2, bytes := fitTo f.bytes size } W hnW (by have := HN.out.small.1; show j < T.l.length; omega) hbW hdW ⟨by show (fitTo f.bytes size).length ≤ 70656; rw [fitTo_length]; omega, by show d2.length ≤ 138; omega⟩).mono ?_
                rintro e w' ⟨rfl, lv', hN', ho'⟩
                rw [HFin.out] at hN'
                have hoff : Off R.m w w' := ((hzr.off.mono (fun k e => .inl (by rw [e]; exact HN.out.mm))).trans ho (fun k e => .inr (Nat.le_of_eq e.symm))).trans ho' (fun k e => .inl (by rw [e]; exact HN.out.mr))
                refine ⟨rfl, Lib.hid ⟨_, ⟨m, lv', u2, u3, pv', iv', _, mk, pk, ik, Y, hN', (HK.out.off hoff (fun k hk e => HN.out.apart k e hk)).mono (fun k hk _ => .inl (.inl hk))⟩, ⟨fun k hk => .inl hk, fun k hk => ?_⟩, hoff⟩⟩
                have hz1 := ho.size
                have hz2 := hzr.off.size
                rcases hk with (hk | hk) | hk
                · exact .inl hk
                · right; omega
                · right; omega
              have b0 : wr.cell? ⟨w.heap.size, 0, none⟩ = some (.int .i64 f.kind) := cell_of_heap hzr.box 0
              have b1 : wr.cell? ⟨w.heap.size, 1, none⟩ = some (.int .i64 f.mode) := cell_of_heap hzr.box 1
              have b2 : wr.cell? ⟨w.heap.size, 2, none⟩ = some (.int .i64 f.links) := cell_of_heap hzr.box 2
              have b3 : wr.cell? ⟨w.heap.size, 3, none⟩ = some (.slice Ab f.bytes.length cb) := cell_of_heap hzr.box 3
              have b4 : wr.cell? ⟨w.heap.size, 4, none⟩ = some (.slice Ad f.data.length cd) := cell_of_heap hzr.box 4
              have b5 : wr.cell? ⟨w.heap.size, 5, none⟩ = some (.int .i64 f.ind) := cell_of_heap hzr.box 5
              have z3 : wr.frozen? ⟨w.heap.size, 3, none⟩ = false := free_of_heap hzr.box 3
              have z4 : wr.frozen? ⟨w.heap.size, 4, none⟩ = false := free_of_heap hzr.box 4
              have HSet := Lib.hid hset
              rcases hown.two with ⟨e13, e14⟩ | ⟨g13, c13', e13, hc13⟩
              · have hz0 : f.bytes.length + n = 0 := by
                  have := congrArg List.length e14
                  rw [bytV_length, List.length_append, List.length_replicate] at this
                  simpa using this
                have hn0 : n = 0 := by omega
                have hb0 : f.bytes.length = 0 := by omega
                have hs0 : size = 0 := by omega
                injection e13 with ea eb ec
                subst ea ec hn0 hs0
                have hrow : OwnL wr wq.heap.size 5 (.slice none 0 0) (bytV (fitTo f.bytes 0)) := by
                  rw [← hfit, List.take_zero]
                  exact World.ownsRow_nil _ _ _ _
                have hfl : ((f.bytes.length + 0 : Nat) : Int) = 0 := by omega
                have HRow := Lib.hid hrow
                have hb00 : f.bytes.length + 0 = 0 := hz0
                rw [hb00] at hlt4'
                clear hset hown hbw hzr hfit hrow hn e14 hL hlt4
                simp only [hb00]
                go_wp2_with fail
                go_region_with (fail)
                all_goals go_wp2_with (go_at_call 92; refine (HSet.out none 0 HRow.out _ (by repeat' (first | with_reducible exact Off.refl _ _ | exact Or.inl rfl | with_reducible refine Off.drewN ?_ _ | with_reducible refine Off.drew ?_ | with_reducible refine Off.setCell ?_ ?_ _))).mono ?_; rintro e w7 ⟨rfl, HS7⟩)
                all_goals (go_ret; exact ⟨rfl, HS7.out⟩)
              · injection e13 with ea eb ec
                subst ea ec
                have hsc : size ≤ c13 := by rw [bytV_length, List.length_append, List.length_replicate] at hc13; omega
                have hrow : OwnL wr wq.heap.size 5 (.slice (some ⟨g13, 0, none⟩) size c13) (bytV (fitTo f.bytes size)) := by
                  rw [← hfit, bytV_take]
                  exact hown.cut (by rw [bytV_length, List.length_append, List.length_replicate]) hL (fun e => by cases e)
                have HRow := Lib.hid hrow
                clear hset hown hbw hzr hfit hrow hn
                go_wp2_with fail
                go_region_with (fail)
                all_goals go_wp2_with (go_at_call 92; refine (HSet.out (some ⟨g13, 0, none⟩) c13 HRow.out _ (by repeat' (first | with_reducible exact Off.refl _ _ | exact Or.inl rfl | with_reducible refine Off.drewN ?_ _ | with_reducible refine Off.drew ?_ | with_reducible refine Off.setCell ?_ ?_ _))).mono ?_; rintro e w7 ⟨rfl, HS7⟩)
                all_goals (go_ret; exact ⟨rfl, HS7.out⟩)
end Go.Proofs.YtfgkgoddjemnfaaGreatDoor

namespace Go.Proofs.YtfgkgoddjemnfaaGreatDoor
open Go.RowKit Go.Shelf Pa
attribute [local go_sem] bs_toList bs_size
set_option maxRecDepth 100000 in
set_option maxHeartbeats 1000000 in
theorem rrs6_any (r j size : Nat) (T T' K : RS) (R : Reg) (w : World) (h : RefI w r T K R) (hl : T.look j = 0) (hf : Few T j size) (hT : T.resize j size = some T') :
    Calls Tryz.prog 102 #[.pointer (some ⟨r, 0, none⟩), .int .i64 j, .int .i64 size] w fun e w' => e = .returned (.int .i64 0) ∧ RefStep w r T' K R w' := by
  have hlk := rlook6_any r j T K R w h (by have := hf.lt; omega)
  rw [hl] at hlk
  have hrs := rres6_any r j size T T' K R w h hf hT
  have hsz := hf.size
  have HLk := Lib.hid hlk
  have HRs := Lib.hid hrs
  clear hlk hrs h hf hT hl
  go_enter Tryz.func102, Tryz.ntmps102
  go_wp2_with fail
  refine HLk.out.mono ?_
  rintro e w1 ⟨rfl, hw1⟩
  obtain rfl := hw1.symm
  go_wp2_with fail
  refine HRs.out.mono ?_
  rintro e w2 ⟨rfl, hs⟩
  have HS := Lib.hid hs
  clear hs
  go_wp2_with fail
  go_ret
  exact ⟨rfl, HS.out⟩
end Go.Proofs.YtfgkgoddjemnfaaGreatDoor

namespace Go.Proofs.YtfgkgoddjemnfaaGreatDoor
open Go.RowKit Go.Shelf Pa
attribute [local go_sem] bs_toList bs_size
set_option maxRecDepth 100000 in
set_option maxHeartbeats 4000000 in
theorem rwr6_any (r j at_ gb cb : Nat) (b : Str) (T T' K : RS) (R : Reg) (w : World) (h : RefI w r T K R) (hl : T.look j = 0) (hb : OwnL w 0 5 (.slice (some ⟨gb, 0, none⟩) b.length cb) (bytV b)) (hgb : ¬ R.has gb) (hb0 : 1 ≤ b.length)
    (hf : Few T j (max (T.file j).bytes.length (at_ + b.length))) (hrz : ∀ T1, T.resize j (max (T.file j).bytes.length (at_ + b.length)) = some T1 → Resized T T1 j (max (T.file j).bytes.length (at_ + b.length))) (hT : T.write j at_ b = some T') :
    Calls Tryz.prog 57 #[.pointer (some ⟨r, 0, none⟩), .int .i64 j, .int .i64 at_, .slice (some ⟨gb, 0, none⟩) b.length cb] w fun e w' => e = .returned (.int .i64 0) ∧ RefStep w r T' K R w' := by
  obtain ⟨i1, hi1, hy0, hy1, hy2⟩ := info_parts info_byte
  have hlt := hf.lt
  have hlk := rlook6_any r j T K R w h (by omega)
  rw [hl] at hlk
  unfold RS.write at hT
  cases hr : T.resize j (max (T.file j).bytes.length (at_ + b.length)) with
  | none => rw [hr] at hT; cases hT
  | some T1 =>
  rw [hr] at hT
  have hT : T1.set j { T1.file j with bytes := laidAt (T1.file j).bytes at_ b } = T' := Option.some.inj hT
  have hz := hrz T1 hr
  have hsz := hf.size
  have hrs := rres6_any r j _ T T1 K R w h hf hr
  obtain ⟨m, lv, u2, u3, pv, iv, X, mk, pk, ik, Y, h1, h2⟩ := id h
  obtain ⟨g, c, rfl, _, hgl, hcs⟩ := h1.cells (by omega)
  have c1 : w.cell? ⟨r, 1, none⟩ = some (.slice (some ⟨g, 0, none⟩) T.i.length c) := cell_of_heap h1.at_ 1
  obtain ⟨bv, dv, hx, n1, n2, hq⟩ := hcs j hlt
  obtain ⟨Ab, cb2, rfl⟩ := n1.1.shape
  rw [bytV_length] at hq
  have q3 := hq 3 _ rfl
  have hgbl : gb < w.heap.size := (hb.block rfl).2
  obtain ⟨f0, hf0⟩ : ∃ f, f = T.file j := ⟨_, rfl⟩
  rw [← hf0] at hsz hrs q3 hz
  have hmx : at_ + b.length ≤ max f0.bytes.length (at_ + b.length) := Nat.le_max_right _ _
  have hf0l : f0.bytes.length ≤ 4608 := Nat.le_trans (Nat.le_max_left _ _) hsz
  have hatl : at_ + b.length ≤ 4608 := Nat.le_trans hmx hsz
  have k1 : decide ((at_ : Int) < 0) = false := by simp
  have k2 : ((b.length : Int) == 0) = false := by rw [beq_eq_false_iff_ne]; omega
  have k3 : decide ((70656 : Int) < (at_ : Int)) = false := by simp; omega
  have k4 : decide ((70656 : Int) - (at_ : Int) < (b.length : Int)) = false := by simp; omega
  have HLk := Lib.hid hlk
  have HRs := Lib.hid hrs
  have HB := Lib.hid hb
  have HT := Lib.hid hT
  have HG := Lib.hid hgb
  have hlt1 : j < T1.i.length := by rw [hz.i]; exact hlt
  have hfl : at_ + b.length ≤ (T1.file j).bytes.length := by rw [hz.bytes, fitTo_length]; exact hmx
  have HFl := Lib.hid hfl
  clear hlk hrs hb hT h h1 h2 hf hl hr hcs hq n1 n2 hx hgb hsz hmx hf0 hrz hz hfl
  go_enter Tryz.func57, Tryz.ntmps57
  go_wp2_with fail
  refine HLk.out.mono ?_
  rintro e w1 ⟨rfl, hw1⟩
  obtain rfl := hw1.symm
  by_cases hgt : f0.bytes.length < at_ + b.length
  · have hgt' : decide ((f0.bytes.length : Int) < (at_ : Int) + (b.length : Int)) = true := by simp; omega
    rw [Nat.max_eq_right (Nat.le_of_lt hgt), Int.natCast_add] at HRs
    go_wp2_with fail
    refine HRs.out.mono ?_
    rintro e w1 ⟨rfl, R1, hI, hto, hoff⟩
    have hb1 : OwnL w1 0 5 (.slice (some ⟨gb, 0, none⟩) b.length cb) (bytV b) := HB.out.off hoff (fun k hk e => by cases hk; exact HG.out (.inl e))
    have hgb1 : ¬ R1.has gb := fun e => by
      rcases hto.has e with e | e
      · exact HG.out e
      · omega
    obtain ⟨m1, lv1, u21, u31, pv1, iv1, X1, mk1, pk1, ik1, Y1, h1, h2⟩ := hI
    obtain ⟨g1, cc1, rfl, _, hgl1, hcs1⟩ := h1.cells (by omega)
    have d1 : w1.cell? ⟨r, 1, none⟩ = some (.slice (some ⟨g1, 0, none⟩) T1.i.length cc1) := cell_of_heap h1.at_ 1
    obtain ⟨bv1, dv1, hx1, n1, n2, hq1⟩ := hcs1 j hlt1
    obtain ⟨Ab1, cb1, rfl⟩ := n1.1.shape
    obtain ⟨Ad1, cd1, rfl⟩ := n2.1.shape
    have hsm := h1.small.2 (T1.file j) (by rw [← h1.eq]; exact List.mem_map.2 ⟨_, List.mem_of_getElem? hx1, rfl⟩)
    have hfl := HFl.out
    obtain ⟨f, hf⟩ : ∃ f, f = T1.file j := ⟨_, rfl⟩
    have hT1 := HT.out
    rw [← hf] at hq1 n1 n2 hsm hfl hT1
    rw [bytV_length] at hq1
    rw [natV_length] at hq1 n2
    have s0 := hq1 0 _ rfl
    have s1 := hq1 1 _ rfl
    have s2 := hq1 2 _ rfl
    have s3 := hq1 3 _ rfl
    have s4 := hq1 4 _ rfl
    have s5 := hq1 5 _ rfl
    rw [Nat.add_zero] at s0
    obtain ⟨W0, hW0⟩ : ∃ W, W = w1.alloc (.cells #[.int .i64 f.kind, .int .i64 f.mode, .int .i64 f.links, .slice Ab1 f.bytes.length cb1, .slice Ad1 f.data.length cd1, .int .i64 f.ind] 131) := ⟨_, rfl⟩
    have hb0 : Below w1.heap.size w1 W0 := by rw [hW0]; exact (Below.refl _ _).alloc (Nat.le_refl _) _
    have hs0 : W0.heap.size = w1.heap.size + 1 := by rw [hW0, World.size_alloc]
    have hbox0 : W0.heap[w1.heap.size]? = some (.cells #[.int .i64 f.kind, .int .i64 f.mode, .int .i64 f.links, .slice Ab1 f.bytes.length cb1, .slice Ad1 f.data.length cd1, .int .i64 f.ind] 131 (0, 0)) := by rw [hW0]; exact heap_alloc_new _ _
    have hbrow : W0.ownsRow 0 5 1 (.slice Ab1 f.bytes.length cb1) f.bytes.length (bytV f.bytes) := by
      have := n1.1.off (Off.of_below hb0 (fun _ => False)) (fun _ _ e => e)
      unfold OwnL at this
      rw [bytV_length] at this
      exact this
    -- what set leaves
    have hset : ∀ c9 g9 W, Off (fun _ => False) w1 W → W.heap[w1.heap.size]? = some (.cells #[.int .i64 f.kind, .int .i64 f.mode, .int .i64 f.links, .slice (some ⟨g9, 0, none⟩) f.bytes.length c9, .slice Ad1 f.data.length cd1, .int .i64 f.ind] 131 (0, 0)) → OwnL W (w1.heap.size + 1) 5 (.slice (some ⟨g9, 0, none⟩) f.bytes.length c9) (bytV (laidAt f.bytes at_ b)) → Calls Tryz.prog 92 #[.pointer (some ⟨r, 0, none⟩), .int .i64 j, .agg #[.int .i64 f.kind, .int .i64 f.mode, .int .i64 f.links, .slice (some ⟨g9, 0, none⟩) f.bytes.length c9, .slice Ad1 f.data.length cd1, .int .i64 f.ind]] W fun e w' => e = .returned (.tuple #[]) ∧ Hid (RefStep w r T' K R w') := fun c9 g9 W ho hbox hrow => by
      have hz : RZ w1 R1 m1 T1.i T1.p f (.slice (some ⟨g9, 0, none⟩) f.bytes.length c9) (.slice Ad1 f.data.length cd1) (.slice none 0 0) [] W := ⟨ho.mono (fun _ e => e.elim), hbox, World.ownsRow_nil _ _ _ _, fun e => (by cases e), pv1, iv1, (h1.map.off ho (fun _ _ e => e) (fun e => e)).mono fun k hk hlt => ⟨.inl hk, hlt, fun e => by have := h1.lt k (.inr hk); omega, fun e => (by cases e)⟩⟩
      obtain ⟨pv', iv', hnw, _⟩ := hz.now h1
      have hbW : SlI W (R1.plus (w1.heap.size + 1) W.heap.size).i 5 (.slice (some ⟨g9, 0, none⟩) f.bytes.length c9) (bytV (laidAt f.bytes at_ b)) := ⟨hrow.base (Nat.zero_le _), fun k hk => .inr (hrow.block hk)⟩
      have hdW := (n2.off ho (fun _ _ e => e)).mono (J := (R1.plus (w1.heap.size + 1) W.heap.size).i) (fun k hk _ => .inl hk)
      have hll : (laidAt f.bytes at_ b).length = f.bytes.length := laidAt_length hfl
      refine (rset_any r m1 j { T1 with p := T1.p } _ _ u21 u31 pv' iv' (.slice (some ⟨g9, 0, none⟩) f.bytes.length c9) (.slice Ad1 f.data.length cd1) X1 { f with bytes := laidAt f.bytes at_ b } W hnw (by have := h1.small.1; show j < T1.l.length; omega) hbW hdW ⟨by show (laidAt f.bytes at_ b).length ≤ 70656; rw [hll]; exact hsm.1, hsm.2⟩).mono ?_
      rintro e w' ⟨rfl, lv', hN', ho'⟩
      have hN' : RNow w' ((R1.plus (w1.heap.size + 1) W.heap.size).plus W.heap.size w'.heap.size) r m1 (T1.set j { f with bytes := laidAt f.bytes at_ b }) lv' u21 u31 pv' iv' _ := hN'
      rw [hT1] at hN'
      have hof1 : Off R1.m w1 w' := (ho.mono (fun _ e => e.elim)).trans ho' (fun k e => .inl (by rw [e]; exact h1.mr))
      refine ⟨rfl, Lib.hid (RefStep.trans hto hoff ⟨_, ⟨m1, lv', u21, u31, pv', iv', _, mk1, pk1, ik1, Y1, hN', (h2.off hof1 (fun k hk e => h1.apart k e hk)).mono (fun k hk _ => .inl (.inl hk))⟩, ⟨fun k hk => .inl hk, fun k hk => ?_⟩, hof1⟩)⟩
      have hz1 := ho.size
      rcases hk with (hk | hk) | hk
      · exact .inl hk
      · right; omega
      · right; omega
    have HSet := Lib.hid hset
    have HBr := Lib.hid hbrow
    have HB1 := Lib.hid (⟨hb1, hbox0⟩ : _ ∧ _)
    have hbB := hb0
    have HBb := Lib.hid hbB
    have HSm := Lib.hid hsm
    have hsm1 : f.bytes.length ≤ 70656 := hsm.1
    clear hset hbrow hb1 h1 h2 n1 n2 hcs1 hq1 hx1 hto hoff hgb1 hT1 hb0 hbB hbox0 hsm HB HG HRs HLk HT hf HFl
    subst hW0
    go_wp2_with (at_builtin; refine wpList_append_clone rfl _ _ 53 rfl 5 i1 (.int .u8 0) 1 1 Tryz.underlying53 hi1 hy0 hy1 hy2 rfl (by decide) (.slice Ab1 f.bytes.length cb1) f.bytes.length 0 _ rfl rfl HBr.out (bytV_one _) (by unfold maxLen; omega) (by omega) ?_; intro v13 w13 hown13 hb13; have HO13 := Lib.hid hown13; have HB13 := Lib.hid hb13; clear hown13 hb13)
    go_loopg [13] b.length (fun gg i wx => ∃ (k g9 c9 : Nat), i = .int .i64 k ∧ gg = b.length - k ∧ k ≤ b.length ∧ v13 = .slice (some ⟨g9, 0, none⟩) f.bytes.length c9 ∧ OwnL wx (w1.heap.size + 1) 5 (.slice (some ⟨g9, 0, none⟩) f.bytes.length c9) (bytV (laidAt f.bytes at_ (b.take k))) ∧ Off (fun k => k = g9) w13 wx)
    case atStart =>
      have h13 : OwnL w13 (w1.heap.size + 1) 5 v13 (bytV f.bytes) := by
        have := HO13.out
        rw [World.size_alloc] at this
        unfold OwnL
        rw [bytV_length]
        exact this
      rcases h13.two with ⟨e13, e14⟩ | ⟨g9, c9, e13, _⟩
      · have := congrArg List.length e14
        rw [bytV_length] at this
        have h00 : f.bytes.length = 0 := this
        omega
      · rw [bytV_length] at e13
        refine ⟨0, g9, c9, rfl, rfl, Nat.zero_le _, e13, ?_, Off.refl _ _⟩
        rw [List.take_zero, laidAt_nil, ← e13]
        exact h13
    case round =>
      obtain ⟨k, g9, c9, rfl, rfl, hk, rfl, hown, ho13⟩ := hrel
      have hof : Off (fun j => j = g9) w1 wr := ((Off.of_below (HBb.out.trans (HB13.out.mono (by rw [World.size_alloc]; exact Nat.le_succ _))) _)).then ho13
      have hg9 : w1.heap.size + 1 ≤ g9 := (hown.block rfl).1
      have hbx : wr.heap[w1.heap.size]? = _ := (ho13.block w1.heap.size (by have := HB13.out.size; rw [World.size_alloc] at this; omega) (by omega)).trans ((HB13.out.block w1.heap.size (by rw [World.size_alloc]; exact Nat.lt_succ_self _)).trans HB1.out.2)
      have d3 : wr.cell? ⟨w1.heap.size, 3, none⟩ = some (.slice Ab1 f.bytes.length cb1) := cell_of_heap hbx 3
      by_cases hlt5 : k < b.length
      · have hlt5' : decide ((k : Int) < (b.length : Int)) = true := by simp; omega
        obtain ⟨ge, eg, _, hgl2, hcb⟩ := ent_of HB1.out.1 (by rw [bytV_length]) k (by rw [bytV_length]; exact hlt5)
        injection eg with eg
        injection eg with eg
        subst eg
        have hgbw : gb < w1.heap.size := hgl2
        have hcell := (hof.cell (p := ⟨gb, k, none⟩) hgl2 (by show gb ≠ g9; omega)).trans (hcb k _ (bytV_at b k hlt5))
        have hlen9 : (laidAt f.bytes at_ (b.take k)).length = f.bytes.length := laidAt_length (by rw [List.length_take]; omega)
        obtain ⟨y, hy⟩ : ∃ y, y = b.getD k 0 := ⟨_, rfl⟩
        rw [← hy] at hcell
        obtain ⟨gx, cx, ex, _, _, _, h4, h5⟩ := hown.at (fun e => by have := congrArg List.length e; rw [bytV_length, hlen9] at this; have h00 : f.bytes.length = 0 := this; omega)
        injection ex with ex el ec
        injection ex with ex
        injection ex with ex
        subst ex
        clear el ec
        have hc9 := h4 (at_ + k) _ (bytV_at (laidAt f.bytes at_ (b.take k)) (at_ + k) (by rw [hlen9]; omega))
        have hz9 := h5 (at_ + k)
        have hown2 : OwnL (wr.setCell ⟨g9, at_ + k, none⟩ (.int .u8 y.toNat)) (w1.heap.size + 1) 5 (.slice (some ⟨g9, 0, none⟩) f.bytes.length c9) (bytV (laidAt f.bytes at_ (b.take (k + 1)))) := by
          have h1 : OwnL wr (w1.heap.size + 1) 5 (.slice (some ⟨g9, 0, none⟩) (bytV (laidAt f.bytes at_ (b.take k))).length c9) (bytV (laidAt f.bytes at_ (b.take k))) := by rw [bytV_length, hlen9]; exact hown
          have h2 := h1.set (at_ + k) (.int .u8 y.toNat) (by rw [bytV_length, hlen9]; omega)
          rw [bytV_length, hlen9] at h2
          have e1 : laidAt f.bytes at_ (b.take (k + 1)) = (laidAt f.bytes at_ (b.take k)).set (at_ + k) y := by
            have hbk : b[k]? = some y := by rw [hy, List.getD_eq_getElem?_getD, List.getElem?_eq_getElem hlt5]; rfl
            have hlk : (b.take k).length = k := by rw [List.length_take]; omega
            have := laidAt_snoc f.bytes (b.take k) at_ y (by rw [hlk]; omega)
            rw [hlk] at this
            rw [List.take_add_one, hbk]
            exact this
          rw [e1]
          have e2 : bytV ((laidAt f.bytes at_ (b.take k)).set (at_ + k) y) = (bytV (laidAt f.bytes at_ (b.take k))).set (at_ + k) (.int .u8 y.toNat) := List.map_set ..
          rw [e2]; exact h2
        have ho2 : Off (fun j => j = g9) w13 (wr.setCell ⟨g9, at_ + k, none⟩ (.int .u8 y.toNat)) := ho13.setCell (.inl rfl) _
        have HN := Lib.hid (⟨hown2, ho2⟩ : _ ∧ _)
        have hidx : (at_ : Int) + (k : Int) < (f.bytes.length : Int) := by omega
        have hto : ((at_ : Int) + (k : Int)).toNat = at_ + k := by omega
        clear hown2 ho2 hown ho13 hof hbx hcb h4 h5 hy hlen9
        go_wp2_with fail
        go_roundg (b.length - (k + 1))
        case measure => omega
        case rel => exact ⟨k + 1, g9, c9, by go_num, rfl, hlt5, rfl, HN.out.1, HN.out.2⟩
      · have hlt5' : decide ((k : Int) < (b.length : Int)) = false := by simp; omega
        obtain rfl : k = b.length := by omega
        rw [List.take_length] at hown
        have b0 : wr.cell? ⟨w1.heap.size, 0, none⟩ = some (.int .i64 f.kind) := cell_of_heap hbx 0
        have b1 : wr.cell? ⟨w1.heap.size, 1, none⟩ = some (.int .i64 f.mode) := cell_of_heap hbx 1
        have b2 : wr.cell? ⟨w1.heap.size, 2, none⟩ = some (.int .i64 f.links) := cell_of_heap hbx 2
        have b4 : wr.cell? ⟨w1.heap.size, 4, none⟩ = some (.slice Ad1 f.data.length cd1) := cell_of_heap hbx 4
        have b5 : wr.cell? ⟨w1.heap.size, 5, none⟩ = some (.int .i64 f.ind) := cell_of_heap hbx 5
        have z3 : wr.frozen? ⟨w1.heap.size, 3, none⟩ = false := free_of_heap hbx 3
        have ho3 : Off (fun j => j = w1.heap.size) wr (wr.setCell ⟨w1.heap.size, 3, none⟩ (.slice (some ⟨g9, 0, none⟩) f.bytes.length c9)) := (Off.refl (fun j => j = w1.heap.size) wr).setCell (p := ⟨w1.heap.size, 3, none⟩) (.inl rfl) _
        have hst := HSet.out c9 g9 (wr.setCell ⟨w1.heap.size, 3, none⟩ (.slice (some ⟨g9, 0, none⟩) f.bytes.length c9)) ((hof.mono (fun j e => .inr (by omega))).trans ho3 (fun j e => .inr (by omega))) (by have := heap_setCell_at wr w1.heap.size 3 (.slice (some ⟨g9, 0, none⟩) f.bytes.length c9) hbx; simpa using this) (hown.off ho3 (fun j hj e => by have := (hown.block hj).1; omega))
        have HSt := Lib.hid hst
        clear hst hown ho13 hof hbx ho3
        go_wp2_with fail
        refine HSt.out.mono ?_
        rintro e w9 ⟨rfl, HS9⟩
        go_wp2_with fail
        go_ret
        exact ⟨rfl, HS9.out⟩
  · have hgt' : decide ((f0.bytes.length : Int) < (at_ : Int) + (b.length : Int)) = false := by simp; omega
    rw [Nat.max_eq_left (Nat.le_of_not_lt hgt)] at HRs
    go_wp2_with fail
    refine HRs.out.mono ?_
    rintro e w1 ⟨rfl, R1, hI, hto, hoff⟩
    have hb1 : OwnL w1 0 5 (.slice (some ⟨gb, 0, none⟩) b.length cb) (bytV b) := HB.out.off hoff (fun k hk e => by cases hk; exact HG.out (.inl e))
    have hgb1 : ¬ R1.has gb := fun e => by
      rcases hto.has e with e | e
      · exact HG.out e
      · omega
    obtain ⟨m1, lv1, u21, u31, pv1, iv1, X1, mk1, pk1, ik1, Y1, h1, h2⟩ := hI
    obtain ⟨g1, cc1, rfl, _, hgl1, hcs1⟩ := h1.cells (by omega)
    have d1 : w1.cell? ⟨r, 1, none⟩ = some (.slice (some ⟨g1, 0, none⟩) T1.i.length cc1) := cell_of_heap h1.at_ 1
    obtain ⟨bv1, dv1, hx1, n1, n2, hq1⟩ := hcs1 j hlt1
    obtain ⟨Ab1, cb1, rfl⟩ := n1.1.shape
    obtain ⟨Ad1, cd1, rfl⟩ := n2.1.shape
    have hsm := h1.small.2 (T1.file j) (by rw [← h1.eq]; exact List.mem_map.2 ⟨_, List.mem_of_getElem? hx1, rfl⟩)
    have hfl := HFl.out
    obtain ⟨f, hf⟩ : ∃ f, f = T1.file j := ⟨_, rfl⟩
    have hT1 := HT.out
    rw [← hf] at hq1 n1 n2 hsm hfl hT1
    rw [bytV_length] at hq1
    rw [natV_length] at hq1 n2
    have s0 := hq1 0 _ rfl
    have s1 := hq1 1 _ rfl
    have s2 := hq1 2 _ rfl
    have s3 := hq1 3 _ rfl
    have s4 := hq1 4 _ rfl
    have s5 := hq1 5 _ rfl
    rw [Nat.add_zero] at s0
    obtain ⟨W0, hW0⟩ : ∃ W, W = w1.alloc (.cells #[.int .i64 f.kind, .int .i64 f.mode, .int .i64 f.links, .slice Ab1 f.bytes.length cb1, .slice Ad1 f.data.length cd1, .int .i64 f.ind] 131) := ⟨_, rfl⟩
    have hb0 : Below w1.heap.size w1 W0 := by rw [hW0]; exact (Below.refl _ _).alloc (Nat.le_refl _) _
    have hs0 : W0.heap.size = w1.heap.size + 1 := by rw [hW0, World.size_alloc]
    have hbox0 : W0.heap[w1.heap.size]? = some (.cells #[.int .i64 f.kind, .int .i64 f.mode, .int .i64 f.links, .slice Ab1 f.bytes.length cb1, .slice Ad1 f.data.length cd1, .int .i64 f.ind] 131 (0, 0)) := by rw [hW0]; exact heap_alloc_new _ _
    have hbrow : W0.ownsRow 0 5 1 (.slice Ab1 f.bytes.length cb1) f.bytes.length (bytV f.bytes) := by
      have := n1.1.off (Off.of_below hb0 (fun _ => False)) (fun _ _ e => e)
      unfold OwnL at this
      rw [bytV_length] at this
      exact this
    -- what set leaves
    have hset : ∀ c9 g9 W, Off (fun _ => False) w1 W → W.heap[w1.heap.size]? = some (.cells #[.int .i64 f.kind, .int .i64 f.mode, .int .i64 f.links, .slice (some ⟨g9, 0, none⟩) f.bytes.length c9, .slice Ad1 f.data.length cd1, .int .i64 f.ind] 131 (0, 0)) → OwnL W (w1.heap.size + 1) 5 (.slice (some ⟨g9, 0, none⟩) f.bytes.length c9) (bytV (laidAt f.bytes at_ b)) → Calls Tryz.prog 92 #[.pointer (some ⟨r, 0, none⟩), .int .i64 j, .agg #[.int .i64 f.kind, .int .i64 f.mode, .int .i64 f.links, .slice (some ⟨g9, 0, none⟩) f.bytes.length c9, .slice Ad1 f.data.length cd1, .int .i64 f.ind]] W fun e w' => e = .returned (.tuple #[]) ∧ Hid (RefStep w r T' K R w') := fun c9 g9 W ho hbox hrow => by
      have hz : RZ w1 R1 m1 T1.i T1.p f (.slice (some ⟨g9, 0, none⟩) f.bytes.length c9) (.slice Ad1 f.data.length cd1) (.slice none 0 0) [] W := ⟨ho.mono (fun _ e => e.elim), hbox, World.ownsRow_nil _ _ _ _, fun e => (by cases e), pv1, iv1, (h1.map.off ho (fun _ _ e => e) (fun e => e)).mono fun k hk hlt => ⟨.inl hk, hlt, fun e => by have := h1.lt k (.inr hk); omega, fun e => (by cases e)⟩⟩
      obtain ⟨pv', iv', hnw, _⟩ := hz.now h1
      have hbW : SlI W (R1.plus (w1.heap.size + 1) W.heap.size).i 5 (.slice (some ⟨g9, 0, none⟩) f.bytes.length c9) (bytV (laidAt f.bytes at_ b)) := ⟨hrow.base (Nat.zero_le _), fun k hk => .inr (hrow.block hk)⟩
      have hdW := (n2.off ho (fun _ _ e => e)).mono (J := (R1.plus (w1.heap.size + 1) W.heap.size).i) (fun k hk _ => .inl hk)
      have hll : (laidAt f.bytes at_ b).length = f.bytes.length := laidAt_length hfl
      refine (rset_any r m1 j { T1 with p := T1.p } _ _ u21 u31 pv' iv' (.slice (some ⟨g9, 0, none⟩) f.bytes.length c9) (.slice Ad1 f.data.length cd1) X1 { f with bytes := laidAt f.bytes at_ b } W hnw (by have := h1.small.1; show j < T1.l.length; omega) hbW hdW ⟨by show (laidAt f.bytes at_ b).length ≤ 70656; rw [hll]; exact hsm.1, hsm.2⟩).mono ?_
      rintro e w' ⟨rfl, lv', hN', ho'⟩
      have hN' : RNow w' ((R1.plus (w1.heap.size + 1) W.heap.size).plus W.heap.size w'.heap.size) r m1 (T1.set j { f with bytes := laidAt f.bytes at_ b }) lv' u21 u31 pv' iv' _ := hN'
      rw [hT1] at hN'
      have hof1 : Off R1.m w1 w' := (ho.mono (fun _ e => e.elim)).trans ho' (fun k e => .inl (by rw [e]; exact h1.mr))
      refine ⟨rfl, Lib.hid (RefStep.trans hto hoff ⟨_, ⟨m1, lv', u21, u31, pv', iv', _, mk1, pk1, ik1, Y1, hN', (h2.off hof1 (fun k hk e => h1.apart k e hk)).mono (fun k hk _ => .inl (.inl hk))⟩, ⟨fun k hk => .inl hk, fun k hk => ?_⟩, hof1⟩)⟩
      have hz1 := ho.size
      rcases hk with (hk | hk) | hk
      · exact .inl hk
      · right; omega
      · right; omega
    have HSet := Lib.hid hset
    have HBr := Lib.hid hbrow
    have HB1 := Lib.hid (⟨hb1, hbox0⟩ : _ ∧ _)
    have hbB := hb0
    have HBb := Lib.hid hbB
    have HSm := Lib.hid hsm
    have hsm1 : f.bytes.length ≤ 70656 := hsm.1
    clear hset hbrow hb1 h1 h2 n1 n2 hcs1 hq1 hx1 hto hoff hgb1 hT1 hb0 hbB hbox0 hsm HB HG HRs HLk HT hf HFl
    subst hW0
    go_wp2_with (at_builtin; refine wpList_append_clone rfl _ _ 53 rfl 5 i1 (.int .u8 0) 1 1 Tryz.underlying53 hi1 hy0 hy1 hy2 rfl (by decide) (.slice Ab1 f.bytes.length cb1) f.bytes.length 0 _ rfl rfl HBr.out (bytV_one _) (by unfold maxLen; omega) (by omega) ?_; intro v13 w13 hown13 hb13; have HO13 := Lib.hid hown13; have HB13 := Lib.hid hb13; clear hown13 hb13)
    go_loopg [13] b.length (fun gg i wx => ∃ (k g9 c9 : Nat), i = .int .i64 k ∧ gg = b.length - k ∧ k ≤ b.length ∧ v13 = .slice (some ⟨g9, 0, none⟩) f.bytes.length c9 ∧ OwnL wx (w1.heap.size + 1) 5 (.slice (some ⟨g9, 0, none⟩) f.bytes.length c9) (bytV (laidAt f.bytes at_ (b.take k))) ∧ Off (fun k => k = g9) w13 wx)
    case atStart =>
      have h13 : OwnL w13 (w1.heap.size + 1) 5 v13 (bytV f.bytes) := by
        have := HO13.out
        rw [World.size_alloc] at this
        unfold OwnL
        rw [bytV_length]
        exact this
      rcases h13.two with ⟨e13, e14⟩ | ⟨g9, c9, e13, _⟩
      · have := congrArg List.length e14
        rw [bytV_length] at this
        have h00 : f.bytes.length = 0 := this
        omega
      · rw [bytV_length] at e13
        refine ⟨0, g9, c9, rfl, rfl, Nat.zero_le _, e13, ?_, Off.refl _ _⟩
        rw [List.take_zero, laidAt_nil, ← e13]
        exact h13
    case round =>
      obtain ⟨k, g9, c9, rfl, rfl, hk, rfl, hown, ho13⟩ := hrel
      have hof : Off (fun j => j = g9) w1 wr := ((Off.of_below (HBb.out.trans (HB13.out.mono (by rw [World.size_alloc]; exact Nat.le_succ _))) _)).then ho13
      have hg9 : w1.heap.size + 1 ≤ g9 := (hown.block rfl).1
      have hbx : wr.heap[w1.heap.size]? = _ := (ho13.block w1.heap.size (by have := HB13.out.size; rw [World.size_alloc] at this; omega) (by omega)).trans ((HB13.out.block w1.heap.size (by rw [World.size_alloc]; exact Nat.lt_succ_self _)).trans HB1.out.2)
      have d3 : wr.cell? ⟨w1.heap.size, 3, none⟩ = some (.slice Ab1 f.bytes.length cb1) := cell_of_heap hbx 3
      by_cases hlt5 : k < b.length
      · have hlt5' : decide ((k : Int) < (b.length : Int)) = true := by simp; omega
        obtain ⟨ge, eg, _, hgl2, hcb⟩ := ent_of HB1.out.1 (by rw [bytV_length]) k (by rw [bytV_length]; exact hlt5)
        injection eg with eg
        injection eg with eg
        subst eg
        have hgbw : gb < w1.heap.size := hgl2
        have hcell := (hof.cell (p := ⟨gb, k, none⟩) hgl2 (by show gb ≠ g9; omega)).trans (hcb k _ (bytV_at b k hlt5))
        have hlen9 : (laidAt f.bytes at_ (b.take k)).length = f.bytes.length := laidAt_length (by rw [List.length_take]; omega)
        obtain ⟨y, hy⟩ : ∃ y, y = b.getD k 0 := ⟨_, rfl⟩
        rw [← hy] at hcell
        obtain ⟨gx, cx, ex, _, _, _, h4, h5⟩ := hown.at (fun e => by have := congrArg List.length e; rw [bytV_length, hlen9] at this; have h00 : f.bytes.length = 0 := this; omega)
        injection ex with ex el ec
        injection ex with ex
        injection ex with ex
        subst ex
        clear el ec
        have hc9 := h4 (at_ + k) _ (bytV_at (laidAt f.bytes at_ (b.take k)) (at_ + k) (by rw [hlen9]; omega))
        have hz9 := h5 (at_ + k)
        have hown2 : OwnL (wr.setCell ⟨g9, at_ + k, none⟩ (.int .u8 y.toNat)) (w1.heap.size + 1) 5 (.slice (some ⟨g9, 0, none⟩) f.bytes.length c9) (bytV (laidAt f.bytes at_ (b.take (k + 1)))) := by
          have h1 : OwnL wr (w1.heap.size + 1) 5 (.slice (some ⟨g9, 0, none⟩) (bytV (laidAt f.bytes at_ (b.take k))).length c9) (bytV (laidAt f.bytes at_ (b.take k))) := by rw [bytV_length, hlen9]; exact hown
          have h2 := h1.set (at_ + k) (.int .u8 y.toNat) (by rw [bytV_length, hlen9]; omega)
          rw [bytV_length, hlen9] at h2
          have e1 : laidAt f.bytes at_ (b.take (k + 1)) = (laidAt f.bytes at_ (b.take k)).set (at_ + k) y := by
            have hbk : b[k]? = some y := by rw [hy, List.getD_eq_getElem?_getD, List.getElem?_eq_getElem hlt5]; rfl
            have hlk : (b.take k).length = k := by rw [List.length_take]; omega
            have := laidAt_snoc f.bytes (b.take k) at_ y (by rw [hlk]; omega)
            rw [hlk] at this
            rw [List.take_add_one, hbk]
            exact this
          rw [e1]
          have e2 : bytV ((laidAt f.bytes at_ (b.take k)).set (at_ + k) y) = (bytV (laidAt f.bytes at_ (b.take k))).set (at_ + k) (.int .u8 y.toNat) := List.map_set ..
          rw [e2]; exact h2
        have ho2 : Off (fun j => j = g9) w13 (wr.setCell ⟨g9, at_ + k, none⟩ (.int .u8 y.toNat)) := ho13.setCell (.inl rfl) _
        have HN := Lib.hid (⟨hown2, ho2⟩ : _ ∧ _)
        have hidx : (at_ : Int) + (k : Int) < (f.bytes.length : Int) := by omega
        have hto : ((at_ : Int) + (k : Int)).toNat = at_ + k := by omega
        clear hown2 ho2 hown ho13 hof hbx hcb h4 h5 hy hlen9
        go_wp2_with fail
        go_roundg (b.length - (k + 1))
        case measure => omega
        case rel => exact ⟨k + 1, g9, c9, by go_num, rfl, hlt5, rfl, HN.out.1, HN.out.2⟩
      · have hlt5' : decide ((k : Int) < (b.length : Int)) = false := by simp; omega
        obtain rfl : k = b.length := by omega
        rw [List.take_length] at hown
        have b0 : wr.cell? ⟨w1.heap.size, 0, none⟩ = some (.int .i64 f.kind) := cell_of_heap hbx 0
        have b1 : wr.cell? ⟨w1.heap.size, 1, none⟩ = some (.int .i64 f.mode) := cell_of_heap hbx 1
        have b2 : wr.cell? ⟨w1.heap.size, 2, none⟩ = some (.int .i64 f.links) := cell_of_heap hbx 2
        have b4 : wr.cell? ⟨w1.heap.size, 4, none⟩ = some (.slice Ad1 f.data.length cd1) := cell_of_heap hbx 4
        have b5 : wr.cell? ⟨w1.heap.size, 5, none⟩ = some (.int .i64 f.ind) := cell_of_heap hbx 5
        have z3 : wr.frozen? ⟨w1.heap.size, 3, none⟩ = false := free_of_heap hbx 3
        have ho3 : Off (fun j => j = w1.heap.size) wr (wr.setCell ⟨w1.heap.size, 3, none⟩ (.slice (some ⟨g9, 0, none⟩) f.bytes.length c9)) := (Off.refl (fun j => j = w1.heap.size) wr).setCell (p := ⟨w1.heap.size, 3, none⟩) (.inl rfl) _
        have hst := HSet.out c9 g9 (wr.setCell ⟨w1.heap.size, 3, none⟩ (.slice (some ⟨g9, 0, none⟩) f.bytes.length c9)) ((hof.mono (fun j e => .inr (by omega))).trans ho3 (fun j e => .inr (by omega))) (by have := heap_setCell_at wr w1.heap.size 3 (.slice (some ⟨g9, 0, none⟩) f.bytes.length c9) hbx; simpa using this) (hown.off ho3 (fun j hj e => by have := (hown.block hj).1; omega))
        have HSt := Lib.hid hst
        clear hst hown ho13 hof hbx ho3
        go_wp2_with fail
        refine HSt.out.mono ?_
        rintro e w9 ⟨rfl, HS9⟩
        go_wp2_with fail
        go_ret
        exact ⟨rfl, HS9.out⟩
end Go.Proofs.YtfgkgoddjemnfaaGreatDoor

namespace Go.Proofs.YtfgkgoddjemnfaaGreatDoor
open Go.RowKit Go.Shelf Pa
attribute [local go_sem] bs_toList bs_size
theorem PairZ.weak {B : Nat} {w : World} {s r : Nat} {T U K : RS} {N : Nat} {Z Z' : Nat → Prop} (h : PairZ B w s r T U K N Z) (hz : ∀ k, Z' k → Z k) : PairZ B w s r T U K N Z' := by
  obtain ⟨R, Q, h1, h2, hd, hR, hQ, hB, hZ⟩ := h
  exact ⟨R, Q, h1, h2, hd, hR, hQ, hB, fun k hk => hZ k (hz k hk)⟩
/-- What is done on one's own blocks alone. -/
theorem PairZ.own {B : Nat} {w w' : World} {s r : Nat} {T U K : RS} {N : Nat} {Z Z' : Nat → Prop} (h : PairZ B w s r T U K N Z) (ho : Off Z w w') (hZB : ∀ k, Z k → B ≤ k) (hz : ∀ k, Z' k → Z k ∨ (w.heap.size ≤ k ∧ k < w'.heap.size)) : PairZ B w' s r T U K N Z' ∧ Below B w w' := by
  obtain ⟨R, Q, h1, h2, hd, hR, hQ, hB, hZ⟩ := h
  refine ⟨⟨R, Q, h1.off ho (fun k hk e => (hZ k e).1 hk), h2.off ho (fun k hk e => (hZ k e).2.1 hk), hd, hR, hQ, Nat.le_trans hB ho.size, fun k hk => ?_⟩, ho.below hB hZB⟩
  rcases hz k hk with e | ⟨a, b⟩
  · obtain ⟨x, y, z⟩ := hZ k e
    exact ⟨x, y, Nat.lt_of_lt_of_le z ho.size⟩
  · exact ⟨fun e => by have := h1.lt k e; omega, fun e => by have := h2.lt k e; omega, b⟩
/-- As DirU; a directory without a used entry has no entry at all. -/
def DirV (T : RS) (u : Nat → List Ent) (L : Nat) : Prop := ∃ es, DirT T es ∧ (∀ j, (usedE (es j)).Perm (u j)) ∧ (∀ j, (es j).length ≤ L) ∧ ∀ j, usedE (es j) = [] → es j = []
theorem DirV.u {T : RS} {u : Nat → List Ent} {L : Nat} (h : DirV T u L) : DirU T u L := by
  obtain ⟨es, h1, h2, h3, _⟩ := h
  exact ⟨es, h1, h2, h3⟩
theorem DirV.zero : DirV T0 (fun _ => []) 0 := ⟨fun _ => [], T0_dir, fun _ => List.Perm.refl _, fun _ => Nat.le_refl _, fun _ _ => rfl⟩
theorem DirV.more {T : RS} {u : Nat → List Ent} {L L' : Nat} (h : DirV T u L) (hL : L ≤ L') : DirV T u L' := by
  obtain ⟨es, h1, h2, h3, h4⟩ := h
  exact ⟨es, h1, h2, fun j => Nat.le_trans (h3 j) hL, h4⟩
theorem DirV.plen {T : RS} {u : Nat → List Ent} {L : Nat} (h : DirV T u L) : T.p.length = 100 ∧ T.inodes = 16 := by
  obtain ⟨es, h1, _⟩ := h
  exact ⟨h1.plen, h1.inodes⟩
theorem DirV.free {T : RS} {u : Nat → List Ent} {L : Nat} (h : DirV T u L) (h1 : u 1 = []) (h3 : u 3 = []) : nfree T.p = 95 := by
  obtain ⟨es, k1, k2, _, k4⟩ := h
  have e1 : es 1 = [] := k4 1 (by have := k2 1; rw [h1] at this; exact this.eq_nil)
  have e3 : es 3 = [] := k4 3 (by have := k2 3; rw [h3] at this; exact this.eq_nil)
  have := k1.free
  rw [e1, e3] at this
  exact this
theorem DirV.add {C : Ca} {T : RS} {u : Nat → List Ent} {L : Nat} (h : DirV T u L) (hr : Rel C T (fun _ => False)) (ht : T.Tight) (hL : L ≤ 60) {d i : Int} {nm : Str} (he : Go.Proofs.YtfgkgoddjemnfaaGreatDoor.addE T d nm i = 0) :
    DirV (addT T d nm i) (fun j => if j = d.toNat then (nm, i.toNat) :: u j else u j) (L + 1) := by
  obtain ⟨es, h1, h2, h3, h4⟩ := h
  obtain ⟨a1, T', es', a2, a3, a4, a5, a6⟩ := h1.add hr ht (fun j => Nat.le_trans (h3 j) hL) he
  have e : addT T d nm i = T' := by unfold addT; rw [if_pos he, a2]; rfl
  rw [e]
  refine ⟨es', a3, fun j => ?_, fun j => Nat.le_trans (a6 j) (Nat.succ_le_succ (h3 j)), fun j => ?_⟩
  · show (usedE (es' j)).Perm (if j = d.toNat then (nm, i.toNat) :: u j else u j)
    by_cases hj : j = d.toNat
    · subst hj
      rw [if_pos rfl]
      exact a5.trans ((h2 _).cons _)
    · rw [if_neg hj, a4 j hj]; exact h2 j
  · intro hu
    by_cases hj : j = d.toNat
    · subst hj
      rw [hu] at a5
      exact absurd a5.length_eq (by simp)
    · rw [a4 j hj] at hu ⊢; exact h4 j hu
theorem DirV.drop {C : Ca} {T : RS} {u : Nat → List Ent} {L : Nat} (h : DirV T u L) (hr : Rel C T (fun _ => False)) (ht : T.Tight) (hL : L ≤ 60) {d : Int} {nm : Str} (he : (Go.Proofs.YtfgkgoddjemnfaaGreatDoor.findR T d nm).2.2 = 0) :
    DirV (drpT T d nm) (fun j => if j = d.toNat then (u j).erase (nm, (Go.Proofs.YtfgkgoddjemnfaaGreatDoor.findR T d nm).1.i) else u j) L := by
  obtain ⟨es, h1, h2, h3, h4⟩ := h
  obtain ⟨T', es', ⟨a1, a2, a3⟩, a4, a5, a6, a7⟩ := h1.drop hr ht (fun j => Nat.le_trans (h3 j) hL) he
  have e : drpT T d nm = T' := by unfold drpT; rw [if_pos he, a1]; rfl
  have hm : (nm, (Go.Proofs.YtfgkgoddjemnfaaGreatDoor.findR T d nm).1.i) ∈ u d.toNat := (h2 _).mem_iff.1 (a6.mem_iff.1 (by simp))
  rw [e]
  refine ⟨es', a4, fun j => ?_, fun j => Nat.le_trans (a7 j) (h3 j), fun j => ?_⟩
  · show (usedE (es' j)).Perm (if j = d.toNat then (u j).erase (nm, (Go.Proofs.YtfgkgoddjemnfaaGreatDoor.findR T d nm).1.i) else u j)
    by_cases hj : j = d.toNat
    · subst hj
      rw [if_pos rfl]
      exact List.Perm.cons_inv (a6.trans ((h2 _).trans (List.perm_cons_erase hm)))
    · rw [if_neg hj, a5 j hj]; exact h2 j
  · intro hu
    by_cases hj : j = d.toNat
    · subst hj
      rw [hu] at a6
      have hl1 : (usedE (es d.toNat)).length = 1 := a6.length_eq.symm
      have h0 : lookE T d = 0 := by
        have ha := h1.findE d nm
        rw [he] at ha
        by_cases h0 : lookE T d = 0
        · exact h0
        · rw [if_pos h0] at ha; exact absurd ha.symm h0
      have hj : d.toNat = 1 ∨ d.toNat = 3 := by
        rcases (h1.look0 d).1 h0 with rfl | rfl
        · exact .inl rfl
        · exact .inr rfl
      have hl : T.live d.toNat := (h1.live _).2 (by omega)
      have hus : usedP (slotsP (Go.Proofs.YtfgkgoddjemnfaaGreatDoor.lookB T d)) = (usedE (es d.toNat)).length := by rw [h1.lookB h0, slotsP_encE (h1.ok _), usedP_slE]
      unfold dropT at a1
      rw [hus, if_pos hl1] at a1
      obtain ⟨T2, b1, b2, _⟩ := hr.resizeN (j := d.toNat) (size := 0) (fun _ e => e.elim) ht hl (by omega) (by rw [show nd (npg 0) = 0 from by decide]; omega)
      rw [b1] at a1
      cases a1
      have hb := a4.b d.toNat
      rw [b2.bytes] at hb
      have hlen := encE_length (a4.ok d.toNat)
      rw [← hb] at hlen
      have : (fitTo (T.file d.toNat).bytes 0).length = 0 := by unfold fitTo; simp
      exact List.length_eq_zero_iff.1 (by omega)
    · rw [a5 j hj] at hu ⊢; exact h4 j hu
end Go.Proofs.YtfgkgoddjemnfaaGreatDoor
