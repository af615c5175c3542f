/-
  The walks over the document's SameTexts and the law package's live; rows of strings.
-/
import Derived.Test.YtfgkgoddjemnfaaGreatDoorJ8
set_option linter.unusedVariables false
set_option linter.unusedSimpArgs false
set_option linter.deprecated false
namespace Go.Proofs.YtfgkgoddjemnfaaGreatDoor
open Go.RowKit Go.Shelf Pa
attribute [local go_sem] bs_toList bs_size

theorem take_sameL {a b : List Str} {k : Nat} {x y : Str} (h : a.take k = b.take k) (ha : a[k]? = some x) (hb : b[k]? = some y) (e : x = y) : a.take (k + 1) = b.take (k + 1) := by
  obtain ⟨h1, h2⟩ := List.getElem?_eq_some_iff.1 ha
  obtain ⟨h3, h4⟩ := List.getElem?_eq_some_iff.1 hb
  rw [List.take_succ_eq_append_getElem h1, List.take_succ_eq_append_getElem h3, h, h2, h4, e]
theorem OwnS.strs {w : World} {B : Nat} {v : Value} {l : List Str} (h : OwnS w B v l) : StrsAt w w.heap.size v l := by
  obtain ⟨h1, h⟩ := h
  rcases h with ⟨rfl, h0⟩ | ⟨g, cap, cur, rfl, hB, hg, hc, hm, hs, ht⟩
  · have : l = [] := List.length_eq_zero_iff.1 h0
    subst this
    exact StrsAt.nil _ _ _ _
  · refine ⟨_, cap, rfl, hc, fun _ => ⟨g, 0, rfl, (Array.getElem?_eq_some_iff.1 hg).1, fun i s hi => ?_⟩⟩
    have hlt : i < l.length := (List.getElem?_eq_some_iff.1 hi).1
    rw [Nat.zero_add, cell_of_heap hg, ← Array.getElem?_toList, ← List.getElem?_take_of_lt (show i < l.length * 1 by omega), ht, List.getElem?_map, hi]
    rfl

set_option maxHeartbeats 1000000 in
theorem sameTexts_any (a b : List Str) (va vb : Value) (B B' : Nat) (w : World) (ha : StrsAt w B va a) (hb : StrsAt w B' vb b) (hn : a.length ≤ 1000000) :
    Calls Tryz.prog 15 #[va, vb] w fun e w' => e = .returned (.bool (decide (a = b))) ∧ ∃ n, w' = w.drewN n := by
  obtain ⟨A, ca, rfl, hca, hfa⟩ := ha
  obtain ⟨A2, cb, rfl, hcb, hfb⟩ := hb
  have HA := Lib.hid hfa
  have HB := Lib.hid hfb
  clear hfa hfb
  by_cases hl : a.length = b.length
  · have hl' : ((a.length : Int) != (b.length : Int)) = false := by simp [hl]
    have HL := Lib.hid hl
    clear hl
    go_enter Tryz.func15, Tryz.ntmps15
    go_wp2_with fail
    go_loopg [5] a.length (fun g i wx => ∃ k : Nat, i = .int .i64 k ∧ g = a.length - k ∧ k ≤ a.length ∧ a.take k = b.take k ∧ ∃ n, wx = w.drewN n)
    case atStart => exact ⟨0, rfl, rfl, Nat.zero_le _, rfl, 0, rfl⟩
    case round =>
      obtain ⟨k, rfl, rfl, hk, htk, nd, hw⟩ := hrel
      have HTk := Lib.hid htk
      have HW := Lib.hid hw
      clear htk hw
      by_cases hlt : k < a.length
      · have hlt' : decide ((k : Int) < (a.length : Int)) = true := by simp; omega
        have hltb : k < b.length := by rw [← HL.out]; exact hlt
        obtain ⟨ba, oa, rfl, _, hxa⟩ := HA.out (by rintro rfl; simp at hlt)
        obtain ⟨bb, ob, rfl, _, hxb⟩ := HB.out (by rintro rfl; simp at hltb)
        have ka : wr.cell? ⟨ba, oa + k, none⟩ = _ := (by rw [HW.out]; rfl : wr.cell? ⟨ba, oa + k, none⟩ = w.cell? ⟨ba, oa + k, none⟩).trans (hxa k _ (List.getElem?_eq_getElem hlt))
        have kb : wr.cell? ⟨bb, ob + k, none⟩ = _ := (by rw [HW.out]; rfl : wr.cell? ⟨bb, ob + k, none⟩ = w.cell? ⟨bb, ob + k, none⟩).trans (hxb k _ (List.getElem?_eq_getElem hltb))
        have hg1 := List.getElem?_eq_getElem hlt
        have hg2 := List.getElem?_eq_getElem hltb
        generalize a[k] = x at ka hg1
        generalize b[k] = y at kb hg2
        have HG1 := Lib.hid hg1
        have HG2 := Lib.hid hg2
        clear hg1 hg2 hxa hxb
        by_cases hxy : x = y
        · have hne : (x == y) = true := by simp [hxy]
          have HXy := Lib.hid hxy
          clear hxy
          go_wp2_with fail
          go_quiet (fail)
          go_wp2_with fail
          go_roundg (a.length - (k + 1))
          case measure => omega
          case rel => exact ⟨k + 1, by go_num, rfl, hlt, take_sameL HTk.out HG1.out HG2.out HXy.out, nd + nq, by rw [HW.out]; exact World.drewN_drewN _ _ _⟩
        · have hne : (x == y) = false := by simpa using hxy
          have HXy := Lib.hid hxy
          have hab : decide (a = b) = false := by
            simp only [decide_eq_false_iff_not]
            rintro rfl
            exact HXy.out (Option.some.inj (HG1.out.symm.trans HG2.out))
          have HAb := Lib.hid hab
          clear hxy hab
          go_wp2_with fail
          go_quiet (fail)
          go_wp2_with fail
          go_ret
          exact ⟨ret_bool HAb.out.symm, nd + nq, by rw [HW.out]; exact World.drewN_drewN _ _ _⟩
      · have hlt' : decide ((k : Int) < (a.length : Int)) = false := by simp; omega
        have hall : decide (a = b) = true := by
          have h := HTk.out
          rw [List.take_of_length_le (by omega), List.take_of_length_le (by rw [← HL.out]; omega)] at h
          simpa using h
        have HAll := Lib.hid hall
        clear hall
        go_wp2_with fail
        go_ret
        exact ⟨ret_bool HAll.out.symm, nd, HW.out⟩
  · have hl' : ((a.length : Int) != (b.length : Int)) = true := by simp; omega
    have hne : decide (a = b) = false := by simp; rintro rfl; exact hl rfl
    have HNe := Lib.hid hne
    clear hl hne
    go_enter Tryz.func15, Tryz.ntmps15
    go_wp2_with fail
    go_ret
    exact ⟨ret_bool HNe.out.symm, 0, rfl⟩


theorem padd_any (B s r N L : Nat) (d i : Int) (nm : Str) (T U K : RS) (u : Nat → List Ent) (w : World) (h : Pair B w s r T U K N) (hd : DirU T u L) (hL : L ≤ 60) :
    Calls Tryz.prog 13 #[.pointer (some ⟨s, 0, none⟩), .int .i64 d, .string (bs nm), .int .i64 i] w fun e w' => e = .returned (.int .i64 (addE T d nm i : Nat)) ∧ Pair B w' s r (addT T d nm i) U K N ∧ Below B w w' := by
  obtain ⟨R, g, hl⟩ := h.left
  obtain ⟨C, hr, ht⟩ := g.rel
  refine (dadd_any s N d i nm T (addT T d nm i) R w g ?_).mono ?_
  · by_cases he : addE T d nm i = 0
    · rw [if_pos he]
      exact (hd.add hr ht hL he).1
    · rw [if_neg he]; unfold addT; rw [if_neg he]
  · rintro e w' ⟨rfl, hst⟩
    exact ⟨rfl, hl w' _ _ hst⟩
/-- What Add leaves of the entries. -/
def addU (T : RS) (u : Nat → List Ent) (d : Int) (nm : Str) (i : Int) : Nat → List Ent := if addE T d nm i = 0 then fun j => if j = d.toNat then (nm, i.toNat) :: u j else u j else u
theorem Pair.dir {B s r N L : Nat} {d i : Int} {nm : Str} {T U K : RS} {u : Nat → List Ent} {w : World} (h : Pair B w s r T U K N) (hd : DirU T u L) (hL : L ≤ 60) : DirU (addT T d nm i) (addU T u d nm i) (L + 1) := by
  obtain ⟨R, g, hl⟩ := h.left
  obtain ⟨C, hr, ht⟩ := g.rel
  unfold addU
  by_cases he : addE T d nm i = 0
  · rw [if_pos he]; exact (hd.add hr ht hL he).2
  · rw [if_neg he]
    unfold addT
    rw [if_neg he]; exact hd.more (by omega)
theorem plist_any (B s r N : Nat) (d : Int) (T U K : RS) (w : World) (h : Pair B w s r T U K N) :
    Calls Tryz.prog 14 #[.pointer (some ⟨s, 0, none⟩), .int .i64 d] w fun e w' => ∃ v, e = .returned (.tuple #[v, .int .i64 (lookE T d)]) ∧ OwnS w' w.heap.size v (listP (lookB T d)) ∧ Pair B w' s r T U K N ∧ Below B w w' ∧ StrsAt w' w'.heap.size v (listP (lookB T d)) := by
  obtain ⟨R, g, hl⟩ := h.left
  refine (dlist_any s N d T R w g).mono ?_
  rintro e w' ⟨v, rfl, ho, R', g', t', o', _⟩
  obtain ⟨a, b⟩ := hl w' T N ⟨R', g', t', o'⟩
  exact ⟨v, rfl, ho, a, b, ho.strs⟩

/-- The entries that live lays. -/
def uB : Nat → List Ent := fun j => if j = 1 then [([98], 2)] else []
def uL : Nat → List Ent := fun j => if j = 1 then [([97], 3), ([98], 2)] else []
theorem live_plain {B s r N : Nat} {U K : RS} {w : World} (h : Pair B w s r T0 U K N) : ∃ T1, T1 = addT T0 1 [98] 2 ∧ addE T0 1 [98] 2 = 0 ∧ DirU T1 uB 1 ∧ ∀ w1, Pair B w1 s r T1 U K N → ∃ T2, T2 = addT T1 1 [97] 3 ∧ addE T1 1 [97] 3 = 0 ∧ DirU T2 uL 2 ∧ lookE T2 1 = 0 ∧ listP (lookB T2 1) = [[97], [98]] := by
  have hd := DirU.zero
  have l0 : lookE T0 1 = 0 := (hd.look0 1).2 (.inl rfl)
  have e0 : addE T0 1 [98] 2 = 0 := by
    rw [hd.addE, l0]; rfl
  have d1 := h.dir (d := 1) (i := 2) (nm := [98]) hd (by omega)
  have hu : addU T0 (fun _ => []) 1 [98] 2 = uB := by
    unfold addU
    rw [if_pos e0]; rfl
  rw [hu] at d1
  refine ⟨_, rfl, e0, d1, fun w1 h1 => ?_⟩
  have l1 : lookE (addT T0 1 [98] 2) 1 = 0 := (d1.look0 1).2 (.inl rfl)
  have e1 : addE (addT T0 1 [98] 2) 1 [97] 3 = 0 := by
    rw [d1.addE, l1]; rfl
  have d2 := h1.dir (d := 1) (i := 3) (nm := [97]) d1 (by omega)
  have hu2 : addU (addT T0 1 [98] 2) uB 1 [97] 3 = uL := by
    unfold addU
    rw [if_pos e1]
    funext j
    unfold uL uB
    by_cases hj : j = 1
    · subst hj; rfl
    · have : ¬ j = Int.toNat 1 := hj
      simp only [if_neg this, if_neg hj]
  rw [hu2] at d2
  have l2 : lookE (addT (addT T0 1 [98] 2) 1 [97] 3) 1 = 0 := (d2.look0 1).2 (.inl rfl)
  refine ⟨_, rfl, e1, d2, l2, ?_⟩
  rw [d2.list l2]
  show List.mergeSort [[97], [98]] (fun x y : Str => decide (x ≤ y)) = [[97], [98]]
  exact List.mergeSort_of_pairwise (by decide)
theorem split_ab : splitP [47, 97, 47, 98] = some [[97], [98]] := by decide
theorem strs_ab (w : World) : StrsAt (w.alloc (.cells #[.string ⟨#[97]⟩, .string ⟨#[98]⟩] 9)) (w.heap.size + 1) (.slice (some ⟨w.heap.size, 0, none⟩) 2 2) [[97], [98]] := by
  refine ⟨_, 2, rfl, Nat.le_refl _, fun _ => ⟨w.heap.size, 0, rfl, by omega, fun i x hx => ?_⟩⟩
  rw [Nat.zero_add, cell_of_heap (heap_alloc_new w _)]
  match i with
  | 0 => cases hx; rfl
  | 1 => cases hx; rfl
  | i + 2 => simp at hx

set_option maxRecDepth 100000 in
set_option maxHeartbeats 4000000 in
theorem live_any (w : World) (hm : MaxOk w) : Calls Tryz.prog 12 #[] w fun e w' => e = .returned (.bool true) ∧ Below w.heap.size w w' := by
  have HM := Lib.hid hm
  clear hm
  go_enter Tryz.func12, Tryz.ntmps12
  go_wp2_with fail
  refine (opened_any w).mono ?_
  rintro e w1 ⟨s, r, rfl, hP, hb⟩
  obtain ⟨T1, hT1, e0, d1, hnx⟩ := live_plain hP
  have hA := padd_any w.heap.size s r 206 0 1 2 [98] T0 T0 T0 _ w1 hP DirU.zero (by omega)
  rw [e0, ← hT1] at hA
  have HA := Lib.hid hA
  have HB := Lib.hid hb
  have HN := Lib.hid hnx
  have HD1 := Lib.hid d1
  clear hA hb hnx hP e0 hT1 d1
  go_wp2_with fail
  refine HA.out.mono ?_
  rintro e w2 ⟨rfl, hP2, hb2⟩
  obtain ⟨T2, hT2, e1, d2, l2, hl2⟩ := HN.out w2 hP2
  have hA2 := padd_any w.heap.size s r 206 1 1 3 [97] T1 T0 T0 _ w2 hP2 HD1.out (by omega)
  rw [e1, ← hT2] at hA2
  have HA2 := Lib.hid hA2
  have HB2 := Lib.hid (HB.out.trans hb2)
  have HL := Lib.hid (⟨l2, hl2⟩ : _ ∧ _)
  clear hA2 hb2 hP2 e1 hT2 d2 l2 hl2 HA HB HN HD1
  go_wp2_with fail
  refine HA2.out.mono ?_
  rintro e w3 ⟨rfl, hP3, hb3⟩
  have hLi := plist_any w.heap.size s r 206 1 T2 T0 T0 w3 hP3
  rw [HL.out.1, HL.out.2] at hLi
  have HLi := Lib.hid hLi
  have HB3 := Lib.hid (HB2.out.trans hb3)
  clear hLi hP3 hb3 HA2 HB2
  go_wp2_with fail
  refine HLi.out.mono ?_
  rintro e w4 ⟨v, rfl, ho4, hP4, hb4, hs4⟩
  have HB4 := Lib.hid (HB3.out.trans hb4)
  have HS4 := Lib.hid hs4
  have hsp := split_any [47, 97, 47, 98] w4 (HM.out.grow HB4.out)
  have HSp := Lib.hid hsp
  clear ho4 hP4 hb4 hs4 hsp HLi HB3
  go_wp2_with fail
  refine HSp.out.mono ?_
  rintro e w5 ⟨v2, n2, rfl, hb5, hm5⟩
  rw [split_ab] at hm5
  obtain ⟨rfl, hs5⟩ := hm5
  obtain ⟨A5, c5, rfl, _, _⟩ := hs5
  have hz4 := HB4.out.size
  have hb45 := HB4.out.trans (hb5.mono hz4)
  have hs45 : StrsAt w5 w5.heap.size v [[97], [98]] := (HS4.out.below hb5).more hb5.size
  obtain ⟨A4, c4, rfl, hc4, hf4⟩ := id hs45
  have hba : Below w5.heap.size w5 (w5.alloc (.cells #[.string ⟨#[97]⟩, .string ⟨#[98]⟩] 9)) := (Below.refl _ _).alloc (Nat.le_refl _) _
  have hst := sameTexts_any [[97], [98]] [[97], [98]] _ _ _ _ _ (hs45.below hba) (strs_ab w5) (by simp)
  have HSt := Lib.hid hst
  have HB5 := Lib.hid (hb45.trans (hba.mono (Nat.le_trans HB4.out.size hb5.size)))
  clear hb5 hb45 hs45 hf4 hba hst HSp HS4 HB4
  go_wp2_with (go_at_call 15; refine HSt.out.mono ?_; rintro e w6 ⟨rfl, q, rfl⟩)
  go_ret
  exact ⟨rfl, below_drewN HB5.out q⟩

end Go.Proofs.YtfgkgoddjemnfaaGreatDoor
