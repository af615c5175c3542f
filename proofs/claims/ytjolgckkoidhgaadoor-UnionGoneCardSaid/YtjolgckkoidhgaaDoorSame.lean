/-
  The walks over the document's small functions: SameBytes, Below, Same.
-/
import Derived.Test.YtjolgckkoidhgaaDoorLive
import Derived.Test.YtjolgckkoidhgaaDoorIdle
namespace Go.Proofs.YtjolgckkoidhgaaDoor
open Go.RowKit Go.Shelf Pa
attribute [local go_sem] bs_toList bs_size

theorem take_same {a b : Str} {k : Nat} {x y : UInt8} (h : a.take k = b.take k) (ha : a[k]? = some x) (hb : b[k]? = some y) (e : x = y) : a.take (k + 1) = b.take (k + 1) := by
  obtain ⟨h1, h2⟩ := List.getElem?_eq_some_iff.1 ha
  obtain ⟨h3, h4⟩ := List.getElem?_eq_some_iff.1 hb
  rw [List.take_succ_eq_append_getElem h1, List.take_succ_eq_append_getElem h3, h, h2, h4, e]

set_option maxHeartbeats 1000000 in
theorem sameBytes_any (a b : Str) (va vb : Value) (B : Nat) (w : World) (ha : BytesAt w B va a) (hb : BytesAt w B vb b) :
    Calls Tryd.prog 13 #[va, vb] w fun e w' => e = .returned (.bool (decide (a = b))) ∧ ∃ n, w' = w.drewN n := by
  obtain ⟨A, ca, rfl, ⟨hca, hla⟩, hfa⟩ := ha
  obtain ⟨A2, cb, rfl, ⟨hcb, hlb⟩, hfb⟩ := hb
  have HA := Lib.hid hfa
  have HB := Lib.hid hfb
  clear hfa hfb
  by_cases hl : a.length = b.length
  · have hl' : ((a.length : Int) != (b.length : Int)) = false := by simp [hl]
    have HL := Lib.hid hl
    clear hl
    go_enter Tryd.func13, Tryd.ntmps13
    go_wp2_with fail
    go_loopg [5] a.length (fun g i wx => ∃ k : Nat, i = .int .i64 k ∧ g = a.length - k ∧ k ≤ a.length ∧ a.take k = b.take k ∧ ∃ n, wx = w.drewN n)
    case atStart => exact ⟨0, rfl, rfl, Nat.zero_le _, rfl, 0, rfl⟩
    case round =>
      obtain ⟨k, rfl, rfl, hk, htk, nd, hw⟩ := hrel
      have HTk := Lib.hid htk
      have HW := Lib.hid hw
      clear htk hw
      by_cases hlt : k < a.length
      · have hlt' : decide ((k : Int) < (a.length : Int)) = true := by simp; omega
        have hltb : k < b.length := by rw [← HL.out]; exact hlt
        obtain ⟨ba, oa, rfl, _, hxa⟩ := HA.out (by rintro rfl; simp at hlt)
        obtain ⟨bb, ob, rfl, _, hxb⟩ := HB.out (by rintro rfl; simp at hltb)
        have ka : wr.cell? ⟨ba, oa + k, none⟩ = _ := (by rw [HW.out]; rfl : wr.cell? ⟨ba, oa + k, none⟩ = w.cell? ⟨ba, oa + k, none⟩).trans (hxa k _ (List.getElem?_eq_getElem hlt))
        have kb : wr.cell? ⟨bb, ob + k, none⟩ = _ := (by rw [HW.out]; rfl : wr.cell? ⟨bb, ob + k, none⟩ = w.cell? ⟨bb, ob + k, none⟩).trans (hxb k _ (List.getElem?_eq_getElem hltb))
        have hg1 := List.getElem?_eq_getElem hlt
        have hg2 := List.getElem?_eq_getElem hltb
        generalize a[k] = x at ka hg1
        generalize b[k] = y at kb hg2
        have HG1 := Lib.hid hg1
        have HG2 := Lib.hid hg2
        clear hg1 hg2 hxa hxb
        by_cases hxy : x = y
        · have hne : (((UInt8.toNat x : Nat) : Int) != ((UInt8.toNat y : Nat) : Int)) = false := by simp [hxy]
          have HXy := Lib.hid hxy
          clear hxy
          go_wp2_with fail
          go_quiet (fail)
          go_wp2_with fail
          go_roundg (a.length - (k + 1))
          case measure => omega
          case rel => exact ⟨k + 1, by go_num, rfl, hlt, take_same HTk.out HG1.out HG2.out HXy.out, nd + nq, by rw [HW.out]; exact World.drewN_drewN _ _ _⟩
        · have hne : (((UInt8.toNat x : Nat) : Int) != ((UInt8.toNat y : Nat) : Int)) = true := by
            simp only [bne_iff_ne, ne_eq, Int.ofNat_inj]
            exact fun h => hxy (UInt8.toNat_inj.1 h)
          have HXy := Lib.hid hxy
          have hab : decide (a = b) = false := by
            simp only [decide_eq_false_iff_not]
            rintro rfl
            exact HXy.out (Option.some.inj (HG1.out.symm.trans HG2.out))
          have HAb := Lib.hid hab
          clear hxy hab
          go_wp2_with fail
          go_quiet (fail)
          go_wp2_with fail
          go_ret
          exact ⟨ret_bool HAb.out.symm, nd + nq, by rw [HW.out]; exact World.drewN_drewN _ _ _⟩
      · have hlt' : decide ((k : Int) < (a.length : Int)) = false := by simp; omega
        have hall : decide (a = b) = true := by
          have h := HTk.out
          rw [List.take_of_length_le (by omega), List.take_of_length_le (by rw [← HL.out]; omega)] at h
          simpa using h
        have HAll := Lib.hid hall
        clear hall
        go_wp2_with fail
        go_ret
        exact ⟨ret_bool HAll.out.symm, nd, HW.out⟩
  · have hl' : ((a.length : Int) != (b.length : Int)) = true := by simp; omega
    have hne : decide (a = b) = false := by simp; rintro rfl; exact hl rfl
    have HNe := Lib.hid hne
    clear hl hne
    go_enter Tryd.func13, Tryd.ntmps13
    go_wp2_with fail
    go_ret
    exact ⟨ret_bool HNe.out.symm, 0, rfl⟩

theorem ext_take (p : Str) (n : Nat) : ((bs p).extract 0 n).toList = p.take n := by
  rw [Lib.toList_data, Lib.extract_data]
  simp [bs]
theorem byte_is (p : Str) (n : Nat) (h : n < (bs p).size) (hn : n < p.length) : (((bs p)[n]'h).toNat == (47 : Nat)) = decide (p[n]? = some 47) := by
  have h1 : (bs p)[n]'h = p[n] := by simp [bs, ByteArray.getElem_eq_getElem_data]
  rw [h1, List.getElem?_eq_getElem hn]
  rw [Bool.eq_iff_iff]
  simp only [beq_iff_eq, decide_eq_true_eq, Option.some.injEq]
  constructor
  · intro h; exact UInt8.toNat_inj.1 h
  · intro h; rw [h]; rfl

set_option maxHeartbeats 1000000 in
theorem belowR_any (p top : Str) (w : World) :
    Calls Tryd.prog 12 #[.string (bs p), .string (bs top)] w fun e w' => e = .returned (.bool (belowR p top)) ∧ ∃ n, w' = w.drewN n := by
  by_cases ht : top = [47]
  · have hr : belowR p top = !decide (p = [47]) := by unfold belowR; rw [if_pos ht]
    have hb : (top == [47]) = true := by simpa using ht
    have HR := Lib.hid hr
    clear hr ht
    by_cases hp : p = [47]
    · have hpb : (p == [47]) = true := by simpa using hp
      have HP := Lib.hid hp
      clear hp
      go_enter Tryd.func12, Tryd.ntmps12
      go_wp2_with fail
      go_ret
      exact ⟨ret_bool (by rw [HR.out, HP.out]; rfl), 0, rfl⟩
    · have hpb : (p == [47]) = false := by simpa using hp
      have HP := Lib.hid hp
      clear hp
      go_enter Tryd.func12, Tryd.ntmps12
      go_wp2_with fail
      go_ret
      exact ⟨ret_bool (by rw [HR.out, decide_eq_false HP.out]; rfl), 0, rfl⟩
  · have hr : belowR p top = (decide (top.length < p.length) && decide (p.take top.length = top) && decide (p[top.length]? = some 47)) := by unfold belowR; rw [if_neg ht]
    have hb : (top == [47]) = false := by simpa using ht
    have HR := Lib.hid hr
    clear hr ht
    go_enter Tryd.func12, Tryd.ntmps12
    go_wp2_with fail
    · have h1 : top.length < p.length := by assumption
      have h2 : ((bs p).extract 0 top.length).toList = top := by assumption
      go_ret
      refine ⟨ret_bool ?_, 0, rfl⟩
      rw [ext_take] at h2
      rw [HR.out, decide_eq_true h1, decide_eq_true h2, Bool.true_and, Bool.true_and, ← byte_is p top.length (by rw [bs_size]; exact h1) h1]
      rw [Bool.eq_iff_iff]
      simp only [beq_iff_eq]
      omega
    · have h1 : top.length < p.length := by assumption
      have h2 : ¬ ((bs p).extract 0 top.length).toList = top := by assumption
      go_ret
      refine ⟨ret_bool ?_, 0, rfl⟩
      rw [ext_take] at h2
      rw [HR.out, decide_eq_false h2]
      simp
    · have h1 : ¬ top.length < p.length := by assumption
      go_ret
      refine ⟨ret_bool ?_, 0, rfl⟩
      rw [HR.out, decide_eq_false h1]
      simp

end Go.Proofs.YtjolgckkoidhgaaDoor
