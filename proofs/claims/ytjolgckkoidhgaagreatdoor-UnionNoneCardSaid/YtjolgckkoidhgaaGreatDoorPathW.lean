/-
  The walks over paths: union.names, parent, order, below; slices.Compare and cmp.Compare at texts.
-/
import Derived.Test.YtjolgckkoidhgaaGreatDoorSplit
import Derived.WalkLawsBesides
import Derived.Lib.LastIndexByte
namespace Go.Proofs.YtjolgckkoidhgaaGreatDoor
open Go.RowKit Go.Shelf Pa
attribute [local go_sem] bs_toList bs_size

set_option maxHeartbeats 400000 in
theorem names_d (p : Str) (w : World) (hm : MaxOk w) :
    Calls Tryz.prog 97 #[.string (bs p)] w fun e w' => ∃ v, e = .returned v ∧ BelowD w.heap.size w w' ∧ StrsAt w' w'.heap.size v (names p) := by
  have hs := split_d p w hm
  clear hm
  go_enter Tryz.func97, Tryz.ntmps97
  go_wp2_with fail
  refine hs.mono ?_
  rintro e w' ⟨v, n, rfl, hb, h⟩
  have hv : StrsAt w' w'.heap.size v (names p) := by
    unfold names
    cases hp : splitP p with
    | none => rw [hp] at h; obtain ⟨_, rfl⟩ := h; exact StrsAt.nil _ _ _ _
    | some l => rw [hp] at h; exact h.2
  have HV := Lib.hid hv
  clear hv h hs
  go_wp2
  go_ret
  exact ⟨_, rfl, hb, HV.out⟩

theorem names_any (p : Str) (w : World) (hm : MaxOk w) :
    Calls Tryz.prog 97 #[.string (bs p)] w fun e w' => ∃ v, e = .returned v ∧ Below w.heap.size w w' ∧ StrsAt w' w'.heap.size v (names p) :=
  (names_d p w hm).mono fun _ _ ⟨v, h1, h2, h3⟩ => ⟨v, h1, h2.toBelow, h3⟩

set_option maxHeartbeats 400000 in
theorem cmp_any (a b : Str) (w : World) :
    Calls Tryz.prog 133 #[.string (bs a), .string (bs b)] w fun e w' => e = .returned (.int .i64 (cmpS a b)) ∧ w' = w := by
  have haa : (a == a) = true := beq_self_eq_true a
  have hbb : (b == b) = true := beq_self_eq_true b
  go_enter Tryz.func133, Tryz.ntmps133
  go_wp2
  · have h : Op.bytesLess a b = true := by assumption
    go_ret
    exact ⟨ret_int (by unfold cmpS; rw [if_pos h]), rfl⟩
  · have h : Op.bytesLess a b = false := by assumption
    have h2 : (!a == b) = true := by assumption
    go_ret
    exact ⟨ret_int (by unfold cmpS; rw [if_neg (by rw [h]; simp), if_neg (by simpa using h2)]), rfl⟩
  · have h : Op.bytesLess a b = false := by assumption
    have h2 : (!a == b) = false := by assumption
    go_ret
    exact ⟨ret_int (by unfold cmpS; rw [if_neg (by rw [h]; simp), if_pos (by simpa using h2)]), rfl⟩

/-- Where the first i names are alike: what is left is to be compared. -/
theorem cmpL_drop : ∀ (i : Nat) (x y : List Str), x.take i = y.take i → i ≤ x.length → i ≤ y.length → cmpL x y = cmpL (x.drop i) (y.drop i)
  | 0, _, _, _, _, _ => rfl
  | i + 1, [], _, _, h, _ => by simp at h
  | i + 1, _ :: _, [], _, _, h => by simp at h
  | i + 1, a :: x, b :: y, h, hx, hy => by
    simp only [List.take_succ_cons, List.cons.injEq] at h
    rw [cmpL, if_pos (cmpS_zero.2 h.1)]
    exact cmpL_drop i x y h.2 (by simpa using hx) (by simpa using hy)

set_option maxHeartbeats 800000 in
theorem compare_any (x y : List Str) (va vb : Value) (B : Nat) (w : World) (hxl : x.length ≤ 1000000) (hyl : y.length ≤ 1000000) (hx : StrsAt w B va x) (hy : StrsAt w B vb y) :
    Calls Tryz.prog 96 #[va, vb] w fun e w' => e = .returned (.int .i64 (cmpL x y)) ∧ w' = w := by
  obtain ⟨A1, c1, rfl, hc1, hx⟩ := hx
  obtain ⟨A2, c2, rfl, hc2, hy⟩ := hy
  have HX := Lib.hid hx
  have HY := Lib.hid hy
  clear hx hy
  go_enter Tryz.func96, Tryz.ntmps96
  go_wp2_with fail
  go_loop [11] (fun s => ∃ i : Nat, i ≤ x.length ∧ i ≤ y.length ∧ s = .int .i64 i ∧ x.take i = y.take i) (fun s => x.length - (intOf s).toNat)
  case atStart => exact ⟨0, by omega, by omega, rfl, rfl⟩
  case round =>
    obtain ⟨i, hi1, hi2, rfl, heq⟩ := hrel
    have hdrop := cmpL_drop i x y heq hi1 hi2
    have HD := Lib.hid hdrop
    have HE := Lib.hid heq
    clear hdrop heq
    by_cases h1 : i < x.length
    · obtain ⟨b1, o1, rfl, _, hcx⟩ := HX.out (by rintro rfl; simp at h1)
      have hxi : x[i]? = some x[i] := List.getElem?_eq_getElem h1
      have g1 := hcx i _ hxi
      have hxd : x.drop i = x[i] :: x.drop (i + 1) := List.drop_eq_getElem_cons h1
      by_cases h2 : i < y.length
      · obtain ⟨b2, o2, rfl, _, hcy⟩ := HY.out (by rintro rfl; simp at h2)
        have hyi : y[i]? = some y[i] := List.getElem?_eq_getElem h2
        have g2 := hcy i _ hyi
        have hyd : y.drop i = y[i] :: y.drop (i + 1) := List.drop_eq_getElem_cons h2
        have hxt : x.take (i + 1) = x.take i ++ [x[i]] := by rw [List.take_add_one, hxi]; rfl
        have hyt : y.take (i + 1) = y.take i ++ [y[i]] := by rw [List.take_add_one, hyi]; rfl
        have key : cmpL x y = if cmpS x[i] y[i] = 0 then cmpL (x.drop (i + 1)) (y.drop (i + 1)) else cmpS x[i] y[i] := by rw [HD.out, hxd, hyd, cmpL]
        clear hcx hcy hxi hyi hxd hyd
        generalize x[i] = a at *
        generalize y[i] = b at *
        have HK := Lib.hid key
        have H1 := Lib.hid hxt
        have H2 := Lib.hid hyt
        clear key hxt hyt
        by_cases hz : cmpS a b = 0
        · have hzb : (cmpS a b != 0) = false := by rw [hz]; rfl
          have HZ := Lib.hid hz
          clear hz
          go_wp2_with (go_at_call 133; refine (cmp_any _ _ _).mono ?_; rintro e w' ⟨rfl, hw⟩; obtain rfl := hw.symm)
          go_round
          case rel => exact ⟨i + 1, by omega, by omega, by go_num, by rw [H1.out, H2.out, HE.out, cmpS_zero.1 HZ.out]⟩
          case measure => simp [intOf]; omega
        · have hzb : (cmpS a b != 0) = true := by simpa using hz
          have HZ := Lib.hid hz
          clear hz
          go_wp2_with (go_at_call 133; refine (cmp_any _ _ _).mono ?_; rintro e w' ⟨rfl, hw⟩; obtain rfl := hw.symm)
          go_ret
          exact ⟨ret_int (by rw [HK.out, if_neg HZ.out]), rfl⟩
      · have key : cmpL x y = 1 := by
          have hyd : y.drop i = [] := List.drop_eq_nil_of_le (by omega)
          rw [HD.out, hxd, hyd, cmpL]
        have HK := Lib.hid key
        have h3 : (y.length : Int) ≤ i := by omega
        clear key hxd hxi hcx
        go_wp2
        go_ret
        exact ⟨ret_int HK.out.symm, rfl⟩
    · have hi : i = x.length := by omega
      subst hi
      have hxd : x.drop x.length = [] := List.drop_length
      by_cases h2 : x.length < y.length
      · have key : cmpL x y = -1 := by
          rw [HD.out, hxd, List.drop_eq_getElem_cons h2, cmpL]
        have HK := Lib.hid key
        clear key hxd
        go_wp2
        go_ret
        exact ⟨ret_int HK.out.symm, rfl⟩
      · have key : cmpL x y = 0 := by
          rw [HD.out, hxd, List.drop_eq_nil_of_le (by omega), cmpL]
        have HK := Lib.hid key
        clear key hxd
        go_wp2
        go_ret
        exact ⟨ret_int HK.out.symm, rfl⟩

theorem names_len (p : Str) : (names p).length ≤ 16 := by
  unfold names
  cases h : splitP p with
  | none => simp
  | some l => exact (splitP_some h).2.1

set_option maxHeartbeats 400000 in
theorem order_d (p q : Str) (w : World) (hm : MaxOk w) :
    Calls Tryz.prog 52 #[.string (bs p), .string (bs q)] w fun e w' => e = .returned (.int .i64 (orderP p q)) ∧ BelowD w.heap.size w w' := by
  have h1 := names_d p w hm
  have h2 := fun w' (hb : Below w.heap.size w w') => names_d q w' (hm.grow hb)
  have H2 := Lib.hid h2
  clear h2 hm
  go_enter Tryz.func52, Tryz.ntmps52
  go_wp2_with fail
  refine h1.mono ?_
  rintro e w1 ⟨v1, rfl, hb1, hv1⟩
  have HV1 := Lib.hid hv1
  clear hv1 h1
  go_wp2_with fail
  refine (H2.out w1 hb1).mono ?_
  rintro e w2 ⟨v2, rfl, hb2, hv2⟩
  have hc := compare_any (names p) (names q) v1 v2 w2.heap.size w2 (by have := names_len p; omega) (by have := names_len q; omega) ((HV1.out.below hb2).more hb2.size) hv2
  have hb := hb1.trans (hb2.mono hb1.size)
  clear hv2 hb1 hb2
  go_wp2_with fail
  refine hc.mono ?_
  rintro e w' ⟨rfl, hw⟩
  obtain rfl := hw.symm
  clear hc
  go_wp2
  go_ret
  exact ⟨rfl, hb⟩

theorem order_any (p q : Str) (w : World) (hm : MaxOk w) :
    Calls Tryz.prog 52 #[.string (bs p), .string (bs q)] w fun e w' => e = .returned (.int .i64 (orderP p q)) ∧ Below w.heap.size w w' :=
  (order_d p q w hm).mono fun _ _ ⟨h1, h2⟩ => ⟨h1, h2.toBelow⟩

theorem dropWhile_all {α : Type} {f : α → Bool} : ∀ l : List α, (∀ x ∈ l, f x = true) → l.dropWhile f = []
  | [], _ => rfl
  | x :: l, h => by rw [List.dropWhile_cons, if_pos (h x (by simp))]; exact dropWhile_all l fun y hy => h y (by simp [hy])

theorem lastIdx_take (s : ByteArray) : (Lib.lastIndexByte s 47 ≤ 0 → parentP s.data.toList = [47]) ∧ (0 < Lib.lastIndexByte s 47 → (s.extract 0 (Lib.lastIndexByte s 47).toNat).data.toList = parentP s.data.toList ∧ Lib.lastIndexByte s 47 ≤ s.size) := by
  have hgd : ∀ j, j < s.size → s.data.toList[j]? = some (s.data[j]!) := fun j hj => by
    rw [Array.getElem?_toList, getElem!_pos s.data j hj, Array.getElem?_eq_getElem]
  rcases Lib.lastIndexByte_spec s 47 with ⟨e, hn⟩ | ⟨i, hi, e, hc, hn⟩
  · rw [e]
    refine ⟨fun _ => ?_, fun h => by omega⟩
    have hno : 47 ∉ s.data.toList := by
      intro hm
      obtain ⟨j, hj, ej⟩ := List.mem_iff_getElem.1 hm
      have hj' : j < s.size := by simpa using hj
      have h1 := hgd j hj'
      rw [List.getElem?_eq_getElem hj, ej] at h1
      apply hn j hj'
      rw [← Option.some.inj h1]; rfl
    unfold parentP
    have : (s.data.toList.reverse.dropWhile (fun c => c != 47)) = [] := by
      refine dropWhile_all _ ?_
      intro x hx
      simp only [bne_iff_ne, ne_eq]
      rintro rfl
      exact hno (by simpa using hx)
    rw [this]
  · have hsplit : s.data.toList = s.data.toList.take i ++ 47 :: s.data.toList.drop (i + 1) := by
      have hi' : i < s.data.toList.length := by simpa using hi
      have h1 := hgd i hi
      rw [List.getElem?_eq_getElem hi'] at h1
      have h47 : s.data.toList[i] = 47 := by
        rw [Option.some.inj h1]
        exact UInt8.toNat_inj.1 (by have : (47 : UInt8).toNat = 47 := rfl; omega)
      rw [← h47, ← List.drop_eq_getElem_cons hi', List.take_append_drop]
    have hno : 47 ∉ s.data.toList.drop (i + 1) := by
      intro hm
      obtain ⟨j, hj, ej⟩ := List.mem_iff_getElem.1 hm
      rw [List.getElem_drop] at ej
      have hj' : i + 1 + j < s.size := by simp at hj; have : s.size = s.data.size := rfl; omega
      have h1 := hgd (i + 1 + j) hj'
      rw [List.getElem?_eq_getElem (by simpa using hj'), ej] at h1
      apply hn (i + 1 + j) (by omega) hj'
      rw [← Option.some.inj h1]; rfl
    have hpar : parentP s.data.toList = if s.data.toList.take i = [] then [47] else s.data.toList.take i := by
      conv => lhs; rw [hsplit]
      exact parentP_app _ _ hno
    rw [e]
    refine ⟨fun h => ?_, fun h => ⟨?_, by omega⟩⟩
    · have : i = 0 := by omega
      subst this
      rw [hpar]; simp
    · rw [hpar, if_neg, Lib.extract_data]
      · simp
      · intro h0
        have h1 := congrArg List.length h0
        have hl : s.data.toList.length = s.size := Array.length_toList
        rw [List.length_take, List.length_nil] at h1
        omega

set_option maxHeartbeats 400000 in
theorem parent_any (p : Str) (w : World) (hp : p.length ≤ 1000000) :
    Calls Tryz.prog 40 #[.string (bs p)] w fun e w' => e = .returned (.string (bs (parentP p))) ∧ w' = w := by
  obtain ⟨hn, hy⟩ := lastIdx_take (bs p)
  have hc := Tryz.strings_LastIndexByte (bs p) 47 (by rw [bs_size]; omega) w
  generalize Lib.lastIndexByte (bs p) 47 = n at *
  by_cases h : 0 < n
  · obtain ⟨h1, h2⟩ := hy h
    have h0 : 0 ≤ n := by omega
    rw [bs_size] at h2
    have HF := Lib.hid (show (bs p).extract 0 n.toNat = bs (parentP p) from h1 ▸ (bs_of _).symm)
    clear hn hy h1
    go_enter Tryz.func40, Tryz.ntmps40
    go_wp2_with (go_at_call 79; refine hc.mono ?_; rintro e w' ⟨rfl, hw⟩; obtain rfl := hw.symm)
    go_ret
    exact ⟨ret_str HF.out, rfl⟩
  · have h0 : n ≤ 0 := by omega
    have HF := Lib.hid (hn h0)
    clear hn hy
    go_enter Tryz.func40, Tryz.ntmps40
    go_wp2_with (go_at_call 79; refine hc.mono ?_; rintro e w' ⟨rfl, hw⟩; obtain rfl := hw.symm)
    go_ret
    exact ⟨ret_str (by rw [show parentP p = [47] from HF.out]; rfl), rfl⟩

end Go.Proofs.YtjolgckkoidhgaaGreatDoor
