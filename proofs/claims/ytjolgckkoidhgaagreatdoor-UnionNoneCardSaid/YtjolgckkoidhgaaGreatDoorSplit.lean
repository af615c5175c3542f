/-
  dir.Split: what a path's names are, at every text.
-/
import Derived.Test.YtjolgckkoidhgaaGreatDoorNames
import Derived.Test.YtjolgckkoidhgaaGreatDoorTrees
import Derived.Deep.LoopGhost
namespace Go.Proofs.YtjolgckkoidhgaaGreatDoor
open Go.RowKit Go.Shelf Pa

/-- The library's own variable holds a number. -/
def MaxOk (w : World) : Prop := ∃ m, w.cell? ⟨0, 0, none⟩ = some (.int .i64 m)
theorem MaxOk.below {w w' : World} {B : Nat} (h : MaxOk w) (hb : Below B w w') (hB : 0 < B) : MaxOk w' := by
  obtain ⟨m, hm⟩ := h
  exact ⟨m, (hb.cell (p := ⟨0, 0, none⟩) hB).trans hm⟩
theorem MaxOk.lt {w : World} (h : MaxOk w) : 0 < w.heap.size := by
  obtain ⟨m, hm⟩ := h
  rcases Nat.lt_or_ge 0 w.heap.size with h | h
  · exact h
  · rw [World.cell?, Array.getElem?_eq_none h] at hm; cases hm
theorem MaxOk.grow {w w' : World} (h : MaxOk w) (hb : Below w.heap.size w w') : MaxOk w' := h.below hb h.lt

def strVals (l : List Str) : List Value := l.map fun s => .string (bs s)

theorem split_spl (t : Str) (w : World) (hs : t.length < 4294967281) (hm : MaxOk w) :
    Calls Tryz.prog 37 #[.string (bs t), .string ⟨#[47]⟩] w fun e w' =>
      e = .returned (.slice (some ⟨w.heap.size, 0, none⟩) (spl t).length (spl t).length) ∧ w' = w.alloc (.cells (strVals (spl t)).toArray 9) := by
  obtain ⟨m, hm⟩ := hm
  have hd : (Lib.splitB ⟨#[47]⟩ 0 (Lib.countB (bs t) ⟨#[47]⟩) (bs t)).map (·.data.toList) = spl t := by
    rw [Lib.splitB_data]
    exact split_eq_spl t
  have hlen : Lib.countB (bs t) ⟨#[47]⟩ + 1 = (spl t).length := by
    rw [← hd, List.length_map, Lib.splitB_all ⟨#[47]⟩ (by decide) 0 _ _ rfl]
  have hvals : (Lib.splitB ⟨#[47]⟩ 0 (Lib.countB (bs t) ⟨#[47]⟩) (bs t)).map Value.string = strVals (spl t) := by
    unfold strVals
    rw [← hd, List.map_map]
    rfl
  have h := Tryz.strings_Split (bs t) ⟨#[47]⟩ m w (by rw [bs_size]; exact hs) hm (by decide)
  rw [hlen, hvals] at h
  exact h

theorem spl_length : ∀ s, (spl s).length ≤ s.length + 1
  | [] => by simp [spl]
  | c :: s => by
    have ih := spl_length s
    unfold spl
    split
    · simp; omega
    · split
      · simp
      · rename_i h t e; rw [e] at ih; simp at ih ⊢; omega

theorem strVals_at (l : List Str) (i : Nat) (s : Str) (h : l[i]? = some s) : (strVals l)[i]? = some (.string (bs s)) := by
  unfold strVals; rw [List.getElem?_map, h]; rfl

attribute [local go_sem] bs_toList bs_size

/-- What dir.Split answers. -/
def SplitPostD (p : Str) (w : World) (e : Ending) (w' : World) : Prop :=
  ∃ v n, e = .returned (.tuple #[v, .int .i64 n]) ∧ BelowD w.heap.size w w' ∧
    match splitP p with
    | some l => n = 0 ∧ StrsAt w' w'.heap.size v l
    | none => n = 8 ∧ v = .slice none 0 0

theorem SplitPostD.none {p : Str} {w w' : World} (h : splitP p = .none) (hb : BelowD w.heap.size w w') : SplitPostD p w (.returned (.tuple #[.slice .none 0 0, .int .i64 8])) w' := by
  refine ⟨_, _, rfl, hb, ?_⟩
  rw [h]; exact ⟨rfl, rfl⟩
theorem SplitPostD.some {p : Str} {l : List Str} {w w' : World} {v : Value} (h : splitP p = .some l) (hb : BelowD w.heap.size w w') (hv : StrsAt w' w'.heap.size v l) : SplitPostD p w (.returned (.tuple #[v, .int .i64 0])) w' := by
  refine ⟨_, _, rfl, hb, ?_⟩
  rw [h]; exact ⟨rfl, hv⟩

theorem hasPrefix_stroke (p : Str) : Lib.hasPrefix p [47] = decide (p.head? = some 47) := by
  cases p with
  | nil => rfl
  | cons c p =>
    by_cases h : c = 47
    · subst h; simp [Lib.hasPrefix, List.isPrefixOf]
    · simp [Lib.hasPrefix, List.isPrefixOf, h, Ne.symm h]

/-- Is it found by the first i pieces that a text is no path? -/
def badTo (L : List Str) (i : Nat) : Bool := decide (16 < L.length) || (L.take i).any (fun s => !nameOk s)
theorem badTo_zero (L : List Str) : badTo L 0 = decide (16 < (L.length : Int)) := by
  unfold badTo
  by_cases h : 16 < L.length
  · simp [h]; omega
  · simp [h]; omega
theorem badTo_succ (L : List Str) (i : Nat) (s : Str) (h : L[i]? = some s) : badTo L (i + 1) = (badTo L i || !nameOk s) := by
  unfold badTo
  rw [List.take_add_one, h]
  simp [Bool.or_assoc]
theorem badTo_mono (L : List Str) (i : Nat) (h : badTo L i = true) : badTo L L.length = true := by
  unfold badTo at *
  simp only [Bool.or_eq_true, List.any_eq_true, decide_eq_true_eq, List.take_length] at *
  rcases h with h | ⟨x, hx, h⟩
  · exact .inl h
  · exact .inr ⟨x, List.mem_of_mem_take hx, h⟩
theorem badTo_split {p : Str} {L : List Str} (h : splitP p = if L.length ≤ 16 ∧ L.all nameOk then some L else none) : splitP p = if badTo L L.length then none else some L := by
  rw [h]
  unfold badTo
  rw [List.take_length]
  by_cases h1 : L.length ≤ 16
  · by_cases h2 : L.all nameOk = true
    · rw [if_pos ⟨h1, h2⟩, if_neg]
      simp only [Bool.or_eq_true, decide_eq_true_eq, List.any_eq_true, not_or, not_exists, not_and]
      exact ⟨by omega, fun x hx => by simp [List.all_eq_true.1 h2 x hx]⟩
    · rw [if_neg (fun h => h2 h.2), if_pos]
      simp only [Bool.or_eq_true, List.any_eq_true]
      right
      simpa using h2
  · rw [if_neg (fun h => h1 h.1), if_pos]
    simp; omega

set_option maxHeartbeats 1000000 in
theorem split_d (p : Str) (w : World) (hm : MaxOk w) : Calls Tryz.prog 17 #[.string (bs p)] w (SplitPostD p w) := by
  have hpre : ∀ w : World, Calls Tryz.prog 36 #[.string (bs p), .string ⟨#[47]⟩] w fun e w' => e = .returned (.bool (decide (p.head? = some 47))) ∧ w' = w := fun w => by
    rw [← hasPrefix_stroke]; exact Tryz.strings_HasPrefix (bs p) ⟨#[47]⟩ w
  by_cases hh : p.head? = some 47
  case neg =>
    have hd : decide (p.head? = some 47) = false := decide_eq_false hh
    rw [hd] at hpre
    have hn : splitP p = none := by unfold splitP; rw [if_neg (fun h => hh h.1)]
    clear hm
    go_enter Tryz.func17, Tryz.ntmps17
    go_wp2_with fail
    go_step3
    go_wp2_with (go_at_call 36; refine (hpre _).mono ?_; rintro e w' ⟨rfl, hw⟩; obtain rfl := hw.symm)
    rw [Exit.noGoto_ret]
    go_ret2
    exact SplitPostD.none hn (BelowD.refl _ _)
  have hd : decide (p.head? = some 47) = true := decide_eq_true hh
  rw [hd] at hpre
  have HH := Lib.hid hh
  clear hh hd
  by_cases hlen : p.length ≤ 255
  case neg =>
    have hn : splitP p = none := by unfold splitP; rw [if_neg (fun h => hlen h.2)]
    have h2 : (255 : Int) < p.length := by omega
    clear hm
    go_enter Tryz.func17, Tryz.ntmps17
    go_wp2_with fail
    go_step3
    go_wp2_with (go_at_call 36; refine (hpre _).mono ?_; rintro e w' ⟨rfl, hw⟩; obtain rfl := hw.symm)
    rw [Exit.noGoto_ret]
    go_ret2
    exact SplitPostD.none hn (BelowD.refl _ _)
  have h2 : ¬ (255 : Int) < p.length := by omega
  by_cases hroot : p = [47]
  case pos =>
    have hn : splitP p = some [] := by rw [hroot]; exact splitP_root
    have hb : (p == [47]) = true := beq_iff_eq.2 hroot
    have HR := Lib.hid hroot
    clear hm hroot
    go_enter Tryz.func17, Tryz.ntmps17
    go_wp2_with fail
    go_step3
    go_wp2_with (go_at_call 36; refine (hpre _).mono ?_; rintro e w' ⟨rfl, hw⟩; obtain rfl := hw.symm)
    rw [Exit.noGoto_ret]
    go_ret2
    exact SplitPostD.some hn (BelowD.refl _ _) (StrsAt.nil _ _ _ _)
  have hb : (p == [47]) = false := beq_eq_false_iff_ne.2 hroot
  have hsp : splitP p = if (spl p.tail).length ≤ 16 ∧ (spl p.tail).all nameOk then some (spl p.tail) else none := by
    unfold splitP; rw [if_pos ⟨HH.out, hlen⟩, if_neg hroot]
  have hex : (bs p).extract 1 p.length = bs p.tail := by
    have : p.tail = p.drop 1 := by simp
    rw [this]
    have e : ((bs p).extract 1 p.length).data.toList = p.drop 1 := by
      rw [Lib.extract_data, bs_list]
      exact List.take_of_length_le (by simp)
    exact e ▸ (bs_of _).symm
  have hcon := split_spl p.tail w (by simp; omega) hm
  have hlt := hm.lt
  have h1len : 1 ≤ p.length := by have := HH.out; cases p <;> simp_all
  clear hm hroot
  have HS := Lib.hid hsp
  clear hsp
  have hL : (spl p.tail).length ≤ 9223372036854775807 := by have := spl_length p.tail; simp at this; omega
  generalize spl p.tail = L at hcon HS hL
  go_enter Tryz.func17, Tryz.ntmps17
  go_wp2_with fail
  go_step3
  go_wp2_with (first | (go_at_call 36; refine (hpre _).mono ?_; rintro e w' ⟨rfl, hw⟩; obtain rfl := hw.symm) | (go_at_call 37; refine hcon.mono ?_; rintro e w' ⟨rfl, rfl⟩))
  go_step3
  go_wp2_with fail
  have hB1 : BelowD w.heap.size w (w.alloc (.cells (strVals L).toArray 9)) := (BelowD.refl _ _).alloc (Nat.le_refl _) _
  have hC1 : ∀ i s, L[i]? = some s → (w.alloc (.cells (strVals L).toArray 9)).cell? ⟨w.heap.size, i, none⟩ = some (.string (bs s)) := fun i s hs => by
    rw [World.cell?_alloc_at _ _ _ _ rfl, List.getElem?_toArray, strVals_at L i s hs]
  have hz1 : (w.alloc (.cells (strVals L).toArray 9)).heap.size = w.heap.size + 1 := by simp
  have HC1 := Lib.hid hC1
  have Hz1 := Lib.hid hz1
  clear hC1 hz1
  generalize w.alloc (.cells (strVals L).toArray 9) = W1 at hB1 HC1 Hz1 ⊢
  have hq0 := badTo_zero L
  have HQ := Lib.hid (badTo_split HS.out)
  clear HS
  go_loopg [5, 26] L.length (fun g s5 s26 wx => ∃ i : Nat, i + g = L.length ∧ s26 = .int .i64 i ∧ s5 = .bool (badTo L i) ∧ BelowD (w.heap.size + 1) W1 wx)
  case atStart => exact ⟨0, by omega, rfl, by rw [hq0], BelowD.refl _ _⟩
  case round =>
    obtain ⟨i, hig, rfl, rfl, hb⟩ := hrel
    obtain ⟨wx, rfl⟩ : ∃ wx, wx = wr := ⟨_, rfl⟩
    have hbw : BelowD w.heap.size w wx := hB1.trans (hb.mono (by omega))
    have hv : ∀ l, L = l → StrsAt wx wx.heap.size (.slice (some ⟨w.heap.size, 0, none⟩) L.length L.length) l := fun l hl => by
      subst hl
      have hz := Hz1.out
      have hs := hb.size
      exact ⟨_, _, rfl, Nat.le_refl _, fun _ => ⟨_, _, rfl, by omega, fun i s h => by
        rw [Nat.zero_add, hb.cell (p := ⟨w.heap.size, i, none⟩) (Nat.lt_succ_self _)]; exact HC1.out i s h⟩⟩
    have HV := Lib.hid hv
    clear hv hq0
    cases gk with
    | zero =>
      obtain rfl : i = L.length := by omega
      cases hq : badTo L L.length with
      | true =>
        have hn : splitP p = none := by rw [HQ.out, hq]; rfl
        go_wp2
        rw [Exit.noGoto_ret]
        go_ret2
        exact SplitPostD.none hn hbw
      | false =>
        have hn : splitP p = some L := by rw [HQ.out, hq]; rfl
        go_wp2
        rw [Exit.noGoto_ret]
        go_ret2
        exact SplitPostD.some hn hbw (HV.out _ rfl)
    | succ g =>
      have hi : i < L.length := by omega
      have hLi : L[i]? = some L[i] := List.getElem?_eq_getElem hi
      have hcell : wx.cell? ⟨w.heap.size, i, none⟩ = some (.string (bs L[i])) := by
        rw [hb.cell (p := ⟨w.heap.size, i, none⟩) (Nat.lt_succ_self _)]; exact HC1.out i _ hLi
      have hstep := badTo_succ L i _ hLi
      have hmono := badTo_mono L i
      generalize L[i] = s at hcell hstep
      have HStep := Lib.hid hstep
      have HMono := Lib.hid hmono
      have hsz : w.heap.size + 1 ≤ wx.heap.size := by have := hb.size; have := Hz1.out; omega
      clear hstep hmono hLi
      cases hq : badTo L i with
      | true =>
        have hn : splitP p = none := by rw [HQ.out, HMono.out hq]; rfl
        go_wp2
        rw [Exit.noGoto_ret]
        go_ret2
        exact SplitPostD.none hn hbw
      | false =>
        cases hnm : nameOk s with
        | true =>
          go_wp2_with (go_at_call 38; refine (isName_any s _).mono ?_; rintro e w2 ⟨rfl, hb2⟩; rw [hnm])
          go_roundg g
          case measure => omega
          case rel => exact ⟨i + 1, by omega, by go_num, by rw [HStep.out, hq, hnm]; rfl, hb.trans (hb2.mono hsz)⟩
        | false =>
          go_wp2_with (go_at_call 38; refine (isName_any s _).mono ?_; rintro e w2 ⟨rfl, hb2⟩; rw [hnm])
          go_roundg g
          case measure => omega
          case rel => exact ⟨i + 1, by omega, by go_num, by rw [HStep.out, hq, hnm]; rfl, hb.trans (hb2.mono hsz)⟩
/-- The same, without the draws. -/
def SplitPost (p : Str) (w : World) (e : Ending) (w' : World) : Prop :=
  ∃ v n, e = .returned (.tuple #[v, .int .i64 n]) ∧ Below w.heap.size w w' ∧
    match splitP p with
    | none => n = 8 ∧ v = .slice none 0 0
    | some l => n = 0 ∧ StrsAt w' w'.heap.size v l
theorem split_any (p : Str) (w : World) (hm : MaxOk w) : Calls Tryz.prog 17 #[.string (bs p)] w (SplitPost p w) :=
  (split_d p w hm).mono fun _ _ ⟨v, n, h1, h2, h3⟩ => ⟨v, n, h1, h2.toBelow, by
    cases hp : splitP p <;> rw [hp] at h3 <;> exact h3⟩

end Go.Proofs.YtjolgckkoidhgaaGreatDoor
