/-
  dir.IsName: whether a text is a name, at every text.
-/
import Derived.Test.YtjolgckkoidhgaaGreatDoorRune
namespace Go.Proofs.YtjolgckkoidhgaaGreatDoor
open Go.RowKit Go.Shelf Pa

theorem indexAny_bad : ∀ l : Str, 0 ≤ Lib.indexAny l [47, 0] ↔ l.any isBad = true
  | [] => by simp [Lib.indexAny]
  | b :: l => by
    have ih := indexAny_bad l
    have hge := Lib.indexAny_ge [47, 0] l
    rw [Lib.indexAny, List.any_cons]
    have hc : ([47, 0] : List UInt8).contains b = isBad b := by rw [isBad]; simp only [List.contains_cons, List.contains_nil, Bool.or_false]
    rw [hc]
    cases hb : isBad b
    · simp only [Bool.false_eq_true, if_false, Bool.false_or]
      rw [← ih]
      split
      · rename_i h; have := beq_iff_eq.1 h; omega
      · rename_i h; have : Lib.indexAny l [47, 0] ≠ -1 := fun e => h (beq_iff_eq.2 e); omega
    · simp

theorem any_bad_at (s : ByteArray) (i : Nat) (hi : i < s.size) (hb : isBad (s[i]'hi) = true) : s.data.toList.any isBad = true :=
  List.any_eq_true.2 ⟨_, List.mem_of_getElem? (Lib.data_getElem? s i hi), hb⟩

/-- No byte of the first ones is one of the two. -/
def NoBad (s : ByteArray) (i : Nat) : Prop := ∀ j (hj : j < s.size), j < i → isBad (s[j]'hj) = false
theorem NoBad.all {s : ByteArray} (h : NoBad s s.size) : s.data.toList.any isBad = false := by
  rw [List.any_eq_false]
  intro x hx
  obtain ⟨j, hj, e⟩ := List.mem_iff_getElem.1 hx
  have hj' : j < s.size := by simpa using hj
  have h1 := h j hj' hj'
  have h2 : s[j]'hj' = x := e
  rw [h2] at h1
  simp [h1]
theorem NoBad.step {s : ByteArray} {i : Nat} (h : NoBad s i) (hi : i < s.size) (hb : isBad (s[i]'hi) = false) : NoBad s (i + (Utf8.decode s i).2) ∧ i < i + (Utf8.decode s i).2 ∧ i + (Utf8.decode s i).2 ≤ s.size := by
  rcases decode_two s i hi with ⟨_, e⟩ | ⟨_, _, h3, h4, h5⟩
  · rw [e]
    refine ⟨fun j hj hlt => ?_, by simp, by show i + 1 ≤ _; omega⟩
    have : j < i + 1 := hlt
    rcases Nat.lt_or_ge j i with h' | h'
    · exact h j hj h'
    · obtain rfl : j = i := by omega
      exact hb
  · refine ⟨fun j hj hlt => ?_, by omega, h4⟩
    rcases Nat.lt_or_ge j i with h' | h'
    · exact h j hj h'
    · have hb' := h5 j hj h' hlt
      unfold isBad
      simp only [Bool.or_eq_false_iff, beq_eq_false_iff_ne]
      constructor <;> (intro e; rw [e] at hb'; simp at hb')

set_option maxHeartbeats 800000 in
theorem indexAny_short (s : ByteArray) (w : World) (h8 : s.size ≤ 8) :
    Calls Tryz.prog 114 #[.string s, .string two] w fun e w' => ∃ r : Int, e = .returned (.int .i64 r) ∧ BelowD w.heap.size w w' ∧ (0 ≤ r ↔ s.data.toList.any isBad = true) := by
  have h8z : decide ((8 : Int) < (s.size : Int)) = false := decide_eq_false (by omega)
  have hR := fun i (hi : i < s.size) w => indexRune_any s i hi w
  have HR := Lib.hid hR
  clear hR
  unfold two
  go_enter Tryz.func114, Tryz.ntmps114
  go_wp2_with (go_at_call 151; refine (Tryz.strings_shouldUseASCIISet _ _).mono ?_; rintro e w' ⟨rfl, hw⟩; obtain rfl := hw.symm)
  go_loopg [9, 10] s.size (fun g _ _ wx => ∃ i : Nat, i + g = s.size ∧ wx.heap[w.heap.size]? = some (.stringIter s i) ∧ NoBad s i ∧ BelowD w.heap.size w wx)
  case atStart => exact ⟨0, by omega, World.iter_heap _ _ _, fun _ _ h => absurd h (Nat.not_lt_zero _), (BelowD.refl _ _).alloc (Nat.le_refl _) _⟩
  case round =>
    obtain ⟨i, hig, hit, hno, hb⟩ := hrel
    obtain ⟨wx, rfl⟩ : ∃ wx, wx = wr := ⟨_, rfl⟩
    have HN := Lib.hid hno
    clear hno
    cases gk with
    | zero =>
      obtain rfl : i = s.size := by omega
      have hnx := fun ty => Lib.run_next_end_at (P := Tryz.prog) wx _ s s.size ty hit (by omega)
      clear hit
      go_wp2
      go_ret
      exact ⟨-1, rfl, hb, by rw [HN.out.all]; simp⟩
    | succ g =>
      have hi : i < s.size := by omega
      have hnx := fun ty => Lib.run_next_any_at (P := Tryz.prog) wx _ s i ty hit hi
      have hit' := Lib.iterAt_heap wx _ s i (i + (Utf8.decode s i).2) hit
      have hb' : BelowD w.heap.size w (wx.iterAt w.heap.size s (i + (Utf8.decode s i).2)) := hb.trans ⟨⟨rfl, rfl, rfl, by simp [World.iterAt], fun k hk => by simp only [World.iterAt]; rw [Array.getElem?_setIfInBounds_ne (by omega)]⟩, Nat.le_refl _⟩
      have HI := Lib.hid hit'
      clear hit hit'
      go_wp2_with fail
      generalize wx.iterAt w.heap.size s (i + (Utf8.decode s i).2) = W1 at hb' HI ⊢
      refine (HR.out i hi W1).mono ?_
      rintro e w2 ⟨r, rfl, hb2, hr, hr1, hr2⟩
      have hlt : w.heap.size < W1.heap.size := (Array.getElem?_eq_some_iff.1 HI.out).1
      have hb3 := hb'.trans (hb2.mono (Nat.le_of_lt hlt))
      have hit2 := (hb2.block _ hlt).trans HI.out
      by_cases hr0 : 0 ≤ r
      · have hfin := any_bad_at s i hi (hr.1 hr0)
        clear hit2 hr
        go_wp2
        go_ret
        exact ⟨i, rfl, hb3, by rw [hfin]; simp⟩
      · have hbad : isBad (s[i]'hi) = false := by
          cases h : isBad (s[i]'hi)
          · rfl
          · exact absurd (hr.2 h) hr0
        obtain ⟨s1, s2, s3⟩ := HN.out.step hi hbad
        have HI2 := Lib.hid hit2
        clear hit2 hr
        go_wp2
        go_roundg (s.size - (i + (Utf8.decode s i).2))
        case measure => omega
        case rel => exact ⟨i + (Utf8.decode s i).2, by omega, HI2.out, s1, hb3⟩

theorem indexAny_two (s : ByteArray) (w : World) (hs : s.size < 4294967281) :
    Calls Tryz.prog 114 #[.string s, .string two] w fun e w' => ∃ r : Int, e = .returned (.int .i64 r) ∧ BelowD w.heap.size w w' ∧ (0 ≤ r ↔ s.data.toList.any isBad = true) := by
  by_cases h8 : s.size ≤ 8
  · exact indexAny_short s w h8
  · refine (Tryz.strings_IndexAny_long (fun _ => by kernel_rfl) s two w (by decide) (by omega) hs (by decide) ?_).mono ?_
    · intro j b hj
      have : two.data.toList = [47, 0] := rfl
      rw [this] at hj
      match j, hj with
      | 0, hj => simp at hj; subst hj; decide
      | 1, hj => simp at hj; subst hj; decide
      | j + 2, hj => simp at hj
    · rintro e w' ⟨rfl, rfl⟩
      exact ⟨_, rfl, ((BelowD.refl _ _).alloc (Nat.le_refl _) _).alloc (by simp) _, indexAny_bad _⟩

set_option maxHeartbeats 400000 in
theorem containsAny_two (s : ByteArray) (w : World) (hs : s.size < 4294967281) :
    Calls Tryz.prog 77 #[.string s, .string two] w fun e w' => e = .returned (.bool (s.data.toList.any isBad)) ∧ BelowD w.heap.size w w' := by
  have hc := indexAny_two s w hs
  unfold two at *
  go_enter Tryz.func77, Tryz.ntmps77
  go_wp2_with fail
  refine hc.mono ?_
  rintro e w' ⟨r, rfl, hb, hr⟩
  have : s.data.toList.any isBad = decide (0 ≤ r) := by
    rw [Bool.eq_iff_iff, ← hr, decide_eq_true_eq]
  have HR := Lib.hid this
  clear this hr
  go_wp2
  go_ret
  exact ⟨ret_bool HR.out.symm, hb⟩

theorem any_isBad : ∀ s : Str, s.any isBad = (s.contains 47 || s.contains 0)
  | [] => rfl
  | b :: l => by
    have h1 : (47 == b) = (b == 47) := by rw [Bool.eq_iff_iff, beq_iff_eq, beq_iff_eq]; exact eq_comm
    have h2 : (0 == b) = (b == 0) := by rw [Bool.eq_iff_iff, beq_iff_eq, beq_iff_eq]; exact eq_comm
    rw [List.any_cons, any_isBad l, isBad, List.contains_cons, List.contains_cons, h1, h2]
    cases (b == 47) <;> cases (b == 0) <;> cases l.contains 47 <;> simp
theorem nameOk_eq (s : Str) : nameOk s = (!s.isEmpty && decide (s.length ≤ 59) && s != [46] && s != [46, 46] && !s.any isBad) := by
  rw [any_isBad, nameOk, Bool.not_or]
  simp only [Bool.and_assoc]

attribute [local go_sem] bs_toList bs_size

set_option maxHeartbeats 400000 in
theorem isName_any (s : Str) (w : World) :
    Calls Tryz.prog 38 #[.string (bs s)] w fun e w' => e = .returned (.bool (nameOk s)) ∧ BelowD w.heap.size w w' := by
  go_enter Tryz.func38, Tryz.ntmps38
  go_wp2_with (go_at_call 77; refine (containsAny_two _ _ (by simp only [bs_size]; omega)).mono ?_; rintro e w' ⟨rfl, hb⟩)
  · have h : s = [] := by assumption
    go_ret
    exact ⟨ret_bool (by rw [h]; rfl), BelowD.refl _ _⟩
  · have h : s = [46] := by assumption
    go_ret
    exact ⟨ret_bool (by rw [h]; rfl), BelowD.refl _ _⟩
  · have h : s = [46, 46] := by assumption
    go_ret
    exact ⟨ret_bool (by rw [h]; rfl), BelowD.refl _ _⟩
  · have h1 : (s.length : Int) ≤ 59 := by assumption
    go_ret
    refine ⟨ret_bool ?_, hb⟩
    rw [nameOk_eq, decide_eq_true (show s.length ≤ 59 by omega)]
    simp [bs, bne]
  · have h1 : 59 < (s.length : Int) := by assumption
    go_ret
    refine ⟨ret_bool ?_, BelowD.refl _ _⟩
    rw [nameOk_eq, decide_eq_false (show ¬ s.length ≤ 59 by omega)]
    simp
end Go.Proofs.YtjolgckkoidhgaaGreatDoor
