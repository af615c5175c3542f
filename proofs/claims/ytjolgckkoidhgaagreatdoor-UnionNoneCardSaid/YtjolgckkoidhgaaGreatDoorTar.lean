/-
  The walk over tarfmt.Right, at an entry with a plain name.
-/
import Derived.Test.YtjolgckkoidhgaaGreatDoorRight
import Derived.Lib.QuietBelow
namespace Go.Proofs.YtjolgckkoidhgaaGreatDoor
open Go.RowKit Go.Shelf Pa
attribute [local go_sem] bs_toList bs_size

theorem indexByte_neg : ∀ (s : Str) (c : UInt8), decide (Lib.indexByte s c < 0) = !s.contains c
  | [], c => rfl
  | b :: s, c => by
    have ih := indexByte_neg s c
    rw [Lib.indexByte, List.contains_cons]
    by_cases h : b = c
    · subst h; simp
    · have hb : (b == c) = false := by simpa using h
      have hc : (c == b) = false := by simpa using fun e => h e.symm
      rw [hb, hc, Bool.false_or, ← ih]
      simp only [Bool.false_eq_true, if_false]
      have hge : -1 ≤ Lib.indexByte s c := by
        clear ih
        induction s with
        | nil => simp [Lib.indexByte]
        | cons d s ih2 => rw [Lib.indexByte]; split <;> (try split) <;> omega
      by_cases hm : Lib.indexByte s c = -1
      · simp [hm]
      · have : (Lib.indexByte s c == -1) = false := by simpa using hm
        rw [this]; simp; omega

set_option maxHeartbeats 400000 in
theorem plain_any (s : Str) (m : Nat) (w : World) :
    Calls Tryz.prog 138 #[.string (bs s), .int .i64 m] w fun e w' => e = .returned (.bool (plainT s m)) ∧ w' = w := by
  have hc : ∀ w, Calls Tryz.prog 180 #[.string (bs s), .int .u8 0] w fun e w' => e = .returned (.int .i64 (Lib.indexByte s 0)) ∧ w' = w := fun w => Tryz.strings_IndexByte (bs s) 0 w
  have hn := indexByte_neg s 0
  generalize Lib.indexByte s 0 = r at hc hn
  have HN := Lib.hid hn
  clear hn
  go_enter Tryz.func138, Tryz.ntmps138
  go_wp2_with (go_at_call 180; refine (hc _).mono ?_; rintro e w' ⟨rfl, hw⟩; obtain rfl := hw.symm)
  all_goals
    go_ret
    refine ⟨ret_bool ?_, rfl⟩
    unfold plainT
    first
      | (simp_all; done)
      | (simp_all; omega)
      | (rw [← HN.out]; simp_all; done)
      | (rw [← HN.out]; simp_all; omega)

set_option maxHeartbeats 400000 in
theorem link_any (w : World) :
    Calls Tryz.prog 139 #[] w fun e w' => e = .returned (.agg #[.int .i64 157, .int .i64 100]) ∧ Below w.heap.size w w' := by
  go_enter Tryz.func139, Tryz.ntmps139
  go_wp2
  exact bodyPost_ret (v := .agg #[.int .i64 157, .int .i64 100]) (by simp [results, Tryz.results139, go_sem]) rfl ⟨rfl, (Below.refl _ _).alloc (Nat.le_refl _) _⟩

set_option maxHeartbeats 400000 in
theorem name_any (w : World) :
    Calls Tryz.prog 178 #[] w fun e w' => e = .returned (.agg #[.int .i64 0, .int .i64 100]) ∧ Below w.heap.size w w' := by
  go_enter Tryz.func178, Tryz.ntmps178
  go_wp2
  exact bodyPost_ret (v := .agg #[.int .i64 0, .int .i64 100]) (by simp [results, Tryz.results178, go_sem]) rfl ⟨rfl, (Below.refl _ _).alloc (Nat.le_refl _) _⟩

set_option maxHeartbeats 400000 in
theorem parted_any (s : Str) (h : s.length ≤ 100) (w : World) :
    Calls Tryz.prog 137 #[.string (bs s)] w fun e w' => e = .returned (.tuple #[.string ⟨#[]⟩, .string (bs s), .bool true]) ∧ Below w.heap.size w w' := by
  have h2 : (s.length : Int) ≤ 100 := by omega
  have hf : ∀ w, (Instr.field 210 (.agg #[.int .i64 0, .int .i64 100]) 1).run Tryz.prog w = .ok (.int .i64 100) w := fun w => by kernel_rfl
  go_enter Tryz.func137, Tryz.ntmps137
  go_wp2_with (go_at_call 178; refine (name_any _).mono ?_; rintro e w' ⟨rfl, hb⟩)
  go_ret3
  exact ⟨rfl, by assumption⟩

/-- The plain name. -/
def nm : Str := [110, 97, 109, 101]
theorem parted_name (w : World) :
    Calls Tryz.prog 137 #[.string (bs nm)] w fun e w' => e = .returned (.tuple #[.string ⟨#[]⟩, .string (bs nm), .bool true]) ∧ Below w.heap.size w w' :=
  parted_any nm (by decide) w

theorem plain_name (w : World) :
    Calls Tryz.prog 138 #[.string (bs nm), .int .i64 255] w fun e w' => e = .returned (.bool true) ∧ w' = w := by
  have h := plain_any nm 255 w
  have h2 : plainT nm 255 = true := by decide
  rw [h2] at h
  exact h

/-- What tarfmt.Right says of an entry with a plain name: 0, just if it is right. -/
def TarPost (kind mode : Int) (link data : Str) (w : World) (e : Ending) (w' : World) : Prop :=
  ∃ m : Int, e = .returned (.int .i64 m) ∧ Below w.heap.size w w' ∧ (m == 0) = tarOk kind mode link data

set_option maxHeartbeats 1000000 in
theorem tarRight_any (kind mode : Int) (link data : Str) (A : Option Addr) (c : Nat) (w : World) :
    Calls Tryz.prog 106 #[.agg #[.string (bs nm), .int .i64 kind, .int .i64 mode, .string (bs link), .slice A data.length c]] w (TarPost kind mode link data w) := by
  have hB1 : Below w.heap.size w (w.alloc (.cells #[.string (bs nm), .int .i64 kind, .int .i64 mode, .string (bs link), .slice A data.length c] 50)) := (Below.refl _ _).alloc (Nat.le_refl _) _
  go_enter Tryz.func106, Tryz.ntmps106
  go_wp2_with fail
  obtain ⟨W1, hW1⟩ : ∃ W1, W1 = w.alloc (.cells #[.string (bs nm), .int .i64 kind, .int .i64 mode, .string (bs link), .slice A data.length c] 50) := ⟨_, rfl⟩
  have hc : ∀ i, W1.cell? ⟨w.heap.size, i, none⟩ = #[.string (bs nm), .int .i64 kind, .int .i64 mode, .string (bs link), .slice A data.length c][i]? := fun i => by
    rw [hW1, World.cell?_alloc_at _ _ _ _ rfl]
  have hz : w.heap.size < W1.heap.size := by rw [hW1]; simp
  rw [← hW1] at hB1 ⊢
  clear hW1
  refine (parted_name W1).mono ?_
  rintro e w2 ⟨rfl, hb⟩
  have hk : ∀ i, w2.cell? ⟨w.heap.size, i, none⟩ = #[.string (bs nm), .int .i64 kind, .int .i64 mode, .string (bs link), .slice A data.length c][i]? := fun i => (hb.cell (p := ⟨w.heap.size, i, none⟩) hz).trans (hc i)
  have hb2 := hB1.trans (hb.mono (Nat.le_of_lt hz))
  have hz2 : w.heap.size < w2.heap.size := Nat.lt_of_lt_of_le hz hb.size
  have k0 : w2.cell? ⟨w.heap.size, 0, none⟩ = some (.string (bs nm)) := hk 0
  have k1 : w2.cell? ⟨w.heap.size, 1, none⟩ = some (.int .i64 kind) := hk 1
  have k2 : w2.cell? ⟨w.heap.size, 2, none⟩ = some (.int .i64 mode) := hk 2
  have k3 : w2.cell? ⟨w.heap.size, 3, none⟩ = some (.string (bs link)) := hk 3
  have k4 : w2.cell? ⟨w.heap.size, 4, none⟩ = some (.slice A data.length c) := hk 4
  clear hk hc hb hB1 hz
  have out : ∀ m : Int, ∀ w', Below w.heap.size w w' → (m == 0) = tarOk kind mode link data → TarPost kind mode link data w (.returned (.int .i64 m)) w' := fun m w' h1 h2 => ⟨m, rfl, h1, h2⟩
  have OUT := Lib.hid out
  clear out
  by_cases hm0 : mode < 0
  · have HF := Lib.hid (show tarOk kind mode link data = false by unfold tarOk; rw [decide_eq_false (show ¬ 0 ≤ mode by omega)]; simp)
    go_wp2
    all_goals
      go_ret
      first
        | exact OUT.out 2 _ hb2 (by rw [HF.out]; rfl)
        | (obtain rfl : kind = 3 := by assumption
           exact OUT.out 2 _ hb2 (by rw [HF.out]; rfl))
  have hm0' : 0 ≤ mode := by omega
  clear hm0
  by_cases hm1 : 4095 < mode
  · have HF := Lib.hid (show tarOk kind mode link data = false by unfold tarOk; rw [decide_eq_false (show ¬ mode ≤ 4095 by omega)]; simp)
    go_wp2
    all_goals
      go_ret
      first
        | exact OUT.out 2 _ hb2 (by rw [HF.out]; rfl)
        | (obtain rfl : kind = 3 := by assumption
           exact OUT.out 2 _ hb2 (by rw [HF.out]; rfl))
  have hm1' : mode ≤ 4095 := by omega
  clear hm1
  have hmd : decide (mode < 0) = false := decide_eq_false (by omega)
  have hmd1 : decide (4095 < mode) = false := decide_eq_false (by omega)
  by_cases hk0 : kind < 1
  · have HF := Lib.hid (show tarOk kind mode link data = false by unfold tarOk; rw [decide_eq_false (show ¬ 1 ≤ kind by omega)]; simp)
    have h3 : (kind == 3) = false := by simp; omega
    have h4 : (kind == 4) = false := by simp; omega
    go_wp2
    go_ret
    exact OUT.out 2 _ hb2 (by rw [HF.out]; rfl)
  by_cases hk4 : 4 < kind
  · have HF := Lib.hid (show tarOk kind mode link data = false by unfold tarOk; rw [decide_eq_false (show ¬ kind ≤ 4 by omega)]; simp)
    have h3 : (kind == 3) = false := by simp; omega
    have h4 : (kind == 4) = false := by simp; omega
    go_wp2
    go_ret
    exact OUT.out 2 _ hb2 (by rw [HF.out]; rfl)
  have hkk : kind = 1 ∨ kind = 2 ∨ kind = 3 ∨ kind = 4 := by omega
  clear hk0 hk4
  have hT := Lib.hid (show tarOk kind mode link data = (decide (1 ≤ kind) && decide (kind ≤ 4) && decide (0 ≤ mode) && decide (mode ≤ 4095) &&
    (if kind = 3 ∨ kind = 4 then plainT link 100 else link.isEmpty) && (decide (kind = 1) || data.isEmpty) && decide (data.length ≤ 70656)) from rfl)
  have hb2d : Below w.heap.size w w2.drew := hb2.drew
  rcases hkk with rfl | rfl | rfl | rfl
  · by_cases hl : link = []
    · subst hl
      go_wp2_with (go_at_call 138; refine (plain_name _).mono ?_; rintro e w' ⟨rfl, hw⟩; obtain rfl := hw.symm)
      go_quiet (fail)
      all_goals go_wp2
      · have h : (70656 : Int) < data.length := by assumption
        go_ret
        exact OUT.out 6 _ (below_drewN hb2 _) (by rw [hT.out, decide_eq_false (show ¬ data.length ≤ 70656 by omega)]; simp)
      · have h : (data.length : Int) ≤ 70656 := by assumption
        go_ret
        exact OUT.out 0 _ (below_drewN hb2 _) (by rw [hT.out, decide_eq_true (show data.length ≤ 70656 by omega)]; simp [hm0', hm1'])
    · have hl2 : link.isEmpty = false := by simpa using hl
      go_wp2_with (go_at_call 138; refine (plain_name _).mono ?_; rintro e w' ⟨rfl, hw⟩; obtain rfl := hw.symm)
      go_quiet (fail)
      all_goals go_wp2
      all_goals
        go_ret
        exact OUT.out 3 _ (below_drewN hb2 _) (by rw [hT.out, hl2]; simp)
  · by_cases hl : link = []
    · subst hl
      go_wp2_with (go_at_call 138; refine (plain_name _).mono ?_; rintro e w' ⟨rfl, hw⟩; obtain rfl := hw.symm)
      go_quiet (fail)
      all_goals go_wp2
      · have h : 0 < data.length := by assumption
        have he : data.isEmpty = false := by cases data <;> simp_all
        go_ret
        exact OUT.out 3 _ (below_drewN hb2 _) (by rw [hT.out, he]; simp)
      · have h : ¬ 0 < data.length := by assumption
        have he : data = [] := List.length_eq_zero_iff.1 (by omega)
        go_ret
        exact OUT.out 0 _ (below_drewN hb2 _) (by rw [hT.out, he]; simp [hm0', hm1'])
    · have hl2 : link.isEmpty = false := by simpa using hl
      go_wp2_with (go_at_call 138; refine (plain_name _).mono ?_; rintro e w' ⟨rfl, hw⟩; obtain rfl := hw.symm)
      go_quiet (fail)
      all_goals go_wp2
      all_goals
        go_ret
        exact OUT.out 3 _ (below_drewN hb2 _) (by rw [hT.out, hl2]; simp)
  · by_cases hl : link = []
    · subst hl
      go_wp2_with (go_at_call 138; refine (plain_name _).mono ?_; rintro e w' ⟨rfl, hw⟩; obtain rfl := hw.symm)
      go_quiet (fail)
      all_goals go_wp2
      all_goals
        go_ret
        exact OUT.out 3 _ (below_drewN hb2 _) (by rw [hT.out]; simp [plainT])
    · have hl2 : link.isEmpty = false := by simpa using hl
      have hf : ∀ w, (Instr.field 210 (.agg #[.int .i64 157, .int .i64 100]) 1).run Tryz.prog w = .ok (.int .i64 100) w := fun w => by kernel_rfl
      have hpl := plain_any link 100
      have k1r := cell_regrown k1
      have k3r := cell_regrown k3
      have k4r := cell_regrown k4
      have out2 := fun d os => hb2.trans ((below_regrown w2 d os).mono (Nat.le_of_lt hz2))
      have OUT2 := Lib.hid out2
      clear out2
      cases hp : plainT link 100
      · rw [hp] at hpl
        go_wp2_with (go_at_call 138; refine (plain_name _).mono ?_; rintro e w' ⟨rfl, hw⟩; obtain rfl := hw.symm)
        have cl : ∀ d os, Calls Tryz.prog 139 #[] (Sort.grow (redrawn w2 d) os) fun e w'' => e = .returned (.agg #[.int .i64 157, .int .i64 100]) ∧ ∃ p : Regrown, w'' = Sort.grow (redrawn w2 p.d) p.os := fun d os => Calls.regrown_of (link_any _)
        have cp : ∀ d os, Calls Tryz.prog 138 #[.string (bs link), .int .i64 100] (Sort.grow (redrawn w2 d) os) fun e w'' => e = .returned (.bool false) ∧ ∃ p : Regrown, w'' = Sort.grow (redrawn w2 p.d) p.os := fun d os => Calls.regrown_of ((hpl _).mono fun e w' ⟨a, b⟩ => ⟨a, b ▸ Below.refl _ _⟩)
        have hf' := fun d os => hf (Sort.grow (redrawn w2 d) os)
        clear hpl
        refine wp_region_quiet_below (by kernel_rfl) (by kernel_rfl) ?_
        repeat (go_big_quiet_step (first | (go_at_call 139; exact cl _ _) | (go_at_call 138; exact cp _ _)))
        refine wpQuiet_nil ?_
        intro _ hw'
        obtain ⟨⟨dq, osq⟩, hw''⟩ := hw'
        subst hw'' 
        go_wp2
        go_ret
        exact OUT.out 3 _ (OUT2.out _ _) (by rw [hT.out, hp]; simp)
      · rw [hp] at hpl
        by_cases hdt : 0 < data.length
        · have he : data.isEmpty = false := by cases data <;> simp_all
          have hdd : decide ((0 : Int) < data.length) = true := by simp; omega
          go_wp2_with (go_at_call 138; refine (plain_name _).mono ?_; rintro e w' ⟨rfl, hw⟩; obtain rfl := hw.symm)
          have cl : ∀ d os, Calls Tryz.prog 139 #[] (Sort.grow (redrawn w2 d) os) fun e w'' => e = .returned (.agg #[.int .i64 157, .int .i64 100]) ∧ ∃ p : Regrown, w'' = Sort.grow (redrawn w2 p.d) p.os := fun d os => Calls.regrown_of (link_any _)
          have cp : ∀ d os, Calls Tryz.prog 138 #[.string (bs link), .int .i64 100] (Sort.grow (redrawn w2 d) os) fun e w'' => e = .returned (.bool true) ∧ ∃ p : Regrown, w'' = Sort.grow (redrawn w2 p.d) p.os := fun d os => Calls.regrown_of ((hpl _).mono fun e w' ⟨a, b⟩ => ⟨a, b ▸ Below.refl _ _⟩)
          have hf' := fun d os => hf (Sort.grow (redrawn w2 d) os)
          clear hpl
          refine wp_region_quiet_below (by kernel_rfl) (by kernel_rfl) ?_
          repeat (go_big_quiet_step (first | (go_at_call 139; exact cl _ _) | (go_at_call 138; exact cp _ _)))
          refine wpQuiet_nil ?_
          intro _ hw'
          obtain ⟨⟨dq, osq⟩, hw''⟩ := hw'
          subst hw'' 
          go_wp2
          go_ret
          exact OUT.out 3 _ (OUT2.out _ _) (by rw [hT.out, he]; simp)
        · have he : data = [] := List.length_eq_zero_iff.1 (by omega)
          have hdd : decide ((0 : Int) < data.length) = false := by simp; omega
          have HE := Lib.hid he
          clear he
          go_wp2_with (go_at_call 138; refine (plain_name _).mono ?_; rintro e w' ⟨rfl, hw⟩; obtain rfl := hw.symm)
          have cl : ∀ d os, Calls Tryz.prog 139 #[] (Sort.grow (redrawn w2 d) os) fun e w'' => e = .returned (.agg #[.int .i64 157, .int .i64 100]) ∧ ∃ p : Regrown, w'' = Sort.grow (redrawn w2 p.d) p.os := fun d os => Calls.regrown_of (link_any _)
          have cp : ∀ d os, Calls Tryz.prog 138 #[.string (bs link), .int .i64 100] (Sort.grow (redrawn w2 d) os) fun e w'' => e = .returned (.bool true) ∧ ∃ p : Regrown, w'' = Sort.grow (redrawn w2 p.d) p.os := fun d os => Calls.regrown_of ((hpl _).mono fun e w' ⟨a, b⟩ => ⟨a, b ▸ Below.refl _ _⟩)
          have hf' := fun d os => hf (Sort.grow (redrawn w2 d) os)
          clear hpl
          refine wp_region_quiet_below (by kernel_rfl) (by kernel_rfl) ?_
          repeat (go_big_quiet_step (first | (go_at_call 139; exact cl _ _) | (go_at_call 138; exact cp _ _)))
          refine wpQuiet_nil ?_
          intro _ hw'
          obtain ⟨⟨dq, osq⟩, hw''⟩ := hw'
          subst hw'' 
          go_wp2
          all_goals
            go_ret
            exact OUT.out 0 _ (OUT2.out _ _) (by rw [hT.out, HE.out, hp]; simp [hm0', hm1'])
  · by_cases hl : link = []
    · subst hl
      go_wp2_with (go_at_call 138; refine (plain_name _).mono ?_; rintro e w' ⟨rfl, hw⟩; obtain rfl := hw.symm)
      go_quiet (fail)
      all_goals go_wp2
      all_goals
        go_ret
        exact OUT.out 3 _ (below_drewN hb2 _) (by rw [hT.out]; simp [plainT])
    · have hl2 : link.isEmpty = false := by simpa using hl
      have hf : ∀ w, (Instr.field 210 (.agg #[.int .i64 157, .int .i64 100]) 1).run Tryz.prog w = .ok (.int .i64 100) w := fun w => by kernel_rfl
      have hpl := plain_any link 100
      have k1r := cell_regrown k1
      have k3r := cell_regrown k3
      have k4r := cell_regrown k4
      have out2 := fun d os => hb2.trans ((below_regrown w2 d os).mono (Nat.le_of_lt hz2))
      have OUT2 := Lib.hid out2
      clear out2
      cases hp : plainT link 100
      · rw [hp] at hpl
        go_wp2_with (go_at_call 138; refine (plain_name _).mono ?_; rintro e w' ⟨rfl, hw⟩; obtain rfl := hw.symm)
        have cl : ∀ d os, Calls Tryz.prog 139 #[] (Sort.grow (redrawn w2 d) os) fun e w'' => e = .returned (.agg #[.int .i64 157, .int .i64 100]) ∧ ∃ p : Regrown, w'' = Sort.grow (redrawn w2 p.d) p.os := fun d os => Calls.regrown_of (link_any _)
        have cp : ∀ d os, Calls Tryz.prog 138 #[.string (bs link), .int .i64 100] (Sort.grow (redrawn w2 d) os) fun e w'' => e = .returned (.bool false) ∧ ∃ p : Regrown, w'' = Sort.grow (redrawn w2 p.d) p.os := fun d os => Calls.regrown_of ((hpl _).mono fun e w' ⟨a, b⟩ => ⟨a, b ▸ Below.refl _ _⟩)
        have hf' := fun d os => hf (Sort.grow (redrawn w2 d) os)
        clear hpl
        refine wp_region_quiet_below (by kernel_rfl) (by kernel_rfl) ?_
        repeat (go_big_quiet_step (first | (go_at_call 139; exact cl _ _) | (go_at_call 138; exact cp _ _)))
        refine wpQuiet_nil ?_
        intro _ hw'
        obtain ⟨⟨dq, osq⟩, hw''⟩ := hw'
        subst hw'' 
        go_wp2
        go_ret
        exact OUT.out 3 _ (OUT2.out _ _) (by rw [hT.out, hp]; simp)
      · rw [hp] at hpl
        by_cases hdt : 0 < data.length
        · have he : data.isEmpty = false := by cases data <;> simp_all
          have hdd : decide ((0 : Int) < data.length) = true := by simp; omega
          go_wp2_with (go_at_call 138; refine (plain_name _).mono ?_; rintro e w' ⟨rfl, hw⟩; obtain rfl := hw.symm)
          have cl : ∀ d os, Calls Tryz.prog 139 #[] (Sort.grow (redrawn w2 d) os) fun e w'' => e = .returned (.agg #[.int .i64 157, .int .i64 100]) ∧ ∃ p : Regrown, w'' = Sort.grow (redrawn w2 p.d) p.os := fun d os => Calls.regrown_of (link_any _)
          have cp : ∀ d os, Calls Tryz.prog 138 #[.string (bs link), .int .i64 100] (Sort.grow (redrawn w2 d) os) fun e w'' => e = .returned (.bool true) ∧ ∃ p : Regrown, w'' = Sort.grow (redrawn w2 p.d) p.os := fun d os => Calls.regrown_of ((hpl _).mono fun e w' ⟨a, b⟩ => ⟨a, b ▸ Below.refl _ _⟩)
          have hf' := fun d os => hf (Sort.grow (redrawn w2 d) os)
          clear hpl
          refine wp_region_quiet_below (by kernel_rfl) (by kernel_rfl) ?_
          repeat (go_big_quiet_step (first | (go_at_call 139; exact cl _ _) | (go_at_call 138; exact cp _ _)))
          refine wpQuiet_nil ?_
          intro _ hw'
          obtain ⟨⟨dq, osq⟩, hw''⟩ := hw'
          subst hw'' 
          go_wp2
          go_ret
          exact OUT.out 3 _ (OUT2.out _ _) (by rw [hT.out, he]; simp)
        · have he : data = [] := List.length_eq_zero_iff.1 (by omega)
          have hdd : decide ((0 : Int) < data.length) = false := by simp; omega
          have HE := Lib.hid he
          clear he
          go_wp2_with (go_at_call 138; refine (plain_name _).mono ?_; rintro e w' ⟨rfl, hw⟩; obtain rfl := hw.symm)
          have cl : ∀ d os, Calls Tryz.prog 139 #[] (Sort.grow (redrawn w2 d) os) fun e w'' => e = .returned (.agg #[.int .i64 157, .int .i64 100]) ∧ ∃ p : Regrown, w'' = Sort.grow (redrawn w2 p.d) p.os := fun d os => Calls.regrown_of (link_any _)
          have cp : ∀ d os, Calls Tryz.prog 138 #[.string (bs link), .int .i64 100] (Sort.grow (redrawn w2 d) os) fun e w'' => e = .returned (.bool true) ∧ ∃ p : Regrown, w'' = Sort.grow (redrawn w2 p.d) p.os := fun d os => Calls.regrown_of ((hpl _).mono fun e w' ⟨a, b⟩ => ⟨a, b ▸ Below.refl _ _⟩)
          have hf' := fun d os => hf (Sort.grow (redrawn w2 d) os)
          clear hpl
          refine wp_region_quiet_below (by kernel_rfl) (by kernel_rfl) ?_
          repeat (go_big_quiet_step (first | (go_at_call 139; exact cl _ _) | (go_at_call 138; exact cp _ _)))
          refine wpQuiet_nil ?_
          intro _ hw'
          obtain ⟨⟨dq, osq⟩, hw''⟩ := hw'
          subst hw'' 
          go_wp2
          all_goals
            go_ret
            exact OUT.out 0 _ (OUT2.out _ _) (by rw [hT.out, HE.out, hp]; simp [hm0', hm1'])

end Go.Proofs.YtjolgckkoidhgaaGreatDoor
