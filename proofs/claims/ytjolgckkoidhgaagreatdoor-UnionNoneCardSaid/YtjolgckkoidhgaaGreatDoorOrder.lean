/-
  Plain facts on the order of paths: texts by their bytes, lists of names name by name. No program in sight.
-/
import Derived.Test.YtjolgckkoidhgaaGreatDoorPaths
namespace Go.Proofs.YtjolgckkoidhgaaGreatDoor.Pa

/-- cmp.Compare at texts. -/
def cmpS (a b : Str) : Int := if Op.bytesLess a b then -1 else if a = b then 0 else 1

/-- slices.Compare at lists of texts. -/
def cmpL : List Str → List Str → Int
  | [], [] => 0
  | [], _ :: _ => -1
  | _ :: _, [] => 1
  | a :: x, b :: y => if cmpS a b = 0 then cmpL x y else cmpS a b

theorem bless_irr : ∀ a : Str, Op.bytesLess a a = false
  | [] => rfl
  | c :: a => by simp [Op.bytesLess, bless_irr a]

theorem bless_tri : ∀ a b : Str, Op.bytesLess a b = true ∨ a = b ∨ Op.bytesLess b a = true
  | [], [] => .inr (.inl rfl)
  | [], _ :: _ => .inl rfl
  | _ :: _, [] => .inr (.inr rfl)
  | c :: a, d :: b => by
    have ih := bless_tri a b
    simp only [Op.bytesLess, Bool.or_eq_true, Bool.and_eq_true, decide_eq_true_eq, beq_iff_eq, List.cons.injEq]
    rcases Nat.lt_trichotomy c.toNat d.toNat with h | h | h
    · exact .inl (.inl (UInt8.lt_iff_toNat_lt.2 h))
    · have e : c = d := UInt8.toNat_inj.1 h
      subst e
      rcases ih with h | h | h
      · exact .inl (.inr ⟨rfl, h⟩)
      · exact .inr (.inl ⟨rfl, h⟩)
      · exact .inr (.inr (.inr ⟨rfl, h⟩))
    · exact .inr (.inr (.inl (UInt8.lt_iff_toNat_lt.2 h)))

theorem bless_trans : ∀ a b c : Str, Op.bytesLess a b = true → Op.bytesLess b c = true → Op.bytesLess a c = true
  | _, [], _, h, _ => by cases ‹Str› <;> simp [Op.bytesLess] at h
  | _, _ :: _, [], _, h => by simp [Op.bytesLess] at h
  | [], _ :: _, _ :: _, _, _ => rfl
  | x :: a, y :: b, z :: c, h1, h2 => by
    simp only [Op.bytesLess, Bool.or_eq_true, Bool.and_eq_true, decide_eq_true_eq, beq_iff_eq, UInt8.lt_iff_toNat_lt] at h1 h2 ⊢
    rcases h1 with h1 | ⟨e1, h1⟩ <;> rcases h2 with h2 | ⟨e2, h2⟩
    · exact .inl (by omega)
    · subst e2; exact .inl h1
    · subst e1; exact .inl h2
    · subst e1; subst e2; exact .inr ⟨rfl, bless_trans a b c h1 h2⟩

theorem cmpS_zero {a b : Str} : cmpS a b = 0 ↔ a = b := by
  unfold cmpS
  constructor
  · intro h
    split at h
    · omega
    · split at h
      · assumption
      · omega
  · rintro rfl
    rw [bless_irr]; simp

theorem cmpS_neg {a b : Str} : cmpS a b < 0 ↔ Op.bytesLess a b = true := by
  unfold cmpS
  split
  · simp_all
  · split <;> simp_all

theorem cmpL_self : ∀ a, cmpL a a = 0
  | [] => rfl
  | x :: a => by rw [cmpL, if_pos (cmpS_zero.2 rfl), cmpL_self a]

theorem cmpL_tri : ∀ a b, cmpL a b < 0 ∨ a = b ∨ cmpL b a < 0
  | [], [] => .inr (.inl rfl)
  | [], _ :: _ => .inl (by simp [cmpL])
  | _ :: _, [] => .inr (.inr (by simp [cmpL]))
  | x :: a, y :: b => by
    by_cases e : x = y
    · subst e
      have hz : cmpS x x = 0 := cmpS_zero.2 rfl
      rcases cmpL_tri a b with h | h | h
      · exact .inl (by rw [cmpL, if_pos hz]; exact h)
      · exact .inr (.inl (by rw [h]))
      · exact .inr (.inr (by rw [cmpL, if_pos hz]; exact h))
    · have h1 : ¬ cmpS x y = 0 := fun h => e (cmpS_zero.1 h)
      have h2 : ¬ cmpS y x = 0 := fun h => e (cmpS_zero.1 h).symm
      rcases bless_tri x y with h | h | h
      · exact .inl (by rw [cmpL, if_neg h1]; exact cmpS_neg.2 h)
      · exact absurd h e
      · exact .inr (.inr (by rw [cmpL, if_neg h2]; exact cmpS_neg.2 h))

theorem cmpL_trans : ∀ a b c, cmpL a b < 0 → cmpL b c < 0 → cmpL a c < 0
  | [], [], _, h, _ => by simp [cmpL] at h
  | _ :: _, [], _, h, _ => by simp [cmpL] at h
  | _, _ :: _, [], _, h => by simp [cmpL] at h
  | [], _ :: _, _ :: _, _, _ => by simp [cmpL]
  | x :: a, y :: b, z :: c, h1, h2 => by
    rw [cmpL] at h1 h2 ⊢
    split at h1
    · rename_i e1
      have e1 := cmpS_zero.1 e1
      subst e1
      split at h2
      · rename_i e2
        rw [if_pos e2]
        exact cmpL_trans a b c h1 h2
      · rename_i e2
        rw [if_neg e2]; exact h2
    · rename_i e1
      split at h2
      · rename_i e2
        have e2 := cmpS_zero.1 e2
        subst e2
        rw [if_neg e1]; exact h1
      · have h := bless_trans _ _ _ (cmpS_neg.1 h1) (cmpS_neg.1 h2)
        have hn := cmpS_neg.2 h
        rw [if_neg (by omega)]; exact hn

theorem cmpL_irr (a : List Str) : ¬ cmpL a a < 0 := by rw [cmpL_self]; omega
theorem cmpL_asymm {a b : List Str} (h : cmpL a b < 0) : ¬ cmpL b a < 0 := fun h' => cmpL_irr a (cmpL_trans _ _ _ h h')
theorem cmpL_zero {a b : List Str} (h : cmpL a b = 0) : a = b := by
  induction a generalizing b with
  | nil => cases b with
    | nil => rfl
    | cons y b => simp [cmpL] at h
  | cons x a ih => cases b with
    | nil => simp [cmpL] at h
    | cons y b =>
      rw [cmpL] at h
      split at h
      · rename_i e; rw [cmpS_zero.1 e, ih h]
      · contradiction

theorem cmpL_prefix : ∀ (a r : List Str), r ≠ [] → cmpL a (a ++ r) < 0
  | [], [], h => absurd rfl h
  | [], _ :: _, _ => by simp [cmpL]
  | x :: a, r, h => by rw [List.cons_append, cmpL, if_pos (cmpS_zero.2 rfl)]; exact cmpL_prefix a r h

end Go.Proofs.YtjolgckkoidhgaaGreatDoor.Pa
