/-
  Plain facts on trees of layers: what union.Apply and union.Right compute, on lists of nodes. No program in sight.
-/
import Derived.Test.YtjolgckkoidhgaaGreatDoorOrder
namespace Go.Proofs.YtjolgckkoidhgaaGreatDoor.Pa

/-- The path ahead. -/
def parentP (p : Str) : Str := match (p.reverse.dropWhile (fun c => c != 47)) with
  | [] => [47]
  | [_] => [47]
  | _ :: r => r.reverse

theorem parentP_app (A B : Str) (hB : 47 ∉ B) : parentP (A ++ 47 :: B) = if A = [] then [47] else A := by
  unfold parentP
  have h : (A ++ 47 :: B).reverse.dropWhile (fun c => c != 47) = 47 :: A.reverse := by
    rw [List.reverse_append, List.reverse_cons, List.append_assoc, List.dropWhile_append_of_pos]
    · simp
    · intro x hx
      have : x ∈ B := by simpa using hx
      simp only [bne_iff_ne, ne_eq]
      rintro rfl
      exact hB this
  rw [h]
  cases hA : A.reverse with
  | nil => simp [List.reverse_eq_nil_iff.1 hA]
  | cons c r =>
    have hne : A ≠ [] := by rintro rfl; simp at hA
    rw [if_neg hne]
    show (c :: r).reverse = A
    rw [← hA, List.reverse_reverse]

theorem jn_app : ∀ (l r : List Str), l ≠ [] → r ≠ [] → jn (l ++ r) = jn l ++ 47 :: jn r
  | [], _, h, _ => absurd rfl h
  | [x], [], _, h => absurd rfl h
  | [x], y :: r, _, _ => rfl
  | x :: y :: l, r, _, h => by
    have ih := jn_app (y :: l) r (by simp) h
    simp only [List.cons_append] at ih ⊢
    rw [jn, ih, jn]
    simp

/-- Of a path with names l ++ [x] the parent is the path of l. -/
theorem parentP_names {p : Str} {l : List Str} {x : Str} (h : splitP p = some (l ++ [x])) : parentP p = joinP l := by
  obtain ⟨h1, _, h3, _⟩ := splitP_some h
  have hx := nameOk_stroke (h3 x (by simp))
  cases l with
  | nil =>
    have : p = [] ++ 47 :: x := by rw [← h1]; rfl
    rw [this, parentP_app [] x hx]; rfl
  | cons y l =>
    have : p = joinP (y :: l) ++ 47 :: x := by
      rw [← h1, joinP, jn_app _ _ (by simp) (by simp)]; rfl
    rw [this, parentP_app _ _ hx, if_neg (by simp [joinP])]

theorem splitP_root : splitP [47] = some [] := by decide

/-- A path's shorter ones are paths. -/
theorem splitP_take {p : Str} {l r : List Str} (h : splitP p = some (l ++ r)) : splitP (joinP l) = some l := by
  obtain ⟨h1, h2, h3, h4⟩ := splitP_some h
  refine splitP_joinP (by simp at h2; omega) (fun x hx => h3 x (by simp [hx])) ?_
  have hl : (joinP l).length ≤ (joinP (l ++ r)).length := by
    cases l with
    | nil => simp [joinP, jn]
    | cons x l =>
      cases r with
      | nil => simp
      | cons y r => simp only [joinP, jn_app _ _ (List.cons_ne_nil x l) (List.cons_ne_nil y r), List.length_cons, List.length_append]; omega
  rw [h1] at hl
  omega

/-- Does a path lie below another one? (As strings.HasPrefix of the one with a stroke behind.) -/
def isBelow (top p : Str) : Bool := (if top = [47] then top else top ++ [47]).isPrefixOf p

theorem isBelow_iff {top p : Str} {lt lp : List Str} (ht : splitP top = some lt) (hp : splitP p = some lp) :
    isBelow top p = true ↔ lt = [] ∨ ∃ r, r ≠ [] ∧ lp = lt ++ r := by
  obtain ⟨t1, _, t3, _⟩ := splitP_some ht
  obtain ⟨p1, _, p3, _⟩ := splitP_some hp
  unfold isBelow
  cases lt with
  | nil =>
    have : top = [47] := by rw [← t1]; rfl
    rw [if_pos this, this, ← p1]
    simp [joinP, List.isPrefixOf]
  | cons x l =>
    have hne : top ≠ [47] := by
      rintro e
      rw [e, splitP_root] at ht
      cases ht
    rw [if_neg hne, List.isPrefixOf_iff_prefix]
    constructor
    · rintro ⟨s, hs⟩
      right
      rw [← t1, ← p1] at hs
      have hs : jn (x :: l) ++ 47 :: s = jn lp := by simpa [joinP] using hs
      have hlp : lp ≠ [] := by rintro rfl; simp [jn] at hs
      have e1 : spl (jn lp) = lp := spl_jn lp hlp (fun z hz => nameOk_stroke (p3 z hz))
      have e2 : spl (jn (x :: l) ++ 47 :: s) = (x :: l) ++ spl s := by
        have e3 : jn (x :: l) ++ 47 :: s = jn ((x :: l) ++ spl s) := by
          rw [jn_app _ _ (by simp) (spl_ne s), jn_spl]
        have hmem : ∀ z ∈ (x :: l) ++ spl s, 47 ∉ z := by
          intro z hz
          rcases List.mem_append.1 hz with h | h
          · exact nameOk_stroke (t3 z h)
          · exact spl_mem s z h
        rw [e3, spl_jn _ (by simp) hmem]
      refine ⟨spl s, spl_ne s, ?_⟩
      rw [← e1, ← hs, e2]
    · rintro (h | ⟨r, hr, rfl⟩)
      · cases h
      · refine ⟨jn r, ?_⟩
        rw [← t1, ← p1]
        simp only [joinP]
        rw [jn_app _ _ (by simp) hr]
        simp
where
  spl_mem : ∀ (s z : Str), z ∈ spl s → 47 ∉ z
  | [], z, h => by simp [spl] at h; simp [h]
  | c :: s, z, h => by
    unfold spl at h
    split at h
    · rcases List.mem_cons.1 h with rfl | h
      · simp
      · exact spl_mem s z h
    · rename_i hc
      split at h
      · simp at h; subst h; simpa using fun e => hc e.symm
      · rename_i a t e
        rcases List.mem_cons.1 h with rfl | h
        · have := spl_mem s a (by rw [e]; simp)
          simp only [List.mem_cons, not_or]
          exact ⟨fun e => hc e.symm, this⟩
        · exact spl_mem s z (by rw [e]; simp [h])

end Go.Proofs.YtjolgckkoidhgaaGreatDoor.Pa
