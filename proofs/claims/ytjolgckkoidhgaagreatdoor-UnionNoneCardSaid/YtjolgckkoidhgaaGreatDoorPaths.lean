/-
  Plain facts on paths as lists of bytes: what dir.Split, dir.Join and dir.IsName compute, and that splitting and joining undo each other. No program in sight.
-/
import Derived.Lib.SplitLaws
import Derived.Lib.Join
import GoSem.Op.String
namespace Go.Proofs.YtjolgckkoidhgaaGreatDoor.Pa
abbrev Str := List UInt8

/-- A name: 1 to 59 bytes, neither . nor .., no / and no 0. -/
def nameOk (s : Str) : Bool := !s.isEmpty && decide (s.length ≤ 59) && s != [46] && s != [46, 46] && !s.contains 47 && !s.contains 0

/-- The pieces between strokes. -/
def spl : Str → List Str
  | [] => [[]]
  | c :: s => if c = 47 then [] :: spl s else match spl s with
    | [] => [[c]]
    | h :: t => (c :: h) :: t

theorem spl_ne : ∀ s, spl s ≠ []
  | [] => by simp [spl]
  | c :: s => by
    unfold spl
    split
    · simp
    · split <;> simp

theorem split_eq_spl : ∀ s : Str, Lib.split s [47] = spl s
  | [] => by simp [Lib.split, Lib.splitK, spl, Lib.count_one]
  | c :: s => by
    have ih := split_eq_spl s
    by_cases h : c = 47
    · subst h
      have hc := Lib.count_cons_eq 47 s
      have hix : Lib.index (47 :: s) [47] = 0 := by rw [Lib.index]; simp [List.isPrefixOf]
      unfold Lib.split at ih ⊢
      rw [hc, Nat.add_comm, Lib.splitK, hix, spl]
      simp [ih]
    · have hc := Lib.count_cons_ne c 47 s h
      have hp : ([47] : List UInt8).isPrefixOf (c :: s) = false := by simp [List.isPrefixOf, Ne.symm h]
      have hix : Lib.index (c :: s) [47] = if Lib.index s [47] == -1 then -1 else Lib.index s [47] + 1 := by rw [Lib.index, hp]; simp
      unfold Lib.split at ih ⊢
      rw [hc, spl, if_neg h]
      cases hk : Lib.count s [47] with
      | zero =>
        rw [hk, Lib.splitK] at ih
        rw [Lib.splitK, ← ih]
      | succ k =>
        by_cases hm : Lib.index s [47] = -1
        · have := Lib.count_miss hm
          omega
        · have hge := Lib.index_ge s [47]
          obtain ⟨j, hj⟩ : ∃ j : Nat, Lib.index s [47] = j := ⟨(Lib.index s [47]).toNat, by omega⟩
          rw [hk, Lib.splitK, hj] at ih
          rw [hj] at hix
          have h1 : (((j : Nat) : Int) == -1) = false := by simp <;> omega
          rw [h1] at hix ih
          simp only [Bool.false_eq_true, if_false] at hix ih
          have h2 : (((j : Nat) : Int) + 1 == -1) = false := by simp <;> omega
          rw [Lib.splitK, hix, h2, ← ih]
          have e1 : (((j : Nat) : Int) + 1).toNat = j + 1 := by omega
          simp [e1]

/-- The pieces, put together again. -/
def jn : List Str → Str
  | [] => []
  | [x] => x
  | x :: y :: r => x ++ 47 :: jn (y :: r)

theorem join_eq_jn : ∀ l : List Str, Lib.join l [47] = jn l
  | [] => rfl
  | [x] => by rw [Lib.join_one]; rfl
  | x :: y :: r => by
    rw [Lib.join_cons, jn, ← join_eq_jn (y :: r), Lib.join_cons]
    simp [Lib.joinTail]

theorem jn_cons_cons (c : UInt8) (h : Str) (t : List Str) : jn ((c :: h) :: t) = c :: jn (h :: t) := by
  cases t <;> simp [jn]

theorem jn_spl : ∀ s, jn (spl s) = s
  | [] => rfl
  | c :: s => by
    have ih := jn_spl s
    unfold spl
    split
    · rename_i h
      subst h
      cases hs : spl s with
      | nil => exact absurd hs (spl_ne s)
      | cons h t => rw [hs] at ih; simp [jn, ih]
    · split
      · rename_i hs; exact absurd hs (spl_ne s)
      · rename_i h t hs
        rw [hs] at ih
        rw [jn_cons_cons, ih]

theorem spl_piece : ∀ (x : Str), 47 ∉ x → spl x = [x]
  | [], _ => rfl
  | c :: x, h => by
    have hc : c ≠ 47 := fun e => h (by simp [e])
    have hx : 47 ∉ x := fun e => h (by simp [e])
    rw [spl, if_neg hc, spl_piece x hx]

theorem spl_app : ∀ (x s : Str), 47 ∉ x → spl (x ++ 47 :: s) = x :: spl s
  | [], s, _ => by simp [spl]
  | c :: x, s, h => by
    have hc : c ≠ 47 := fun e => h (by simp [e])
    have hx : 47 ∉ x := fun e => h (by simp [e])
    rw [List.cons_append, spl, if_neg hc, spl_app x s hx]

theorem spl_jn : ∀ l : List Str, l ≠ [] → (∀ x ∈ l, 47 ∉ x) → spl (jn l) = l
  | [], h, _ => absurd rfl h
  | [x], _, h => spl_piece x (h x (by simp))
  | x :: y :: r, _, h => by
    rw [jn, spl_app x _ (h x (by simp)), spl_jn (y :: r) (by simp) (fun z hz => h z (by simp at hz ⊢; right; exact hz))]

theorem nameOk_stroke {s : Str} (h : nameOk s = true) : 47 ∉ s := by
  simp [nameOk] at h
  exact h.1.2
theorem nameOk_ne {s : Str} (h : nameOk s = true) : s ≠ [] := by
  simp [nameOk] at h
  exact h.1.1.1.1.1

/-- What dir.Split answers: the names of a path; none: it is no path. -/
def splitP (p : Str) : Option (List Str) :=
  if p.head? = some 47 ∧ p.length ≤ 255 then
    if p = [47] then some []
    else if (spl p.tail).length ≤ 16 ∧ (spl p.tail).all nameOk then some (spl p.tail) else none
  else none

/-- The path of names. -/
def joinP (l : List Str) : Str := 47 :: jn l

theorem splitP_some {p : Str} {l : List Str} (h : splitP p = some l) : joinP l = p ∧ l.length ≤ 16 ∧ (∀ x ∈ l, nameOk x = true) ∧ p.length ≤ 255 := by
  unfold splitP at h
  split at h
  case isFalse => cases h
  rename_i hh
  obtain ⟨h1, h2⟩ := hh
  split at h
  · rename_i e
    cases h
    subst e
    exact ⟨rfl, by simp, by simp, by simp⟩
  · split at h
    case isFalse => cases h
    rename_i h3
    cases h
    refine ⟨?_, h3.1, by simpa using h3.2, h2⟩
    cases p with
    | nil => simp at h1
    | cons c s =>
      simp at h1
      subst h1
      simp [joinP, jn_spl]

theorem splitP_joinP {l : List Str} (h1 : l.length ≤ 16) (h2 : ∀ x ∈ l, nameOk x = true) (h3 : (joinP l).length ≤ 255) : splitP (joinP l) = some l := by
  unfold splitP
  rw [if_pos ⟨rfl, h3⟩]
  cases l with
  | nil => simp [joinP, jn]
  | cons x r =>
    have hx := nameOk_ne (h2 x (by simp))
    have hne : joinP (x :: r) ≠ [47] := by
      cases x with
      | nil => exact absurd rfl hx
      | cons c x => simp [joinP, jn_cons_cons]
    have hs : spl (joinP (x :: r)).tail = x :: r := spl_jn _ (by simp) (fun z hz => nameOk_stroke (h2 z hz))
    rw [if_neg hne, hs, if_pos ⟨h1, by simpa using h2⟩]

theorem splitP_inj {p q : Str} {l : List Str} (hp : splitP p = some l) (hq : splitP q = some l) : p = q :=
  (splitP_some hp).1.symm.trans (splitP_some hq).1

/-- The names of a path, none of what is no path. -/
def names (p : Str) : List Str := (splitP p).getD []

end Go.Proofs.YtjolgckkoidhgaaGreatDoor.Pa
