/-
  The keys of a tree's map, in order: maps.Keys, slices.Collect, slices.SortedFunc.
-/
import Derived.Test.YtjolgckkoidhgaaGreatDoorTreeOf
import Derived.Test.YtjolgckkoidhgaaGreatDoorShelfK
namespace Go.Proofs.YtjolgckkoidhgaaGreatDoor
open Go.RowKit Go.Shelf Pa
open Go.WideElems (Fit rd rg rd_val)
open Go.WideShapes
attribute [local go_sem] bs_toList bs_size

/-- How a map's value reads: not at all. -/
def noR : Value → Option (DataW Unit × List MemPlace) := fun _ => some (.nil, [])

theorem rg_key {k : TypeId} {P : Program} (hk : P.underlying k = some .string) {x : MapEntry} {p : Str} (hx : x.key = .string (bs p)) (hp : p.length ≤ 255) : rd P k noR x = some (.string p, .nil) := by
  unfold rd
  have : keyOf P k x.key = some (.string p) := by
    have h255 : (255 : Nat) ≤ maxLen := by decide
    have hsz : (bs p).size ≤ maxLen := by rw [bs_size]; omega
    rw [hx]
    have h1 : keyOf P k (.string (bs p)) = mapKey P k (.string (bs p)) := by unfold keyOf; rw [hk]
    have h2 : mapKey P k (.string (bs p)) = if (bs p).size ≤ maxLen then some (.string (bs p).data.toList) else none := by unfold mapKey; rw [hk]
    rw [h1, h2, if_pos hsz, bs_list]
  rw [this]
  rfl

theorem TreeAt.owns {w : World} {b : Nat} {T : List Nd} (h : TreeAt w b T) (hp : ∀ n ∈ T, n.path.length ≤ 255) (hl : T.length ≤ 256) :
    ∃ D0 : DataW Unit, w.ownsMap Tryz.prog 9 noR b 256 D0 ∧ (strKeys D0).Perm (T.map (·.path)) ∧ Maps.size D0 = T.length := by
  obtain ⟨L, ⟨es, c, hb, hs, hpr⟩, e, hd⟩ := h
  have hsz : es.size = T.length := by
    have h1 : es.toList.length = L.length := by simpa using congrArg List.length hpr
    have h2 : L.length = T.length := by simpa using congrArg List.length e
    rw [← Array.length_toList, h1, h2]
  have hkey : ∀ x ∈ es.toList, ∃ p : Str, x.key = .string (bs p) ∧ p.length ≤ 255 := by
    intro x hx
    obtain ⟨j, hj⟩ := List.getElem?_of_mem hx
    obtain ⟨q, hq, hk, _⟩ := raw_at hpr j x hj
    have : q.1 ∈ T.map (·.path) := by rw [← e]; exact List.mem_map.2 ⟨q, List.mem_of_getElem? hq, rfl⟩
    obtain ⟨n, hn, hnp⟩ := List.mem_map.1 this
    exact ⟨q.1, hk, by rw [← hnp]; exact hp n hn⟩
  have hrd : ∀ x ∈ es.toList, ∃ p : Str, x.key = .string (bs p) ∧ rd Tryz.prog 9 noR x = some (.string p, .nil) := fun x hx => by
    obtain ⟨p, h1, h2⟩ := hkey x hx
    exact ⟨p, h1, rg_key Tryz.underlying9 h1 h2⟩
  refine ⟨_, ⟨es, c, hb, ⟨by rw [hsz]; exact Nat.le_trans hl (by decide), hs, fun x hx => ?_⟩, by omega, rfl⟩, ?_, ?_⟩
  · obtain ⟨p, _, h2⟩ := hrd x hx
    exact ⟨_, h2⟩
  · show (((es.toList.map (rg Tryz.prog 9 noR)).foldr DataW.insert []).map fun p => strOf p.1).Perm _
    refine ((sorted_perm _).map _).trans ?_
    rw [List.map_map, ← e]
    have : es.toList.map ((fun p : Lit × DataW Unit => strOf p.1) ∘ rg Tryz.prog 9 noR) = L.map (·.1) := by
      have key : ∀ (l : List MapEntry) (M : List (Str × Value)), (∀ x ∈ l, ∃ p : Str, x.key = .string (bs p) ∧ rd Tryz.prog 9 noR x = some (.string p, .nil)) → l.map (fun e => (e.key, e.val)) = M.map (fun p => (Value.string (bs p.1), p.2)) → l.map ((fun p : Lit × DataW Unit => strOf p.1) ∘ rg Tryz.prog 9 noR) = M.map (·.1) := by
        intro l
        induction l with
        | nil => intro M _ hM; cases M with
          | nil => rfl
          | cons _ _ => cases hM
        | cons x l ih => intro M hx hM; cases M with
          | nil => cases hM
          | cons q M =>
            simp only [List.map_cons, List.cons.injEq, Prod.mk.injEq] at hM ⊢
            obtain ⟨⟨h1, _⟩, h3⟩ := hM
            refine ⟨?_, ih M (fun x hm => hx x (by simp [hm])) h3⟩
            obtain ⟨p, hp1, hp2⟩ := hx x (by simp)
            rw [hp1] at h1
            have hpq : p = q.1 := bs_inj (by injection h1)
            simp only [Function.comp, rg, hp2, Option.getD_some, strOf, hpq]
      exact key _ _ hrd hpr
    rw [this]
  · show ((es.toList.map (rg Tryz.prog 9 noR)).foldr DataW.insert []).length = _
    rw [(sorted_perm _).length_eq, List.length_map, Array.length_toList, hsz]

theorem keys_any (b : Nat) (w : World) : Calls Tryz.prog 110 #[.map (some b)] w fun e w' =>
    e = .returned (.func (.func 145) #[] #[.pointer (some ⟨w.heap.size, 0, none⟩)]) ∧ w' = w.alloc (.cells #[.map (some b)] 68) :=
  (callsIn_wide (n := 6)).1 (AnyZ.keys_in Tryz.keysA Fence.wide 6 trivial rfl (some b) w)

theorem collect_any (T : List Nd) (b B : Nat) (w : World) (h : TreeAt w b T) (hp : ∀ n ∈ T, n.path.length ≤ 255) (hl : T.length ≤ 256) (hB : B < w.heap.size) (hm : w.cell? ⟨B, 0, none⟩ = some (.map (some b))) :
    Calls Tryz.prog 143 #[.func (.func 145) #[] #[.pointer (some ⟨B, 0, none⟩)]] w fun e w' =>
      ∃ (v : Value) (ss : List Str), e = .returned v ∧ ss.Perm (T.map (·.path)) ∧ w'.ownsRow w.heap.size 9 1 v ss.length (ss.map fun s => .string (bs s)) ∧ (v = .slice none 0 0 ↔ ss = []) ∧ Below w.heap.size w w' := by
  obtain ⟨D0, hown, hperm, hsz⟩ := h.owns hp hl
  have hseq : SeqGives Fence.wide 4 Tryz.prog 145 #[.pointer (some ⟨B, 0, none⟩)] encStr (fun ss => ss.Perm (strKeys D0)) (Maps.size D0) w :=
    AnyZ.keys_gives (ρ := Tryz.keysA_ren) { Tryz.keysA with } Fence.wide _ trivial rfl (by omega) B b 256 D0 w hB hm hown
  have hc := AnyZ.collect_in Tryz.collectA Fence.wide 6 trivial trivial rfl (by omega) 145 #[.pointer (some ⟨B, 0, none⟩)] trivial (enters_of Tryz.func145 (by kernel_rfl) rfl) _ (Maps.size D0) (by rw [hsz]; exact Nat.le_trans hl (by decide)) (by rw [hsz]; omega) w hseq
  refine ((callsIn_wide (n := 6)).1 hc).mono ?_
  rintro e w' ⟨v, ss, h1, h2, h3, h4, h5⟩
  exact ⟨v, ss, h1, h2.trans hperm, h3, h4, h5⟩

end Go.Proofs.YtjolgckkoidhgaaGreatDoor
