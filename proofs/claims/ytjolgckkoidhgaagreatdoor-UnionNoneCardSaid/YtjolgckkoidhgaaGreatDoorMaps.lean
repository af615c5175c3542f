/-
  Maps with texts as keys, as lists of pairs in the order in which they came: what a look-up, a store, a delete and len do. Over any program.
-/
import Derived.Test.YtjolgckkoidhgaaGreatDoorMem
import Derived.MapKept
import Derived.ChangeMaps5
import Derived.Maps.RangeRun
import Derived.OwnWalk
namespace Go.Proofs.YtjolgckkoidhgaaGreatDoor
open Go.RowKit Go.Shelf Pa
open Go.MapKept
open Go.ChangeMaps (setBlock)

/-- Block b is a map that holds just these pairs, in the order in which they came. -/
def RawMap (w : World) (b : Nat) (L : List (Str × Value)) : Prop :=
  ∃ es clock, w.heap[b]? = some (.map es clock) ∧ Stamped es clock ∧ es.toList.map (fun e => (e.key, e.val)) = L.map (fun p => (Value.string (bs p.1), p.2))

def rset (L : List (Str × Value)) (p : Str) (v : Value) : List (Str × Value) := if L.any (fun q => decide (q.1 = p)) then L.map (fun q => if q.1 = p then (p, v) else q) else L ++ [(p, v)]

theorem filter_erase (L : List (Str × Value)) (j : Nat) (q0 : Str × Value) (p : Str) (hq0 : L[j]? = some q0) (hqp : q0.1 = p) (hnd : (L.map (·.1)).Nodup) : L.filter (fun q => !decide (q.1 = p)) = L.eraseIdx j := by
    induction L generalizing j with
    | nil => simp
    | cons q L ih =>
      simp only [List.map_cons, List.nodup_cons] at hnd
      cases j with
      | zero =>
        simp at hq0
        subst hq0
        rw [List.filter_cons, if_neg (by simp [hqp])]
        simp only [List.eraseIdx_zero, List.tail_cons]
        rw [List.filter_eq_self]
        intro r hr
        simp only [Bool.not_eq_true', decide_eq_false_iff_not]
        intro e
        exact hnd.1 (List.mem_map.2 ⟨r, hr, by rw [e, hqp]⟩)
      | succ j =>
        simp at hq0
        have hne : q.1 ≠ p := fun e => hnd.1 (List.mem_map.2 ⟨q0, List.mem_of_getElem? hq0, by rw [hqp, e]⟩)
        rw [List.filter_cons, if_pos (by simpa using hne), List.eraseIdx_cons_succ, ih j hq0 hnd.2]

section
variable {P : Program} {w : World} {t k e : TypeId} {b : Nat} {L : List (Str × Value)}

theorem RawMap.lt (h : RawMap w b L) : b < w.heap.size := by
  obtain ⟨es, c, h, _⟩ := h
  exact (Array.getElem?_eq_some_iff.1 h).1
theorem RawMap.nocell (h : RawMap w b L) (o : Nat) : w.cell? ⟨b, o, none⟩ = none := by
  obtain ⟨es, c, h, _⟩ := h
  simp [World.cell?, h]
theorem RawMap.keep {w' : World} (h : RawMap w b L) (e : w'.heap[b]? = w.heap[b]?) : RawMap w' b L := by
  obtain ⟨es, c, h, r⟩ := h
  exact ⟨es, c, e.trans h, r⟩
theorem RawMap.below {w' : World} {B : Nat} (h : RawMap w b L) (hb : Below B w w') (hB : b < B) : RawMap w' b L := h.keep (hb.block b hB)
theorem RawMap.grow {w' : World} (h : RawMap w b L) (hb : Below w.heap.size w w') : RawMap w' b L := h.below hb h.lt
theorem RawMap.new (w : World) : RawMap (w.alloc (.map #[] 0)) w.heap.size [] :=
  ⟨#[], 0, heap_alloc_new w _, stamped_empty 0, rfl⟩

/-- A pair of the list, and its entry. -/
theorem RawMap.isKey {es : Array MapEntry} (h : es.toList.map (fun e => (e.key, e.val)) = L.map (fun p => (Value.string (bs p.1), p.2))) : ∀ x ∈ es.toList, IsKey .string x.key := by
  intro x hx
  have : (x.key, x.val) ∈ es.toList.map (fun e => (e.key, e.val)) := List.mem_map.2 ⟨x, hx, rfl⟩
  rw [h] at this
  obtain ⟨p, _, hp⟩ := List.mem_map.1 this
  injection hp with h1 _
  rw [← h1]; trivial

theorem raw_at {es : List MapEntry} (h : es.map (fun e => (e.key, e.val)) = L.map (fun p => (Value.string (bs p.1), p.2))) (j : Nat) (x : MapEntry) (hj : es[j]? = some x) : ∃ p, L[j]? = some p ∧ x.key = .string (bs p.1) ∧ x.val = p.2 := by
  have : (es.map (fun e => (e.key, e.val)))[j]? = some (x.key, x.val) := by rw [List.getElem?_map, hj]; rfl
  rw [h, List.getElem?_map] at this
  cases hl : L[j]? with
  | none => rw [hl] at this; cases this
  | some p =>
    rw [hl] at this
    injection this with this
    injection this with h1 h2
    exact ⟨p, rfl, h1.symm, h2.symm⟩

theorem raw_keys {es : List MapEntry} (h : es.map (fun e => (e.key, e.val)) = L.map (fun p => (Value.string (bs p.1), p.2))) (hk : es.Pairwise (fun x y => x.key ≠ y.key)) : (L.map (·.1)).Nodup := by
  have h1 : (es.map (fun e => (e.key, e.val))).Pairwise (fun x y => x.1 ≠ y.1) := List.pairwise_map.2 hk
  rw [h] at h1
  have h2 := List.pairwise_map.1 h1
  exact List.pairwise_map.2 (h2.imp fun {a b} hne e => hne (by simp [e]))
theorem RawMap.nodup (h : RawMap w b L) : (L.map (·.1)).Nodup := by
  obtain ⟨es, c, _, hs, hp⟩ := h
  exact raw_keys hp ((stamped_iff es c).1 hs).2.2

theorem find_none {p : Str} (h : ∀ (j : Nat) (q : Str × Value), L[j]? = some q → q.1 ≠ p) : L.find? (fun q => decide (q.1 = p)) = none := by
  rw [List.find?_eq_none]
  intro q hq
  obtain ⟨j, hj⟩ := List.getElem?_of_mem hq
  simpa using h j q hj
theorem find_at {p : Str} {j : Nat} {q : Str × Value} (hn : (L.map (·.1)).Nodup) (hj : L[j]? = some q) (hq : q.1 = p) : L.find? (fun q => decide (q.1 = p)) = some q := by
  cases hf : L.find? (fun q => decide (q.1 = p)) with
  | none =>
    rw [List.find?_eq_none] at hf
    exact absurd hq (by simpa using hf q (List.mem_of_getElem? hj))
  | some r =>
    have hr : r.1 = p := by simpa using List.find?_some hf
    have hm := List.mem_of_find?_eq_some hf
    obtain ⟨i, hi⟩ := List.getElem?_of_mem hm
    have h1 : (L.map (·.1))[i]? = some p := by rw [List.getElem?_map, hi]; simp [hr]
    have h2 : (L.map (·.1))[j]? = some p := by rw [List.getElem?_map, hj]; simp [hq]
    have hlt : i < (L.map (·.1)).length := by
      rcases Nat.lt_or_ge i (L.map (·.1)).length with h | h
      · exact h
      · rw [List.getElem?_eq_none h] at h1; cases h1
    have : i = j := (List.getElem?_inj hlt hn).1 (h1.trans h2.symm)
    subst this
    rw [hi] at hj
    exact hj

variable (ht : P.underlying t = some (.map k e)) (hk : P.underlying k = some .string)
include ht hk

theorem RawMap.lookup {z : Value} (hz : ∀ w, (zeroValue e).run P w = .ok z w) (h : RawMap w b L) (p : Str) :
    (Instr.lookup t (.map (some b)) (.string (bs p)) false).run P w = .ok (match L.find? (fun q => decide (q.1 = p)) with | some q => q.2 | none => z) w ∧
    (Instr.lookup t (.map (some b)) (.string (bs p)) true).run P w = .ok (match L.find? (fun q => decide (q.1 = p)) with | some q => .tuple #[q.2, .bool true] | none => .tuple #[z, .bool false]) w := by
  obtain ⟨es, c, hb, hs, hp⟩ := h
  have hkey : IsKey .string (.string (bs p)) := trivial
  have hnd := raw_keys hp ((stamped_iff es c).1 hs).2.2
  rcases findNow_spec hkey es.toList 0 (RawMap.isKey hp) with ⟨h1, h2⟩ | ⟨j, e0, h1, h2, h3⟩
  · have hf : L.find? (fun q => decide (q.1 = p)) = none := find_none fun j q hq e => by
      have hlen : es.toList.length = L.length := by simpa using congrArg List.length hp
      have hj : j < L.length := (List.getElem?_eq_some_iff.1 hq).1
      obtain ⟨q', hq', hk', _⟩ := raw_at hp j _ (List.getElem?_eq_getElem (by omega))
      rw [hq] at hq'
      cases hq'
      exact h2 _ (List.getElem_mem _) (by rw [hk', e])
    rw [hf]
    exact ⟨by simp [Instr.lookup, run_underlying ht, MapKept.run_getObj_map hb, run_checkKey hk hkey, run_findKey hk h1, hz, Result.andThen],
      by simp [Instr.lookup, run_underlying ht, MapKept.run_getObj_map hb, run_checkKey hk hkey, run_findKey hk h1, hz, Result.andThen]⟩
  · obtain ⟨q, hq, hk', hv⟩ := raw_at hp j e0 h2
    have hqp : q.1 = p := by
      rw [h3] at hk'
      injection hk' with hk'
      exact (bs_inj hk').symm
    rw [find_at hnd hq hqp]
    exact ⟨by simp [Instr.lookup, run_underlying ht, MapKept.run_getObj_map hb, run_checkKey hk hkey, run_findKey hk h1, Result.andThen, hv],
      by simp [Instr.lookup, run_underlying ht, MapKept.run_getObj_map hb, run_checkKey hk hkey, run_findKey hk h1, Result.andThen, hv]⟩

theorem RawMap.len (h : RawMap w b L) (ty : TypeId) : (Builtin.len_ #[t] ty #[.map (some b)]).run P w = .ok (.int .i64 (L.length : Nat)) w := by
  obtain ⟨es, c, hb, hs, hp⟩ := h
  have hlen : es.size = L.length := by simpa using congrArg List.length hp
  have := hk
  simp [Builtin.len_, run_underlying ht, MapKept.run_getObj_map hb, Result.andThen, goInt, hlen]

theorem RawMap.update (h : RawMap w b L) (p : Str) (v : Value) :
    ∃ w', (Instr.mapUpdate t (.map (some b)) (.string (bs p)) v).run P w = .ok () w' ∧ RawMap w' b (rset L p v) ∧ w.grownBy w' (some b) ∧ w'.heap.size = w.heap.size := by
  obtain ⟨es, c, hb, hs, hp⟩ := h
  have hkey : IsKey .string (.string (bs p)) := trivial
  have hnd := raw_keys hp ((stamped_iff es c).1 hs).2.2
  have hlt := (Array.getElem?_eq_some_iff.1 hb).1
  have hgrow : ∀ o, w.grownBy (setBlock w b o) (some b) := fun o => ⟨rfl, rfl, rfl, by simp [setBlock], fun k hk hne => by
    simp only [setBlock]
    rw [Array.getElem?_setIfInBounds_ne (fun e => hne (by rw [e]))]⟩
  rcases findNow_spec hkey es.toList 0 (RawMap.isKey hp) with ⟨h1, h2⟩ | ⟨j, e0, h1, h2, h3⟩
  · refine ⟨setBlock w b (.map (es.push ⟨.string (bs p), v, c⟩) (c + 1)), ?_, ⟨_, _, ChangeMaps.heap_setBlock_same hb _, stamped_push hs h2, ?_⟩, hgrow _, by simp [setBlock]⟩
    · simp [Instr.mapUpdate, run_underlying ht, MapKept.run_getObj_map hb, run_checkKey hk hkey, run_findKey hk h1, MapKept.run_setObj_map _ hb, Result.andThen, setBlock]
    · have hany : L.any (fun q => decide (q.1 = p)) = false := by
        rw [List.any_eq_false]
        intro q hq e
        have e : q.1 = p := by simpa using e
        obtain ⟨j, hj⟩ := List.getElem?_of_mem hq
        have hlen : es.toList.length = L.length := by simpa using congrArg List.length hp
        have hj' : j < L.length := (List.getElem?_eq_some_iff.1 hj).1
        obtain ⟨q', hq', hk', _⟩ := raw_at hp j _ (List.getElem?_eq_getElem (by omega))
        rw [hj] at hq'
        cases hq'
        exact h2 _ (List.getElem_mem _) (by rw [hk', e])
      unfold rset
      rw [hany]
      simp [hp]
  · have hj : es[j]? = some e0 := by simpa using h2
    obtain ⟨q0, hq0, hk0, hv0⟩ := raw_at hp j e0 h2
    have hqp : q0.1 = p := by
      rw [h3] at hk0
      injection hk0 with hk0
      exact (bs_inj hk0).symm
    refine ⟨setBlock w b (.map (es.modify j (fun e' => { e' with key := .string (bs p), val := v })) c), ?_, ⟨_, _, ChangeMaps.heap_setBlock_same hb _, stamped_modify hs _ _ (fun _ _ => rfl) (fun e' _ he' => by rw [hj] at he'; cases he'; exact h3.symm), ?_⟩, hgrow _, by simp [setBlock]⟩
    · simp [Instr.mapUpdate, run_underlying ht, MapKept.run_getObj_map hb, run_checkKey hk hkey, run_findKey hk h1, hj, h3, run_keyThatStays hkey, MapKept.run_setObj_map _ hb, Result.andThen, setBlock]
    · have hany : L.any (fun q => decide (q.1 = p)) = true := List.any_eq_true.2 ⟨q0, List.mem_of_getElem? hq0, by simpa using hqp⟩
      unfold rset
      rw [hany, if_pos rfl]
      apply List.ext_getElem?
      intro i
      have hi := congrArg (fun l => l[i]?) hp
      simp only [List.getElem?_map] at hi
      simp only [List.getElem?_map, Array.getElem?_toList, Array.getElem?_modify]
      by_cases hij : j = i
      · subst hij
        rw [hj, hq0]
        simp [hqp]
      · rw [if_neg hij]
        rw [Array.getElem?_toList] at hi
        rw [hi]
        cases hL : L[i]? with
        | none => rfl
        | some q =>
          simp only [Option.map_some]
          have : q.1 ≠ p := by
            intro e
            have h1 : (L.map (·.1))[i]? = some p := by rw [List.getElem?_map, hL]; simp [e]
            have h2 : (L.map (·.1))[j]? = some p := by rw [List.getElem?_map, hq0]; simp [hqp]
            have hlt : i < (L.map (·.1)).length := by
              rcases Nat.lt_or_ge i (L.map (·.1)).length with h | h
              · exact h
              · rw [List.getElem?_eq_none h] at h1; cases h1
            exact hij ((List.getElem?_inj hlt hnd).1 (h1.trans h2.symm)).symm
          rw [if_neg this]

theorem RawMap.delete (h : RawMap w b L) (p : Str) (ty : TypeId) :
    ∃ w', (Builtin.delete_ #[t, k] ty #[.map (some b), .string (bs p)]).run P w = .ok (.tuple #[]) w' ∧ RawMap w' b (L.filter (fun q => !decide (q.1 = p))) ∧ w.grownBy w' (some b) ∧ w'.heap.size = w.heap.size := by
  obtain ⟨es, c, hb, hs, hp⟩ := h
  have hkey : IsKey .string (.string (bs p)) := trivial
  have hnd := raw_keys hp ((stamped_iff es c).1 hs).2.2
  have hgrow : ∀ o, w.grownBy (setBlock w b o) (some b) := fun o => ⟨rfl, rfl, rfl, by simp [setBlock], fun k hk hne => by
    simp only [setBlock]
    rw [Array.getElem?_setIfInBounds_ne (fun e => hne (by rw [e]))]⟩
  rcases findNow_spec hkey es.toList 0 (RawMap.isKey hp) with ⟨h1, h2⟩ | ⟨j, e0, h1, h2, h3⟩
  · refine ⟨setBlock w b (.map es c), ?_, ⟨_, _, ChangeMaps.heap_setBlock_same hb _, hs, ?_⟩, hgrow _, by simp [setBlock]⟩
    · simp [Builtin.delete_, run_underlying ht, MapKept.run_getObj_map hb, run_checkKey hk hkey, run_findKey hk h1, MapKept.run_setObj_map _ hb, Result.andThen, setBlock]
    · rw [hp]
      congr 1
      symm
      rw [List.filter_eq_self]
      intro q hq
      obtain ⟨j, hj⟩ := List.getElem?_of_mem hq
      have hlen : es.toList.length = L.length := by simpa using congrArg List.length hp
      have hj' : j < L.length := (List.getElem?_eq_some_iff.1 hj).1
      obtain ⟨q', hq', hk', _⟩ := raw_at hp j _ (List.getElem?_eq_getElem (by omega))
      rw [hj] at hq'
      cases hq'
      have := h2 _ (List.getElem_mem (l := es.toList) (n := j) (by omega))
      rw [hk'] at this
      simp only [Bool.not_eq_true', decide_eq_false_iff_not]
      exact fun e => this (by rw [e])
  · have hjs : j < es.size := by simpa using (List.getElem?_eq_some_iff.1 h2).1
    have hsub : (es.eraseIdxIfInBounds j).toList = es.toList.eraseIdx j := by
      unfold Array.eraseIdxIfInBounds
      rw [dif_pos hjs]
      simp
    obtain ⟨q0, hq0, hk0, hv0⟩ := raw_at hp j e0 h2
    have hqp : q0.1 = p := by
      rw [h3] at hk0
      injection hk0 with hk0
      exact (bs_inj hk0).symm
    refine ⟨setBlock w b (.map (es.eraseIdxIfInBounds j) c), ?_, ⟨_, _, ChangeMaps.heap_setBlock_same hb _, stamped_erase hs j, ?_⟩, hgrow _, by simp [setBlock]⟩
    · simp [Builtin.delete_, run_underlying ht, MapKept.run_getObj_map hb, run_checkKey hk hkey, run_findKey hk h1, MapKept.run_setObj_map _ hb, Result.andThen, setBlock]
    · rw [hsub, ChangeMaps.map_eraseIdx, hp, ← ChangeMaps.map_eraseIdx]
      congr 1
      exact (filter_erase L j q0 p hq0 hqp hnd).symm
end
end Go.Proofs.YtjolgckkoidhgaaGreatDoor
