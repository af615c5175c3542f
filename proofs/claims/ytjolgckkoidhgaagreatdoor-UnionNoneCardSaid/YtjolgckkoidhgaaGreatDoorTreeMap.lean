/-
  The map of a tree: its nodes by their paths.
-/
import Derived.Test.YtjolgckkoidhgaaGreatDoorMaps
import Derived.Test.YtjolgckkoidhgaaGreatDoorFoldLaws
namespace Go.Proofs.YtjolgckkoidhgaaGreatDoor
open Go.RowKit Go.Shelf Pa

/-- Block b is the map of these nodes. -/
def TreeAt (w : World) (b : Nat) (T : List Nd) : Prop :=
  ∃ L, RawMap w b L ∧ L.map (·.1) = T.map (·.path) ∧ ∀ n ∈ T, ∃ dv, (n.path, ndV n dv) ∈ L ∧ BytesAt w w.heap.size dv n.data

theorem TreeAt.lt {w : World} {b : Nat} {T : List Nd} (h : TreeAt w b T) : b < w.heap.size := by
  obtain ⟨L, h, _⟩ := h; exact h.lt
theorem TreeAt.uniq {w : World} {b : Nat} {T : List Nd} (h : TreeAt w b T) : Uniq T := by
  obtain ⟨L, h, e, _⟩ := h
  unfold Uniq; rw [← e]; exact h.nodup
theorem TreeAt.grow {w w' : World} {b : Nat} {T : List Nd} (h : TreeAt w b T) (hb : Below w.heap.size w w') : TreeAt w' b T := by
  obtain ⟨L, h, e, hd⟩ := h
  refine ⟨L, h.grow hb, e, fun n hn => ?_⟩
  obtain ⟨dv, hm, hB⟩ := hd n hn
  exact ⟨dv, hm, (hB.below hb).more hb.size⟩
theorem TreeAt.new (w : World) : TreeAt (w.alloc (.map #[] 0)) w.heap.size [] := ⟨[], RawMap.new w, rfl, fun _ h => by cases h⟩

/-- The zero node. -/
def zeroV : Value := .agg #[.string ⟨#[]⟩, .int .i64 0, .int .i64 0, .string ⟨#[]⟩, .slice none 0 0]

theorem mem_of_find {L : List (Str × Value)} (hn : (L.map (·.1)).Nodup) {p : Str} {v : Value} (h : (p, v) ∈ L) : L.find? (fun q => decide (q.1 = p)) = some (p, v) := by
  obtain ⟨j, hj⟩ := List.getElem?_of_mem h
  exact find_at hn hj rfl

theorem keys_none {L : List (Str × Value)} {T : List Nd} (e : L.map (·.1) = T.map (·.path)) {p : Str} (h : Pa.look T p = none) : L.find? (fun q => decide (q.1 = p)) = none := by
  rw [List.find?_eq_none]
  intro q hq
  have : q.1 ∈ L.map (·.1) := List.mem_map.2 ⟨q, hq, rfl⟩
  rw [e] at this
  obtain ⟨n, hn, he⟩ := List.mem_map.1 this
  have := Pa.look_none.1 h n hn
  simp only [decide_eq_true_eq]
  intro e2
  exact this (he.trans e2)

theorem TreeAt.look_some {w : World} {b : Nat} {T : List Nd} (h : TreeAt w b T) {p : Str} {n : Nd} (hl : Pa.look T p = some n) :
    ∃ dv, BytesAt w w.heap.size dv n.data ∧ (Instr.lookup 68 (.map (some b)) (.string (bs p)) false).run Tryz.prog w = .ok (ndV n dv) w ∧
      (Instr.lookup 68 (.map (some b)) (.string (bs p)) true).run Tryz.prog w = .ok (.tuple #[ndV n dv, .bool true]) w := by
  obtain ⟨L, h, e, hd⟩ := h
  obtain ⟨hn, hp⟩ := Pa.look_some hl
  obtain ⟨dv, hm, hB⟩ := hd n hn
  have hf := mem_of_find h.nodup hm
  rw [hp] at hf
  obtain ⟨h1, h2⟩ := RawMap.lookup Tryz.underlying68 Tryz.underlying9 (fun w => by kernel_rfl : ∀ w, (zeroValue 45).run Tryz.prog w = .ok zeroV w) h p
  rw [hf] at h1 h2
  exact ⟨dv, hB, h1, h2⟩
theorem TreeAt.look_none {w : World} {b : Nat} {T : List Nd} (h : TreeAt w b T) {p : Str} (hl : Pa.look T p = none) :
    (Instr.lookup 68 (.map (some b)) (.string (bs p)) false).run Tryz.prog w = .ok zeroV w ∧
      (Instr.lookup 68 (.map (some b)) (.string (bs p)) true).run Tryz.prog w = .ok (.tuple #[zeroV, .bool false]) w := by
  obtain ⟨L, h, e, hd⟩ := h
  have hf := keys_none e hl
  obtain ⟨h1, h2⟩ := RawMap.lookup Tryz.underlying68 Tryz.underlying9 (fun w => by kernel_rfl : ∀ w, (zeroValue 45).run Tryz.prog w = .ok zeroV w) h p
  rw [hf] at h1 h2
  exact ⟨h1, h2⟩
theorem TreeAt.len {w : World} {b : Nat} {T : List Nd} (h : TreeAt w b T) (ty : TypeId) : (Builtin.len_ #[68] ty #[.map (some b)]).run Tryz.prog w = .ok (.int .i64 (T.length : Nat)) w := by
  obtain ⟨L, h, e, hd⟩ := h
  have : T.length = L.length := by simpa using (congrArg List.length e).symm
  rw [this]
  exact RawMap.len Tryz.underlying68 Tryz.underlying9 h ty

theorem any_keys {L : List (Str × Value)} {T : List Nd} (e : L.map (·.1) = T.map (·.path)) (p : Str) : L.any (fun q => decide (q.1 = p)) = (Pa.look T p).isSome := by
  have h1 : L.any (fun q => decide (q.1 = p)) = (L.map (·.1)).any (fun k => decide (k = p)) := by rw [List.any_map]; rfl
  rw [h1, e, List.any_map]
  unfold Pa.look
  rw [Bool.eq_iff_iff, List.find?_isSome, List.any_eq_true]
  rfl

theorem bytes_grown {w w' : World} {b : Nat} (hg : w.grownBy w' (some b)) (hnc : ∀ o, w.cell? ⟨b, o, none⟩ = none) {dv : Value} {d : Str} (h : BytesAt w w.heap.size dv d) : BytesAt w' w'.heap.size dv d := by
  obtain ⟨A, c, e, hc, h⟩ := h
  refine ⟨A, c, e, hc, fun hn => ?_⟩
  obtain ⟨g, o, e, hB, h⟩ := h hn
  have hne : g ≠ b := by
    rintro rfl
    cases d with
    | nil => exact hn rfl
    | cons x d =>
      have := h 0 x rfl
      rw [hnc] at this
      cases this
  refine ⟨g, o, e, Nat.lt_of_lt_of_le hB hg.size, fun i x hx => ?_⟩
  rw [World.cell?_of_block (w := w) (hg.block g hB (fun e => hne (Option.some.inj e)))]
  exact h i x hx

theorem TreeAt.update {w : World} {b : Nat} {T : List Nd} (h : TreeAt w b T) (n : Nd) (dv : Value) (hB : BytesAt w w.heap.size dv n.data) :
    ∃ w', (Instr.mapUpdate 68 (.map (some b)) (.string (bs n.path)) (ndV n dv)).run Tryz.prog w = .ok () w' ∧ TreeAt w' b (setN T n) ∧ w.grownBy w' (some b) ∧ w'.heap.size = w.heap.size := by
  obtain ⟨L, h, e, hd⟩ := h
  obtain ⟨w', hrun, h', hg, hsz⟩ := RawMap.update Tryz.underlying68 Tryz.underlying9 h n.path (ndV n dv)
  have hk := any_keys e n.path
  refine ⟨w', hrun, ⟨_, h', ?_, ?_⟩, hg, hsz⟩
  · rw [setN_paths, ← hk, ← e]
    unfold rset
    split
    · rw [List.map_map]
      apply List.map_congr_left
      intro q _
      simp only [Function.comp]
      split
      · rename_i h; exact h.symm
      · rfl
    · simp
  · intro m hm
    rcases mem_setN.1 hm with rfl | ⟨hm, hne⟩
    · refine ⟨dv, ?_, bytes_grown hg h.nocell hB⟩
      unfold rset
      split
      · rename_i ha
        obtain ⟨q, hq, he⟩ := List.any_eq_true.1 ha
        exact List.mem_map.2 ⟨q, hq, by rw [if_pos (by simpa using he)]⟩
      · simp
    · obtain ⟨dm, hmm, hBm⟩ := hd m hm
      refine ⟨dm, ?_, bytes_grown hg h.nocell hBm⟩
      unfold rset
      split
      · exact List.mem_map.2 ⟨_, hmm, by rw [if_neg hne]⟩
      · simp [hmm]

theorem TreeAt.filter {w w' : World} {b : Nat} {T : List Nd} {L : List (Str × Value)} (f : Str → Bool) (hg : w.grownBy w' (some b)) (h : RawMap w b L) (e : L.map (·.1) = T.map (·.path)) (hd : ∀ n ∈ T, ∃ dv, (n.path, ndV n dv) ∈ L ∧ BytesAt w w.heap.size dv n.data)
    (h' : RawMap w' b (L.filter (fun q => f q.1))) : TreeAt w' b (T.filter (fun n => f n.path)) := by
  refine ⟨_, h', ?_, fun n hn => ?_⟩
  · have h1 : (L.filter (fun q => f q.1)).map (·.1) = (L.map (·.1)).filter f := by rw [List.filter_map]; rfl
    have h2 : (T.filter (fun n => f n.path)).map (·.path) = (T.map (·.path)).filter f := by rw [List.filter_map]; rfl
    rw [h1, h2, e]
  · obtain ⟨hn, hf⟩ := List.mem_filter.1 hn
    obtain ⟨dv, hm, hB⟩ := hd n hn
    exact ⟨dv, List.mem_filter.2 ⟨hm, hf⟩, bytes_grown hg h.nocell hB⟩

theorem TreeAt.delete {w : World} {b : Nat} {T : List Nd} (h : TreeAt w b T) (p : Str) (ty : TypeId) :
    ∃ w', (Builtin.delete_ #[68, 9] ty #[.map (some b), .string (bs p)]).run Tryz.prog w = .ok (.tuple #[]) w' ∧ TreeAt w' b (delN T p) ∧ w.grownBy w' (some b) ∧ w'.heap.size = w.heap.size := by
  obtain ⟨L, h, e, hd⟩ := h
  obtain ⟨w', hrun, h', hg, hsz⟩ := RawMap.delete Tryz.underlying68 Tryz.underlying9 h p ty
  exact ⟨w', hrun, TreeAt.filter (fun k => !decide (k = p)) hg h e hd h', hg, hsz⟩

end Go.Proofs.YtjolgckkoidhgaaGreatDoor
