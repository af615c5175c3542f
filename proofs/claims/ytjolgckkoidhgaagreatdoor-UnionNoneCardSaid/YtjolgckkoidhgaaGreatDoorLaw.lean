/-
  The walks over the law package's small functions: put, and what live asks.
-/
import Derived.Test.YtjolgckkoidhgaaGreatDoorFoldW
namespace Go.Proofs.YtjolgckkoidhgaaGreatDoor
open Go.RowKit Go.Shelf Pa
attribute [local go_sem] bs_toList bs_size

theorem bytes_setCell_far {W : World} {B g o c : Nat} {l : Str} (h : BytesAt W B (.slice (some ⟨g, o, none⟩) l.length c) l) {p : Addr} (hp : p.block ≠ g) (x : Value) : BytesAt (W.setCell p x) B (.slice (some ⟨g, o, none⟩) l.length c) l := by
  obtain ⟨A, c', e, hc, hf⟩ := h
  refine ⟨A, c', e, hc, fun hn => ?_⟩
  obtain ⟨b, o', e2, hB, hf⟩ := hf hn
  refine ⟨b, o', e2, hB, fun i y hy => ?_⟩
  rw [e2] at e
  injection e with e
  injection e with e
  injection e with e3 _ _
  rw [World.cell?_setCell_far _ _ _ _ (by rw [e3] at hp; exact hp)]
  exact hf i y hy

/-- What put makes. -/
def putCh (p : Str) (k : Int) (d : Str) : Ch := ⟨1, p, p, k, 420, [], d⟩
set_option maxRecDepth 100000 in
set_option maxHeartbeats 1000000 in
theorem lput_any (p : Str) (k : Int) (d : Str) (hd : d.length ≤ 100) (w : World) :
    Calls Tryz.prog 12 #[.string (bs p), .int .i64 k, .string (bs d)] w fun e w' => ∃ A c, e = .returned (chV (putCh p k d) (.slice A d.length c)) ∧ BytesAt w' w'.heap.size (.slice A d.length c) d ∧ Below w.heap.size w w' := by
  have hcv := run_bytes_of_string (P := Tryz.prog) (w.alloc (.cells #[.int .i64 0, .string ⟨#[]⟩, .string ⟨#[]⟩, .int .i64 0, .int .i64 0, .string ⟨#[]⟩, .slice none 0 0] 53)) 9 43 5 (bs d) Tryz.underlying9 Tryz.underlying43 Tryz.underlying5
  have hge := grownCap_ge (w.alloc (.cells #[.int .i64 0, .string ⟨#[]⟩, .string ⟨#[]⟩, .int .i64 0, .int .i64 0, .string ⟨#[]⟩, .slice none 0 0] 53)) (bs d).size 0 5
  generalize grownCap (w.alloc (.cells #[.int .i64 0, .string ⟨#[]⟩, .string ⟨#[]⟩, .int .i64 0, .int .i64 0, .string ⟨#[]⟩, .slice none 0 0] 53)) (bs d).size 0 5 = cap at hcv hge
  rw [bs_size] at hcv hge
  obtain ⟨W1, hW1⟩ : ∃ W1, W1 = w.alloc (.cells #[.int .i64 0, .string ⟨#[]⟩, .string ⟨#[]⟩, .int .i64 0, .int .i64 0, .string ⟨#[]⟩, .slice none 0 0] 53) := ⟨_, rfl⟩
  rw [← hW1] at hcv
  obtain ⟨W2, hW2⟩ : ∃ W2, W2 = W1.drew.alloc (.cells (bytesRow (bs d) cap) 5 ((bytesRow (bs d) cap).size, (bytesRow (bs d) cap).size + 1)) := ⟨_, rfl⟩
  rw [← hW2] at hcv
  have hz1 : w.heap.size < W1.heap.size := by rw [hW1]; simp
  have hb1 : Below w.heap.size w W1 := by rw [hW1]; exact (Below.refl _ _).alloc (Nat.le_refl _) _
  have hb2 : Below W1.heap.size W1 W2 := by rw [hW2]; exact (Below.drew (Below.refl _ _)).alloc (Nat.le_refl _) _
  have hbx : W2.heap[w.heap.size]? = W1.heap[w.heap.size]? := hb2.block _ hz1
  have hb0 : W1.heap[w.heap.size]? = some (.cells #[.int .i64 0, .string ⟨#[]⟩, .string ⟨#[]⟩, .int .i64 0, .int .i64 0, .string ⟨#[]⟩, .slice none 0 0] 53 (0, 0)) := by rw [hW1]; exact heap_alloc_new _ _
  have hc : ∀ i, W2.cell? ⟨w.heap.size, i, none⟩ = #[.int .i64 0, .string ⟨#[]⟩, .string ⟨#[]⟩, .int .i64 0, .int .i64 0, .string ⟨#[]⟩, .slice none 0 0][i]? := fun i => by
    rw [World.cell?]; simp only [hbx, hb0]; rfl
  have hfz : ∀ i, W2.frozen? ⟨w.heap.size, i, none⟩ = false := fun i => by simp [World.frozen?, hbx, hb0]
  have hrow : W2.heap[W1.heap.size]? = some (.cells (bytesRow (bs d) cap) 5 ((bytesRow (bs d) cap).size, (bytesRow (bs d) cap).size + 1)) := by rw [hW2]; exact heap_alloc_new W1.drew _
  have hby : BytesAt W2 W2.heap.size (.slice (some ⟨W1.heap.size, 0, none⟩) d.length cap) d := by
    refine ⟨_, cap, rfl, ⟨hge, by omega⟩, fun _ => ⟨W1.heap.size, 0, rfl, (Array.getElem?_eq_some_iff.1 hrow).1, fun i x hx => ?_⟩⟩
    obtain ⟨hi, hx'⟩ := List.getElem?_eq_some_iff.1 hx
    have := bytesRow_at (bs d) cap i hi
    rw [World.cell?]
    simp only [hrow, Nat.zero_add]
    rw [this, ← hx']
    rfl
  have HBy := Lib.hid hby
  have c0 : W2.cell? ⟨w.heap.size, 0, none⟩ = some (.int .i64 0) := hc 0
  have c1 : W2.cell? ⟨w.heap.size, 1, none⟩ = some (.string ⟨#[]⟩) := hc 1
  have c2 : W2.cell? ⟨w.heap.size, 2, none⟩ = some (.string ⟨#[]⟩) := hc 2
  have c3 : W2.cell? ⟨w.heap.size, 3, none⟩ = some (.int .i64 0) := hc 3
  have c4 : W2.cell? ⟨w.heap.size, 4, none⟩ = some (.int .i64 0) := hc 4
  have c5 : W2.cell? ⟨w.heap.size, 5, none⟩ = some (.string ⟨#[]⟩) := hc 5
  have c6 : W2.cell? ⟨w.heap.size, 6, none⟩ = some (.slice none 0 0) := hc 6
  have f0 := hfz 0
  have f1 := hfz 1
  have f2 := hfz 2
  have f3 := hfz 3
  have f4 := hfz 4
  have f5 := hfz 5
  have f6 := hfz 6
  have hbw : Below w.heap.size w W2 := hb1.trans (hb2.mono hb1.size)
  have hw1 : w.alloc (.cells #[.int .i64 0, .string ⟨#[]⟩, .string ⟨#[]⟩, .int .i64 0, .int .i64 0, .string ⟨#[]⟩, .slice none 0 0] 53) = W1 := hW1.symm
  clear hc hfz hrow hby hb0 hbx hW1 hW2 hb1 hb2
  go_enter Tryz.func12, Tryz.ntmps12
  go_wp2
  have hne : w.heap.size ≠ W1.heap.size := by omega
  have hby7 := bytes_setCell_far (p := ⟨w.heap.size, 6, none⟩) (bytes_setCell_far (p := ⟨w.heap.size, 5, none⟩) (bytes_setCell_far (p := ⟨w.heap.size, 4, none⟩) (bytes_setCell_far (p := ⟨w.heap.size, 3, none⟩) (bytes_setCell_far (p := ⟨w.heap.size, 2, none⟩) (bytes_setCell_far (p := ⟨w.heap.size, 1, none⟩) (bytes_setCell_far (p := ⟨w.heap.size, 0, none⟩) HBy.out hne (.int .i64 1)) hne (.string (bs p))) hne (.string (bs p))) hne (.int .i64 k)) hne (.int .i64 420)) hne (.string ⟨#[]⟩)) hne (.slice (some ⟨W1.heap.size, 0, none⟩) d.length cap)
  refine bodyPost_ret (v := chV (putCh p k d) (.slice (some ⟨W1.heap.size, 0, none⟩) d.length cap)) (by simp [results, Tryz.results12, go_sem, c0, c1, c2, c3, c4, c5, c6]; rfl) rfl ⟨_, _, rfl, hby7.more (by simp), ?_⟩
  exact (((((((hbw.setCell (Nat.le_refl _) _).setCell (Nat.le_refl _) _).setCell (Nat.le_refl _) _).setCell (Nat.le_refl _) _).setCell (Nat.le_refl _) _).setCell (Nat.le_refl _) _).setCell (Nat.le_refl _) _)

def t1 : List (List Ch) := [[putCh [47, 97, 47, 102] 1 [120]], [⟨2, [47, 97], [], 0, 0, [], []⟩]]
def t2 : List (List Ch) := [[putCh [47, 97, 47, 102] 1 [120], ⟨2, [47, 97], [], 0, 0, [], []⟩]]
def n1 : Nd := ⟨[47, 97], 2, 493, [], []⟩
def n2 : Nd := ⟨[47, 97, 47, 102], 1, 420, [], [120]⟩
theorem srt12 : srt [n1, n2] = [n1, n2] := by
  have h : leN n1 n2 = true := by decide
  simp [srt, List.mergeSort, List.MergeSort.Internal.splitInTwo, h]
theorem app1 : applyT [] [putCh [47, 97, 47, 102] 1 [120]] = .ok [n1, n2] := by
  have h : applyT [] [putCh [47, 97, 47, 102] 1 [120]] = .ok (srt [n1, n2]) := rfl
  rw [h, srt12]
theorem app2 : applyT [n1, n2] [⟨2, [47, 97], [], 0, 0, [], []⟩] = .ok [] := by
  have h : applyT [n1, n2] [⟨2, [47, 97], [], 0, 0, [], []⟩] = .ok (srt []) := rfl
  rw [h]; simp [srt]
theorem app3 : applyT [] [putCh [47, 97, 47, 102] 1 [120], ⟨2, [47, 97], [], 0, 0, [], []⟩] = .ok [n1, n2] := by
  have h : applyT [] [putCh [47, 97, 47, 102] 1 [120], ⟨2, [47, 97], [], 0, 0, [], []⟩] = .ok (srt [n1, n2]) := rfl
  rw [h, srt12]
theorem fold_t1 : foldT [] t1 = .ok [] := by unfold t1; rw [foldT, app1]; simp only; rw [foldT, app2]; rfl
theorem fold_t2 : foldT [] t2 = .ok [n1, n2] := by unfold t2; rw [foldT, app3]; rfl

end Go.Proofs.YtjolgckkoidhgaaGreatDoor
