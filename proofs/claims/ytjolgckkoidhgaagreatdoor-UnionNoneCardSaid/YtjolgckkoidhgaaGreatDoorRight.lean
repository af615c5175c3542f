/-
  The walk over union.right: whether a node is one, by itself.
-/
import Derived.Test.YtjolgckkoidhgaaGreatDoorMem
namespace Go.Proofs.YtjolgckkoidhgaaGreatDoor
open Go.RowKit Go.Shelf Pa
attribute [local go_sem] bs_toList bs_size

set_option maxHeartbeats 1000000 in
theorem right_any (n : Nd) (A : Option Addr) (c : Nat) (w : World) (hm : MaxOk w) :
    Calls Tryz.prog 51 #[ndV n (.slice A n.data.length c)] w fun e w' => e = .returned (.bool (rightN n)) ∧ Below w.heap.size w w' := by
  have hB1 : Below w.heap.size w (w.alloc (.cells #[.string (bs n.path), .int .i64 n.kind, .int .i64 n.mode, .string (bs n.link), .slice A n.data.length c] 45)) := (Below.refl _ _).alloc (Nat.le_refl _) _
  have hs := split_any n.path _ (hm.grow hB1)
  have HS := Lib.hid hs
  have hlt := hm.lt
  clear hs hm
  unfold ndV
  go_enter Tryz.func51, Tryz.ntmps51
  go_wp2_with fail
  obtain ⟨W1, hW1⟩ : ∃ W1, W1 = w.alloc (.cells #[.string (bs n.path), .int .i64 n.kind, .int .i64 n.mode, .string (bs n.link), .slice A n.data.length c] 45) := ⟨_, rfl⟩
  have hc : ∀ i, W1.cell? ⟨w.heap.size, i, none⟩ = #[.string (bs n.path), .int .i64 n.kind, .int .i64 n.mode, .string (bs n.link), .slice A n.data.length c][i]? := fun i => by
    rw [hW1, World.cell?_alloc_at _ _ _ _ rfl]
  have hz : w.heap.size < W1.heap.size := by rw [hW1]; simp
  rw [← hW1] at HS hB1 ⊢
  clear hW1
  refine HS.out.mono ?_
  rintro e w2 ⟨v, m, rfl, hb, h⟩
  have hk : ∀ i, w2.cell? ⟨w.heap.size, i, none⟩ = #[.string (bs n.path), .int .i64 n.kind, .int .i64 n.mode, .string (bs n.link), .slice A n.data.length c][i]? := fun i => (hb.cell (p := ⟨w.heap.size, i, none⟩) hz).trans (hc i)
  have hb2 := hB1.trans (hb.mono (Nat.le_of_lt hz))
  have k1 : w2.cell? ⟨w.heap.size, 1, none⟩ = some (.int .i64 n.kind) := hk 1
  have k2 : w2.cell? ⟨w.heap.size, 2, none⟩ = some (.int .i64 n.mode) := hk 2
  have k3 : w2.cell? ⟨w.heap.size, 3, none⟩ = some (.string (bs n.link)) := hk 3
  have k4 : w2.cell? ⟨w.heap.size, 4, none⟩ = some (.slice A n.data.length c) := hk 4
  clear hk hc hb hB1 HS
  cases hsp : splitP n.path with
  | none =>
    rw [hsp] at h
    obtain ⟨rfl, rfl⟩ := h
    have hr : rightN n = false := by unfold rightN; rw [hsp]
    clear hsp
    go_wp2
    go_ret
    exact ⟨ret_bool hr.symm, hb2⟩
  | some l =>
    rw [hsp] at h
    obtain ⟨rfl, A', c', rfl, _, _⟩ := h
    have hr : rightN n = (!l.isEmpty && decide (0 ≤ n.mode) && decide (n.mode ≤ 4095) &&
    (if n.kind = 1 then n.link.isEmpty && decide (n.data.length ≤ 70656)
     else if n.kind = 2 then n.link.isEmpty && n.data.isEmpty
     else if n.kind = 3 then !n.link.isEmpty && decide (n.link.length ≤ 255) && n.data.isEmpty && decide (n.mode = 511)
     else false)) := by unfold rightN; rw [hsp]
    have HR := Lib.hid hr
    clear hsp hr
    go_wp2
    all_goals
      go_ret
      refine ⟨ret_bool ?_, hb2⟩
      rw [HR.out]
      clear HR k1 k2 k3 k4
    all_goals first
      | (simp_all; done)
      | (simp_all; omega)
      | (rw [Bool.eq_iff_iff]; simp_all; done)
      | (rw [Bool.eq_iff_iff]; simp_all; omega)
      | skip
end Go.Proofs.YtjolgckkoidhgaaGreatDoor
