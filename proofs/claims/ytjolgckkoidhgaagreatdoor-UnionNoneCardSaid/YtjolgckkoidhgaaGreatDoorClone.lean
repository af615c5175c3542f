/-
  bytes.Clone over a slice of bytes below a block: the same bytes in memory of its own.
-/
import Derived.Test.YtjolgckkoidhgaaGreatDoorDelete
namespace Go.Proofs.YtjolgckkoidhgaaGreatDoor
open Go.RowKit Go.Shelf Pa

theorem byte_getD (l : Str) (i : Nat) (h : i < l.length) : (l.map (fun x => ((UInt8.toNat x : Nat) : Int))).getD i 0 = ((UInt8.toNat (l[i]'h) : Nat) : Int) := by
  rw [List.getD_eq_getElem?_getD, List.getElem?_map, List.getElem?_eq_getElem h]; rfl

theorem bytes_of_own {w : World} {B : Nat} {v : Value} {l : Str} (h : w.ownsRow B 5 1 v l.length (l.map (fun x => Value.int .u8 (UInt8.toNat x)))) (hl : l.length ≤ 140737488355328) : BytesAt w w.heap.size v l := by
  obtain ⟨_, h⟩ := id h
  rcases h with ⟨rfl, h0⟩ | ⟨g, cap, cur, rfl, hB, hg, hc, hm, hs, ht⟩
  · have : l = [] := List.length_eq_zero_iff.1 h0
    subst this
    exact BytesAt.nil _ _ _ _
  · refine ⟨_, cap, rfl, ⟨hc, hl⟩, fun _ => ⟨g, 0, rfl, (Array.getElem?_eq_some_iff.1 hg).1, fun i x hx => ?_⟩⟩
    have h2 : (cur.toList.take (l.length * 1))[i]? = some (Value.int .u8 (UInt8.toNat x)) := by rw [ht, List.getElem?_map, hx]; rfl
    have hi : i < l.length := (List.getElem?_eq_some_iff.1 hx).1
    rw [List.getElem?_take_of_lt (by omega)] at h2
    rw [World.cell?]
    simp only [hg, Nat.zero_add]
    simpa using h2

theorem clone_any (dv : Value) (l : Str) (w : World) (h : BytesAt w w.heap.size dv l) :
    Calls Tryz.prog 53 #[dv] w fun e w' => ∃ v', e = .returned v' ∧ BytesAt w' w'.heap.size v' l ∧ Below w.heap.size w w' := by
  obtain ⟨A, c, rfl, ⟨hc, hl⟩, hf⟩ := h
  cases A with
  | none =>
    have hl0 : l = [] := by
      cases l with
      | nil => rfl
      | cons x t => obtain ⟨b, o, e, _⟩ := hf (by simp); cases e
    subst hl0
    refine (Tryz.bytes_Clone_nil _ c w).mono ?_
    rintro e w' ⟨rfl, hw⟩
    obtain rfl := hw.symm
    exact ⟨_, rfl, BytesAt.nil _ _ _ _, Below.refl _ _⟩
  | some a =>
    refine (Tryz.bytes_Clone_at a l.length c (l.map (fun x => ((UInt8.toNat x : Nat) : Int))) w (by simp) hl ?_).mono ?_
    · intro i hi
      obtain ⟨b, o, e, hB, h3⟩ := hf (by rintro rfl; simp at hi)
      cases e
      rw [byte_getD l i hi]
      have h4 := h3 i _ (List.getElem?_eq_getElem hi)
      unfold Addr.add
      split
      · rename_i h0; subst h0; exact h4
      · exact h4
    · rintro e w' ⟨v', rfl, ho, _, hb⟩
      refine ⟨v', rfl, bytes_of_own (B := w.heap.size) ?_ hl, hb⟩
      have e1 : (l.map (fun x => ((UInt8.toNat x : Nat) : Int))).map (Value.int .u8) = l.map (fun x => Value.int .u8 (UInt8.toNat x)) := by rw [List.map_map]; rfl
      rw [e1] at ho
      exact ho

end Go.Proofs.YtjolgckkoidhgaaGreatDoor
