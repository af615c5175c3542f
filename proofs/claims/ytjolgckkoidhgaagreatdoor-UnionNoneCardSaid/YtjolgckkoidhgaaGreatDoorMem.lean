/-
  Words for memory, more: bytes, nodes, changes, and slices of these.
-/
import Derived.Test.YtjolgckkoidhgaaGreatDoorPathW
namespace Go.Proofs.YtjolgckkoidhgaaGreatDoor
open Go.RowKit Go.Shelf Pa

/-- A slice of bytes below a block. -/
def BytesAt (w : World) (B : Nat) (v : Value) (l : Str) : Prop :=
  ∃ A c, v = .slice A l.length c ∧ (l.length ≤ c ∧ l.length ≤ 140737488355328) ∧ (l ≠ [] → ∃ b o, A = some ⟨b, o, none⟩ ∧ b < B ∧ ∀ i x, l[i]? = some x → w.cell? ⟨b, o + i, none⟩ = some (.int .u8 (UInt8.toNat x)))

theorem BytesAt.nil (w : World) (B c : Nat) (A : Option Addr) : BytesAt w B (.slice A 0 c) [] := ⟨A, c, rfl, ⟨Nat.zero_le _, Nat.zero_le _⟩, fun h => absurd rfl h⟩
theorem BytesAt.keep {w w' : World} {B : Nat} {v : Value} {l : Str} (h : BytesAt w B v l) (hb : ∀ b o, b < B → w'.cell? ⟨b, o, none⟩ = w.cell? ⟨b, o, none⟩) : BytesAt w' B v l := by
  obtain ⟨A, c, e, hc, h⟩ := h
  refine ⟨A, c, e, hc, fun hn => ?_⟩
  obtain ⟨b, o, e, hB, h⟩ := h hn
  exact ⟨b, o, e, hB, fun i s hs => (hb b _ hB).trans (h i s hs)⟩
theorem BytesAt.below {w w' : World} {B : Nat} {v : Value} {l : Str} (h : BytesAt w B v l) (hb : Below B w w') : BytesAt w' B v l :=
  h.keep fun b o hB => hb.cell (p := ⟨b, o, none⟩) hB
theorem BytesAt.more {w : World} {B B' : Nat} {v : Value} {l : Str} (h : BytesAt w B v l) (hB : B ≤ B') : BytesAt w B' v l := by
  obtain ⟨A, c, e, hc, h⟩ := h
  refine ⟨A, c, e, hc, fun hn => ?_⟩
  obtain ⟨b, o, e, hb, h⟩ := h hn
  exact ⟨b, o, e, by omega, h⟩

/-- A node as a value: its Data is the slice dv. -/
def ndV (n : Nd) (dv : Value) : Value := .agg #[.string (bs n.path), .int .i64 n.kind, .int .i64 n.mode, .string (bs n.link), dv]
/-- A change as a value. -/
def chV (c : Ch) (dv : Value) : Value := .agg #[.int .i64 c.kind, .string (bs c.path), .string (bs c.name), .int .i64 c.nkind, .int .i64 c.mode, .string (bs c.link), dv]

end Go.Proofs.YtjolgckkoidhgaaGreatDoor
