/-
  Words for memory that the walks use: texts as lists of bytes, lists of texts, nodes, changes.
-/
import Derived.Test.YtjolgckkoidhgaaGreatDoorShelf
import Derived.Test.YtjolgckkoidhgaaGreatDoorFold
import Derived.Lib.Hide
import Derived.WalkSmall
namespace Go.Proofs.YtjolgckkoidhgaaGreatDoor
open Go.RowKit Go.Shelf Pa

/-- A text of bytes. -/
def bs (s : Str) : ByteArray := ⟨s.toArray⟩
theorem bs_list (s : Str) : (bs s).data.toList = s := rfl
theorem bs_toList (s : Str) : (bs s).toList = s := by rw [Lib.toList_data]; rfl
theorem bs_of (b : ByteArray) : bs b.data.toList = b := rfl
theorem bs_size (s : Str) : (bs s).size = s.length := rfl
theorem bs_inj {s t : Str} (h : bs s = bs t) : s = t := by have := congrArg (fun b => b.data.toList) h; exact this

theorem ret_bool {a b : Bool} (h : a = b) : Ending.returned (.bool a) = .returned (.bool b) := by rw [h]
theorem ret_int {k : IntKind} {a b : Int} (h : a = b) : Ending.returned (.int k a) = .returned (.int k b) := by rw [h]
theorem ret_str {a b : ByteArray} (h : a = b) : Ending.returned (.string a) = .returned (.string b) := by rw [h]

theorem len_beq {α : Type} (l : List α) : ((l.length : Int) == 0) = l.isEmpty := by cases l <;> simp <;> omega
theorem len_pos {α : Type} (l : List α) : decide ((0 : Int) < (l.length : Int)) = !l.isEmpty := by cases l <;> simp <;> omega

/-- Below, and no draw is given back. -/
structure BelowD (B : Nat) (w w' : World) : Prop extends Below B w w' where
  drawn : w.drawn ≤ w'.drawn
instance {B : Nat} {w w' : World} : Coe (BelowD B w w') (Below B w w') := ⟨BelowD.toBelow⟩
theorem BelowD.refl (B : Nat) (w : World) : BelowD B w w := ⟨Below.refl B w, Nat.le_refl _⟩
theorem BelowD.trans {B : Nat} {a b c : World} (h : BelowD B a b) (k : BelowD B b c) : BelowD B a c := ⟨h.toBelow.trans k.toBelow, Nat.le_trans h.drawn k.drawn⟩
theorem BelowD.mono {B B' : Nat} {w w' : World} (h : BelowD B w w') (hB : B' ≤ B) : BelowD B' w w' := ⟨h.toBelow.mono hB, h.drawn⟩
theorem BelowD.drew {B : Nat} {a w : World} (h : BelowD B a w) : BelowD B a w.drew := ⟨h.toBelow.drew, Nat.le_trans h.drawn (Nat.le_succ _)⟩
theorem BelowD.alloc {B : Nat} {a w : World} (h : BelowD B a w) (hB : B ≤ w.heap.size) (o : Obj) : BelowD B a (w.alloc o) := ⟨h.toBelow.alloc hB o, h.drawn⟩
theorem BelowD.setCell {B : Nat} {a w : World} (h : BelowD B a w) {p : Addr} (hp : B ≤ p.block) (u : Value) : BelowD B a (w.setCell p u) := ⟨h.toBelow.setCell hp u, by simpa using h.drawn⟩
theorem belowD_drewN {B : Nat} {a w : World} (h : BelowD B a w) (n : Nat) : BelowD B a (w.drewN n) := ⟨below_drewN h.toBelow n, Nat.le_trans h.drawn (Nat.le_add_right _ _)⟩

/-- A slice of texts below a block. -/
def StrsAt (w : World) (B : Nat) (v : Value) (l : List Str) : Prop :=
  ∃ A c, v = .slice A l.length c ∧ l.length ≤ c ∧ (l ≠ [] → ∃ b o, A = some ⟨b, o, none⟩ ∧ b < B ∧ ∀ i s, l[i]? = some s → w.cell? ⟨b, o + i, none⟩ = some (.string (bs s)))

theorem StrsAt.nil (w : World) (B c : Nat) (A : Option Addr) : StrsAt w B (.slice A 0 c) [] := ⟨A, c, rfl, Nat.zero_le _, fun h => absurd rfl h⟩
theorem StrsAt.below {w w' : World} {B : Nat} {v : Value} {l : List Str} (h : StrsAt w B v l) (hb : Below B w w') : StrsAt w' B v l := by
  obtain ⟨A, c, e, hc, h⟩ := h
  refine ⟨A, c, e, hc, fun hn => ?_⟩
  obtain ⟨b, o, e, hB, h⟩ := h hn
  exact ⟨b, o, e, hB, fun i s hs => (hb.cell (p := ⟨b, o + i, none⟩) hB).trans (h i s hs)⟩
theorem StrsAt.more {w : World} {B B' : Nat} {v : Value} {l : List Str} (h : StrsAt w B v l) (hB : B ≤ B') : StrsAt w B' v l := by
  obtain ⟨A, c, e, hc, h⟩ := h
  refine ⟨A, c, e, hc, fun hn => ?_⟩
  obtain ⟨b, o, e, hb, h⟩ := h hn
  exact ⟨b, o, e, by omega, h⟩

end Go.Proofs.YtjolgckkoidhgaaGreatDoor
