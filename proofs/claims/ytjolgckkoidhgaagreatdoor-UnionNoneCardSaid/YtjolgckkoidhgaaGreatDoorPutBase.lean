/-
  Facts ahead of the walk over union's put: what it hands back, its directories, a variable's node.
-/
import Derived.Test.YtjolgckkoidhgaaGreatDoorTreeOf
import Derived.Deep.RegionHeld3
namespace Go.Proofs.YtjolgckkoidhgaaGreatDoor
open Go.RowKit Go.Shelf Pa
open Go.MapKept
attribute [local go_sem] bs_toList bs_size

theorem strs_grown {w w' : World} {b : Nat} (hg : w.grownBy w' (some b)) (hnc : ∀ o, w.cell? ⟨b, o, none⟩ = none) {v : Value} {l : List Str} (h : StrsAt w w.heap.size v l) : StrsAt w' w'.heap.size v l := by
  obtain ⟨A, c, e, hc, h⟩ := h
  refine ⟨A, c, e, hc, fun hn => ?_⟩
  obtain ⟨g, o, e, hB, h⟩ := h hn
  have hne : g ≠ b := by
    rintro rfl
    cases l with
    | nil => exact hn rfl
    | cons x d =>
      have := h 0 x rfl
      rw [hnc] at this
      cases this
  refine ⟨g, o, e, Nat.lt_of_lt_of_le hB hg.size, fun i x hx => ?_⟩
  rw [World.cell?_of_block (w := w) (hg.block g hB (fun e => hne (Option.some.inj e)))]
  exact h i x hx

theorem TreeAt.nocell {w : World} {b : Nat} {T : List Nd} (h : TreeAt w b T) (o : Nat) : w.cell? ⟨b, o, none⟩ = none := by
  obtain ⟨L, h, _⟩ := h; exact h.nocell o
theorem MaxOk.grown {w w' : World} {b : Nat} (h : MaxOk w) (hg : w.grownBy w' (some b)) (hnc : ∀ o, w.cell? ⟨b, o, none⟩ = none) : MaxOk w' := by
  have hlt := h.lt
  obtain ⟨m, hm⟩ := h
  refine ⟨m, ?_⟩
  rw [World.cell?_of_block (w := w) (hg.block _ hlt ?_)]
  · exact hm
  · intro e
    have e2 : b = 0 := (Option.some.inj e).symm
    subst e2
    rw [hnc] at hm
    cases hm

theorem jn_len : ∀ L : List Str, (∀ x ∈ L, x.length ≤ 59) → (jn L).length ≤ 60 * L.length
  | [], _ => by simp [jn]
  | [x], h => by have := h x (by simp); simp [jn]; omega
  | x :: y :: r, h => by
    have h1 := h x (by simp)
    have h2 := jn_len (y :: r) (fun z hz => h z (by simp at hz ⊢; right; exact hz))
    simp only [jn, List.length_append, List.length_cons] at *
    omega

theorem names_mem {p x : Str} (h : x ∈ names p) : x.length ≤ 59 := by
  unfold names at h
  cases hs : splitP p with
  | none => rw [hs] at h; cases h
  | some l =>
    rw [hs] at h
    have := (splitP_some hs).2.2.1 x h
    rw [nameOk_eq] at this
    simp at this
    exact this.1.1.1.2

theorem joinTo_any (L : List Str) (k b o c : Nat) (w : World) (hk : k < L.length) (hc : L.length ≤ c) (hl : L.length ≤ 16) (h59 : ∀ x ∈ L, x.length ≤ 59) (hb : b < w.heap.size) (hcells : ∀ i s, L[i]? = some s → w.cell? ⟨b, o + i, none⟩ = some (.string (bs s))) :
    Calls Tryz.prog 108 #[.slice (some ⟨b, o, none⟩) (k + 1) c, .string ⟨#[47]⟩] w fun e w' => e = .returned (.string (bs (jn (L.take (k + 1))))) ∧ Below w.heap.size w w' := by
  have hlen : (L.take (k + 1)).length = k + 1 := by rw [List.length_take]; omega
  have hmap : ((L.take (k + 1)).map bs).map (·.data.toList) = L.take (k + 1) := by
    rw [List.map_map]
    conv => rhs; rw [← List.map_id (L.take (k + 1))]
    apply List.map_congr_left
    intro x _
    rfl
  have hjoin : Lib.join (((L.take (k + 1)).map bs).map (·.data.toList)) (⟨#[47]⟩ : ByteArray).data.toList = jn (L.take (k + 1)) := by
    rw [hmap]; exact join_eq_jn _
  have h := Tryz.strings_Join b o c ((L.take (k + 1)).map bs) ⟨#[47]⟩ w (by
    intro j x hj
    rw [List.getElem?_map, Option.map_eq_some_iff] at hj
    obtain ⟨s, hs, rfl⟩ := hj
    have hjk : j < k + 1 := by have := (List.getElem?_eq_some_iff.1 hs).1; omega
    rw [List.getElem?_take_of_lt hjk] at hs
    exact hcells j s hs) hb (by rw [List.length_map, hlen]; omega) (by rw [List.length_map, hlen]; omega) (by
      rw [hjoin]
      have := jn_len (L.take (k + 1)) (fun x hx => h59 x (List.mem_of_mem_take hx))
      rw [hlen] at this
      omega)
  rw [List.length_map, hlen, hjoin] at h
  exact h

/-- What put hands back. -/
def PutPost (T : List Nd) (c : Ch) (b : Nat) (w : World) (e : Ending) (w' : World) : Prop :=
  w.grownBy w' (some b) ∧ match putC T c with
  | none => e = .returned (.int .i64 13)
  | some T' => e = .returned (.int .i64 0) ∧ TreeAt w' b T'

theorem PutPost.some {T T' : List Nd} {c : Ch} {b : Nat} {w w' : World} (h : putC T c = .some T') (hg : w.grownBy w' (.some b)) (hT : TreeAt w' b T') : PutPost T c b w (.returned (.int .i64 0)) w' := by
  refine ⟨hg, ?_⟩
  rw [h]
  exact ⟨rfl, hT⟩
theorem PutPost.none {T : List Nd} {c : Ch} {b : Nat} {w w' : World} (h : putC T c = .none) (hg : w.grownBy w' (.some b)) : PutPost T c b w (.returned (.int .i64 13)) w' := by
  refine ⟨hg, ?_⟩
  rw [h]
theorem putC_nil {T : List Nd} {c : Ch} (h : names c.path = []) : putC T c = some T := by unfold putC; rw [if_pos h]
theorem putC_dirs {T : List Nd} {c : Ch} {L : List Str} (h : names c.path = L) (hn : L ≠ []) (hd : dirs T [] L.dropLast = none) : putC T c = none := by unfold putC; rw [h, if_neg hn, hd]
theorem putC_node {T T1 : List Nd} {c : Ch} {L : List Str} (h : names c.path = L) (hn : L ≠ []) (hd : dirs T [] L.dropLast = some T1) (hno : nodeOf T1 c = none) : putC T c = none := by unfold putC; rw [h, if_neg hn, hd]; simp only; rw [hno]
theorem putC_some {T T1 : List Nd} {c : Ch} {L : List Str} {n : Nd} (h : names c.path = L) (hn : L ≠ []) (hd : dirs T [] L.dropLast = some T1) (hno : nodeOf T1 c = some n) : putC T c = some (place T1 n) := by unfold putC; rw [h, if_neg hn, hd]; simp only; rw [hno]
theorem World.grownBy_self (w : World) (r : Option Nat) : w.grownBy w r := ⟨rfl, rfl, rfl, Nat.le_refl _, fun _ _ _ => rfl⟩

theorem dirs_step (T : List Nd) (L : List Str) (k : Nat) (h : k < L.dropLast.length) : dirs T (L.take k) (L.dropLast.drop k) = match Pa.look T (joinP (L.take (k + 1))) with
    | none => dirs (setN T (dirN (joinP (L.take (k + 1))))) (L.take (k + 1)) (L.dropLast.drop (k + 1))
    | some n => if n.kind = 2 then dirs T (L.take (k + 1)) (L.dropLast.drop (k + 1)) else none := by
  have hk : k < L.length := by simp at h; omega
  have e1 : L.take k ++ [L.dropLast[k]] = L.take (k + 1) := by
    rw [List.take_succ_eq_append_getElem hk, List.getElem_dropLast]
  rw [List.drop_eq_getElem_cons h, dirs, e1]
  cases Pa.look T (joinP (L.take (k + 1))) <;> rfl
theorem dirs_none {T : List Nd} {L : List Str} {k : Nat} {X : Option (List Nd)} (h : k < L.dropLast.length) (hd : dirs T (L.take k) (L.dropLast.drop k) = X) (hl : Pa.look T (joinP (L.take (k + 1))) = none) : dirs (setN T (dirN (joinP (L.take (k + 1))))) (L.take (k + 1)) (L.dropLast.drop (k + 1)) = X := by
  rw [← hd, dirs_step T L k h, hl]
theorem dirs_dir {T : List Nd} {L : List Str} {k : Nat} {X : Option (List Nd)} {n : Nd} (h : k < L.dropLast.length) (hd : dirs T (L.take k) (L.dropLast.drop k) = X) (hl : Pa.look T (joinP (L.take (k + 1))) = some n) (hk : (n.kind == 2) = true) : dirs T (L.take (k + 1)) (L.dropLast.drop (k + 1)) = X := by
  rw [← hd, dirs_step T L k h, hl]; simp only; rw [if_pos (by simpa using hk)]
theorem dirs_bad {T : List Nd} {L : List Str} {k : Nat} {X : Option (List Nd)} {n : Nd} (h : k < L.dropLast.length) (hd : dirs T (L.take k) (L.dropLast.drop k) = X) (hl : Pa.look T (joinP (L.take (k + 1))) = some n) (hk : (n.kind == 2) = false) : X = none := by
  rw [← hd, dirs_step T L k h, hl]; simp only; rw [if_neg (by simpa using hk)]

theorem grownBy_trans {a m z : World} {r : Option Nat} (h : a.grownBy m r) (k : m.grownBy z r) : a.grownBy z r :=
  ⟨k.os.trans h.os, k.tape.trans h.tape, k.output.trans h.output, Nat.le_trans h.size k.size, fun i hi hne => (k.block i (Nat.lt_of_lt_of_le hi h.size) hne).trans (h.block i hi hne)⟩

theorem below_then {a m z : World} (h : Below a.heap.size a m) (k : Below m.heap.size m z) : Below a.heap.size a z := h.trans (k.mono h.size)
theorem below_alloc {a m : World} (h : Below a.heap.size a m) (o : Obj) : Below a.heap.size a (m.alloc o) := h.alloc h.size o

theorem new_kept {m z : World} {vs : Array Value} {t : TypeId} (k : Below (m.alloc (.cells vs t)).heap.size (m.alloc (.cells vs t)) z) : (∀ i, z.cell? ⟨m.heap.size, i, none⟩ = vs[i]?) ∧ ∀ i, z.frozen? ⟨m.heap.size, i, none⟩ = false := by
  have hlt : m.heap.size < (m.alloc (.cells vs t)).heap.size := by simp
  have hg : z.heap[m.heap.size]? = some (.cells vs t (0, 0)) := (k.block _ hlt).trans (heap_alloc_new _ _)
  refine ⟨fun i => ?_, fun i => ?_⟩
  · rw [World.cell?]; simp only [hg]; rfl
  · simp [World.frozen?, hg]

theorem new_kept_drew {m z : World} {vs : Array Value} {t : TypeId} (k : Below (m.alloc (.cells vs t)).drew.heap.size (m.alloc (.cells vs t)).drew z) : (∀ i, z.cell? ⟨m.heap.size, i, none⟩ = vs[i]?) ∧ ∀ i, z.frozen? ⟨m.heap.size, i, none⟩ = false :=
  new_kept (m := m) (vs := vs) (t := t) ⟨k.os, k.tape, k.output, k.size, k.block⟩
theorem below_set {a m : World} {p : Addr} (h : Below a.heap.size a m) (hp : a.heap.size ≤ p.block) (v : Value) : Below a.heap.size a (m.setCell p v) := h.setCell hp v

theorem grownBy_trans_at {w W W' : World} {r : Option Nat} (h : w.grownBy W r) (k : Below w.heap.size W W') : w.grownBy W' r :=
  ⟨k.os.trans h.os, k.tape.trans h.tape, k.output.trans h.output, Nat.le_trans h.size k.size, fun i hi hne => (k.block i hi).trans (h.block i hi hne)⟩

structure PutInv (w1 : World) (T : List Nd) (L : List Str) (b k : Nat) (wx : World) : Prop where
  tree : ∃ T', TreeAt wx b T' ∧ dirs T' (L.take k) (L.dropLast.drop k) = dirs T [] L.dropLast
  grow : w1.grownBy wx (some b)

/-- A variable that holds a node. -/
structure VarAt (w : World) (b : Nat) (n : Nd) (dv : Value) : Prop where
  c0 : w.cell? ⟨b, 0, none⟩ = some (.string (bs n.path))
  c1 : w.cell? ⟨b, 1, none⟩ = some (.int .i64 n.kind)
  c2 : w.cell? ⟨b, 2, none⟩ = some (.int .i64 n.mode)
  c3 : w.cell? ⟨b, 3, none⟩ = some (.string (bs n.link))
  c4 : w.cell? ⟨b, 4, none⟩ = some dv
  f0 : w.frozen? ⟨b, 0, none⟩ = false
  f1 : w.frozen? ⟨b, 1, none⟩ = false
  f2 : w.frozen? ⟨b, 2, none⟩ = false
  f3 : w.frozen? ⟨b, 3, none⟩ = false
  f4 : w.frozen? ⟨b, 4, none⟩ = false

theorem varAt_of {w : World} {b : Nat} {n : Nd} {dv : Value} {t : TypeId} (h : w.heap[b]? = some (.cells #[.string (bs n.path), .int .i64 n.kind, .int .i64 n.mode, .string (bs n.link), dv] t (0, 0))) : VarAt w b n dv := by
  have hc : ∀ i, w.cell? ⟨b, i, none⟩ = #[.string (bs n.path), .int .i64 n.kind, .int .i64 n.mode, .string (bs n.link), dv][i]? := fun i => by rw [World.cell?]; simp only [h]; rfl
  have hf : ∀ i, w.frozen? ⟨b, i, none⟩ = false := fun i => by simp [World.frozen?, h]
  exact ⟨hc 0, hc 1, hc 2, hc 3, hc 4, hf 0, hf 1, hf 2, hf 3, hf 4⟩
theorem varAt_new (w : World) (n : Nd) (dv : Value) (t : TypeId) : VarAt (w.alloc (.cells #[.string (bs n.path), .int .i64 n.kind, .int .i64 n.mode, .string (bs n.link), dv] t)) w.heap.size n dv := varAt_of (heap_alloc_new _ _)
theorem VarAt.keep {w w' : World} {b : Nat} {n : Nd} {dv : Value} (h : VarAt w b n dv) (e : w'.heap[b]? = w.heap[b]?) : VarAt w' b n dv := by
  have hc : ∀ i, w'.cell? ⟨b, i, none⟩ = w.cell? ⟨b, i, none⟩ := fun i => World.cell?_of_block (a := ⟨b, i, none⟩) e
  have hf : ∀ i, w'.frozen? ⟨b, i, none⟩ = w.frozen? ⟨b, i, none⟩ := fun i => World.frozen?_of_block (a := ⟨b, i, none⟩) e
  exact ⟨(hc 0).trans h.c0, (hc 1).trans h.c1, (hc 2).trans h.c2, (hc 3).trans h.c3, (hc 4).trans h.c4, (hf 0).trans h.f0, (hf 1).trans h.f1, (hf 2).trans h.f2, (hf 3).trans h.f3, (hf 4).trans h.f4⟩
theorem VarAt.below {w w' : World} {b B : Nat} {n : Nd} {dv : Value} (h : VarAt w b n dv) (hb : Below B w w') (hB : b < B) : VarAt w' b n dv := h.keep (hb.block b hB)

theorem frozen_setCell (w : World) (p a : Addr) (v : Value) : (w.setCell p v).frozen? a = w.frozen? a := by simp

theorem VarAt.mode {w : World} {b : Nat} {n : Nd} {dv : Value} (h : VarAt w b n dv) (m : Int) : VarAt (w.setCell ⟨b, 2, none⟩ (.int .i64 m)) b { n with mode := m } dv := by
  have ho : ∀ i, i ≠ 2 → (w.setCell ⟨b, 2, none⟩ (.int .i64 m)).cell? ⟨b, i, none⟩ = w.cell? ⟨b, i, none⟩ := fun i hi => World.cell?_setCell_other _ _ _ _ (fun e => hi (by injection e with e1 e2 e3; exact e2.symm))
  exact ⟨(ho 0 (by decide)).trans h.c0, (ho 1 (by decide)).trans h.c1, World.cell?_setCell_same _ _ _ h.c2, (ho 3 (by decide)).trans h.c3, (ho 4 (by decide)).trans h.c4, by rw [frozen_setCell]; exact h.f0, by rw [frozen_setCell]; exact h.f1, by rw [frozen_setCell]; exact h.f2, by rw [frozen_setCell]; exact h.f3, by rw [frozen_setCell]; exact h.f4⟩

/-- The world behind a store of all five fields. -/
def set5 (w : World) (b : Nat) (n : Nd) (dv : Value) : World := ((((w.setCell ⟨b, 0, none⟩ (.string (bs n.path))).setCell ⟨b, 1, none⟩ (.int .i64 n.kind)).setCell ⟨b, 2, none⟩ (.int .i64 n.mode)).setCell ⟨b, 3, none⟩ (.string (bs n.link))).setCell ⟨b, 4, none⟩ dv
theorem ne_off {b i j : Nat} (h : i ≠ j) : (⟨b, i, none⟩ : Addr) ≠ ⟨b, j, none⟩ := fun e => h (by injection e)
theorem varAt_set5 {w : World} {b : Nat} {n0 : Nd} {d0 : Value} (h : VarAt w b n0 d0) (n : Nd) (dv : Value) : VarAt (set5 w b n dv) b n dv := by
  unfold set5
  refine ⟨?_, ?_, ?_, ?_, ?_, ?_, ?_, ?_, ?_, ?_⟩
  · rw [World.cell?_setCell_other _ _ _ _ (ne_off (by decide)), World.cell?_setCell_other _ _ _ _ (ne_off (by decide)), World.cell?_setCell_other _ _ _ _ (ne_off (by decide)), World.cell?_setCell_other _ _ _ _ (ne_off (by decide)), World.cell?_setCell_same _ _ _ h.c0]
  · rw [World.cell?_setCell_other _ _ _ _ (ne_off (by decide)), World.cell?_setCell_other _ _ _ _ (ne_off (by decide)), World.cell?_setCell_other _ _ _ _ (ne_off (by decide)), World.cell?_setCell_same (u := .int .i64 n0.kind)]
    rw [World.cell?_setCell_other _ _ _ _ (ne_off (by decide)), h.c1]
  · rw [World.cell?_setCell_other _ _ _ _ (ne_off (by decide)), World.cell?_setCell_other _ _ _ _ (ne_off (by decide)), World.cell?_setCell_same (u := .int .i64 n0.mode)]
    rw [World.cell?_setCell_other _ _ _ _ (ne_off (by decide)), World.cell?_setCell_other _ _ _ _ (ne_off (by decide)), h.c2]
  · rw [World.cell?_setCell_other _ _ _ _ (ne_off (by decide)), World.cell?_setCell_same (u := .string (bs n0.link))]
    rw [World.cell?_setCell_other _ _ _ _ (ne_off (by decide)), World.cell?_setCell_other _ _ _ _ (ne_off (by decide)), World.cell?_setCell_other _ _ _ _ (ne_off (by decide)), h.c3]
  · rw [World.cell?_setCell_same (u := d0)]
    rw [World.cell?_setCell_other _ _ _ _ (ne_off (by decide)), World.cell?_setCell_other _ _ _ _ (ne_off (by decide)), World.cell?_setCell_other _ _ _ _ (ne_off (by decide)), World.cell?_setCell_other _ _ _ _ (ne_off (by decide)), h.c4]
  · simp only [frozen_setCell]; exact h.f0
  · simp only [frozen_setCell]; exact h.f1
  · simp only [frozen_setCell]; exact h.f2
  · simp only [frozen_setCell]; exact h.f3
  · simp only [frozen_setCell]; exact h.f4
theorem bytes_set5 {w : World} {b : Nat} {n0 : Nd} {d0 : Value} (h : VarAt w b n0 d0) (hd : ∀ m, d0 ≠ .int .u8 m) (n : Nd) (dv : Value) {B : Nat} {v : Value} {l : Str} (hb : BytesAt w B v l) : BytesAt (set5 w b n dv) B v l := by
  obtain ⟨A, c, e, hc, hf⟩ := hb
  refine ⟨A, c, e, hc, fun hn => ?_⟩
  obtain ⟨g, o, e, hB, hf⟩ := hf hn
  refine ⟨g, o, e, hB, fun i s hs => ?_⟩
  have h1 := hf i s hs
  have hne : ∀ j u, w.cell? ⟨b, j, none⟩ = some u → (∀ m, u ≠ .int .u8 m) → (⟨b, j, none⟩ : Addr) ≠ ⟨g, o + i, none⟩ := fun j u hj hu e2 => by
    rw [e2, h1] at hj
    exact hu _ (Option.some.inj hj).symm
  unfold set5
  rw [World.cell?_setCell_other _ _ _ _ (hne 4 _ h.c4 hd), World.cell?_setCell_other _ _ _ _ (hne 3 _ h.c3 (fun _ h => by cases h)), World.cell?_setCell_other _ _ _ _ (hne 2 _ h.c2 (fun _ h => by cases h)), World.cell?_setCell_other _ _ _ _ (hne 1 _ h.c1 (fun _ h => by cases h)), World.cell?_setCell_other _ _ _ _ (hne 0 _ h.c0 (fun _ h => by cases h))]
  exact h1
theorem TreeAt.setCell {w : World} {b : Nat} {T : List Nd} (h : TreeAt w b T) {p : Addr} {u : Value} (hp : w.cell? p = some u) (hu : ∀ m, u ≠ .int .u8 m) (hb : p.block ≠ b) (x : Value) : TreeAt (w.setCell p x) b T := by
  obtain ⟨L, h, e, hd⟩ := h
  refine ⟨L, h.keep (Below.heap_setCell _ _ _ _ (fun e => hb e.symm)), e, fun n hn => ?_⟩
  obtain ⟨dv, hm, hB⟩ := hd n hn
  exact ⟨dv, hm, (bytes_setCell hB hp hu x).more (by simp)⟩

theorem nodeOf_hard_none {T : List Nd} {c : Ch} (h4 : (c.nkind == 4) = true) (h : Pa.look T c.link = none) : nodeOf T c = none := by
  unfold nodeOf; rw [if_pos (by simpa using h4), h]
theorem nodeOf_hard_bad {T : List Nd} {c : Ch} {m : Nd} (h4 : (c.nkind == 4) = true) (h : Pa.look T c.link = some m) (h1 : (m.kind == 1) = false) : nodeOf T c = none := by
  unfold nodeOf; rw [if_pos (by simpa using h4), h]; simp only; rw [if_neg (by simpa using h1)]
theorem nodeOf_hard {T : List Nd} {c : Ch} {m : Nd} (h4 : (c.nkind == 4) = true) (h : Pa.look T c.link = some m) (h1 : (m.kind == 1) = true) : nodeOf T c = some ⟨c.path, 1, m.mode, [], m.data⟩ := by
  unfold nodeOf; rw [if_pos (by simpa using h4), h]; simp only; rw [if_pos (by simpa using h1)]
theorem nodeOf_link {T : List Nd} {c : Ch} (h4 : (c.nkind == 4) = false) (h3 : (c.nkind == 3) = true) : nodeOf T c = some ⟨c.path, c.nkind, 511, c.link, c.data⟩ := by
  unfold nodeOf; rw [if_neg (by simpa using h4), if_pos (by simpa using h3)]
theorem nodeOf_other {T : List Nd} {c : Ch} (h4 : (c.nkind == 4) = false) (h3 : (c.nkind == 3) = false) : nodeOf T c = some ⟨c.path, c.nkind, c.mode, c.link, c.data⟩ := by
  unfold nodeOf; rw [if_neg (by simpa using h4), if_neg (by simpa using h3)]
theorem place_del {T : List Nd} {n : Nd} (h : ¬ (n.kind = 2 ∧ kindAt T n.path = 2)) : place T n = setN (delBelow T n.path) n := by unfold place; rw [if_neg h]
theorem place_keep {T : List Nd} {n : Nd} (h : n.kind = 2) (h2 : kindAt T n.path = 2) : place T n = setN T n := by unfold place; rw [if_pos ⟨h, h2⟩]
theorem names_path {p x : Str} {L : List Str} (h : names p = x :: L) : p.length ≤ 255 := by
  unfold names at h
  cases hs : splitP p with
  | none => rw [hs] at h; cases h
  | some l => exact (splitP_some hs).2.2.2

/-- What is known between two steps of put's last part. -/
structure PutSt (w W : World) (b B0 nb : Nat) (p : Str) (T : List Nd) (kd md : Int) (lk dt : Str) (dv : Value) : Prop where
  grow : w.grownBy W (some b)
  tree : TreeAt W b T
  var : VarAt W nb ⟨p, kd, md, lk, dt⟩ dv
  bytes : BytesAt W W.heap.size dv dt
  box : W.cell? ⟨B0, 1, none⟩ = some (.string (bs p))
  boxlt : B0 < W.heap.size
  nblt : nb < W.heap.size
  nbb : nb ≠ b
  boxb : B0 ≠ b
  nbbox : nb ≠ B0

theorem PutSt.grown {w W W' : World} {b B0 nb : Nat} {p : Str} {T T' : List Nd} {kd md : Int} {lk dt : Str} {dv : Value} (h : PutSt w W b B0 nb p T kd md lk dt dv) (hg : W.grownBy W' (some b)) (hT : TreeAt W' b T') : PutSt w W' b B0 nb p T' kd md lk dt dv :=
  ⟨grownBy_trans h.grow hg, hT, h.var.keep (hg.block _ h.nblt (fun e => h.nbb (Option.some.inj e))), bytes_grown hg h.tree.nocell h.bytes, (World.cell?_of_block (w := W) (hg.block B0 h.boxlt (fun e => h.boxb (Option.some.inj e)))).trans h.box, Nat.lt_of_lt_of_le h.boxlt hg.size, Nat.lt_of_lt_of_le h.nblt hg.size, h.nbb, h.boxb, h.nbbox⟩
theorem PutSt.below {w W W' : World} {b B0 nb : Nat} {p : Str} {T : List Nd} {kd md : Int} {lk dt : Str} {dv : Value} (h : PutSt w W b B0 nb p T kd md lk dt dv) (hb : Below W.heap.size W W') : PutSt w W' b B0 nb p T kd md lk dt dv :=
  h.grown (grownBy_below (World.grownBy_self _ _) hb) (h.tree.grow hb)
theorem PutSt.alloc {w W : World} {b B0 nb : Nat} {p : Str} {T : List Nd} {kd md : Int} {lk dt : Str} {dv : Value} (h : PutSt w W b B0 nb p T kd md lk dt dv) (o : Obj) : PutSt w (W.alloc o) b B0 nb p T kd md lk dt dv :=
  h.below ((Below.refl _ _).alloc (Nat.le_refl _) _)

theorem grownBy_setCell {w W : World} {r : Option Nat} (h : w.grownBy W r) {p : Addr} (hp : w.heap.size ≤ p.block) (x : Value) : w.grownBy (W.setCell p x) r :=
  grownBy_trans_at h (Below.setCell (B := w.heap.size) (Below.refl _ _) hp x)

theorem PutSt.mode {w W : World} {b B0 nb : Nat} {p : Str} {T : List Nd} {kd md : Int} {lk dt : Str} {dv : Value} (h : PutSt w W b B0 nb p T kd md lk dt dv) (hnb : w.heap.size ≤ nb) (m : Int) : PutSt w (W.setCell ⟨nb, 2, none⟩ (.int .i64 m)) b B0 nb p T kd m lk dt dv :=
  ⟨grownBy_setCell h.grow hnb _, h.tree.setCell h.var.c2 (fun _ h => by cases h) h.nbb _, h.var.mode m, (bytes_setCell h.bytes h.var.c2 (fun _ h => by cases h) _).more (by simp), (World.cell?_setCell_other _ _ _ _ (fun e => h.nbbox (by injection e))).trans h.box, by simpa using h.boxlt, by simpa using h.nblt, h.nbb, h.boxb, h.nbbox⟩

/-- The world behind a store of all fields but the path. -/
def set4 (w : World) (b : Nat) (k m : Int) (l : ByteArray) (dv : Value) : World := (((w.setCell ⟨b, 1, none⟩ (.int .i64 k)).setCell ⟨b, 2, none⟩ (.int .i64 m)).setCell ⟨b, 3, none⟩ (.string l)).setCell ⟨b, 4, none⟩ dv

theorem varAt_set4 {w : World} {b : Nat} {n0 : Nd} {d0 : Value} (h : VarAt w b n0 d0) (k m : Int) (l d : Str) (dv : Value) : VarAt (set4 w b k m (bs l) dv) b ⟨n0.path, k, m, l, d⟩ dv := by
  unfold set4
  refine ⟨?_, ?_, ?_, ?_, ?_, ?_, ?_, ?_, ?_, ?_⟩
  · rw [World.cell?_setCell_other _ _ _ _ (ne_off (by decide)), World.cell?_setCell_other _ _ _ _ (ne_off (by decide)), World.cell?_setCell_other _ _ _ _ (ne_off (by decide)), World.cell?_setCell_other _ _ _ _ (ne_off (by decide)), h.c0]
  · rw [World.cell?_setCell_other _ _ _ _ (ne_off (by decide)), World.cell?_setCell_other _ _ _ _ (ne_off (by decide)), World.cell?_setCell_other _ _ _ _ (ne_off (by decide)), World.cell?_setCell_same _ _ _ h.c1]
  · rw [World.cell?_setCell_other _ _ _ _ (ne_off (by decide)), World.cell?_setCell_other _ _ _ _ (ne_off (by decide)), World.cell?_setCell_same (u := .int .i64 n0.mode)]
    rw [World.cell?_setCell_other _ _ _ _ (ne_off (by decide)), h.c2]
  · rw [World.cell?_setCell_other _ _ _ _ (ne_off (by decide)), World.cell?_setCell_same (u := .string (bs n0.link))]
    rw [World.cell?_setCell_other _ _ _ _ (ne_off (by decide)), World.cell?_setCell_other _ _ _ _ (ne_off (by decide)), h.c3]
  · rw [World.cell?_setCell_same (u := d0)]
    rw [World.cell?_setCell_other _ _ _ _ (ne_off (by decide)), World.cell?_setCell_other _ _ _ _ (ne_off (by decide)), World.cell?_setCell_other _ _ _ _ (ne_off (by decide)), h.c4]
  · simp only [frozen_setCell]; exact h.f0
  · simp only [frozen_setCell]; exact h.f1
  · simp only [frozen_setCell]; exact h.f2
  · simp only [frozen_setCell]; exact h.f3
  · simp only [frozen_setCell]; exact h.f4
theorem PutSt.fields {w W : World} {b B0 nb : Nat} {p : Str} {T : List Nd} {kd md : Int} {lk dt : Str} {dv : Value} (h : PutSt w W b B0 nb p T kd md lk dt dv) (hnb : w.heap.size ≤ nb) (hd : ∀ m, dv ≠ .int .u8 m) (k m : Int) (l d : Str) (dx : Value) (hx : BytesAt W W.heap.size dx d) : PutSt w (set4 W nb k m (bs l) dx) b B0 nb p T k m l d dx := by
  have n2 : (W.setCell ⟨nb, 1, none⟩ (.int .i64 k)).cell? ⟨nb, 2, none⟩ = some (.int .i64 md) := (World.cell?_setCell_other _ _ _ _ (ne_off (by decide))).trans h.var.c2
  have n3 : ((W.setCell ⟨nb, 1, none⟩ (.int .i64 k)).setCell ⟨nb, 2, none⟩ (.int .i64 m)).cell? ⟨nb, 3, none⟩ = some (.string (bs lk)) := (World.cell?_setCell_other _ _ _ _ (ne_off (by decide))).trans ((World.cell?_setCell_other _ _ _ _ (ne_off (by decide))).trans h.var.c3)
  have n4 : (((W.setCell ⟨nb, 1, none⟩ (.int .i64 k)).setCell ⟨nb, 2, none⟩ (.int .i64 m)).setCell ⟨nb, 3, none⟩ (.string (bs l))).cell? ⟨nb, 4, none⟩ = some dv := (World.cell?_setCell_other _ _ _ _ (ne_off (by decide))).trans ((World.cell?_setCell_other _ _ _ _ (ne_off (by decide))).trans ((World.cell?_setCell_other _ _ _ _ (ne_off (by decide))).trans h.var.c4))
  have hsz : (set4 W nb k m (bs l) dx).heap.size = W.heap.size := by unfold set4; simp
  refine ⟨?_, ?_, varAt_set4 h.var k m l d dx, ?_, ?_, by rw [hsz]; exact h.boxlt, by rw [hsz]; exact h.nblt, h.nbb, h.boxb, h.nbbox⟩
  · exact grownBy_setCell (grownBy_setCell (grownBy_setCell (grownBy_setCell h.grow hnb _) hnb _) hnb _) hnb _
  · exact (((h.tree.setCell h.var.c1 (fun _ h => by cases h) h.nbb _).setCell n2 (fun _ h => by cases h) h.nbb _).setCell n3 (fun _ h => by cases h) h.nbb _).setCell n4 hd h.nbb _
  · rw [hsz]
    exact bytes_setCell (bytes_setCell (bytes_setCell (bytes_setCell hx h.var.c1 (fun _ h => by cases h) _) n2 (fun _ h => by cases h) _) n3 (fun _ h => by cases h) _) n4 hd _
  · have hne : ∀ j, (⟨nb, j, none⟩ : Addr) ≠ ⟨B0, 1, none⟩ := fun j e => h.nbbox (by injection e)
    unfold set4
    rw [World.cell?_setCell_other _ _ _ _ (hne 4), World.cell?_setCell_other _ _ _ _ (hne 3), World.cell?_setCell_other _ _ _ _ (hne 2), World.cell?_setCell_other _ _ _ _ (hne 1)]
    exact h.box

theorem PutSt.update {w W : World} {b B0 nb : Nat} {p : Str} {T : List Nd} {kd md : Int} {lk dt : Str} {dv : Value} (h : PutSt w W b B0 nb p T kd md lk dt dv) :
    ∃ W', (Instr.mapUpdate 68 (.map (some b)) (.string (bs p)) (.agg #[.string (bs p), .int .i64 kd, .int .i64 md, .string (bs lk), dv])).run Tryz.prog W = .ok () W' ∧ TreeAt W' b (setN T ⟨p, kd, md, lk, dt⟩) ∧ w.grownBy W' (some b) := by
  obtain ⟨W', hup, hT, hg, _⟩ := h.tree.update ⟨p, kd, md, lk, dt⟩ dv h.bytes
  exact ⟨W', hup, hT, grownBy_trans h.grow hg⟩
theorem PutSt.cells {w W : World} {b B0 nb : Nat} {p : Str} {T : List Nd} {kd md : Int} {lk dt : Str} {dv : Value} (h : PutSt w W b B0 nb p T kd md lk dt dv) :
    W.cell? ⟨nb, 0, none⟩ = some (.string (bs p)) ∧ W.cell? ⟨nb, 1, none⟩ = some (.int .i64 kd) ∧ W.cell? ⟨nb, 2, none⟩ = some (.int .i64 md) ∧ W.cell? ⟨nb, 3, none⟩ = some (.string (bs lk)) ∧ W.cell? ⟨nb, 4, none⟩ = some dv ∧ W.cell? ⟨B0, 1, none⟩ = some (.string (bs p)) :=
  ⟨h.var.c0, h.var.c1, h.var.c2, h.var.c3, h.var.c4, h.box⟩
theorem kindAt_none {T : List Nd} {p : Str} (h : Pa.look T p = none) : kindAt T p ≠ 2 := by unfold kindAt; rw [h]; decide
theorem kindAt_some {T : List Nd} {p : Str} {m : Nd} (h : Pa.look T p = some m) : kindAt T p = m.kind := by unfold kindAt; rw [h]; rfl

end Go.Proofs.YtjolgckkoidhgaaGreatDoor
