/-
  A disk in memory; the walks over the reading of a sector.
  The walks over fsys's must and do: something is done, till it gives up.
  A log of groups of pages in memory; the walks over Pages, Capacity, the reading of a page.
  A cache of pages in memory; the walks over its small functions.
  DERIVED: THE SHELF's CONTRACTS AT THIS DUMP, IN PLAIN WORDS (tools/lay-plain.mjs out of 'YtakmplpfjcddiaaGreatDoorShelfC.lean', which tools/lay-shelf.mjs wrote)
  The walk over the cache's drop: a clean page goes.
  The walk over the cache's Read: a page as it is now.
  The walk over the cache's Write: a page is another one, if there is room.
  DERIVED: THE SHELF's CONTRACTS AT THIS DUMP, IN PLAIN WORDS (tools/lay-plain.mjs out of 'YtakmplpfjcddiaaGreatDoorShelfD.lean', which tools/lay-shelf.mjs wrote)
  One step of a range over a map.
  The walks over a disk's writes: what is done with it.
-/
import Derived.Test.YtakmplpfjcddiaaGreatDoorG0
import Derived.Tactics
import Derived.Tactics2
import Derived.Defers
import Derived.Recover
import Derived.Laws.Pointers
import Derived.Lib.Hide
import Derived.Deep.QuietTactic
import Derived.BigQuiet
import Derived.Deep.RegionHeld3
import Derived.Shelf.SlicesE.DeleteFunc
import Derived.Ground.SlgfProg
import Derived.Shelf.SlIterI.Sorted
import Derived.Ground.GgzProg
import Derived.Lib.SliceRun
import Derived.Deep.RegionLaw
import Derived.Sort.OwnSortedInts
import Derived.Maps.AppendAt
import Derived.Shelf.SlicesE.Clone
import Derived.Ground.SlgnProg
import Derived.Shelf.SlicesE.IndexFunc
import Derived.MapKept
import Derived.ChangeMaps5
import Derived.Maps.RangeRun
import Derived.OwnWalk
import Derived.Deep.LoopGhost
import Derived.ArgAppend
import Derived.BigRegion
import Derived.Deep.RegionWith
import Derived.Deep.AppendLies
set_option linter.unusedVariables false
set_option linter.unusedSimpArgs false
set_option linter.deprecated false
namespace Go.Proofs.YtakmplpfjcddiaaGreatDoor
open Go.RowKit Go.Shelf Pa
attribute [local go_sem] bs_toList bs_size
/-- What was done with a disk: a write of a sector, a flush. -/
inductive DOp where
  | write (n : Nat) (b : Str)
  | flush
/-- A disk: its first sectors, what was done, what is safe, and the writes that wait (of each sector at most one). -/
structure Dk where
  first : List Str
  ops : List DOp
  safe : List Str
  wait : List (Nat × Str)
/-- A sector as it is read. -/
def Dk.rd (D : Dk) (n : Nat) : Str := match pget D.wait n with | some b => b | none => D.safe.getD n []
/-- Bytes in a row of the call's own, from block B on. -/
def OwnB (w : World) (B : Nat) (v : Value) (l : Str) : Prop := w.ownsRow B 5 1 v l.length (l.map (fun x => Value.int .u8 (UInt8.toNat x)))
theorem OwnB.bytes {w : World} {B : Nat} {v : Value} {l : Str} (h : OwnB w B v l) (hl : l.length ≤ 140737488355328) : BytesI w (fun k => v.ownBlock = some k) v l := by
  obtain ⟨_, h⟩ := id h
  rcases h with ⟨rfl, h0⟩ | ⟨g, cap, cur, rfl, hB, hg, hc, hm, hs, ht⟩
  · have : l = [] := List.length_eq_zero_iff.1 h0
    subst this
    exact BytesI.nil _ _ _ _
  · refine ⟨_, cap, rfl, ⟨hc, hl⟩, fun _ => ⟨g, 0, rfl, ⟨(Array.getElem?_eq_some_iff.1 hg).1, rfl⟩, fun i x hx => ?_⟩⟩
    have h2 : (cur.toList.take (l.length * 1))[i]? = some (Value.int .u8 (UInt8.toNat x)) := by rw [ht, List.getElem?_map, hx]; rfl
    have hi : i < l.length := (List.getElem?_eq_some_iff.1 hx).1
    rw [List.getElem?_take_of_lt (by omega)] at h2
    rw [World.cell?]
    simp only [hg, Nat.zero_add]
    simpa using h2
theorem OwnB.block {w : World} {B : Nat} {v : Value} {l : Str} (h : OwnB w B v l) {k : Nat} (e : v.ownBlock = some k) : B ≤ k ∧ k < w.heap.size := World.ownsRow.lt h k e
theorem OwnB.off {w w' : World} {B : Nat} {v : Value} {l : Str} {M : Nat → Prop} (h : OwnB w B v l) (ho : Off M w w') (hm : ∀ k, v.ownBlock = some k → ¬ M k) : OwnB w' B v l := by
  obtain ⟨h1, h⟩ := id h
  refine ⟨h1, ?_⟩
  rcases h with hn | ⟨g, cap, cur, rfl, hB, hg, hr⟩
  · exact .inl hn
  · refine .inr ⟨g, cap, cur, rfl, hB, ?_, hr⟩
    rw [ho.block g (Array.getElem?_eq_some_iff.1 hg).1 (hm g rfl)]
    exact hg
theorem cloneI_any (dv : Value) (l : Str) (w : World) (h : BytesAt w w.heap.size dv l) :
    Calls Tryz.prog 195 #[dv] w fun e w' => ∃ v', e = .returned v' ∧ OwnB w' w.heap.size v' l ∧ Below w.heap.size w w' := by
  obtain ⟨A, c, rfl, ⟨hc, hl⟩, hf⟩ := h
  cases A with
  | none =>
    have hl0 : l = [] := by
      cases l with
      | nil => rfl
      | cons x t => obtain ⟨b, o, e, _⟩ := hf (by simp); cases e
    subst hl0
    refine (Tryz.bytes_Clone_nil _ c w).mono ?_
    rintro e w' ⟨rfl, hw⟩
    obtain rfl := hw.symm
    exact ⟨_, rfl, World.ownsRow_nil _ _ _ _, Below.refl _ _⟩
  | some a =>
    refine (Tryz.bytes_Clone_at a l.length c (l.map (fun x => ((UInt8.toNat x : Nat) : Int))) w (by simp) hl ?_).mono ?_
    · intro i hi
      obtain ⟨b, o, e, hB, h3⟩ := hf (by rintro rfl; simp at hi)
      cases e
      rw [byte_getD l i hi]
      have h4 := h3 i _ (List.getElem?_eq_getElem hi)
      unfold Addr.add
      split
      · rename_i h0; subst h0; exact h4
      · exact h4
    · rintro e w' ⟨v', rfl, ho, _, hb⟩
      refine ⟨v', rfl, ?_, hb⟩
      have e1 : (l.map (fun x => ((UInt8.toNat x : Nat) : Int))).map (Value.int .u8) = l.map (fun x => Value.int .u8 (UInt8.toNat x)) := by rw [List.map_map]; rfl
      rw [e1] at ho
      exact ho
/-- A row of slices of bytes: the row in a block of M, the bytes in blocks of I. -/
def RowsB (w : World) (M I : Nat → Prop) (v : Value) (L : List Str) : Prop :=
  ∃ b c cs, v = .slice (some ⟨b, 0, none⟩) L.length c ∧ (L.length ≤ c ∧ c ≤ cs.size ∧ L.length ≤ 4096) ∧ M b ∧ w.heap[b]? = some (.cells cs 37 (0, 0)) ∧ ∀ (i : Nat) (x : Str), L[i]? = some x → ∃ u, cs[i]? = some u ∧ BytesI w I u x
theorem RowsB.off {w w' : World} {M I J : Nat → Prop} {v : Value} {L : List Str} (h : RowsB w M I v L) (ho : Off J w w') (hm : ∀ k, M k → ¬ J k) (hi : ∀ k, I k → ¬ J k) : RowsB w' M I v L := by
  obtain ⟨b, c, cs, e, hc, hM, hb, h⟩ := h
  refine ⟨b, c, cs, e, hc, hM, (ho.block b (Array.getElem?_eq_some_iff.1 hb).1 (hm b hM)).trans hb, fun i x hx => ?_⟩
  obtain ⟨u, hu, hB⟩ := h i x hx
  exact ⟨u, hu, hB.off ho hi⟩
theorem RowsB.mono {w : World} {M I M' I' : Nat → Prop} {v : Value} {L : List Str} (h : RowsB w M I v L) (hm : ∀ k, M k → M' k) (hi : ∀ k, I k → I' k) : RowsB w M' I' v L := by
  obtain ⟨b, c, cs, e, hc, hM, hb, h⟩ := h
  refine ⟨b, c, cs, e, hc, hm b hM, hb, fun i x hx => ?_⟩
  obtain ⟨u, hu, hB⟩ := h i x hx
  exact ⟨u, hu, hB.mono fun k hk _ => hi k hk⟩
/-- A list of writes that waits: just one. -/
def OneB (w : World) (I : Nat → Prop) (v : Value) (x : Str) : Prop :=
  ∃ g c u, v = .slice (some ⟨g, 0, none⟩) 1 c ∧ (1 ≤ c ∧ I g ∧ g < w.heap.size) ∧ w.cell? ⟨g, 0, none⟩ = some u ∧ BytesI w I u x
theorem OneB.off {w w' : World} {I J : Nat → Prop} {v : Value} {x : Str} (h : OneB w I v x) (ho : Off J w w') (hi : ∀ k, I k → ¬ J k) : OneB w' I v x := by
  obtain ⟨g, c, u, e, ⟨hc, hI, hg⟩, hu, hB⟩ := h
  exact ⟨g, c, u, e, ⟨hc, hI, Nat.lt_of_lt_of_le hg ho.size⟩, (ho.cell (p := ⟨g, 0, none⟩) hg (hi g hI)).trans hu, hB.off ho hi⟩
theorem OneB.mono {w : World} {I I' : Nat → Prop} {v : Value} {x : Str} (h : OneB w I v x) (hi : ∀ k, I k → I' k) : OneB w I' v x := by
  obtain ⟨g, c, u, e, ⟨hc, hI, hg⟩, hu, hB⟩ := h
  exact ⟨g, c, u, e, ⟨hc, hi g hI, hg⟩, hu, hB.mono fun k hk _ => hi k hk⟩
/-- What was done, in memory: a row of values of the interface. -/
def OpB (w : World) (I : Nat → Prop) : Value → DOp → Prop
  | u, .write n b => ∃ v, u = .iface 155 (.agg #[.int .i64 n, v]) ∧ BytesI w I v b
  | u, .flush => u = .iface 157 (.agg #[])
def OpsB (w : World) (I : Nat → Prop) (v : Value) (l : List DOp) : Prop :=
  ∃ A c, v = .slice A l.length c ∧ (l.length ≤ c ∧ l.length ≤ 1000000000) ∧ (l ≠ [] → ∃ b o, A = some ⟨b, o, none⟩ ∧ (b < w.heap.size ∧ I b) ∧ ∀ (i : Nat) (x : DOp), l[i]? = some x → ∃ u, w.cell? ⟨b, o + i, none⟩ = some u ∧ OpB w I u x)
theorem OpB.off {w w' : World} {I J : Nat → Prop} {u : Value} {x : DOp} (h : OpB w I u x) (ho : Off J w w') (hi : ∀ k, I k → ¬ J k) : OpB w' I u x := by
  cases x with
  | write n b => obtain ⟨v, e, h⟩ := h; exact ⟨v, e, h.off ho hi⟩
  | flush => exact h
theorem OpB.mono {w : World} {I I' : Nat → Prop} {u : Value} {x : DOp} (h : OpB w I u x) (hi : ∀ k, I k → I' k) : OpB w I' u x := by
  cases x with
  | write n b => obtain ⟨v, e, h⟩ := h; exact ⟨v, e, h.mono fun k hk _ => hi k hk⟩
  | flush => exact h
theorem OpsB.off {w w' : World} {I J : Nat → Prop} {v : Value} {l : List DOp} (h : OpsB w I v l) (ho : Off J w w') (hi : ∀ k, I k → ¬ J k) : OpsB w' I v l := by
  obtain ⟨A, c, e, hc, h⟩ := h
  refine ⟨A, c, e, hc, fun hn => ?_⟩
  obtain ⟨b, o, e, ⟨hb, hI⟩, h⟩ := h hn
  refine ⟨b, o, e, ⟨Nat.lt_of_lt_of_le hb ho.size, hI⟩, fun i x hx => ?_⟩
  obtain ⟨u, hu, h1⟩ := h i x hx
  exact ⟨u, (ho.cell (p := ⟨b, o + i, none⟩) hb (hi b hI)).trans hu, h1.off ho hi⟩
theorem OpsB.mono {w : World} {I I' : Nat → Prop} {v : Value} {l : List DOp} (h : OpsB w I v l) (hi : ∀ k, I k → I' k) : OpsB w I' v l := by
  obtain ⟨A, c, e, hc, h⟩ := h
  refine ⟨A, c, e, hc, fun hn => ?_⟩
  obtain ⟨b, o, e, ⟨hb, hI⟩, h⟩ := h hn
  refine ⟨b, o, e, ⟨hb, hi b hI⟩, fun i x hx => ?_⟩
  obtain ⟨u, hu, h1⟩ := h i x hx
  exact ⟨u, hu, h1.mono hi⟩
/-- A disk that is as it must be. -/
structure Dk.Ok (D : Dk) : Prop where
  len : D.safe.length = D.first.length
  few : 1 ≤ D.first.length ∧ D.first.length ≤ 4096
  first : ∀ x ∈ D.first, x.length = 512
  safe : ∀ x ∈ D.safe, x.length = 512
  wait : ∀ p ∈ D.wait, p.1 < D.first.length ∧ p.2.length = 512
theorem Dk.Ok.rd {D : Dk} (h : D.Ok) {n : Nat} (hn : n < D.first.length) : (D.rd n).length = 512 := by
  unfold Dk.rd
  cases hg : pget D.wait n with
  | some b => exact (h.wait _ (pget_some hg).1).2
  | none =>
    have : n < D.safe.length := by rw [h.len]; exact hn
    simp only
    rw [List.getD_eq_getElem?_getD, List.getElem?_eq_getElem this]
    exact h.safe _ (List.getElem_mem _)
/-- Block a is a disk. -/
structure DiskAt (w : World) (a : Nat) (D : Dk) (R : Reg) : Prop where
  apart : ∀ k, R.m k → ¬ R.i k
  lt : ∀ k, R.has k → k < w.heap.size
  ok : D.Ok
  cells : ∃ fv lv sv mb, w.heap[a]? = some (.cells #[fv, lv, sv, .map (some mb)] 150 (0, 0)) ∧ (R.m a ∧ R.m mb ∧ a ≠ mb) ∧ RowsB w R.i R.i fv D.first ∧ OpsB w R.i lv D.ops ∧ RowsB w (fun k => R.m k ∧ k ≠ a ∧ k ≠ mb) R.i sv D.safe ∧ MapB (OneB w R.i) w mb D.wait
theorem DiskAt.off {w w' : World} {a : Nat} {D : Dk} {R : Reg} {J : Nat → Prop} (h : DiskAt w a D R) (ho : Off J w w') (hd : ∀ k, R.has k → ¬ J k) : DiskAt w' a D R := by
  obtain ⟨h1, h2, h3, fv, lv, sv, mb, h4, ⟨h5, h6, h7⟩, h8, h9, h10, h11⟩ := h
  have hi : ∀ k, R.i k → ¬ J k := fun k hk => hd k (.inr hk)
  exact ⟨h1, fun k hk => Nat.lt_of_lt_of_le (h2 k hk) ho.size, h3, fv, lv, sv, mb, (ho.block a (h2 a (.inl h5)) (hd a (.inl h5))).trans h4, ⟨h5, h6, h7⟩, h8.off ho hi hi, h9.off ho hi, h10.off ho (fun k hk => hd k (.inl hk.1)) hi, h11.mono (ho.block mb (h2 mb (.inl h6)) (hd mb (.inl h6))) (fun _ _ h => h.off ho hi)⟩
theorem cell_of_heap {w : World} {a : Nat} {cs : Array Value} {t : TypeId} {f : Nat × Nat} (h : w.heap[a]? = some (.cells cs t f)) (i : Nat) : w.cell? ⟨a, i, none⟩ = cs[i]? := by
  rw [World.cell?]; simp only [h]; rfl
theorem free_of_heap {w : World} {a : Nat} {cs : Array Value} {t : TypeId} (h : w.heap[a]? = some (.cells cs t (0, 0))) (i : Nat) : w.frozen? ⟨a, i, none⟩ = false := by
  simp [World.frozen?, h]
theorem heap_setCell_at (w : World) (a i : Nat) (v : Value) {cs : Array Value} {t : TypeId} {f : Nat × Nat} (h : w.heap[a]? = some (.cells cs t f)) : (w.setCell ⟨a, i, none⟩ v).heap[a]? = some (.cells (cs.setIfInBounds i v) t f) := by
  simp [World.setCell, Array.getElem?_modify, h]
theorem ownsRow_slice {w : World} {base n size : Nat} {e : TypeId} {v : Value} {xs : List Value} (h : w.ownsRow base e size v n xs) : ∃ A c, v = .slice A n c := by
  rcases h.2 with ⟨rfl, rfl⟩ | ⟨g, cap, cur, rfl, _⟩
  · exact ⟨none, 0, rfl⟩
  · exact ⟨_, cap, rfl⟩
theorem ownsRow_some {w : World} {base n : Nat} {e : TypeId} {v : Value} {xs : List Value} (h : w.ownsRow base e 1 v (n + 1) xs) : ∃ g c, v = .slice (some ⟨g, 0, none⟩) (n + 1) c ∧ ∀ i u, xs[i]? = some u → w.cell? ⟨g, i, none⟩ = some u := by
  obtain ⟨h1, h2⟩ := h
  rcases h2 with ⟨_, h2⟩ | ⟨g, cap, cur, rfl, hB, hg, hr1, hr2, hr3, hr4⟩
  · omega
  · refine ⟨g, cap, rfl, fun i u hu => ?_⟩
    have hi : i < xs.length := (List.getElem?_eq_some_iff.1 hu).1
    rw [← hr4, List.getElem?_take_of_lt (by omega), Array.getElem?_toList] at hu
    rw [cell_of_heap hg]; exact hu
theorem rows_zero (w : World) : (zeroValue 141).run Tryz.prog w = .ok (.slice none 0 0) w := by kernel_rfl
set_option maxHeartbeats 1000000 in
/-- (*sectors).read: a sector's bytes, as they lie. -/
theorem sread_any (n : Nat) (a : Nat) (D : Dk) (R : Reg) (w : World) (h : DiskAt w a D R) (hn : n < D.first.length) :
    Calls Tryz.prog 285 #[.pointer (some ⟨a, 2, none⟩), .int .i64 n] w fun e w' => ∃ v, e = .returned v ∧ BytesI w R.i v (D.rd n) ∧ w = w' := by
  obtain ⟨h1, h2, h3, fv, lv, sv, mb, h4, ⟨h5, h6, h7⟩, h8, h9, ⟨sb, sc, cs, rfl, ⟨hsc, hcs, hs4⟩, hsm, hsb, hsx⟩, hL⟩ := h
  have c2 : w.cell? ⟨a, 2, none⟩ = some (.slice (some ⟨sb, 0, none⟩) D.safe.length sc) := cell_of_heap h4 2
  have c3 : w.cell? ⟨a, 3, none⟩ = some (.map (some mb)) := cell_of_heap h4 3
  have hlen : n < D.safe.length := by rw [h3.len]; exact hn
  obtain ⟨u, hu, hB⟩ := hsx n _ (List.getElem?_eq_getElem hlen)
  have hcell := cell_of_heap hsb n
  rw [hu] at hcell
  have hlenI : (n : Int) < (D.safe.length : Int) := by omega
  rcases MapB.lookup Tryz.underlying146 Tryz.underlying3 rows_zero hL n with ⟨_, e1, hlo, _⟩ | ⟨x, v, _, e1, ⟨g, c, u', rfl, ⟨hc, hI, hg⟩, hu', hB'⟩, hlo, _⟩
  · have hrd : D.rd n = D.safe[n] := by unfold Dk.rd; rw [e1]; simp only; rw [List.getD_eq_getElem?_getD, List.getElem?_eq_getElem hlen]; rfl
    rw [← hrd] at hB
    have HB := Lib.hid hB
    clear hB hrd e1 hsx hsb h4 h8 h9 hL hu h3 h5 h6 hsm
    go_enter Tryz.func285, Tryz.ntmps285
    go_wp2
    go_ret
    exact ⟨_, rfl, HB.out, rfl⟩
  · have hrd : D.rd n = x := by unfold Dk.rd; rw [e1]
    rw [← hrd] at hB'
    have HB := Lib.hid hB'
    clear hB hB' hrd e1 hsx hsb h4 h8 h9 hL hu h3 h5 h6 hsm hcell
    go_enter Tryz.func285, Tryz.ntmps285
    go_wp2
    go_ret
    exact ⟨_, rfl, HB.out, rfl⟩
set_option maxHeartbeats 1000000 in
/-- (*Disk).Read: a sector, in memory of its own. -/
theorem dread_any (n : Nat) (a : Nat) (D : Dk) (R : Reg) (w : World) (h : DiskAt w a D R) (hn : n < D.first.length) :
    Calls Tryz.prog 253 #[.pointer (some ⟨a, 0, none⟩), .int .i64 n] w fun e w' => ∃ v, e = .returned (.tuple #[v, .int .i64 0]) ∧ OwnB w' w.heap.size v (D.rd n) ∧ Below w.heap.size w w' := by
  have HR := Lib.hid (sread_any n a D R w h hn)
  obtain ⟨h1, h2, h3, fv, lv, sv, mb, h4, ⟨h5, h6, h7⟩, ⟨fb, fc, cs, rfl, _, _, _, _⟩, h9, h10, h11⟩ := h
  have c0 : w.cell? ⟨a, 0, none⟩ = some (.slice (some ⟨fb, 0, none⟩) D.first.length fc) := cell_of_heap h4 0
  have hnI : decide ((D.first.length : Int) ≤ (n : Int)) = false := by simp; omega
  clear h1 h2 h3 h4 h5 h6 h7 h9 h10 h11
  go_enter Tryz.func253, Tryz.ntmps253
  go_wp2_with fail
  refine HR.out.mono ?_
  rintro e w' ⟨v, rfl, hB, rfl⟩
  have HB := Lib.hid hB
  obtain ⟨A, c, rfl, _, _⟩ := hB
  go_wp2_with fail
  refine (cloneI_any _ _ _ HB.out.at).mono ?_
  rintro e w1 ⟨v', rfl, ho, hb⟩
  have HO := Lib.hid ho
  have HBe := Lib.hid hb
  clear ho hb
  go_wp2_with fail
  go_ret2
  exact ⟨_, rfl, HO.out, HBe.out⟩
end Go.Proofs.YtakmplpfjcddiaaGreatDoor

namespace Go.Proofs.YtakmplpfjcddiaaGreatDoor
open Go.RowKit Go.Shelf Pa
attribute [local go_sem] bs_toList bs_size
/-- What must gives up with. -/
abbrev fltV (n : Nat) : Value := .iface 167 (.agg #[.int .i64 n])
abbrev gaveUp (n : Nat) : Ending := .panicked [{ v := fltV n, recovered := false }]
theorem must_ok (w : World) : Calls Tryz.prog 61 #[.int .i64 0] w fun e w' => e = .returned (.tuple #[]) ∧ w' = w := by
  go_enter Tryz.func61, Tryz.ntmps61
  go_wp2
  go_end0
  exact ⟨rfl, rfl⟩
theorem must_bad (n : Nat) (hn : n ≠ 0) (w : World) : Calls Tryz.prog 61 #[.int .i64 n] w fun e w' => e = gaveUp n ∧ w' = w := by
  have h0 : ((n : Int) != 0) = true := by rw [bne_iff_ne]; omega
  clear hn
  go_enter Tryz.func61, Tryz.ntmps61
  go_wp2
  exact ⟨rfl, rfl, rfl⟩
theorem fdo1_idle (p : Addr) (w : World) :
    CallsD Tryz.prog 118 #[.pointer (some p)] .returning w fun e u' w' => e = .returned (.tuple #[]) ∧ u' = .returning ∧ w' = w := by
  refine callsD_of_wpS Tryz.func118 rfl fun c₀ cs hu => ?_
  apply wpS_seq
  apply wpS_region
  simp [wpOpsS, go_sem, recoverD, hu, Tryz.ntmps118, Exit.thenS]
  refine wpS_of_wp ?_
  rw [show (#[Value.pointer (some p)] ++ (Array.replicate 11 undef).setIfInBounds 3 Value.nilIface : Array Value) = #[.pointer (some p), undef, undef, undef, .nilIface, undef, undef, undef, undef, undef, undef, undef] from rfl]
  go_wp2
  cases c₀
  simp_all [bodyPostS, results, Tryz.results118]
set_option maxRecDepth 100000 in
set_option maxHeartbeats 1000000 in
theorem fdo1_fault (b : Nat) (x : Int) (n : Nat) (older : List PanicEntry) (w : World) (hb : w.heap[b]? = some (.cells #[.int .i64 x] 27 (0, 0))) :
    CallsD Tryz.prog 118 #[.pointer (some ⟨b, 0, none⟩)] (.panicking ({ v := fltV n, recovered := false } :: older)) w fun e u' w' => e = .returned (.tuple #[]) ∧ u' = .panicking ({ v := fltV n, recovered := true } :: older) ∧ w' = (w.setCell ⟨b, 0, none⟩ (.int .i64 n)).alloc (.cells #[.int .i64 n] 167) := by
  have hbl := (Array.getElem?_eq_some_iff.1 hb).1
  have h2 : (w.alloc (.cells #[.int .i64 n] 167)).heap[b]? = _ := (heap_alloc_old w _ hbl).trans hb
  have hc : (w.alloc (.cells #[.int .i64 n] 167)).cell? ⟨b, 0, none⟩ = some (.int .i64 x) := cell_of_heap h2 0
  have hz : (w.alloc (.cells #[.int .i64 n] 167)).frozen? ⟨b, 0, none⟩ = false := free_of_heap h2 0
  clear h2 hb
  have hta : ∀ w, (Instr.typeAssert (fltV n) 20 167 true).run Tryz.prog w = .ok (.tuple #[.agg #[.int .i64 n], .bool true]) w := fun _ => by kernel_rfl
  have hne : (binOp BinOp.eql 20 (fltV n) .nilIface).run Tryz.prog w = .ok (.bool false) w := by kernel_rfl
  refine callsD_of_wpS Tryz.func118 rfl fun c₀ cs hu => ?_
  apply wpS_seq
  apply wpS_region
  simp [wpOpsS, go_sem, recoverD, hu, Tryz.ntmps118, Exit.thenS]
  refine wpS_of_wp ?_
  rw [show (#[Value.pointer (some ⟨b, 0, none⟩)] ++ (Array.replicate 11 undef).setIfInBounds 3 (fltV n) : Array Value) = #[.pointer (some ⟨b, 0, none⟩), undef, undef, undef, fltV n, undef, undef, undef, undef, undef, undef, undef] from rfl]
  go_wp2
  cases c₀
  simp_all [bodyPostS, results, Tryz.results118]
set_option maxRecDepth 100000 in
set_option maxHeartbeats 1000000 in
/-- Something is done that does not give up. -/
theorem fdo_ok (fb f : Nat) (caps : Array Value) (w : World) (P : World → Prop) (he : ∀ args w, (callFunc f args).run Tryz.prog w = .ok (.enter f args) w)
    (hf : Calls Tryz.prog f caps (w.alloc (.cells #[.int .i64 0] 27)) fun e w1 => e = .returned (.tuple #[]) ∧ P w1)
    (hP : ∀ w1, P w1 → w1.heap[w.heap.size]? = some (.cells #[.int .i64 0] 27 (0, 0))) :
    Calls Tryz.prog 54 #[.pointer (some ⟨fb, 0, none⟩), .func (.func f) #[] caps] w fun e w' => e = .returned (.int .i64 0) ∧ ∃ w1, P w1 ∧ w' = w1.setCell ⟨w.heap.size, 0, none⟩ (.int .i64 0) := by
  have hmf : ∀ (fn : Fn) (first cap : Array Value) (w : World), (Instr.makeFunc fn first cap).run Tryz.prog w = .ok (.func fn first cap) w := fun _ _ _ _ => rfl
  have HF := Lib.hid hf
  have HP := Lib.hid hP
  clear hf hP
  go_enter_defers Tryz.func54, Tryz.ntmps54
  go_wp2_with fail
  refine HF.out.mono ?_
  rintro e w1 ⟨rfl, hp⟩
  have hb := HP.out w1 hp
  have hc : w1.cell? ⟨w.heap.size, 0, none⟩ = some (.int .i64 0) := cell_of_heap hb 0
  have hz : w1.frozen? ⟨w.heap.size, 0, none⟩ = false := free_of_heap hb 0
  have HPp := Lib.hid hp
  clear hp hb
  go_wp2_with fail
  refine leaves_cons (f := 118) (args := #[.pointer (some ⟨w.heap.size, 0, none⟩)]) (by simp) (by simp [go_sem]) ?_
  refine (fdo1_idle ⟨w.heap.size, 0, none⟩ _).mono ?_
  rintro e u' w'' ⟨rfl, rfl, rfl⟩
  simp [Leaves, settle, results, Tryz.results54, go_sem, hc]
  exact ⟨w1, HPp.out, rfl⟩
set_option maxRecDepth 100000 in
set_option maxHeartbeats 1000000 in
/-- Something is done that gives up. -/
theorem fdo_bad (fb f n : Nat) (caps : Array Value) (w : World) (P : World → Prop) (he : ∀ args w, (callFunc f args).run Tryz.prog w = .ok (.enter f args) w)
    (hf : Calls Tryz.prog f caps (w.alloc (.cells #[.int .i64 0] 27)) fun e w1 => e = gaveUp n ∧ P w1)
    (hP : ∀ w1, P w1 → w1.heap[w.heap.size]? = some (.cells #[.int .i64 0] 27 (0, 0))) :
    Calls Tryz.prog 54 #[.pointer (some ⟨fb, 0, none⟩), .func (.func f) #[] caps] w fun e w' => e = .returned (.int .i64 n) ∧ ∃ w1, P w1 ∧ w' = (w1.setCell ⟨w.heap.size, 0, none⟩ (.int .i64 n)).alloc (.cells #[.int .i64 n] 167) := by
  have hmf : ∀ (fn : Fn) (first cap : Array Value) (w : World), (Instr.makeFunc fn first cap).run Tryz.prog w = .ok (.func fn first cap) w := fun _ _ _ _ => rfl
  have HF := Lib.hid hf
  have HP := Lib.hid hP
  clear hf hP
  go_enter_defers Tryz.func54, Tryz.ntmps54
  go_wp2_with fail
  refine HF.out.mono ?_
  rintro e w1 ⟨rfl, hp⟩
  have hb := HP.out w1 hp
  have HPp := Lib.hid hp
  have HB := Lib.hid hb
  have hc2 : ((w1.setCell ⟨w.heap.size, 0, none⟩ (.int .i64 n)).alloc (.cells #[.int .i64 n] 167)).cell? ⟨w.heap.size, 0, none⟩ = some (.int .i64 n) := by
    have h1 := heap_setCell_at w1 w.heap.size 0 (.int .i64 n) hb
    have h2 := (heap_alloc_old (w1.setCell ⟨w.heap.size, 0, none⟩ (.int .i64 n)) (.cells #[.int .i64 n] 167) (Array.getElem?_eq_some_iff.1 h1).1).trans h1
    exact cell_of_heap h2 0
  clear hp hb
  go_wp2_with fail
  refine leaves_cons (f := 118) (args := #[.pointer (some ⟨w.heap.size, 0, none⟩)]) (by simp) (by simp [go_sem]) ?_
  refine (fdo1_fault w.heap.size 0 n [] _ HB.out).mono ?_
  rintro e u' w'' ⟨rfl, rfl, rfl⟩
  simp [Leaves, settle, results, Tryz.results54, go_sem, hc2]
  exact ⟨w1, HPp.out, rfl⟩
end Go.Proofs.YtakmplpfjcddiaaGreatDoor

namespace Go.Proofs.YtakmplpfjcddiaaGreatDoor
open Go.RowKit Go.Shelf Pa
attribute [local go_sem] bs_toList bs_size
/-- A log: its disk, how many sectors it has for groups. -/
structure Lg where
  D : Dk
  size : Nat
def Lg.pages (G : Lg) : Nat := G.D.first.length - G.size - 1
def Lg.cap (G : Lg) : Nat := min G.size 100
/-- A page, as it is read. -/
def Lg.rd (G : Lg) (n : Nat) : Str := G.D.rd (G.size + 1 + n)
structure Lg.Ok (G : Lg) : Prop where
  size : 1 ≤ G.size ∧ G.size + 2 ≤ G.D.first.length
/-- Block l is a log. -/
structure LogAt (w : World) (l : Nat) (G : Lg) (R : Reg) : Prop where
  apart : ∀ k, R.m k → ¬ R.i k
  lt : ∀ k, R.has k → k < w.heap.size
  ok : G.Ok
  li : R.i l
  cells : ∃ a came RD, w.heap[l]? = some (.cells #[.pointer (some ⟨a, 0, none⟩), .int .i64 G.size, .int .i64 came] 217 (0, 0)) ∧ DiskAt w a G.D RD ∧ (∀ k, RD.m k → R.m k) ∧ (∀ k, RD.i k → R.i k)
theorem LogAt.off {w w' : World} {l : Nat} {G : Lg} {R : Reg} {J : Nat → Prop} (h : LogAt w l G R) (ho : Off J w w') (hd : ∀ k, R.has k → ¬ J k) : LogAt w' l G R := by
  obtain ⟨h1, h2, h3, h4, a, came, RD, h5, h6, h7, h8⟩ := h
  refine ⟨h1, fun k hk => Nat.lt_of_lt_of_le (h2 k hk) ho.size, h3, h4, a, came, RD, (ho.block l (h2 l (.inr h4)) (hd l (.inr h4))).trans h5, h6.off ho (fun k hk => hd k ?_), h7, h8⟩
  rcases hk with hk | hk
  · exact .inl (h7 k hk)
  · exact .inr (h8 k hk)
set_option maxHeartbeats 400000 in
theorem sectors_any (a : Nat) (D : Dk) (R : Reg) (w : World) (h : DiskAt w a D R) :
    Calls Tryz.prog 232 #[.pointer (some ⟨a, 0, none⟩)] w fun e w' => e = .returned (.int .i64 D.first.length) ∧ w = w' := by
  obtain ⟨h1, h2, h3, fv, lv, sv, mb, h4, ⟨h5, h6, h7⟩, ⟨fb, fc, cs, rfl, _, _, _, _⟩, h9, h10, h11⟩ := h
  have c0 : w.cell? ⟨a, 0, none⟩ = some (.slice (some ⟨fb, 0, none⟩) D.first.length fc) := cell_of_heap h4 0
  clear h1 h2 h3 h4 h5 h6 h7 h9 h10 h11
  go_enter Tryz.func232, Tryz.ntmps232
  go_wp2
  go_ret
  exact ⟨rfl, rfl⟩
set_option maxHeartbeats 400000 in
theorem pages_any (l : Nat) (G : Lg) (R : Reg) (w : World) (h : LogAt w l G R) :
    Calls Tryz.prog 168 #[.pointer (some ⟨l, 0, none⟩)] w fun e w' => e = .returned (.int .i64 G.pages) ∧ ∃ n, w' = w.drewN n := by
  obtain ⟨h1, h2, ⟨h31, h32⟩, h4, a, came, RD, h5, h6, h7, h8⟩ := h
  have c0 : w.cell? ⟨l, 0, none⟩ = some (.pointer (some ⟨a, 0, none⟩)) := cell_of_heap h5 0
  have c1 : w.cell? ⟨l, 1, none⟩ = some (.int .i64 G.size) := cell_of_heap h5 1
  have hs : ∀ q, Calls Tryz.prog 232 #[.pointer (some ⟨a, 0, none⟩)] (w.drewN q) fun e w' => e = .returned (.int .i64 G.D.first.length) ∧ ∃ i, w' = w.drewN i := fun q =>
    (sectors_any a G.D RD (w.drewN q) (h6.off ((Off.refl (fun _ => False) w).drewN q) (fun _ _ e => e))).mono fun e w' ⟨he, hw⟩ => ⟨he, q, hw.symm⟩
  have hf := h6.ok.few
  have hp : ((G.D.first.length : Int) - (G.size : Int) - 1) = (G.pages : Int) := by unfold Lg.pages; omega
  have hw1 : IntKind.i64.wrap ((G.D.first.length : Int) - (G.size : Int)) = (G.D.first.length : Int) - (G.size : Int) := IntWalk.i64_in _ (by omega)
  have hw2 : IntKind.i64.wrap ((G.D.first.length : Int) - (G.size : Int) - 1) = (G.pages : Int) := by rw [hp]; exact IntWalk.i64_in _ (by unfold Lg.pages; omega)
  have HP := Lib.hid hp
  clear h1 h2 h4 h5 h6 h7 h8 hp
  go_enter Tryz.func168, Tryz.ntmps168
  go_wp2_with fail
  go_quiet ((go_at_call 232; exact hs _))
  go_wp2_with fail
  go_ret
  exact ⟨rfl, nq, rfl⟩
set_option maxHeartbeats 400000 in
theorem cap_any (l : Nat) (G : Lg) (R : Reg) (w : World) (h : LogAt w l G R) :
    Calls Tryz.prog 208 #[.pointer (some ⟨l, 0, none⟩)] w fun e w' => e = .returned (.int .i64 G.cap) ∧ w = w' := by
  obtain ⟨h1, h2, h3, h4, a, came, RD, h5, h6, h7, h8⟩ := h
  have c1 : w.cell? ⟨l, 1, none⟩ = some (.int .i64 G.size) := cell_of_heap h5 1
  clear h1 h2 h3 h4 h5 h6 h7 h8
  go_enter Tryz.func208, Tryz.ntmps208
  go_wp2
  go_ret
  exact ⟨ret_int (by unfold Lg.cap; omega), rfl⟩
set_option maxHeartbeats 1000000 in
theorem lread_any (n : Nat) (l : Nat) (G : Lg) (R : Reg) (w : World) (h : LogAt w l G R) (hn : n < G.pages) :
    Calls Tryz.prog 196 #[.pointer (some ⟨l, 0, none⟩), .int .i64 n] w fun e w' => ∃ v, e = .returned (.tuple #[v, .int .i64 0]) ∧ OwnB w' w.heap.size v (G.rd n) ∧ Below w.heap.size w w' := by
  have hp := fun w' (hb : Below w.heap.size w w') => pages_any l G R w' (h.off (Off.of_below hb (fun _ => False)) (fun _ _ e => e))
  obtain ⟨h1, h2, ⟨h31, h32⟩, h4, a, came, RD, h5, h6, h7, h8⟩ := h
  have hf := h6.ok.few
  have hlt : l < w.heap.size := h2 l (.inr h4)
  have hn2 : G.size + 1 + n < G.D.first.length := by unfold Lg.pages at hn; omega
  have hr : ∀ w', Below w.heap.size w w' → Calls Tryz.prog 253 #[.pointer (some ⟨a, 0, none⟩), .int .i64 ((G.size : Int) + 1 + (n : Int))] w' fun e w'' => ∃ v, e = .returned (.tuple #[v, .int .i64 0]) ∧ OwnB w'' w.heap.size v (G.rd n) ∧ Below w.heap.size w w'' := fun w' hb => by
    have := dread_any (G.size + 1 + n) a G.D RD w' (h6.off (Off.of_below hb (fun _ => False)) (fun _ _ e => e)) hn2
    rw [show ((G.size + 1 + n : Nat) : Int) = (G.size : Int) + 1 + (n : Int) from by omega] at this
    exact this.mono fun e w'' ⟨v, he, ho, hb2⟩ => ⟨v, he, ⟨ho.1, ho.2.imp id fun ⟨g, cap, cur, e1, e2, e3⟩ => ⟨g, cap, cur, e1, Nat.le_trans hb.size e2, e3⟩⟩, hb.trans (hb2.mono hb.size)⟩
  have hS : ∀ w', Below w.heap.size w w' → w'.cell? ⟨l, 0, none⟩ = some (.pointer (some ⟨a, 0, none⟩)) ∧ w'.cell? ⟨l, 1, none⟩ = some (.int .i64 G.size) ∧ Below w.heap.size w w' := fun w' hb =>
    ⟨(hb.cell (p := ⟨l, 0, none⟩) hlt).trans (cell_of_heap h5 0), (hb.cell (p := ⟨l, 1, none⟩) hlt).trans (cell_of_heap h5 1), hb⟩
  have h0 : decide ((n : Int) < 0) = false := by simp
  have hge : decide ((G.pages : Int) ≤ (n : Int)) = false := by simp; omega
  have hw1 : IntKind.i64.wrap ((G.size : Int) + 1) = (G.size : Int) + 1 := IntWalk.i64_in _ (by omega)
  have hw2 : IntKind.i64.wrap ((G.size : Int) + 1 + (n : Int)) = (G.size : Int) + 1 + (n : Int) := IntWalk.i64_in _ (by omega)
  have HP := Lib.hid hp
  have HR := Lib.hid hr
  have HSx := Lib.hid hS
  clear hp hr hS h1 h2 h4 h5 h6 h7 h8
  go_enter Tryz.func196, Tryz.ntmps196
  go_wp2_with fail
  refine (HP.out w (Below.refl _ _)).mono ?_
  rintro e w1 ⟨rfl, nq, hw⟩
  have hb1 : Below w.heap.size w w1 := by rw [hw]; exact below_drewN (Below.refl _ _) _
  obtain ⟨j0, j1, _⟩ := HSx.out w1 hb1
  clear hw
  go_wp2_with fail
  go_region_held3 (fun w' => w'.cell? ⟨l, 0, none⟩ = some (.pointer (some ⟨a, 0, none⟩)) ∧ w'.cell? ⟨l, 1, none⟩ = some (.int .i64 G.size) ∧ Below w.heap.size w w')
    ((go_split_ands; refine HSx.out _ ?_; with_reducible first | assumption | exact Below.drew (by assumption)))
    ((go_at_call 253; go_split_ands; refine (HR.out _ (by with_reducible first | assumption | exact Below.drew (by assumption))).mono ?_; rintro e w3 ⟨v3, rfl, ho3, hb3⟩))
  go_wp2
  go_ret2
  exact ⟨_, rfl, ho3, hb3⟩
end Go.Proofs.YtakmplpfjcddiaaGreatDoor

namespace Go.Proofs.YtakmplpfjcddiaaGreatDoor
open Go.RowKit Go.Shelf Pa
attribute [local go_sem] bs_toList bs_size
/-- A cache: its log, how many clean pages it keeps, and the pages that were written. -/
structure Ca where
  G : Lg
  most : Nat
  dirty : List (Nat × Str)
/-- A page as it is now. -/
def Ca.rd (C : Ca) (n : Nat) : Str := match pget C.dirty n with | some b => b | none => C.G.rd n
def Ca.room (C : Ca) : Int := (C.G.cap : Int) - (C.dirty.length : Int)
structure Ca.Ok (C : Ca) : Prop where
  most : 1 ≤ C.most ∧ C.most ≤ 64
  dirty : ∀ p ∈ C.dirty, p.1 < C.G.pages ∧ p.2.length = 512
  few : C.dirty.length ≤ C.G.cap
/-- Where the parts of a cache lie. -/
structure CaPl where
  l : Nat
  dm : Nat
  cm : Nat
  rv : Value
  RL : Reg
  /-- Clean pages that may be dirty besides. -/
  ex : Nat → Prop
/-- Block c is a cache; the clean pages that it keeps stand in a row. -/
structure CacheR (w : World) (c : Nat) (C : Ca) (R : Reg) (row : List Nat) (p : CaPl) : Prop where
  apart : ∀ k, R.m k → ¬ R.i k
  lt : ∀ k, R.has k → k < w.heap.size
  ok : C.Ok
  cells : w.heap[c]? = some (.cells #[.pointer (some ⟨p.l, 0, none⟩), .int .i64 C.most, .map (some p.dm), .map (some p.cm), p.rv] 210 (0, 0))
  mine : R.m c ∧ R.m p.dm ∧ R.m p.cm
  unlike : c ≠ p.dm ∧ c ≠ p.cm ∧ p.dm ≠ p.cm
  row : w.ownsRow 0 3 1 p.rv row.length (row.map fun n => Value.int .i64 (n : Nat))
  rowB : ∀ k, p.rv.ownBlock = some k → R.m k ∧ k ≠ c ∧ k ≠ p.dm ∧ k ≠ p.cm
  log : LogAt w p.l C.G p.RL
  logM : ∀ k, p.RL.m k → R.m k ∧ k ≠ c ∧ k ≠ p.dm ∧ k ≠ p.cm ∧ p.rv.ownBlock ≠ some k
  logI : ∀ k, p.RL.i k → R.i k
  dirty : MapB (BytesI w R.i) w p.dm C.dirty
  clean : ∃ cl, MapB (BytesI w R.i) w p.cm cl ∧ ∀ q ∈ cl, q.1 < C.G.pages ∧ q.2 = C.G.rd q.1 ∧ (phas C.dirty q.1 = true → p.ex q.1)
/-- Block c is a cache. -/
def CacheAt (w : World) (c : Nat) (C : Ca) (R : Reg) : Prop := ∃ row p, row.length ≤ C.most ∧ (∀ k, ¬ p.ex k) ∧ CacheR w c C R row p
theorem CacheR.off {w w' : World} {c : Nat} {C : Ca} {R : Reg} {row : List Nat} {p : CaPl} {J : Nat → Prop} (h : CacheR w c C R row p) (ho : Off J w w') (hd : ∀ k, R.has k → ¬ J k) : CacheR w' c C R row p := by
  have hm : ∀ k, R.m k → w'.heap[k]? = w.heap[k]? := fun k hk => ho.block k (h.lt k (.inl hk)) (hd k (.inl hk))
  have hi : ∀ k, R.i k → ¬ J k := fun k hk => hd k (.inr hk)
  refine ⟨h.apart, fun k hk => Nat.lt_of_lt_of_le (h.lt k hk) ho.size, h.ok, (hm c h.mine.1).trans h.cells, h.mine, h.unlike, ?_, h.rowB, h.log.off ho (fun k hk => hd k ?_), h.logM, h.logI, h.dirty.mono (hm _ h.mine.2.1) (fun _ _ e => e.off ho hi), ?_⟩
  · obtain ⟨h1, h2⟩ := h.row
    refine ⟨h1, ?_⟩
    rcases h2 with h2 | ⟨g, cap, cur, e, hB, hg, hr⟩
    · exact .inl h2
    · exact .inr ⟨g, cap, cur, e, hB, (hm g (h.rowB g (by rw [e]; rfl)).1).trans hg, hr⟩
  · rcases hk with hk | hk
    · exact .inl (h.logM k hk).1
    · exact .inr (h.logI k hk)
  · obtain ⟨cl, h1, h2⟩ := h.clean
    exact ⟨cl, h1.mono (hm _ h.mine.2.2) (fun _ _ e => e.off ho hi), h2⟩
theorem CacheAt.off {w w' : World} {c : Nat} {C : Ca} {R : Reg} {J : Nat → Prop} (h : CacheAt w c C R) (ho : Off J w w') (hd : ∀ k, R.has k → ¬ J k) : CacheAt w' c C R := by
  obtain ⟨row, p, h1, hx, h2⟩ := h
  exact ⟨row, p, h1, hx, h2.off ho hd⟩
theorem CacheR.below {w w' : World} {c : Nat} {C : Ca} {R : Reg} {row : List Nat} {p : CaPl} (h : CacheR w c C R row p) (hb : Below w.heap.size w w') : CacheR w' c C R row p := h.off (Off.of_below hb (fun _ => False)) (fun _ _ e => e)
theorem CacheAt.below {w w' : World} {c : Nat} {C : Ca} {R : Reg} (h : CacheAt w c C R) (hb : Below w.heap.size w w') : CacheAt w' c C R := h.off (Off.of_below hb (fun _ => False)) (fun _ _ e => e)
theorem LogAt.rdlen {w : World} {l : Nat} {G : Lg} {R : Reg} (h : LogAt w l G R) {n : Nat} (hn : n < G.pages) : (G.rd n).length = 512 := by
  obtain ⟨_, _, h3, _, _, _, _, _, h6, _, _⟩ := h
  unfold Lg.rd
  refine h6.ok.rd ?_
  have := h3.size
  unfold Lg.pages at hn
  omega
theorem CacheR.rdlen {w : World} {c : Nat} {C : Ca} {R : Reg} {row : List Nat} {p : CaPl} (h : CacheR w c C R row p) {n : Nat} (hn : n < C.G.pages) : (C.G.rd n).length = 512 := h.log.rdlen hn
theorem CacheR.cdlen {w : World} {c : Nat} {C : Ca} {R : Reg} {row : List Nat} {p : CaPl} (h : CacheR w c C R row p) {n : Nat} (hn : n < C.G.pages) : (C.rd n).length = 512 := by
  unfold Ca.rd
  cases hg : pget C.dirty n with
  | some b => exact (h.ok.dirty _ (pget_some hg).1).2
  | none => exact h.rdlen hn
set_option maxHeartbeats 400000 in
theorem look_any (n : Int) (c : Nat) (C : Ca) (R : Reg) (row : List Nat) (p : CaPl) (w : World) (h : CacheR w c C R row p) :
    Calls Tryz.prog 194 #[.pointer (some ⟨c, 0, none⟩), .int .i64 n] w fun e w' => e = .returned (.int .i64 (if 0 ≤ n ∧ n < C.G.pages then 0 else 2)) ∧ ∃ q, w' = w.drewN q := by
  have c0 : w.cell? ⟨c, 0, none⟩ = some (.pointer (some ⟨p.l, 0, none⟩)) := cell_of_heap h.cells 0
  have hp := pages_any p.l C.G p.RL w h.log
  have HP := Lib.hid hp
  clear hp h
  by_cases h0 : n < 0
  · have h0' : decide (n < 0) = true := by simpa using h0
    rw [if_neg (by omega)]
    clear HP
    go_enter Tryz.func194, Tryz.ntmps194
    go_wp2_with fail
    go_ret
    exact ⟨rfl, 0, rfl⟩
  · have h0' : decide (n < 0) = false := by simpa using h0
    by_cases h1 : (C.G.pages : Int) ≤ n
    · have h1' : decide ((C.G.pages : Int) ≤ n) = true := by simpa using h1
      rw [if_neg (by omega)]
      go_enter Tryz.func194, Tryz.ntmps194
      go_wp2_with fail
      refine HP.out.mono ?_
      rintro e w1 ⟨rfl, nq, rfl⟩
      go_wp2_with fail
      go_ret
      exact ⟨rfl, nq, rfl⟩
    · have h1' : decide ((C.G.pages : Int) ≤ n) = false := by simpa using h1
      rw [if_pos (by omega)]
      go_enter Tryz.func194, Tryz.ntmps194
      go_wp2_with fail
      refine HP.out.mono ?_
      rintro e w1 ⟨rfl, nq, rfl⟩
      go_wp2_with fail
      go_ret
      exact ⟨rfl, nq, rfl⟩
set_option maxHeartbeats 400000 in
theorem room_any (c : Nat) (C : Ca) (R : Reg) (row : List Nat) (p : CaPl) (w : World) (h : CacheR w c C R row p) :
    Calls Tryz.prog 235 #[.pointer (some ⟨c, 0, none⟩)] w fun e w' => e = .returned (.int .i64 C.room) ∧ ∃ q, w' = w.drewN q := by
  have c0 : w.cell? ⟨c, 0, none⟩ = some (.pointer (some ⟨p.l, 0, none⟩)) := cell_of_heap h.cells 0
  have c2 : w.cell? ⟨c, 2, none⟩ = some (.map (some p.dm)) := cell_of_heap h.cells 2
  have hcap := fun q => (cap_any p.l C.G p.RL (w.drewN q) (h.log.off ((Off.refl (fun _ => False) w).drewN q) (fun _ _ e => e)))
  have hs : ∀ q, Calls Tryz.prog 208 #[.pointer (some ⟨p.l, 0, none⟩)] (w.drewN q) fun e w' => e = .returned (.int .i64 C.G.cap) ∧ ∃ i, w' = w.drewN i := fun q => (hcap q).mono fun e w' ⟨he, hw⟩ => ⟨he, q, hw.symm⟩
  have hlen := h.dirty.len Tryz.underlying208 Tryz.underlying3 3
  have hf := h.ok.few
  have hc2 : C.G.cap ≤ 100 := by unfold Lg.cap; omega
  have hw1 : IntKind.i64.wrap ((C.G.cap : Int) - (C.dirty.length : Int)) = (C.G.cap : Int) - (C.dirty.length : Int) := IntWalk.i64_in _ (by omega)
  have hlen' : ∀ q, (Builtin.len_ #[208] 3 #[.map (some p.dm)]).run Tryz.prog (w.drewN q) = .ok (.int .i64 (C.dirty.length : Nat)) (w.drewN q) := fun q =>
    ((h.below (below_drewN (Below.refl _ _) q)).dirty.len Tryz.underlying208 Tryz.underlying3 3)
  unfold Ca.room
  clear hcap h
  go_enter Tryz.func235, Tryz.ntmps235
  go_wp2_with fail
  go_quiet ((go_at_call 208; exact hs _))
  go_wp2_with fail
  go_ret
  exact ⟨rfl, nq, rfl⟩
end Go.Proofs.YtakmplpfjcddiaaGreatDoor

namespace Go.Proofs
open Go.Shelf
def Tryz.delIntA_ren : Go.Shelf.Ren := ⟨fun | 10 => 254 | 6 => 286 | n => n, fun | 22 => 82 | 23 => 3 | 25 => 36 | 3 => 3 | 4 => 4 | 0 => 0 | n => n, fun | n => n⟩
theorem Tryz.delIntA : Go.Proofs.SlLaysH.n10 Tryz.prog Tryz.delIntA_ren := {
  mixed := by kernel_rfl
  f6 := ⟨Tryz.f286.name, by decide, Tryz.func286.trans (congrArg some (by kernel_rfl))⟩
  f10 := ⟨Tryz.f254.name, by decide, Tryz.func254.trans (congrArg some (by kernel_rfl))⟩
  t0 := Tryz.underlying0
  a0 := Tryz.isAgg0
  z0 := Tryz.sizeOf0
  v0 := Tryz.zeroValue0
  t3 := Tryz.underlying3
  a3 := Tryz.isAgg3
  z3 := Tryz.sizeOf3
  v3 := Tryz.zeroValue3
  t4 := Tryz.underlying4
  a4 := Tryz.isAgg4
  z4 := Tryz.sizeOf4
  v4 := Tryz.zeroValue4
  t22 := Tryz.underlying82
  a22 := Tryz.isAgg82
  z22 := Tryz.sizeOf82
  v22 := Tryz.zeroValue82
  a23 := Tryz.isAgg3
  z23 := Tryz.sizeOf3
  t25 := Tryz.underlying36
  a25 := Tryz.isAgg36
  z25 := Tryz.sizeOf36
  v25 := Tryz.zeroValue36 }
def Tryz.keysI_ren : Go.Shelf.Ren := ⟨fun | 7 => 212 | 10 => 271 | n => n, fun | 23 => 208 | 26 => 3 | 3 => 37 | 28 => 275 | 0 => 0 | 27 => 274 | 33 => 36 | 4 => 4 | n => n, fun | n => n⟩
theorem Tryz.keysI : Go.Proofs.SlLaysZI.n7 Tryz.prog Tryz.keysI_ren := {
  mixed := by kernel_rfl
  f7 := ⟨Tryz.f212.name, by decide, Tryz.func212.trans (congrArg some (by kernel_rfl))⟩
  f10 := ⟨Tryz.f271.name, by decide, Tryz.func271.trans (congrArg some (by kernel_rfl))⟩
  t0 := Tryz.underlying0
  a0 := Tryz.isAgg0
  z0 := Tryz.sizeOf0
  v0 := Tryz.zeroValue0
  t4 := Tryz.underlying4
  a4 := Tryz.isAgg4
  z4 := Tryz.sizeOf4
  v4 := Tryz.zeroValue4
  t23 := Tryz.underlying208
  a23 := Tryz.isAgg208
  z23 := Tryz.sizeOf208
  v23 := Tryz.zeroValue208
  t26 := Tryz.underlying3
  a26 := Tryz.isAgg3
  z26 := Tryz.sizeOf3
  v26 := Tryz.zeroValue3
  t27 := Tryz.underlying274
  a27 := Tryz.isAgg274
  z27 := Tryz.sizeOf274
  v27 := Tryz.zeroValue274
  t28 := Tryz.underlying275
  a28 := Tryz.isAgg275
  z28 := Tryz.sizeOf275
  v28 := Tryz.zeroValue275
  t33 := Tryz.underlying36
  a33 := Tryz.isAgg36
  z33 := Tryz.sizeOf36
  v33 := Tryz.zeroValue36 }
def Tryz.sortedI_ren : Go.Shelf.Ren := ⟨fun | 6 => 211 | 8 => 270 | 9 => 112 | 11 => 295 | 13 => 180 | 12 => 179 | 23 => 247 | 24 => 248 | 14 => 238 | 15 => 239 | 16 => 240 | 17 => 241 | 18 => 242 | 19 => 243 | 20 => 244 | 21 => 245 | 22 => 246 | 25 => 279 | 26 => 280 | 27 => 281 | 28 => 282 | 29 => 283 | 30 => 284 | 31 => 302 | n => n, fun | 26 => 3 | 28 => 275 | 24 => 82 | 0 => 0 | 3 => 3 | 37 => 235 | 48 => 303 | 50 => 305 | 4 => 4 | 40 => 296 | 39 => 295 | 45 => 300 | 5 => 5 | 9 => 9 | 51 => 319 | 55 => 177 | 57 => 332 | 58 => 48 | 33 => 36 | n => n, fun | n => n⟩
theorem Tryz.sortedI : Go.Proofs.SlLaysZI.n6 Tryz.prog Tryz.sortedI_ren := {
  mixed := by kernel_rfl
  f6 := ⟨Tryz.f211.name, by decide, Tryz.func211.trans (congrArg some (by kernel_rfl))⟩
  f8 := ⟨Tryz.f270.name, by decide, Tryz.func270.trans (congrArg some (by kernel_rfl))⟩
  f11 := ⟨Tryz.f295.name, by decide, Tryz.func295.trans (congrArg some (by kernel_rfl))⟩
  t0 := Tryz.underlying0
  a0 := Tryz.isAgg0
  z0 := Tryz.sizeOf0
  v0 := Tryz.zeroValue0
  t24 := Tryz.underlying82
  a24 := Tryz.isAgg82
  z24 := Tryz.sizeOf82
  v24 := Tryz.zeroValue82
  t26 := Tryz.underlying3
  a26 := Tryz.isAgg3
  z26 := Tryz.sizeOf3
  v26 := Tryz.zeroValue3
  t28 := Tryz.underlying275
  a28 := Tryz.isAgg275
  z28 := Tryz.sizeOf275
  v28 := Tryz.zeroValue275
  i26 := by kernel_rfl }
end Go.Proofs

namespace Go.Proofs.YtakmplpfjcddiaaGreatDoor
open Go.RowKit Go.Shelf Pa Go.Sort
attribute [local go_sem] bs_toList bs_size
/-- The question that drop asks of each number in the row. -/
theorem drop1_any (n x : Int) (B : Nat) (W : World) (hc : W.cell? ⟨B, 0, none⟩ = some (.int .i64 n)) :
    FnGives Tryz.prog 255 #[.pointer (some ⟨B, 0, none⟩)] #[.int .i64 x] (.bool (decide (x = n))) W := by
  show Calls Tryz.prog 255 #[.int .i64 x, .pointer (some ⟨B, 0, none⟩)] W _
  go_enter Tryz.func255, Tryz.ntmps255
  go_wp2
  go_ret
  exact ⟨ret_bool (by by_cases h : x = n <;> simp [h]), 0, rfl⟩
theorem enters_drop1 : ∀ args w, (callFunc 255 args).run Tryz.prog w = .ok (.enter 255 args) w := enters_of Tryz.func255 (by kernel_rfl) rfl
theorem heap_putRow {α : Type} [Inhabited α] (enc : α → Value) (w : World) (g off : Nat) (d : Array α) {cur : Array Value} {e : TypeId} {f : Nat × Nat} (h : w.heap[g]? = some (.cells cur e f)) : (putRow enc w g off d).heap[g]? = some (.cells (putCells enc off d cur) e f) := by
  unfold putRow mapBlock
  simp [Array.getElem?_modify, h, onCells]
theorem off_putRow {α : Type} [Inhabited α] (enc : α → Value) (w : World) (n g off : Nat) (d : Array α) : Off (fun k => k = g) w (putRow enc (Sort.ahead w n) g off d) := by
  refine ⟨rfl, rfl, rfl, by rw [size_putRow]; exact Nat.le_refl _, fun k _ hk => ?_⟩
  unfold putRow mapBlock
  simp only [Array.getElem?_modify]
  rw [if_neg (fun e => hk e.symm)]
  rfl
set_option maxHeartbeats 400000 in
/-- slices.DeleteFunc over the row at that question: the numbers that are unlike, in their order; nothing else turns. -/
theorem delRow_any (row : List Nat) (n : Nat) (rv : Value) (B : Nat) (w : World) (h : w.ownsRow 0 3 1 rv row.length (row.map fun n => Value.int .i64 (n : Nat))) (hB : B < w.heap.size) (hne : rv.ownBlock ≠ some B) (hc : w.cell? ⟨B, 0, none⟩ = some (.int .i64 n)) (hl : row.length ≤ 1000) :
    Calls Tryz.prog 254 #[rv, .func (.func 255) #[] #[.pointer (some ⟨B, 0, none⟩)]] w fun e w' => ∃ rv', e = .returned rv' ∧ (∀ k, rv'.ownBlock = some k → rv.ownBlock = some k) ∧
      w'.ownsRow 0 3 1 rv' (row.filter fun k => !decide (k = n)).length ((row.filter fun k => !decide (k = n)).map fun n => Value.int .i64 (n : Nat)) ∧ Off (fun k => rv.ownBlock = some k) w w' := by
  obtain ⟨hlen, h⟩ := h
  rcases h with ⟨rfl, h0⟩ | ⟨g, cap, cur, rfl, _, hg, hcap, hm, hs, ht⟩
  · obtain rfl : row = [] := List.length_eq_zero_iff.1 h0
    have hi : ∀ fv, Calls Tryz.prog 286 #[.slice none 0 0, fv] w fun e w' => e = .returned (.int .i64 (-1)) ∧ w' = w := fun fv => AnyE.slices_IndexFunc_empty (P := Tryz.prog) (ρ := Tryz.delIntA_ren) { Tryz.delIntA with } none 0 fv w
    clear hlen hc
    go_enter Tryz.func254, Tryz.ntmps254
    go_wp2_with fail
    refine (hi _).mono ?_
    rintro e w' ⟨rfl, hw⟩
    obtain rfl := hw.symm
    go_wp2_with fail
    go_ret
    exact ⟨_, rfl, fun k h => h, World.ownsRow_nil _ _ _ _, Off.refl _ _⟩
  · have hH : Holds (Value.int .i64) w g 0 (row.map fun n => ((n : Nat) : Int)).toArray := by
      intro j hj
      have hj' : j < row.length := by simpa using hj
      have hx : (cur.toList.take (row.length * 1))[j]? = some (Value.int .i64 (row[j] : Nat)) := by rw [ht, List.getElem?_map, List.getElem?_eq_getElem hj']; rfl
      rw [List.getElem?_take_of_lt (by omega), Array.getElem?_toList] at hx
      refine ⟨?_, by simp [World.frozen?, hg]⟩
      rw [Nat.zero_add, cell_of_heap hg j, hx, getElem!_pos _ j hj]
      simp
    have hgl : g < w.heap.size := (Array.getElem?_eq_some_iff.1 hg).1
    have hBg : B ≠ g := fun e => hne (by rw [e]; rfl)
    have hd := AnyE.slices_DeleteFunc (P := Tryz.prog) (ρ := Tryz.delIntA_ren) Tryz.delIntA (Value.int .i64) (fun _ => rfl) (fun x => decide (x = (n : Int))) 255 #[.pointer (some ⟨B, 0, none⟩)] enters_drop1 0 Tryz.zeroValue3 g 0 cap (row.map fun n => ((n : Nat) : Int)).toArray w
      (fun W x hb => drop1_any n x B W ((hb.cell (p := ⟨B, 0, none⟩) hB).trans hc))
      (fun m os dk x _ => drop1_any n x B _ (by
        unfold sortWorld
        rw [cell?_grow _ _ _ (by show B < (putRow _ _ _ _ _).heap.size; rw [size_putRow]; exact hB), cell?_putRow_other _ _ g 0 _ _ (Or.inl hBg)]
        exact hc)) hH (by simp; omega) (by simpa using hcap)
    have hfl : (row.map fun n => ((n : Nat) : Int)).filter (fun x => !decide (x = (n : Int))) = (row.filter fun k => !decide (k = n)).map fun n => ((n : Nat) : Int) := by
      rw [List.filter_map]
      congr 1
      refine List.filter_congr fun k _ => ?_
      simp only [Function.comp]
      congr 1
      exact decide_eq_decide.2 (by omega)
    rw [show ((row.map fun n => ((n : Nat) : Int)).toArray).toList = row.map fun n => ((n : Nat) : Int) from rfl, hfl, show ((row.map fun n => ((n : Nat) : Int)).toArray).size = row.length from by simp, List.length_map] at hd
    refine hd.mono ?_
    rintro e w' ⟨rfl, q, rfl⟩
    have hle : (row.filter fun k => !decide (k = n)).length ≤ row.length := List.length_filter_le _ _
    refine ⟨_, rfl, fun k h => h, ⟨by simp, .inr ⟨g, cap, _, rfl, Nat.zero_le _, heap_putRow _ _ _ _ _ (show (Sort.ahead w q).heap[g]? = _ from hg), by omega, hm, by simp [putCells, hs], ?_⟩⟩, (off_putRow _ _ _ _ _ _).mono (fun k h => .inl (by rw [h]; rfl))⟩
    have hsz : ((row.filter fun k => !decide (k = n)).map (fun n => ((n : Nat) : Int)) ++ List.replicate (row.length - (row.filter fun k => !decide (k = n)).length) 0).length = row.length := by simp; omega
    have htk := take_putCellsI cur ((row.filter fun k => !decide (k = n)).map (fun n => ((n : Nat) : Int)) ++ List.replicate (row.length - (row.filter fun k => !decide (k = n)).length) 0) (by rw [hsz]; omega)
    rw [hsz] at htk
    have := congrArg (List.take ((row.filter fun k => !decide (k = n)).length * 1)) htk
    rw [List.take_take, Nat.min_eq_left (by omega)] at this
    rw [this, List.map_append, List.take_append_of_le_length (by simp), List.take_of_length_le (by simp), List.map_map]
    rfl
/-- The cache behind a change of its row and its clean pages. -/
theorem CacheR.redo {w w' : World} {c : Nat} {C : Ca} {R R' : Reg} {row row' : List Nat} {p : CaPl} {rv' : Value} {J ex' : Nat → Prop} (h : CacheR w c C R row p) (ho : Off J w w') (hJ : ∀ k, J k → p.rv.ownBlock = some k ∨ k = c ∨ k = p.cm)
    (hm : ∀ k, R.m k → R'.m k) (hi : ∀ k, R.i k → R'.i k) (hlt : ∀ k, R'.has k → k < w'.heap.size) (hap : ∀ k, R'.m k → ¬ R'.i k)
    (hc : w'.heap[c]? = some (.cells #[.pointer (some ⟨p.l, 0, none⟩), .int .i64 C.most, .map (some p.dm), .map (some p.cm), rv'] 210 (0, 0)))
    (hr : w'.ownsRow 0 3 1 rv' row'.length (row'.map fun n => Value.int .i64 (n : Nat))) (hrv : ∀ k, rv'.ownBlock = some k → (p.rv.ownBlock = some k ∨ w.heap.size ≤ k) ∧ R'.m k)
    (hcl : ∃ cl, MapB (BytesI w' R'.i) w' p.cm cl ∧ ∀ q ∈ cl, q.1 < C.G.pages ∧ q.2 = C.G.rd q.1 ∧ (phas C.dirty q.1 = true → ex' q.1)) : CacheR w' c C R' row' { p with rv := rv', ex := ex' } := by
  have hJm : ∀ k, J k → R.m k := fun k hk => by
    rcases hJ k hk with e | rfl | rfl
    · exact (h.rowB k e).1
    · exact h.mine.1
    · exact h.mine.2.2
  have hJi : ∀ k, R.i k → ¬ J k := fun k hk hj => h.apart k (hJm k hj) hk
  have hcl' : c < w.heap.size := h.lt c (.inl h.mine.1)
  have hdl : p.dm < w.heap.size := h.lt _ (.inl h.mine.2.1)
  have hcml : p.cm < w.heap.size := h.lt _ (.inl h.mine.2.2)
  refine ⟨hap, hlt, h.ok, hc, ⟨hm _ h.mine.1, hm _ h.mine.2.1, hm _ h.mine.2.2⟩, h.unlike, hr, fun k hk => ?_, h.log.off ho (fun k hk hj => ?_), fun k hk => ?_, fun k hk => hi k (h.logI k hk), ?_, hcl⟩
  · obtain ⟨h1, h2⟩ := hrv k hk
    refine ⟨h2, ?_⟩
    rcases h1 with h1 | h1
    · exact (h.rowB k h1).2
    · exact ⟨by omega, by show k ≠ p.dm; omega, by show k ≠ p.cm; omega⟩
  · rcases hk with hk | hk
    · obtain ⟨_, h2, h3, h4, h5⟩ := h.logM k hk
      rcases hJ k hj with e | e | e
      · exact h5 e
      · exact h2 e
      · exact h4 e
    · exact hJi k (h.logI k hk) hj
  · obtain ⟨h1, h2, h3, h4, h5⟩ := h.logM k hk
    refine ⟨hm k h1, h2, h3, h4, fun e => ?_⟩
    rcases (hrv k e).1 with e | e
    · exact h5 e
    · have := h.lt k (.inl h1); omega
  · refine h.dirty.mono (ho.block _ hdl fun hj => ?_) (fun v x hB => (hB.off ho hJi).mono fun k hk _ => hi k hk)
    rcases hJ _ hj with e | e | e
    · exact (h.rowB _ e).2.2.1 rfl
    · exact h.unlike.1 e.symm
    · exact h.unlike.2.2 e
theorem pdel_mem {α : Type} {l : List (Nat × α)} {n : Nat} {q : Nat × α} (h : q ∈ pdel l n) : q ∈ l := (List.mem_filter.1 h).1
theorem pdel_ne {α : Type} {l : List (Nat × α)} {n : Nat} {q : Nat × α} (h : q ∈ pdel l n) : q.1 ≠ n := by have := (List.mem_filter.1 h).2; simpa using this
set_option maxRecDepth 100000 in
set_option maxHeartbeats 1000000 in
theorem drop_any (n : Nat) (c : Nat) (C : Ca) (R : Reg) (row : List Nat) (p : CaPl) (w : World) (h : CacheR w c C R row p) (hl : row.length ≤ 1000) :
    Calls Tryz.prog 197 #[.pointer (some ⟨c, 0, none⟩), .int .i64 n] w fun e w' => e = .returned (.tuple #[]) ∧ (∃ p', CacheR w' c C R (row.filter fun k => !decide (k = n)) p' ∧ ∀ k, p'.ex k → p.ex k ∧ k ≠ n) ∧ Off R.m w w' := by
  have hmf : ∀ (fn : Fn) (first cap : Array Value) (w : World), (Instr.makeFunc fn first cap).run Tryz.prog w = .ok (.func fn first cap) w := fun _ _ _ _ => rfl
  have hb1 : Below w.heap.size w (w.alloc (.cells #[.int .i64 n] 3)) := (Below.refl _ _).alloc (Nat.le_refl _) _
  have h1 := h.below hb1
  have hcl : c < w.heap.size := h.lt c (.inl h.mine.1)
  have hrow := delRow_any row n p.rv w.heap.size (w.alloc (.cells #[.int .i64 n] 3)) h1.row (by simp) (fun e => by have := h.lt _ (.inl (h.rowB _ e).1); omega) (by go_simp) hl
  have c4 : w.cell? ⟨c, 4, none⟩ = some p.rv := cell_of_heap h.cells 4
  have HRow := Lib.hid hrow
  have H1 := Lib.hid h1
  have H := Lib.hid h
  clear hrow h1 h
  go_enter Tryz.func197, Tryz.ntmps197
  go_wp2_with fail
  refine HRow.out.mono ?_
  rintro e w2 ⟨rv', rfl, hrv, hro, hoff⟩
  obtain ⟨Ar, cr, hrve⟩ := ownsRow_slice hro
  subst hrve
  have hcr : p.rv.ownBlock ≠ some c := fun e => (H.out.rowB _ e).2.1 rfl
  have hc2 : w2.heap[c]? = _ := (hoff.block c (by simp; omega) hcr).trans H1.out.cells
  have d3 : w2.cell? ⟨c, 3, none⟩ = some (.map (some p.cm)) := cell_of_heap hc2 3
  have d4 : w2.cell? ⟨c, 4, none⟩ = some p.rv := cell_of_heap hc2 4
  have f4 : w2.frozen? ⟨c, 4, none⟩ = false := free_of_heap hc2 4
  have hB2 : w2.cell? ⟨w.heap.size, 0, none⟩ = some (.int .i64 n) := (hoff.cell (p := ⟨w.heap.size, 0, none⟩) (by simp) (fun e => by have := H.out.lt _ (.inl (H.out.rowB _ e).1); simp at this)).trans (by go_simp)
  have HRo := Lib.hid hro
  have HOff := Lib.hid hoff
  have HRv := Lib.hid hrv
  have HC2 := Lib.hid hc2
  have hhc := heap_setCell_at w2 c 4 (.slice Ar (row.filter fun k => !decide (k = n)).length cr) hc2
  have hne2 : w.heap.size ≠ c := by omega
  have hB3 := (World.cell?_setCell_far w2 ⟨c, 4, none⟩ ⟨w.heap.size, 0, none⟩ (.slice Ar (row.filter fun k => !decide (k = n)).length cr) (fun e => hne2 e.symm)).trans hB2
  have hb3 : Off (fun k => p.rv.ownBlock = some k ∨ k = c) w (w2.setCell ⟨c, 4, none⟩ (.slice Ar (row.filter fun k => !decide (k = n)).length cr)) :=
    (((Off.of_below hb1 _).trans hoff (fun k e => .inl (.inl e)))).setCell (.inl (.inr rfl)) _
  obtain ⟨W3, hW3⟩ : ∃ W3, W3 = w2.setCell ⟨c, 4, none⟩ (.slice Ar (row.filter fun k => !decide (k = n)).length cr) := ⟨_, rfl⟩
  have hr3 : W3.ownsRow 0 3 1 (.slice Ar (row.filter fun k => !decide (k = n)).length cr) (row.filter fun k => !decide (k = n)).length ((row.filter fun k => !decide (k = n)).map fun n => Value.int .i64 (n : Nat)) := by
    obtain ⟨h1, h2⟩ := hro
    refine ⟨h1, ?_⟩
    rcases h2 with h2 | ⟨g, cap, cur, e, hB, hg, hr⟩
    · exact .inl h2
    · refine .inr ⟨g, cap, cur, e, hB, ?_, hr⟩
      rw [hW3, Below.heap_setCell _ _ _ _ (fun e2 => (H.out.rowB g (hrv g (by rw [e]; rfl))).2.1 e2)]
      exact hg
  rw [← hW3] at hhc hB3 hb3
  have e3 : W3.cell? ⟨c, 3, none⟩ = some (.map (some p.cm)) := cell_of_heap hhc 3
  obtain ⟨cl, hcl1, hcl2⟩ := H.out.clean
  have hJi : ∀ k, R.i k → ¬ (p.rv.ownBlock = some k ∨ k = c) := fun k hk e => by
    rcases e with e | rfl
    · exact H.out.apart k (H.out.rowB k e).1 hk
    · exact H.out.apart k H.out.mine.1 hk
  have hcmJ : ¬ (p.rv.ownBlock = some p.cm ∨ p.cm = c) := fun e => by
    rcases e with e | e
    · exact (H.out.rowB _ e).2.2.2 rfl
    · exact H.out.unlike.2.1 e.symm
  have hcl3 : MapB (BytesI W3.drew R.i) W3.drew p.cm cl := hcl1.mono (hb3.drew.block _ (H.out.lt _ (.inl H.out.mine.2.2)) hcmJ) (fun _ _ hB => hB.off hb3.drew hJi)
  obtain ⟨w4, hd1, hd2, hd3, hd4⟩ := hcl3.delete Tryz.underlying208 Tryz.underlying3 n 0
  have hb4 : Off (fun k => p.rv.ownBlock = some k ∨ k = c ∨ k = p.cm) w w4 := (hb3.drew.mono (fun k e => .inl (e.imp id .inl))).grown hd3 (fun k e => by cases e; exact .inl (.inr (.inr rfl)))
  have hfin : CacheR w4 c C R (row.filter fun k => !decide (k = n)) { p with rv := .slice Ar (row.filter fun k => !decide (k = n)).length cr, ex := fun k => p.ex k ∧ k ≠ n } := by
    refine H.out.redo hb4 (fun k e => e) (fun _ h => h) (fun _ h => h) (fun k hk => Nat.lt_of_lt_of_le (H.out.lt k hk) hb4.size) H.out.apart ?_ ?_ (fun k e => ⟨.inl (hrv k e), (H.out.rowB k (hrv k e)).1⟩) ⟨pdel cl n, hd2.mono rfl (fun v x hB => ?_), fun q hq => ⟨(hcl2 q (pdel_mem hq)).1, (hcl2 q (pdel_mem hq)).2.1, fun e => ⟨(hcl2 q (pdel_mem hq)).2.2 e, pdel_ne hq⟩⟩⟩
    · rw [hd3.block c (by show c < W3.heap.size; have := hb3.size; omega) (fun e => H.out.unlike.2.1 (Option.some.inj e))]
      exact hhc
    · obtain ⟨h1, h2⟩ := hr3
      refine ⟨h1, ?_⟩
      rcases h2 with h2 | ⟨g, cap, cur, e, hB, hg, hr⟩
      · exact .inl h2
      · refine .inr ⟨g, cap, cur, e, hB, ?_, hr⟩
        rw [hd3.block g (Array.getElem?_eq_some_iff.1 hg).1 (fun e2 => (H.out.rowB g (hrv g (by rw [e]; rfl))).2.2.2 (Option.some.inj e2))]
        exact hg
    · exact hB.off (M := fun k => k = p.cm) ⟨hd3.os, hd3.tape, hd3.output, hd3.size, fun k hk hm => hd3.block k hk (fun e => hm (Option.some.inj e))⟩ (fun k hk e => H.out.apart k (by rw [e]; exact H.out.mine.2.2) hk)
  have hoffF : Off R.m w w4 := hb4.mono (fun k e => .inl (by
    rcases e with e | rfl | rfl
    · exact (H.out.rowB k e).1
    · exact H.out.mine.1
    · exact H.out.mine.2.2))
  have HFin := Lib.hid hfin
  have HOffF := Lib.hid hoffF
  clear hro hoff hrv hc2 hhc hb3 hr3 hcl1 hcl2 hJi hcmJ hcl3 hd2 hd3 hd4 hb4 hfin hoffF hb1 hB2 d3
  go_wp2_with fail
  rw [← hW3]
  clear hW3
  clear d4 f4
  go_region
  all_goals (go_end0; exact ⟨rfl, ⟨_, HFin.out, fun _ e => e⟩, HOffF.out⟩)
end Go.Proofs.YtakmplpfjcddiaaGreatDoor

namespace Go.Proofs.YtakmplpfjcddiaaGreatDoor
open Go.RowKit Go.Shelf Pa Go.Sort Go.Maps
attribute [local go_sem] bs_toList bs_size
/-- R, and the block of a slice that may be written, and blocks that are only read. -/
def Reg.add (R : Reg) (v : Value) (Nw : Nat → Prop) : Reg := ⟨fun k => R.m k ∨ v.ownBlock = some k, fun k => R.i k ∨ Nw k⟩
theorem info_int : (Tryz.prog.info? 3).map (fun i => (i.zero, i.size, i.bytes)) = some (some (.int .i64 0), 1, 8) := by kernel_rfl
theorem bytes_zero (w : World) : (zeroValue 37).run Tryz.prog w = .ok (.slice none 0 0) w := by kernel_rfl
/-- Behind the append to the row: the row is laid back, and the page is laid into the clean ones. -/
theorem CacheR.put {w5 w6 : World} {c : Nat} {C : Ca} {R : Reg} {row : List Nat} {p : CaPl} {n : Nat} {x : Str} {b v' : Value} {Nw : Nat → Prop} (h : CacheR w5 c C R row p)
    (hown : w6.ownsRow 0 3 1 v' (row.length + 1) ((row.map fun n => Value.int .i64 (n : Nat)) ++ [.int .i64 (n : Nat)])) (hgrow : (w5.alloc (.cells #[.int .i64 n] 3)).grownBy w6 p.rv.ownBlock)
    (hloc : v'.ownBlock = p.rv.ownBlock ∨ v'.ownBlock = some (w5.heap.size + 1)) (hNw : ∀ k, Nw k → k < w5.heap.size ∧ ¬ R.has k) (hb : BytesI w5 (fun k => R.i k ∨ Nw k) b x) (hx : x = C.G.rd n) (hn : n < C.G.pages) (hnd : phas C.dirty n = false) :
    w6.cell? ⟨c, 4, none⟩ = some p.rv ∧ w6.frozen? ⟨c, 4, none⟩ = false ∧ (w6.setCell ⟨c, 4, none⟩ v').cell? ⟨c, 3, none⟩ = some (.map (some p.cm)) ∧
    ∃ w8, (Instr.mapUpdate 208 (.map (some p.cm)) (.int .i64 n) b).run Tryz.prog (w6.setCell ⟨c, 4, none⟩ v') = .ok () w8 ∧ CacheR w8 c C (R.add v' Nw) (row ++ [n]) { p with rv := v' } ∧ Off R.m w5 w8 := by
  have hcl : c < w5.heap.size := h.lt c (.inl h.mine.1)
  have hcr : p.rv.ownBlock ≠ some c := fun e => (h.rowB _ e).2.1 rfl
  have hoff6 : Off (fun k => p.rv.ownBlock = some k) w5 w6 := ((Off.refl _ w5).alloc _).grown hgrow (fun k e => .inl e)
  have hc6 : w6.heap[c]? = _ := (hoff6.block c hcl hcr).trans h.cells
  have hc7 := heap_setCell_at w6 c 4 v' hc6
  have hoff7 : Off (fun k => p.rv.ownBlock = some k ∨ k = c) w5 (w6.setCell ⟨c, 4, none⟩ v') := (hoff6.mono (fun k e => .inl (.inl e))).setCell (.inl (.inr rfl)) _
  refine ⟨cell_of_heap hc6 4, free_of_heap hc6 4, cell_of_heap hc7 3, ?_⟩
  have hJi : ∀ k, R.i k ∨ Nw k → ¬ (p.rv.ownBlock = some k ∨ k = c) := fun k hk e => by
    have hm : R.m k := by
      rcases e with e | rfl
      · exact (h.rowB k e).1
      · exact h.mine.1
    rcases hk with hk | hk
    · exact h.apart k hm hk
    · exact (hNw k hk).2 (.inl hm)
  have hcmJ : ¬ (p.rv.ownBlock = some p.cm ∨ p.cm = c) := fun e => by
    rcases e with e | e
    · exact (h.rowB _ e).2.2.2 rfl
    · exact h.unlike.2.1 e.symm
  have hcml := h.lt _ (.inl h.mine.2.2)
  obtain ⟨cl, hcl1, hcl2⟩ := h.clean
  have hcl7 : MapB (BytesI (w6.setCell ⟨c, 4, none⟩ v') (fun k => R.i k ∨ Nw k)) (w6.setCell ⟨c, 4, none⟩ v') p.cm cl :=
    hcl1.mono (hoff7.block _ hcml hcmJ) (fun _ _ hB => (hB.off hoff7 (fun k hk => hJi k (.inl hk))).mono fun k hk _ => .inl hk)
  obtain ⟨w8, hu1, hu2, hu3, hu4⟩ := hcl7.update Tryz.underlying208 Tryz.underlying3 n b x (hb.off hoff7 hJi)
  refine ⟨w8, hu1, ?_, ?_⟩
  · have hoff8 : Off (fun k => p.rv.ownBlock = some k ∨ k = c ∨ k = p.cm) w5 w8 := (hoff7.mono (fun k e => .inl (e.imp id .inl))).grown hu3 (fun k e => by cases e; exact .inl (.inr (.inr rfl)))
    have hnew : ∀ k, v'.ownBlock = some k → p.rv.ownBlock = some k ∨ w5.heap.size ≤ k := fun k e => by
      rcases hloc with h1 | h1
      · exact .inl (h1 ▸ e)
      · rw [h1] at e; right; injection e with e; omega
    have hvl : ∀ k, v'.ownBlock = some k → k < w8.heap.size := fun k e => by
      have h1 := (World.ownsRow.lt hown k e).2
      have h2 : (w6.setCell ⟨c, 4, none⟩ v').heap.size = w6.heap.size := by simp [World.setCell]
      omega
    refine h.redo hoff8 (fun k e => e) (fun _ h => .inl h) (fun _ h => .inl h) (fun k hk => ?_) (fun k hm hi => ?_) ?_ ?_ (fun k e => ⟨hnew k e, .inr e⟩) ⟨_, hu2.mono rfl (fun v y hB => hB.off (M := fun k => k = p.cm) ⟨hu3.os, hu3.tape, hu3.output, hu3.size, fun k hk hm => hu3.block k hk (fun e => hm (Option.some.inj e))⟩ (fun k hk e => ?_)), fun q hq => ?_⟩
    · rcases hk with (hk | hk) | (hk | hk)
      · exact Nat.lt_of_lt_of_le (h.lt k (.inl hk)) hoff8.size
      · exact hvl k hk
      · exact Nat.lt_of_lt_of_le (h.lt k (.inr hk)) hoff8.size
      · exact Nat.lt_of_lt_of_le (hNw k hk).1 hoff8.size
    · have him : ¬ R.m k := fun e => by
        rcases hi with hi | hi
        · exact h.apart k e hi
        · exact (hNw k hi).2 (.inl e)
      rcases hm with hm | hm
      · exact him hm
      · rcases hnew k hm with e | e
        · exact him (h.rowB k e).1
        · have : k < w5.heap.size := by
            rcases hi with hi | hi
            · exact h.lt k (.inr hi)
            · exact (hNw k hi).1
          omega
    · have h2 : (w6.setCell ⟨c, 4, none⟩ v').heap.size = w6.heap.size := by simp [World.setCell]
      rw [hu3.block c (by have := hoff6.size; omega) (fun e => h.unlike.2.1 (Option.some.inj e)), hc7]
      rfl
    · obtain ⟨h1, h2⟩ := hown
      refine ⟨by simp, ?_⟩
      rcases h2 with ⟨_, h2⟩ | ⟨g, cap, cur, e, hB, hg, hr1, hr2, hr3, hr4⟩
      · omega
      · have hgb := hnew g (by rw [e]; rfl)
        have hgc : g ≠ c ∧ g ≠ p.cm := by
          rcases hgb with hgb | hgb
          · exact ⟨(h.rowB g hgb).2.1, (h.rowB g hgb).2.2.2⟩
          · exact ⟨by omega, by omega⟩
        have hgl := (Array.getElem?_eq_some_iff.1 hg).1
        have h2 : (w6.setCell ⟨c, 4, none⟩ v').heap.size = w6.heap.size := by simp [World.setCell]
        refine .inr ⟨g, cap, cur, by rw [e]; simp, hB, ?_, by simpa using hr1, hr2, hr3, ?_⟩
        · rw [hu3.block g (by omega) (fun e2 => hgc.2 (Option.some.inj e2)), Below.heap_setCell _ _ _ _ hgc.1]
          exact hg
        · rw [List.length_append, List.length_singleton, hr4]; simp
    · have hm : R.m k := by rw [e]; exact h.mine.2.2
      rcases hk with hk | hk
      · exact h.apart k hm hk
      · exact (hNw k hk).2 (.inl hm)
    · rcases pset_mem hq with rfl | hq
      · exact ⟨hn, hx, fun e => by rw [hnd] at e; cases e⟩
      · exact hcl2 q hq
  · refine (hoff7.mono (M' := R.m) (fun k e => .inl ?_)).grown hu3 (fun k e => by cases e; exact .inl h.mine.2.2)
    rcases e with e | rfl
    · exact (h.rowB k e).1
    · exact h.mine.1
theorem filter_lt {l : List Nat} {r : Nat} (h : l[0]? = some r) : (l.filter fun k => !decide (k = r)).length + 1 ≤ l.length := by
  cases l with
  | nil => simp at h
  | cons a l =>
    have : a = r := by simpa using h
    subst this
    rw [List.filter_cons_of_neg (by simp)]
    have := List.length_filter_le (fun k => !decide (k = a)) l
    simp; omega
/-- What Read of a cache hands back: the page as it is now, in memory of its own; the cache is as it was, but for what it keeps. -/
def CReadPost (w : World) (c : Nat) (C : Ca) (R : Reg) (n : Nat) (e : Ending) (w' : World) : Prop :=
  ∃ v R', e = .returned (.tuple #[v, .int .i64 0]) ∧ OwnB w' w.heap.size v (C.rd n) ∧ CacheAt w' c C R' ∧ R.To R' w.heap.size ∧ Off R.m w w' ∧ ∀ k, v.ownBlock = some k → ¬ R'.has k
theorem CReadPost.mk {w w10 w11 : World} {c : Nat} {C : Ca} {R R' : Reg} {n : Nat} {e : Ending} {v : Value} {x : Str} (h : CacheAt w10 c C R') (hT : R.To R' w.heap.size) (ho : Off R.m w w10) (hv : OwnB w11 w10.heap.size v x) (hb : Below w10.heap.size w10 w11) (he : e = .returned (.tuple #[v, .int .i64 0])) (hx : x = C.rd n) :
    CReadPost w c C R n e w11 := by
  subst hx
  refine ⟨v, R', he, ⟨hv.1, hv.2.imp id fun ⟨g, cap, cur, e1, e2, e3⟩ => ⟨g, cap, cur, e1, Nat.le_trans ho.size e2, e3⟩⟩, h.below hb, hT, ho.step hb, fun k hk hR => ?_⟩
  have h1 := (hv.block hk).1
  obtain ⟨_, _, _, _, h⟩ := h
  have := h.lt k hR
  omega
theorem Ca.rd_dirty {C : Ca} {n : Nat} {x : Str} (h : pget C.dirty n = some x) : C.rd n = x := by unfold Ca.rd; rw [h]
theorem Ca.rd_clean {C : Ca} {n : Nat} (h : pget C.dirty n = none) : C.rd n = C.G.rd n := by unfold Ca.rd; rw [h]
set_option maxRecDepth 100000 in
set_option maxHeartbeats 4000000 in
theorem cread_any (n c : Nat) (C : Ca) (R : Reg) (w : World) (h : CacheAt w c C R) (hn : n < C.G.pages) :
    Calls Tryz.prog 128 #[.pointer (some ⟨c, 0, none⟩), .int .i64 n] w (CReadPost w c C R n) := by
  obtain ⟨i0, hi0, hz0, hz1, hz2⟩ := info_parts info_int
  obtain ⟨row, p, hrl, hex, h⟩ := h
  have hmost := h.ok.most
  have hlook := look_any (n : Int) c C R row p w h
  rw [if_pos ⟨by omega, by omega⟩] at hlook
  have HL := Lib.hid hlook
  have H := Lib.hid h
  have HEx := Lib.hid hex
  clear hlook h hex
  go_enter Tryz.func128, Tryz.ntmps128
  go_wp2_with fail
  refine HL.out.mono ?_
  rintro e W ⟨rfl, q, hw⟩
  have hW : Below w.heap.size w W := by rw [hw]; exact below_drewN (Below.refl _ _) _
  have hC := H.out.below hW
  have c0 : W.cell? ⟨c, 0, none⟩ = some (.pointer (some ⟨p.l, 0, none⟩)) := cell_of_heap hC.cells 0
  have c2 : W.cell? ⟨c, 2, none⟩ = some (.map (some p.dm)) := cell_of_heap hC.cells 2
  have c3 : W.cell? ⟨c, 3, none⟩ = some (.map (some p.cm)) := cell_of_heap hC.cells 3
  have HC := Lib.hid hC
  clear hw
  rcases hC.dirty.lookup Tryz.underlying208 Tryz.underlying3 bytes_zero n with ⟨hnd, hh2, _, hlo⟩ | ⟨x, v, _, hh2, hB, _, hlo⟩
  · have hrd : C.G.rd n = C.rd n := (Ca.rd_clean hh2).symm
    have HRd := Lib.hid hrd
    have HNd := Lib.hid hnd
    clear hrd hh2 hnd
    obtain ⟨cl, hcl1, hcl2⟩ := hC.clean
    rcases hcl1.lookup Tryz.underlying208 Tryz.underlying3 bytes_zero n with ⟨_, _, _, hlo2⟩ | ⟨x, b, _, e2, hB, _, hlo2⟩
    · have hlr := lread_any n p.l C.G p.RL W hC.log hn
      have HLr := Lib.hid hlr
      clear hlr hcl1 hcl2 hC
      go_wp2_with fail
      refine HLr.out.mono ?_
      rintro e W3 ⟨b, rfl, ho3, hb3⟩
      obtain ⟨Nw, hNw0⟩ : ∃ Nw : Nat → Prop, Nw = fun k => b.ownBlock = some k := ⟨_, rfl⟩
      have hrdl : (C.G.rd n).length ≤ 140737488355328 := by rw [HC.out.rdlen hn]; omega
      have HBx : Hid (BytesI W3 (fun k => R.i k ∨ Nw k) b (C.G.rd n)) := Lib.hid (by
        rw [hNw0]; exact (ho3.bytes hrdl).mono fun k hk _ => .inr hk)
      have HNw : Hid (∀ k, Nw k → k < W3.heap.size ∧ ¬ R.has k ∧ w.heap.size ≤ k) := Lib.hid (fun k hk => by
        rw [hNw0] at hk
        have h1 := ho3.block hk
        refine ⟨h1.2, fun hR => ?_, by have := hW.size; omega⟩
        have := HC.out.lt k hR
        omega)
      have HC3 := HC.out.below hb3
      have hWb : Off R.m w W3 := Off.of_below (hW.trans (hb3.mono hW.size)) _
      obtain ⟨Ab, cb, rfl⟩ := ownsRow_slice ho3
      clear HC c0 c2 c3 hlo hlo2 hb3 ho3 hNw0 hrdl
      have HC := Lib.hid HC3
      clear HC3
      rename_i W0
      clear hW
      go_wp2_with fail
      obtain ⟨W, hWW⟩ : ∃ W, W = W3 := ⟨_, rfl⟩
      rw [← hWW] at HC hWb HBx HNw ⊢
      clear hWW
      have hdr := drop_any n c C R row p W (HC.out) (by omega)
      have HDr := Lib.hid hdr
      clear hdr
      refine HDr.out.mono ?_
      rintro e w5 ⟨rfl, ⟨p5, hc5, hx5⟩, ho5⟩
      have HX5 := Lib.hid (fun k e => HEx.out k (hx5 k e).1)
      clear hx5
      obtain ⟨row1, hrow1⟩ : ∃ r, r = row.filter fun k => !decide (k = n) := ⟨_, rfl⟩
      have hle : row1.length ≤ row.length := by rw [hrow1]; exact List.length_filter_le _ _
      rw [← hrow1] at hc5
      have hNR : ∀ k, R.i k ∨ Nw k → ¬ R.m k := fun k hk hm => by
        rcases hk with hk | hk
        · exact HC.out.apart k hm hk
        · exact (HNw.out k hk).2.1 (.inl hm)
      have hB5 := HBx.out.off ho5 hNR
      have hNw5 : ∀ k, Nw k → k < w5.heap.size ∧ ¬ R.has k := fun k hk => ⟨Nat.lt_of_lt_of_le (HNw.out k hk).1 ho5.size, (HNw.out k hk).2.1⟩
      have c45 : w5.cell? ⟨c, 4, none⟩ = some p5.rv := cell_of_heap hc5.cells 4
      have hown1 := hc5.row.alloc (.cells #[.int .i64 n] 3)
      have hkm : row1.length + 1 ≤ maxLen := by unfold maxLen; omega
      have hkb : (row1.length + 1) * 8 ≤ 140737488355328 := by omega
      have HC5 := Lib.hid hc5
      have HB5 := Lib.hid hB5
      have HNw5 := Lib.hid hNw5
      have HNR := Lib.hid hNR
      have HOwn := Lib.hid hown1
      have HO5 := Lib.hid ho5
      clear hrow1 hc5 hB5 hNw5 hNR hown1 ho5
      go_wp2_with (at_builtin; refine wpList_append_own_at _ rfl _ _ 82 rfl 0 3 i0 (.int .i64 0) 1 8 Tryz.underlying82 hi0 hz0 hz1 hz2 rfl (by decide) p5.rv _ _ rfl HOwn.out ⟨w5.heap.size, 0, none⟩ 1 1 [.int .i64 (n : Nat)] rfl rfl (cell_one_new _ _ _) (by intro u hu; simp at hu; subst hu; rfl) hkm hkb (Nat.zero_le _) ?_; intro v' w6 hown' hgrow hnil hloc; rw [World.size_alloc] at hloc; obtain ⟨g, cv, rfl, hcell⟩ := ownsRow_some hown'; obtain ⟨k1, k2, k3, w8, hu1, hc8, ho8⟩ := HC5.out.put hown' hgrow hloc HNw5.out HB5.out rfl hn HNd.out; have HC8 := Lib.hid hc8; have HO8 := Lib.hid ho8; have HHl := Lib.hid hloc; have HOw6 := Lib.hid hown'; clear hown' hgrow hnil hloc hcell hc8 ho8)
      have k4 : w8.cell? ⟨c, 4, none⟩ = some (.slice (some ⟨g, 0, none⟩) (row1.length + 1) cv) := cell_of_heap HC8.out.cells 4
      have k5 : w8.cell? ⟨c, 1, none⟩ = some (.int .i64 C.most) := cell_of_heap HC8.out.cells 1
      have hTo8 : R.To (R.add (.slice (some ⟨g, 0, none⟩) (row1.length + 1) cv) Nw) w.heap.size := ⟨fun k hk => by
          rcases hk with hk | hk
          · exact .inl hk
          · rcases HHl.out with e | e
            · exact .inl (HC5.out.rowB k (by rw [← e]; exact hk)).1
            · rw [e] at hk; injection hk with hk; right; have := HO5.out.size; have := hWb.size; omega, fun k hk => by
          rcases hk with hk | hk
          · exact .inl hk
          · exact .inr (HNw.out k hk).2.2⟩
      have hB8 := HB5.out.off HO8.out HNR.out
      have hO8w : Off R.m w w8 := ((hWb.then HO5.out).then HO8.out)
      have HTo8 := Lib.hid hTo8
      have HB8 := Lib.hid hB8
      have HO8w := Lib.hid hO8w
      clear hTo8 hB8 hO8w k1 k2 k3 hu1
      by_cases hgt : C.most < row1.length + 1
      · have hgt' : decide ((C.most : Int) < ((row1.length : Int) + 1)) = true := by simp; omega
        go_wp2_with fail
        go_quiet (fail)
        have hbq : Below w8.heap.size w8 (w8.drewN nq) := below_drewN (Below.refl _ _) _
        have hc9 := HC8.out.below hbq
        obtain ⟨r0, hr0⟩ : ∃ r0, (row1 ++ [n])[0]? = some r0 := ⟨_, List.getElem?_eq_getElem (by simp)⟩
        have k6 : (w8.drewN nq).cell? ⟨c, 4, none⟩ = some (.slice (some ⟨g, 0, none⟩) (row1.length + 1) cv) := cell_of_heap hc9.cells 4
        have k7 : (w8.drewN nq).cell? ⟨g, 0, none⟩ = some (.int .i64 r0) := by
          have hrw := hc9.row
          rw [show (row1 ++ [n]).length = row1.length + 1 from by simp] at hrw
          obtain ⟨g', cv', e, hce⟩ := ownsRow_some hrw
          injection e with e1 e2 e3
          injection e1 with e1
          injection e1 with e1
          have := hce 0 (.int .i64 r0) (by rw [List.getElem?_map, hr0]; rfl)
          rw [e1]; exact this
        have hdr2 := drop_any r0 c C _ (row1 ++ [n]) _ (w8.drewN nq) hc9 (by simp; omega)
        have hfl := filter_lt hr0
        have HDr2 := Lib.hid hdr2
        have HFl := Lib.hid hfl
        have HBq := Lib.hid hbq
        have HC9 := Lib.hid hc9
        clear hdr2 hfl hr0 hbq hc9 k4 k5
        go_wp2_with fail
        refine HDr2.out.mono ?_
        rintro e w10 ⟨rfl, ⟨p10, hc10, hx10⟩, ho10⟩
        have hB10 := (HB8.out.off (Off.of_below HBq.out (fun _ => False)) (fun _ _ e => e)).off ho10 (fun k hk hm => HC8.out.apart k hm hk)
        have hat10 : CacheAt w10 c C (R.add (.slice (some ⟨g, 0, none⟩) (row1.length + 1) cv) Nw) := ⟨_, p10, by have := HFl.out; simp at this ⊢; omega, fun k e => HX5.out k (hx10 k e).1, hc10⟩
        have hO10 : Off R.m w w10 := (HO8w.out.step HBq.out).trans ho10 (fun k hk => by
          rcases HTo8.out.m k hk with e | e
          · exact .inl e
          · exact .inr e)
        have hcl := cloneI_any _ _ w10 hB10.at
        have HCl := Lib.hid hcl
        have HAt := Lib.hid hat10
        have HO10 := Lib.hid hO10
        clear hB10 hat10 hO10 hcl hc10 hx10 ho10
        go_wp2_with fail
        refine HCl.out.mono ?_
        rintro e w11 ⟨v11, rfl, ho11, hb11⟩
        have hfin := CReadPost.mk (e := .returned (.tuple #[v11, .int .i64 0])) HAt.out HTo8.out HO10.out ho11 hb11 rfl HRd.out
        have HFin := Lib.hid hfin
        clear hfin ho11 hb11
        go_wp2_with fail
        go_ret2
        exact HFin.out
      · have hgt' : decide ((C.most : Int) < ((row1.length : Int) + 1)) = false := by simp; omega
        go_wp2_with fail
        go_quiet (fail)
        have hbq : Below w8.heap.size w8 (w8.drewN nq) := below_drewN (Below.refl _ _) _
        have hB10 := HB8.out.off (Off.of_below hbq (fun _ => False)) (fun _ _ e => e)
        have hat10 : CacheAt (w8.drewN nq) c C (R.add (.slice (some ⟨g, 0, none⟩) (row1.length + 1) cv) Nw) := ⟨row1 ++ [n], { p5 with rv := .slice (some ⟨g, 0, none⟩) (row1.length + 1) cv }, by simp; omega, fun k e => HX5.out k e, HC8.out.below hbq⟩
        have hO10 : Off R.m w (w8.drewN nq) := HO8w.out.step hbq
        have hcl := cloneI_any _ _ (w8.drewN nq) hB10.at
        have HCl := Lib.hid hcl
        have HAt := Lib.hid hat10
        have HO10 := Lib.hid hO10
        clear hB10 hat10 hO10 hcl hbq k4 k5
        go_wp2_with fail
        refine HCl.out.mono ?_
        rintro e w11 ⟨v11, rfl, ho11, hb11⟩
        have hfin := CReadPost.mk (e := .returned (.tuple #[v11, .int .i64 0])) HAt.out HTo8.out HO10.out ho11 hb11 rfl HRd.out
        have HFin := Lib.hid hfin
        clear hfin ho11 hb11
        go_wp2_with fail
        go_ret2
        exact HFin.out
    · obtain rfl : x = C.G.rd n := (hcl2 _ (pget_some e2).1).2.1
      obtain ⟨Nw, hNw0⟩ : ∃ Nw : Nat → Prop, Nw = fun _ => False := ⟨_, rfl⟩
      have HBx : Hid (BytesI W (fun k => R.i k ∨ Nw k) b (C.G.rd n)) := Lib.hid (hB.mono fun k hk _ => .inl hk)
      have HNw : Hid (∀ k, Nw k → k < W.heap.size ∧ ¬ R.has k ∧ w.heap.size ≤ k) := Lib.hid (fun k hk => by rw [hNw0] at hk; exact hk.elim)
      have hWb : Off R.m w W := Off.of_below hW _
      obtain ⟨Ab, cb, rfl, _, _⟩ := id hB
      clear hB hcl1 hcl2 hC hNw0 e2 hW
      go_wp2_with fail
      have hdr := drop_any n c C R row p W (HC.out) (by omega)
      have HDr := Lib.hid hdr
      clear hdr
      refine HDr.out.mono ?_
      rintro e w5 ⟨rfl, ⟨p5, hc5, hx5⟩, ho5⟩
      have HX5 := Lib.hid (fun k e => HEx.out k (hx5 k e).1)
      clear hx5
      obtain ⟨row1, hrow1⟩ : ∃ r, r = row.filter fun k => !decide (k = n) := ⟨_, rfl⟩
      have hle : row1.length ≤ row.length := by rw [hrow1]; exact List.length_filter_le _ _
      rw [← hrow1] at hc5
      have hNR : ∀ k, R.i k ∨ Nw k → ¬ R.m k := fun k hk hm => by
        rcases hk with hk | hk
        · exact HC.out.apart k hm hk
        · exact (HNw.out k hk).2.1 (.inl hm)
      have hB5 := HBx.out.off ho5 hNR
      have hNw5 : ∀ k, Nw k → k < w5.heap.size ∧ ¬ R.has k := fun k hk => ⟨Nat.lt_of_lt_of_le (HNw.out k hk).1 ho5.size, (HNw.out k hk).2.1⟩
      have c45 : w5.cell? ⟨c, 4, none⟩ = some p5.rv := cell_of_heap hc5.cells 4
      have hown1 := hc5.row.alloc (.cells #[.int .i64 n] 3)
      have hkm : row1.length + 1 ≤ maxLen := by unfold maxLen; omega
      have hkb : (row1.length + 1) * 8 ≤ 140737488355328 := by omega
      have HC5 := Lib.hid hc5
      have HB5 := Lib.hid hB5
      have HNw5 := Lib.hid hNw5
      have HNR := Lib.hid hNR
      have HOwn := Lib.hid hown1
      have HO5 := Lib.hid ho5
      clear hrow1 hc5 hB5 hNw5 hNR hown1 ho5
      go_wp2_with (at_builtin; refine wpList_append_own_at _ rfl _ _ 82 rfl 0 3 i0 (.int .i64 0) 1 8 Tryz.underlying82 hi0 hz0 hz1 hz2 rfl (by decide) p5.rv _ _ rfl HOwn.out ⟨w5.heap.size, 0, none⟩ 1 1 [.int .i64 (n : Nat)] rfl rfl (cell_one_new _ _ _) (by intro u hu; simp at hu; subst hu; rfl) hkm hkb (Nat.zero_le _) ?_; intro v' w6 hown' hgrow hnil hloc; rw [World.size_alloc] at hloc; obtain ⟨g, cv, rfl, hcell⟩ := ownsRow_some hown'; obtain ⟨k1, k2, k3, w8, hu1, hc8, ho8⟩ := HC5.out.put hown' hgrow hloc HNw5.out HB5.out rfl hn HNd.out; have HC8 := Lib.hid hc8; have HO8 := Lib.hid ho8; have HHl := Lib.hid hloc; have HOw6 := Lib.hid hown'; clear hown' hgrow hnil hloc hcell hc8 ho8)
      have k4 : w8.cell? ⟨c, 4, none⟩ = some (.slice (some ⟨g, 0, none⟩) (row1.length + 1) cv) := cell_of_heap HC8.out.cells 4
      have k5 : w8.cell? ⟨c, 1, none⟩ = some (.int .i64 C.most) := cell_of_heap HC8.out.cells 1
      have hTo8 : R.To (R.add (.slice (some ⟨g, 0, none⟩) (row1.length + 1) cv) Nw) w.heap.size := ⟨fun k hk => by
          rcases hk with hk | hk
          · exact .inl hk
          · rcases HHl.out with e | e
            · exact .inl (HC5.out.rowB k (by rw [← e]; exact hk)).1
            · rw [e] at hk; injection hk with hk; right; have := HO5.out.size; have := hWb.size; omega, fun k hk => by
          rcases hk with hk | hk
          · exact .inl hk
          · exact .inr (HNw.out k hk).2.2⟩
      have hB8 := HB5.out.off HO8.out HNR.out
      have hO8w : Off R.m w w8 := ((hWb.then HO5.out).then HO8.out)
      have HTo8 := Lib.hid hTo8
      have HB8 := Lib.hid hB8
      have HO8w := Lib.hid hO8w
      clear hTo8 hB8 hO8w k1 k2 k3 hu1
      by_cases hgt : C.most < row1.length + 1
      · have hgt' : decide ((C.most : Int) < ((row1.length : Int) + 1)) = true := by simp; omega
        go_wp2_with fail
        go_quiet (fail)
        have hbq : Below w8.heap.size w8 (w8.drewN nq) := below_drewN (Below.refl _ _) _
        have hc9 := HC8.out.below hbq
        obtain ⟨r0, hr0⟩ : ∃ r0, (row1 ++ [n])[0]? = some r0 := ⟨_, List.getElem?_eq_getElem (by simp)⟩
        have k6 : (w8.drewN nq).cell? ⟨c, 4, none⟩ = some (.slice (some ⟨g, 0, none⟩) (row1.length + 1) cv) := cell_of_heap hc9.cells 4
        have k7 : (w8.drewN nq).cell? ⟨g, 0, none⟩ = some (.int .i64 r0) := by
          have hrw := hc9.row
          rw [show (row1 ++ [n]).length = row1.length + 1 from by simp] at hrw
          obtain ⟨g', cv', e, hce⟩ := ownsRow_some hrw
          injection e with e1 e2 e3
          injection e1 with e1
          injection e1 with e1
          have := hce 0 (.int .i64 r0) (by rw [List.getElem?_map, hr0]; rfl)
          rw [e1]; exact this
        have hdr2 := drop_any r0 c C _ (row1 ++ [n]) _ (w8.drewN nq) hc9 (by simp; omega)
        have hfl := filter_lt hr0
        have HDr2 := Lib.hid hdr2
        have HFl := Lib.hid hfl
        have HBq := Lib.hid hbq
        have HC9 := Lib.hid hc9
        clear hdr2 hfl hr0 hbq hc9 k4 k5
        go_wp2_with fail
        refine HDr2.out.mono ?_
        rintro e w10 ⟨rfl, ⟨p10, hc10, hx10⟩, ho10⟩
        have hB10 := (HB8.out.off (Off.of_below HBq.out (fun _ => False)) (fun _ _ e => e)).off ho10 (fun k hk hm => HC8.out.apart k hm hk)
        have hat10 : CacheAt w10 c C (R.add (.slice (some ⟨g, 0, none⟩) (row1.length + 1) cv) Nw) := ⟨_, p10, by have := HFl.out; simp at this ⊢; omega, fun k e => HX5.out k (hx10 k e).1, hc10⟩
        have hO10 : Off R.m w w10 := (HO8w.out.step HBq.out).trans ho10 (fun k hk => by
          rcases HTo8.out.m k hk with e | e
          · exact .inl e
          · exact .inr e)
        have hcl := cloneI_any _ _ w10 hB10.at
        have HCl := Lib.hid hcl
        have HAt := Lib.hid hat10
        have HO10 := Lib.hid hO10
        clear hB10 hat10 hO10 hcl hc10 hx10 ho10
        go_wp2_with fail
        refine HCl.out.mono ?_
        rintro e w11 ⟨v11, rfl, ho11, hb11⟩
        have hfin := CReadPost.mk (e := .returned (.tuple #[v11, .int .i64 0])) HAt.out HTo8.out HO10.out ho11 hb11 rfl HRd.out
        have HFin := Lib.hid hfin
        clear hfin ho11 hb11
        go_wp2_with fail
        go_ret2
        exact HFin.out
      · have hgt' : decide ((C.most : Int) < ((row1.length : Int) + 1)) = false := by simp; omega
        go_wp2_with fail
        go_quiet (fail)
        have hbq : Below w8.heap.size w8 (w8.drewN nq) := below_drewN (Below.refl _ _) _
        have hB10 := HB8.out.off (Off.of_below hbq (fun _ => False)) (fun _ _ e => e)
        have hat10 : CacheAt (w8.drewN nq) c C (R.add (.slice (some ⟨g, 0, none⟩) (row1.length + 1) cv) Nw) := ⟨row1 ++ [n], { p5 with rv := .slice (some ⟨g, 0, none⟩) (row1.length + 1) cv }, by simp; omega, fun k e => HX5.out k e, HC8.out.below hbq⟩
        have hO10 : Off R.m w (w8.drewN nq) := HO8w.out.step hbq
        have hcl := cloneI_any _ _ (w8.drewN nq) hB10.at
        have HCl := Lib.hid hcl
        have HAt := Lib.hid hat10
        have HO10 := Lib.hid hO10
        clear hB10 hat10 hO10 hcl hbq k4 k5
        go_wp2_with fail
        refine HCl.out.mono ?_
        rintro e w11 ⟨v11, rfl, ho11, hb11⟩
        have hfin := CReadPost.mk (e := .returned (.tuple #[v11, .int .i64 0])) HAt.out HTo8.out HO10.out ho11 hb11 rfl HRd.out
        have HFin := Lib.hid hfin
        clear hfin ho11 hb11
        go_wp2_with fail
        go_ret2
        exact HFin.out
  · have hrd : x = C.rd n := (Ca.rd_dirty hh2).symm
    have HRd := Lib.hid hrd
    have hcl := cloneI_any v x W hB.at
    have HCl := Lib.hid hcl
    obtain ⟨A, cp, rfl, _, _⟩ := id hB
    have hO : Off R.m w W := Off.of_below hW _
    have HO := Lib.hid hO
    clear hrd hcl hB hh2 hC hO
    go_wp2_with fail
    refine HCl.out.mono ?_
    rintro e w11 ⟨v11, rfl, ho11, hb11⟩
    have hfin := CReadPost.mk (e := .returned (.tuple #[v11, .int .i64 0])) (⟨row, p, hrl, HEx.out, HC.out⟩ : CacheAt W c C R) (Reg.To.refl R w.heap.size) HO.out ho11 hb11 rfl HRd.out
    have HFin := Lib.hid hfin
    clear hfin ho11 hb11
    go_wp2_with fail
    go_ret2
    exact HFin.out
end Go.Proofs.YtakmplpfjcddiaaGreatDoor

namespace Go.Proofs.YtakmplpfjcddiaaGreatDoor
open Go.RowKit Go.Shelf Pa Go.Sort Go.Maps
attribute [local go_sem] bs_toList bs_size
/-- A cache behind a Write. -/
def Ca.set (C : Ca) (n : Nat) (x : Str) : Ca := { C with dirty := pset C.dirty n x }
def Ca.may (C : Ca) (n : Nat) : Bool := phas C.dirty n || decide (0 < C.room)
theorem Ca.rd_set (C : Ca) (n m : Nat) (x : Str) : (C.set n x).rd m = if m = n then x else C.rd m := by
  unfold Ca.rd Ca.set
  simp only
  rw [pget_pset]
  by_cases h : m = n
  · rw [if_pos h, if_pos h]
  · rw [if_neg h, if_neg h]
theorem Ca.Ok.set {C : Ca} (h : C.Ok) {n : Nat} {x : Str} (hn : n < C.G.pages) (hx : x.length = 512) (hm : C.may n = true) : (C.set n x).Ok := by
  refine ⟨h.most, fun p hp => ?_, ?_⟩
  · rcases pset_mem hp with rfl | hp
    · exact ⟨hn, hx⟩
    · exact h.dirty p hp
  · show (pset C.dirty n x).length ≤ C.G.cap
    rw [pset_length]
    have := h.few
    split
    · exact this
    · rename_i hp
      unfold Ca.may Ca.room at hm
      simp only [hp, Bool.false_or, decide_eq_true_eq] at hm
      omega
/-- What Write of a cache hands back. -/
def CWritePost (w : World) (c : Nat) (C : Ca) (R : Reg) (n : Nat) (x : Str) (e : Ending) (w' : World) : Prop :=
  ∃ R', e = .returned (.int .i64 (if C.may n = true then 0 else 7)) ∧ CacheAt w' c (if C.may n = true then C.set n x else C) R' ∧ R.To R' w.heap.size ∧ Off R.m w w'
theorem phas_put {α : Type} (l : List (Nat × α)) (n m : Nat) (x : α) : phas (pset l n x) m = (decide (m = n) || phas l m) := by
  rw [Bool.eq_iff_iff]
  simp only [Bool.or_eq_true, decide_eq_true_eq]
  rw [phas_iff, pset_keys]
  by_cases h : phas l n = true
  · rw [if_pos h]
    constructor
    · intro h2; exact .inr (phas_iff.2 h2)
    · rintro (rfl | h2)
      · exact phas_iff.1 h
      · exact phas_iff.1 h2
  · rw [if_neg h, List.mem_append, List.mem_singleton]
    constructor
    · rintro (h2 | h2)
      · exact .inr (phas_iff.2 h2)
      · exact .inl h2
    · rintro (h2 | h2)
      · exact .inr h2
      · exact .inl (phas_iff.1 h2)
/-- Behind the clone: the page is laid into those that were written. -/
theorem CacheR.wrote {w w3 : World} {c : Nat} {C : Ca} {R : Reg} {row : List Nat} {p : CaPl} {n : Nat} {x : Str} {v : Value} (h : CacheR w c C R row p) (hb : Below w.heap.size w w3) (hv : OwnB w3 w.heap.size v x) (hx : x.length = 512) (hn : n < C.G.pages) (hm : C.may n = true) (hex : ∀ k, ¬ p.ex k) :
    ∃ w8, (Instr.mapUpdate 208 (.map (some p.dm)) (.int .i64 n) v).run Tryz.prog w3 = .ok () w8 ∧ CacheR w8 c (C.set n x) (R.add (.slice none 0 0) (fun k => v.ownBlock = some k)) row { p with ex := fun k => k = n } ∧ Off R.m w w8 := by
  have h3 := h.below hb
  have hNw : ∀ k, v.ownBlock = some k → k < w3.heap.size ∧ ¬ R.has k := fun k e => ⟨(hv.block e).2, fun hR => by have := (hv.block e).1; have := h.lt k hR; omega⟩
  have hd3 : MapB (BytesI w3 (fun k => R.i k ∨ v.ownBlock = some k)) w3 p.dm C.dirty := h3.dirty.mono rfl (fun _ _ hB => hB.mono fun k hk _ => .inl hk)
  obtain ⟨w8, hu1, hu2, hu3, hu4⟩ := hd3.update Tryz.underlying208 Tryz.underlying3 n v x ((hv.bytes (by omega)).mono fun k hk _ => .inr hk)
  have ho : Off (fun k => k = p.dm) w3 w8 := ⟨hu3.os, hu3.tape, hu3.output, hu3.size, fun k hk hm => hu3.block k hk (fun e => hm (Option.some.inj e))⟩
  have hJ : ∀ k, (R.i k ∨ v.ownBlock = some k) → ¬ k = p.dm := fun k hk e => by
    subst e
    rcases hk with hk | hk
    · exact h.apart _ h.mine.2.1 hk
    · exact (hNw _ hk).2 (.inl h.mine.2.1)
  have hblk : ∀ k, R.m k → k ≠ p.dm → w8.heap[k]? = w3.heap[k]? := fun k hk hne => ho.block k (h3.lt k (.inl hk)) hne
  refine ⟨w8, hu1, ⟨fun k hm hi => ?_, fun k hk => ?_, h.ok.set hn hx hm, (hblk c h.mine.1 h.unlike.1).trans h3.cells, ⟨.inl h.mine.1, .inl h.mine.2.1, .inl h.mine.2.2⟩, h.unlike, ?_, fun k hk => ⟨.inl (h.rowB k hk).1, (h.rowB k hk).2⟩, h3.log.off ho (fun k hk e => ?_), fun k hk => ?_, fun k hk => .inl (h.logI k hk), hu2.mono rfl (fun _ _ hB => hB.off ho hJ), ?_⟩, ?_⟩
  · have hm : R.m k := by
      rcases hm with hm | hm
      · exact hm
      · cases hm
    rcases hi with hi | hi
    · exact h.apart k hm hi
    · exact (hNw k hi).2 (.inl hm)
  · rcases hk with (hk | hk) | (hk | hk)
    · exact Nat.lt_of_lt_of_le (h3.lt k (.inl hk)) ho.size
    · cases hk
    · exact Nat.lt_of_lt_of_le (h3.lt k (.inr hk)) ho.size
    · exact Nat.lt_of_lt_of_le (hNw k hk).1 ho.size
  · obtain ⟨h1, h2⟩ := h3.row
    refine ⟨h1, ?_⟩
    rcases h2 with h2 | ⟨g, cap, cur, e, hB, hg, hr⟩
    · exact .inl h2
    · have := h.rowB g (by rw [e]; rfl)
      exact .inr ⟨g, cap, cur, e, hB, (hblk g this.1 this.2.2.1).trans hg, hr⟩
  · subst e
    rcases hk with hk | hk
    · exact (h.logM _ hk).2.2.1 rfl
    · exact h.apart _ h.mine.2.1 (h.logI _ hk)
  · obtain ⟨h1, h2⟩ := h.logM k hk
    exact ⟨.inl h1, h2⟩
  · obtain ⟨cl, h1, h2⟩ := h3.clean
    refine ⟨cl, h1.mono (hblk _ h.mine.2.2 (fun e => h.unlike.2.2 e.symm)) (fun _ _ hB => (hB.off ho (fun k hk => hJ k (.inl hk))).mono fun k hk _ => .inl hk), fun q hq => ⟨(h2 q hq).1, (h2 q hq).2.1, fun e => ?_⟩⟩
    have e' : phas (pset C.dirty n x) q.1 = true := e
    rw [phas_put, Bool.or_eq_true, decide_eq_true_eq] at e'
    rcases e' with e' | e'
    · exact e'
    · exact absurd ((h2 q hq).2.2 e') (hex _)
  · exact (Off.of_below hb _).trans ho (fun k e => by subst e; exact .inl h.mine.2.1)
set_option maxRecDepth 100000 in
set_option maxHeartbeats 4000000 in
theorem cwrite_any (n c : Nat) (C : Ca) (R : Reg) (v : Value) (x : Str) (w : World) (h : CacheAt w c C R) (hn : n < C.G.pages) (hv : BytesAt w w.heap.size v x) (hx : x.length = 512) :
    Calls Tryz.prog 176 #[.pointer (some ⟨c, 0, none⟩), .int .i64 n, v] w (CWritePost w c C R n x) := by
  obtain ⟨row, p, hrl, hex, h⟩ := h
  have hmost := h.ok.most
  have hlook := look_any (n : Int) c C R row p w h
  rw [if_pos ⟨by omega, by omega⟩] at hlook
  have HL := Lib.hid hlook
  have H := Lib.hid h
  have HV := Lib.hid hv
  obtain ⟨Av, cv, rfl, _, _⟩ := hv
  have hxn : (((x.length : Nat) : Int) != 512) = false := by simp [hx]
  have HX := Lib.hid hx
  have HEx := Lib.hid hex
  clear hlook h hx hex
  go_enter Tryz.func176, Tryz.ntmps176
  go_wp2_with fail
  refine HL.out.mono ?_
  rintro e W ⟨rfl, q, hw⟩
  have hW : Below w.heap.size w W := by rw [hw]; exact below_drewN (Below.refl _ _) _
  have hC := H.out.below hW
  have c2 : W.cell? ⟨c, 2, none⟩ = some (.map (some p.dm)) := cell_of_heap hC.cells 2
  clear hw
  have hclone : ∀ w', Below W.heap.size W w' → Calls Tryz.prog 195 #[.slice Av x.length cv] w' fun e w3 => ∃ v3, e = .returned v3 ∧ OwnB w3 W.heap.size v3 x ∧ Below W.heap.size W w3 := fun w' hb =>
    (cloneI_any _ x w' (((HV.out.below hW).below (hb.mono hW.size)).more (Nat.le_trans hW.size hb.size))).mono fun e w3 ⟨v3, he, ho, hb3⟩ => ⟨v3, he, ⟨ho.1, ho.2.imp id fun ⟨g, cap, cur, e1, e2, e3⟩ => ⟨g, cap, cur, e1, Nat.le_trans hb.size e2, e3⟩⟩, hb.trans (hb3.mono hb.size)⟩
  have HCl := Lib.hid hclone
  have hway : (C.may n = true ∧ (phas C.dirty n = true ∨ (phas C.dirty n = false ∧ decide (C.room ≤ 0) = false))) ∨ (C.may n = false ∧ phas C.dirty n = false ∧ decide (C.room ≤ 0) = true) := by
    unfold Ca.may
    cases phas C.dirty n with
    | true => exact .inl ⟨rfl, .inl rfl⟩
    | false =>
      by_cases h0 : 0 < C.room
      · exact .inl ⟨by simpa using h0, .inr ⟨rfl, by simpa using h0⟩⟩
      · exact .inr ⟨by simpa using h0, rfl, by simpa using h0⟩
  have hcc : c < W.heap.size := hC.lt c (.inl hC.mine.1)
  rcases hC.dirty.lookup Tryz.underlying208 Tryz.underlying3 bytes_zero n with ⟨hp, _, _, hlo⟩ | ⟨y, u, hp, _, hB, _, hlo⟩
  · rcases hway with ⟨hm, hway⟩ | ⟨hm, _, hr⟩
    · have hr : decide (C.room ≤ 0) = false := by
        rcases hway with h1 | h1
        · rw [hp] at h1; cases h1
        · exact h1.2
      have hroom := room_any c C R row p W hC
      have HRoom := Lib.hid hroom
      have HC := Lib.hid hC
      have HM := Lib.hid hm
      have HP := Lib.hid hp
      clear hC hroom hm hp hway hclone
      go_wp2_with fail
      refine HRoom.out.mono ?_
      rintro e W2 ⟨rfl, q2, hw2⟩
      have hW2 : Below W.heap.size W W2 := by rw [hw2]; exact below_drewN (Below.refl _ _) _
      have hS : ∀ w', Below W.heap.size W w' → w'.cell? ⟨c, 2, none⟩ = some (.map (some p.dm)) := fun w' hb => (hb.cell (p := ⟨c, 2, none⟩) hcc).trans c2
      have HSx := Lib.hid hS
      have c2' := hS W2 hW2
      clear hw2 hS c2
      go_wp2_with fail
      go_region_held3 (fun w' => w'.cell? ⟨c, 2, none⟩ = some (.map (some p.dm)))
        ((first | assumption | (refine HSx.out _ ?_; with_reducible first | assumption | exact Below.drew (by assumption))))
        ((go_at_call 195; go_split_ands; refine (HCl.out _ (by with_reducible first | assumption | exact Below.drew (by assumption))).mono ?_; rintro e w3 ⟨v3, rfl, ho3, hb3⟩; obtain ⟨A3, c3, rfl⟩ := ownsRow_slice ho3; obtain ⟨w8, hu1, hc8, ho8⟩ := HC.out.wrote hb3 ho3 HX.out hn HM.out HEx.out; have hc28 : w8.cell? ⟨c, 2, none⟩ = some (.map (some p.dm)) := cell_of_heap hc8.cells 2))
      have hdr := drop_any n c _ _ row _ w8 hc8 (by omega)
      have HDr := Lib.hid hdr
      have hTo : R.To (R.add (.slice none 0 0) (fun k => (Value.slice A3 x.length c3).ownBlock = some k)) w.heap.size := ⟨(fun k hk => by
          rcases hk with hk | hk
          · exact .inl hk
          · cases hk), (fun k hk => by
          rcases hk with hk | hk
          · exact .inl hk
          · have := (ho3.block hk).1; have := hW.size; right; omega)⟩
      have HTo := Lib.hid hTo
      have HO8 := Lib.hid (show Off R.m w w8 from (Off.of_below hW _).then ho8)
      clear hdr hTo hc8 ho8 hc28 hu1 ho3 hb3
      go_wp2_with fail
      refine HDr.out.mono ?_
      rintro e w9 ⟨rfl, ⟨p9, hc9, hx9⟩, ho9⟩
      have hfin : CWritePost w c C R n x (.returned (.int .i64 0)) w9 := ⟨_, by rw [if_pos HM.out], by
        rw [if_pos HM.out]
        exact ⟨_, p9, Nat.le_trans (List.length_filter_le _ _) hrl, fun k e => (hx9 k e).2 (hx9 k e).1, hc9⟩, HTo.out, HO8.out.trans ho9 (fun k hk => HTo.out.m k hk)⟩
      have HFin := Lib.hid hfin
      clear hfin hc9 ho9 hx9
      go_wp2_with fail
      go_ret
      exact HFin.out
    · have hroom := room_any c C R row p W hC
      have HRoom := Lib.hid hroom
      have HC := Lib.hid hC
      have HM := Lib.hid hm
      clear hC hroom hm hp hclone
      go_wp2_with fail
      refine HRoom.out.mono ?_
      rintro e W2 ⟨rfl, q2, hw2⟩
      have hW2 : Below W.heap.size W W2 := by rw [hw2]; exact below_drewN (Below.refl _ _) _
      have hfin : CWritePost w c C R n x (.returned (.int .i64 7)) W2 := ⟨R, by rw [if_neg (by rw [HM.out]; decide)], by
        rw [if_neg (by rw [HM.out]; decide)]
        exact ⟨row, p, hrl, HEx.out, HC.out.below hW2⟩, Reg.To.refl _ _, (Off.of_below hW _).step hW2⟩
      have HFin := Lib.hid hfin
      clear hfin hw2
      go_wp2_with fail
      go_ret
      exact HFin.out
  · rcases hway with ⟨hm, _⟩ | ⟨_, h1, _⟩
    · have HC := Lib.hid hC
      have HM := Lib.hid hm
      obtain ⟨Au, cu, rfl, _, _⟩ := id hB
      obtain ⟨W2, hw2⟩ : ∃ W2, W2 = W := ⟨_, rfl⟩
      have hW2 : Below W.heap.size W W2 := by rw [hw2]; exact Below.refl _ _
      clear hC hm hp hclone hB
      go_wp2_with fail
      rw [← hw2]
      have hS : ∀ w', Below W.heap.size W w' → w'.cell? ⟨c, 2, none⟩ = some (.map (some p.dm)) := fun w' hb => (hb.cell (p := ⟨c, 2, none⟩) hcc).trans c2
      have HSx := Lib.hid hS
      have c2' := hS W2 hW2
      clear hw2 hS c2
      go_region_held3 (fun w' => w'.cell? ⟨c, 2, none⟩ = some (.map (some p.dm)))
        ((first | assumption | (refine HSx.out _ ?_; with_reducible first | assumption | exact Below.drew (by assumption))))
        ((go_at_call 195; go_split_ands; refine (HCl.out _ (by with_reducible first | assumption | exact Below.drew (by assumption))).mono ?_; rintro e w3 ⟨v3, rfl, ho3, hb3⟩; obtain ⟨A3, c3, rfl⟩ := ownsRow_slice ho3; obtain ⟨w8, hu1, hc8, ho8⟩ := HC.out.wrote hb3 ho3 HX.out hn HM.out HEx.out; have hc28 : w8.cell? ⟨c, 2, none⟩ = some (.map (some p.dm)) := cell_of_heap hc8.cells 2))
      have hdr := drop_any n c _ _ row _ w8 hc8 (by omega)
      have HDr := Lib.hid hdr
      have hTo : R.To (R.add (.slice none 0 0) (fun k => (Value.slice A3 x.length c3).ownBlock = some k)) w.heap.size := ⟨(fun k hk => by
          rcases hk with hk | hk
          · exact .inl hk
          · cases hk), (fun k hk => by
          rcases hk with hk | hk
          · exact .inl hk
          · have := (ho3.block hk).1; have := hW.size; right; omega)⟩
      have HTo := Lib.hid hTo
      have HO8 := Lib.hid (show Off R.m w w8 from (Off.of_below hW _).then ho8)
      clear hdr hTo hc8 ho8 hc28 hu1 ho3 hb3
      go_wp2_with fail
      refine HDr.out.mono ?_
      rintro e w9 ⟨rfl, ⟨p9, hc9, hx9⟩, ho9⟩
      have hfin : CWritePost w c C R n x (.returned (.int .i64 0)) w9 := ⟨_, by rw [if_pos HM.out], by
        rw [if_pos HM.out]
        exact ⟨_, p9, Nat.le_trans (List.length_filter_le _ _) hrl, fun k e => (hx9 k e).2 (hx9 k e).1, hc9⟩, HTo.out, HO8.out.trans ho9 (fun k hk => HTo.out.m k hk)⟩
      have HFin := Lib.hid hfin
      clear hfin hc9 ho9 hx9
      go_wp2_with fail
      go_ret
      exact HFin.out
    · rw [hp] at h1; cases h1
end Go.Proofs.YtakmplpfjcddiaaGreatDoor

namespace Go.Proofs
open Go.Shelf
def Tryz.cloneBB_ren : Go.Shelf.Ren := ⟨fun | 41 => 113 | n => n, fun | 22 => 141 | 23 => 37 | 4 => 4 | n => n, fun | n => n⟩
theorem Tryz.cloneBB : Go.Proofs.SlLaysE0.n41 Tryz.prog Tryz.cloneBB_ren := {
  mixed := by kernel_rfl
  f41 := ⟨Tryz.f113.name, by decide, Tryz.func113.trans (congrArg some (by kernel_rfl))⟩
  t4 := Tryz.underlying4
  a4 := Tryz.isAgg4
  z4 := Tryz.sizeOf4
  v4 := Tryz.zeroValue4
  t22 := Tryz.underlying141
  a22 := Tryz.isAgg141
  z22 := Tryz.sizeOf141
  v22 := Tryz.zeroValue141 }
def Tryz.containsB_ren : Go.Shelf.Ren := ⟨fun | 8 => 300 | 6 => 313 | n => n, fun | 22 => 37 | 23 => 5 | 25 => 331 | 4 => 4 | 3 => 3 | 0 => 0 | n => n, fun | n => n⟩
theorem Tryz.containsB : Go.Proofs.SlLaysH.n8 Tryz.prog Tryz.containsB_ren := {
  mixed := by kernel_rfl
  f6 := ⟨Tryz.f313.name, by decide, Tryz.func313.trans (congrArg some (by kernel_rfl))⟩
  f8 := ⟨Tryz.f300.name, by decide, Tryz.func300.trans (congrArg some (by kernel_rfl))⟩
  t0 := Tryz.underlying0
  a0 := Tryz.isAgg0
  z0 := Tryz.sizeOf0
  v0 := Tryz.zeroValue0
  t3 := Tryz.underlying3
  a3 := Tryz.isAgg3
  z3 := Tryz.sizeOf3
  v3 := Tryz.zeroValue3
  t4 := Tryz.underlying4
  a4 := Tryz.isAgg4
  z4 := Tryz.sizeOf4
  v4 := Tryz.zeroValue4
  t22 := Tryz.underlying37
  a22 := Tryz.isAgg37
  z22 := Tryz.sizeOf37
  v22 := Tryz.zeroValue37
  a23 := Tryz.isAgg5
  z23 := Tryz.sizeOf5
  t25 := Tryz.underlying331
  a25 := Tryz.isAgg331
  z25 := Tryz.sizeOf331
  v25 := Tryz.zeroValue331 }
end Go.Proofs

namespace Go.Proofs.YtakmplpfjcddiaaGreatDoor
open Go.RowKit Go.Shelf Pa
open Go.MapKept
open Go.ChangeMaps (setBlock)
/-- One step of a range over a map, whatever block its iterator lies in; nothing is laid into the map meanwhile. -/
theorem iter_step {P : Program} (wr : World) (b r : Nat) (es : Array MapEntry) (c : Nat) (seen : Array Nat) (hr : wr.heap[r]? = some (.mapIter (some b) c seen c)) (hb : wr.heap[b]? = some (.map es c)) (hs : Stamped es c) (hne : r ≠ b) (ty : TypeId) :
    ((∀ x ∈ es.toList, seen.contains x.born = true) ∧ (Instr.next (.pointer (some ⟨r, 0, none⟩)) false ty).run P wr = .ok (.tuple #[.bool false]) wr) ∨
    ∃ e ∈ es.toList, seen.contains e.born = false ∧ (leftOf es (seen.push e.born)).size < (leftOf es seen).size ∧ ∃ W2, (Instr.next (.pointer (some ⟨r, 0, none⟩)) false ty).run P wr = .ok (.tuple #[.bool true, e.key, e.val]) W2 ∧
      (Instr.entry (.pointer (some ⟨r, 0, none⟩))).run P W2 = .ok (.tuple #[e.key, e.val]) W2 ∧ W2.heap[r]? = some (.mapIter (some b) c (seen.push e.born) c) ∧ W2.heap.size = wr.heap.size ∧ (∀ k, k ≠ r → W2.heap[k]? = wr.heap[k]?) ∧ W2.os = wr.os ∧ W2.tape = wr.tape ∧ W2.output = wr.output := by
  obtain ⟨hborn, hnd, _⟩ := hs
  rcases run_next_at (P := P) wr ty r b c c seen es c hr hb hborn (Nat.le_refl _) with ⟨h0, hrun⟩ | ⟨e, he, w1, hw1, hrun⟩
  · exact .inl ⟨all_seen es seen h0, hrun⟩
  · right
    obtain ⟨hm, hns⟩ := mem_left he
    refine ⟨e, hm, hns, left_shrinks es seen e he, _, hrun, ?_⟩
    have hlt : r < wr.heap.size := (Array.getElem?_eq_some_iff.1 hr).1
    have h1 : w1.heap = wr.heap ∧ w1.os = wr.os ∧ w1.tape = wr.tape ∧ w1.output = wr.output := by
      rcases hw1 with rfl | rfl
      · exact ⟨rfl, rfl, rfl, rfl⟩
      · exact ⟨rfl, rfl, rfl, rfl⟩
    have hr2 : (setBlock w1 r (.mapIter (some b) c (seen.push e.born) c)).heap[r]? = some (.mapIter (some b) c (seen.push e.born) c) := by
      simp [setBlock, h1.1, hlt]
    have hoth : ∀ k, k ≠ r → (setBlock w1 r (.mapIter (some b) c (seen.push e.born) c)).heap[k]? = wr.heap[k]? := fun k hk => by
      simp only [setBlock, h1.1]
      rw [Array.getElem?_setIfInBounds_ne (fun e => hk e.symm)]
    exact ⟨run_entry_at _ r b c seen es c e hr2 ((hoth b (fun e => hne e.symm)).trans hb) hm hnd, hr2, by simp [setBlock, h1.1], hoth, h1.2.1, h1.2.2.1, h1.2.2.2⟩
theorem born_inj {es : Array MapEntry} (h : (es.toList.map (·.born)).Nodup) {x y : MapEntry} (hx : x ∈ es.toList) (hy : y ∈ es.toList) (e : x.born = y.born) : x = y := by
  obtain ⟨i, hi⟩ := List.getElem?_of_mem hx
  obtain ⟨j, hj⟩ := List.getElem?_of_mem hy
  have h1 := List.pairwise_iff_getElem.1 (List.pairwise_map.1 h)
  obtain ⟨h4, h5⟩ := List.getElem?_eq_some_iff.1 hi
  obtain ⟨h6, h7⟩ := List.getElem?_eq_some_iff.1 hj
  rcases Nat.lt_trichotomy i j with h | h | h
  · exact absurd (by rw [h5, h7]; exact e) (h1 i j h4 h6 h)
  · subst h; exact h5.symm.trans h7
  · exact absurd (by rw [h5, h7]; exact e.symm) (h1 j i h6 h4 h)
end Go.Proofs.YtakmplpfjcddiaaGreatDoor

namespace Go.Proofs.YtakmplpfjcddiaaGreatDoor
open Go.RowKit Go.Shelf Pa
attribute [local go_sem] bs_toList bs_size
/-- A disk behind a write, a flush. -/
def Dk.wr (D : Dk) (n : Nat) (b : Str) : Dk := { D with ops := D.ops ++ [.write n b], wait := pset D.wait n b }
def Dk.flushed (D : Dk) : List Str := (List.range D.safe.length).map D.rd
def Dk.fl (D : Dk) : Dk := { D with ops := D.ops ++ [.flush], safe := D.flushed, wait := [] }
theorem info_op : (Tryz.prog.info? 153).map (fun i => (i.zero, i.size, i.bytes)) = some (some .nilIface, 1, 16) := by kernel_rfl
theorem info_row : (Tryz.prog.info? 37).map (fun i => (i.zero, i.size, i.bytes)) = some (some (.slice none 0 0), 1, 24) := by kernel_rfl
/-- A wait list of one write is laid into the map. -/
theorem wait_laid {w w1 : World} {n mb cp g c : Nat} {l : List (Nat × Str)} {I : Nat → Prop} {A : Option Addr} {x : Str} (hm : MapB (OneB w I) w mb l) (hB : BytesI w I (.slice A x.length c) x) (hmb : ¬ I mb)
    (hb : Below w.heap.size w w1) (hown : w1.ownsRow 0 37 1 (.slice (some ⟨g, 0, none⟩) 1 cp) 1 [.slice A x.length c]) (hg : w.heap.size ≤ g) :
    ∃ w3, (Instr.mapUpdate 146 (.map (some mb)) (.int .i64 n) (.slice (some ⟨g, 0, none⟩) 1 cp)).run Tryz.prog w1 = .ok () w3 ∧ MapB (OneB w3 (fun k => I k ∨ k = g)) w3 mb (pset l n x) ∧ g < w3.heap.size ∧ Off (fun k => k = mb) w w3 ∧ (∀ k, k ≠ mb → w3.heap[k]? = w1.heap[k]?) := by
  obtain ⟨g', cp', e, hcell⟩ := ownsRow_some hown
  injection e with e1 e2 e3
  injection e1 with e1
  injection e1 with e1
  subst e1 e3
  have hcell0 := hcell 0 _ rfl
  have hcap : 1 ≤ cp := by
    rcases hown.2 with ⟨h0, _⟩ | ⟨g', cap, cur, e, _, hgg, hr1, hr2, hr3, hr4⟩
    · cases h0
    · injection e with e1 e2 e3; omega
  have hg2 : g < w1.heap.size := World.block_lt_of_cell? w1 _ hcell0
  have hone : OneB w1 (fun k => I k ∨ k = g) (.slice (some ⟨g, 0, none⟩) 1 cp) x :=
    ⟨g, cp, _, rfl, ⟨hcap, .inr rfl, hg2⟩, hcell0, (hB.off (Off.of_below hb (fun _ => False)) (fun _ _ e => e)).mono fun k hk _ => .inl hk⟩
  have hm2 : MapB (OneB w1 (fun k => I k ∨ k = g)) w1 mb l := hm.mono (hb.block mb hm.lt) (fun _ _ h => (h.off (Off.of_below hb (fun _ => False)) (fun _ _ e => e)).mono fun k hk => .inl hk)
  obtain ⟨w3, hu1, hu2, hu3, hu4⟩ := hm2.update Tryz.underlying146 Tryz.underlying3 n _ x hone
  have ho3 : Off (fun k => k = mb) w1 w3 := ⟨hu3.os, hu3.tape, hu3.output, hu3.size, fun k hk hm => hu3.block k hk (fun e => hm (Option.some.inj e))⟩
  refine ⟨w3, hu1, hu2.mono rfl (fun _ _ h => h.off ho3 (fun k hk e => ?_)), by omega, (Off.of_below hb _).then ho3, fun k hk => ?_⟩
  · subst e
    rcases hk with hk | hk
    · exact hmb hk
    · have := hm.lt; omega
  · rcases Nat.lt_or_ge k w1.heap.size with h | h
    · exact ho3.block k h hk
    · rw [Array.getElem?_eq_none h, Array.getElem?_eq_none (by omega)]
set_option maxRecDepth 100000 in
set_option maxHeartbeats 3200000 in
/-- (write).on: the write waits. -/
theorem writeOn_any (n a mb c : Nat) (l : List (Nat × Str)) (I : Nat → Prop) (A : Option Addr) (x : Str) (w : World) (ha : a < w.heap.size) (hc : w.cell? ⟨a, 3, none⟩ = some (.map (some mb))) (hm : MapB (OneB w I) w mb l) (hn : phas l n = false) (hB : BytesI w I (.slice A x.length c) x) (hmb : ¬ I mb) (hne : a ≠ mb) :
    Calls Tryz.prog 338 #[.agg #[.int .i64 n, .slice A x.length c], .pointer (some ⟨a, 2, none⟩)] w fun e w' => e = .returned (.tuple #[]) ∧ (∃ g, w.heap.size ≤ g ∧ g < w'.heap.size ∧ MapB (OneB w' (fun k => I k ∨ k = g)) w' mb (pset l n x)) ∧ Off (fun k => k = mb) w w' := by
  obtain ⟨i0, hi0, hz0, hz1, hz2⟩ := info_parts info_row
  have hmbl := hm.lt
  have hba : Below w.heap.size w (w.alloc (.cells #[.int .i64 n, .slice A x.length c] 155)) := (Below.refl w.heap.size w).alloc (Nat.le_refl _) _
  have hbb : Below w.heap.size w ((w.alloc (.cells #[.int .i64 n, .slice A x.length c] 155)).alloc (.cells #[.slice A x.length c] 37)) := hba.alloc (by simp) _
  have hlo1 : ∀ W, Below w.heap.size w W → (Instr.lookup 146 (.map (some mb)) (.int .i64 n) false).run Tryz.prog W = .ok (.slice none 0 0) W := fun W hb => by
    rcases (hm.mono (w' := W) (Q := fun _ _ => True) (hb.block mb hm.lt) (fun _ _ _ => trivial)).lookup Tryz.underlying146 Tryz.underlying3 rows_zero n with ⟨_, _, h, _⟩ | ⟨_, _, h, _⟩
    · exact h
    · rw [hn] at h; cases h
  have l1 := hlo1 _ hba.drew
  have l2 := hlo1 _ hbb.drew
  have hS : ∀ w', Below w.heap.size w w' → w'.heap[w.heap.size]? = some (.cells #[.int .i64 n, .slice A x.length c] 155 (0, 0)) → w'.cell? ⟨a, 3, none⟩ = some (.map (some mb)) ∧ w'.cell? ⟨w.heap.size, 0, none⟩ = some (.int .i64 n) ∧ w'.cell? ⟨w.heap.size, 1, none⟩ = some (.slice A x.length c) := fun w' hb hx =>
    ⟨(hb.cell (p := ⟨a, 3, none⟩) ha).trans hc, cell_of_heap hx 0, cell_of_heap hx 1⟩
  have hx1 : (w.alloc (.cells #[.int .i64 n, .slice A x.length c] 155)).heap[w.heap.size]? = some (.cells #[.int .i64 n, .slice A x.length c] 155 (0, 0)) := heap_alloc_new w _
  have hx2 : ((w.alloc (.cells #[.int .i64 n, .slice A x.length c] 155)).alloc (.cells #[.slice A x.length c] 37)).heap[w.heap.size]? = some (.cells #[.int .i64 n, .slice A x.length c] 155 (0, 0)) := (Below.heap_alloc _ _ _ (by simp)).trans hx1
  obtain ⟨s1, s2, s3⟩ := hS _ hba hx1
  obtain ⟨t1, t2, t3⟩ := hS _ hba.drew hx1
  obtain ⟨u1, u2, u3⟩ := hS _ hbb.drew hx2
  have HS := Lib.hid hS
  have HM := Lib.hid hm
  have HB := Lib.hid hB
  have HBb := Lib.hid hbb
  have HX2 := Lib.hid hx2
  clear hlo1 hm hB hS hx1 hx2 hbb hba hc
  go_enter Tryz.func338, Tryz.ntmps338
  go_wp2_with fail
  go_region_held3 (fun w' => w'.cell? ⟨a, 3, none⟩ = some (.map (some mb)) ∧ w'.cell? ⟨w.heap.size, 0, none⟩ = some (.int .i64 n) ∧ w'.cell? ⟨w.heap.size, 1, none⟩ = some (.slice A x.length c))
    (with_reducible first
      | exact ⟨s1, s2, s3⟩
      | exact ⟨t1, t2, t3⟩
      | exact ⟨u1, u2, u3⟩
      | exact hS1
      | exact hS3)
    ((refine step_append_lies _ (by rfl) _ _ _ (by rfl) 0 37 i0 _ 1 24 Tryz.underlying141 hi0 hz0 hz1 hz2 rfl (by omega) (.slice none 0 0) 0 [] (by rfl) (World.ownsRow_nil _ _ _ _)
        ⟨w.heap.size + 1, 0, none⟩ 1 1 [.slice A x.length c] (by rfl) (by rfl) (by rw [← World.size_alloc w (.cells #[.int .i64 n, .slice A x.length c] 155)]; exact World.news_of_block (cs := #[.slice A x.length c]) (t := 37) (fr := (0, 0)) (heap_alloc_new (w.alloc (.cells #[.int .i64 n, .slice A x.length c] 155)) _)) (by simp [Value.oneCell'])
        (by omega) (by decide) (by decide) (by simp) (w.heap.size + 2) (by simp) ?_; intro gg cap w1 hown1 hgrow hat hlt
      have hb1 : Below w.heap.size w w1 := HBb.out.drew.grown hgrow (by simp; omega) (fun k e => by cases e)
      have hxw : w1.heap[w.heap.size]? = _ := (hgrow.block w.heap.size (by simp; omega) (by simp [Value.ownBlock])).trans HX2.out
      have hS1 := HS.out w1 hb1 hxw
      have hown2 : w1.ownsRow 0 37 1 (.slice (some ⟨gg, 0, none⟩) 1 cap) 1 [.slice A x.length c] := hown1
      obtain ⟨w3, hu, hm3, hg3, ho3, hk3⟩ := wait_laid (n := n) HM.out HB.out hmb hb1 hown2 (by rcases hat with e | e; cases e; omega)
      have hS3 : w3.cell? ⟨a, 3, none⟩ = some (.map (some mb)) ∧ w3.cell? ⟨w.heap.size, 0, none⟩ = some (.int .i64 n) ∧ w3.cell? ⟨w.heap.size, 1, none⟩ = some (.slice A x.length c) :=
        ⟨(World.cell?_of_block (w := w1) (hk3 a hne)).trans hS1.1, (World.cell?_of_block (w := w1) (hk3 w.heap.size (by omega))).trans hS1.2.1, (World.cell?_of_block (w := w1) (hk3 w.heap.size (by omega))).trans hS1.2.2⟩
      have HFin := Lib.hid (show (∃ g, w.heap.size ≤ g ∧ g < w3.heap.size ∧ MapB (OneB w3 (fun k => I k ∨ k = g)) w3 mb (pset l n x)) ∧ Off (fun k => k = mb) w w3 from ⟨⟨gg, by rcases hat with e | e; cases e; omega, hg3, hm3⟩, ho3⟩)
      clear hb1 hxw hown1 hown2 hgrow hat hlt hm3 hg3 ho3 hk3))
  all_goals (go_end0; exact ⟨rfl, HFin.out⟩)
open Go.MapKept
open Go.ChangeMaps (setBlock)
/-- Where a flush stands: which writes have been laid into the safe sectors. -/
structure FlInv (w : World) (D : Dk) (I : Nat → Prop) (sc mb r sb : Nat) (es : Array MapEntry) (c : Nat) (seen : Array Nat) (wx : World) : Prop where
  iter : wx.heap[r]? = some (.mapIter (some mb) c seen c)
  map : wx.heap[mb]? = some (.map es c)
  row : ∃ cs : Array Value, wx.heap[sb]? = some (.cells cs 37 (0, 0)) ∧ sc ≤ cs.size ∧ ∀ j, j < D.safe.length → ∃ u, cs[j]? = some u ∧ (BytesI w I u (D.rd j) ∨ (BytesI w I u (D.safe.getD j []) ∧ (phas D.wait j = true → ∃ e ∈ es.toList, e.key = .int .i64 (j : Nat) ∧ seen.contains e.born = false)))
  off : Off (fun k => k = sb) w wx
theorem FlInv.step {w wx W2 : World} {D : Dk} {I : Nat → Prop} {sc mb r sb c n : Nat} {es : Array MapEntry} {seen : Array Nat} {e : MapEntry} {u : Value} (h : FlInv w D I sc mb r sb es c seen wx) (hsc : D.safe.length ≤ sc) (hs : (es.toList.map (·.born)).Nodup) (he : e ∈ es.toList) (hk : e.key = .int .i64 (n : Nat)) (hn : n < D.safe.length) (hu : BytesI w I u (D.rd n))
    (hr : W2.heap[r]? = some (.mapIter (some mb) c (seen.push e.born) c)) (ho : ∀ k, k ≠ r → W2.heap[k]? = wx.heap[k]?) (hz : W2.heap.size = wx.heap.size) (e1 : W2.os = wx.os) (e2 : W2.tape = wx.tape) (e3 : W2.output = wx.output) (hrs : r ≠ sb) (hrm : r ≠ mb) (hms : mb ≠ sb) (hrw : w.heap.size ≤ r) :
    FlInv w D I sc mb r sb es c (seen.push e.born) (W2.setCell ⟨sb, n, none⟩ u) := by
  obtain ⟨cs, h1, h2, h3⟩ := h.row
  have hsb : W2.heap[sb]? = _ := (ho sb (fun e => hrs e.symm)).trans h1
  refine ⟨(Below.heap_setCell _ _ _ _ hrs).trans hr, (Below.heap_setCell _ _ _ _ hms).trans ((ho mb (fun e => hrm e.symm)).trans h.map), ⟨_, heap_setCell_at W2 sb n u hsb, by simpa using h2, fun j hj => ?_⟩, ?_⟩
  · by_cases hjn : j = n
    · subst hjn
      exact ⟨u, by rw [Array.getElem?_setIfInBounds_self_of_lt (by omega)], .inl hu⟩
    · obtain ⟨y, hy, hy2⟩ := h3 j hj
      refine ⟨y, by rw [Array.getElem?_setIfInBounds_ne (fun e => hjn e.symm)]; exact hy, hy2.imp id fun ⟨ha, hb⟩ => ⟨ha, fun hp => ?_⟩⟩
      obtain ⟨e', he', hk', hs'⟩ := hb hp
      refine ⟨e', he', hk', ?_⟩
      rw [Array.contains_push, hs']
      simp only [Bool.false_or]
      cases hbb : (e'.born == e.born) with
      | false => rfl
      | true =>
        have : e' = e := born_inj hs he' he (by simpa using hbb)
        subst this
        rw [hk] at hk'
        injection hk' with _ hk'
        exact absurd (by omega) hjn
  · refine (h.off.trans (M' := fun k => k = r ∨ k = sb) (c := W2.setCell ⟨sb, n, none⟩ u) ?_ (fun j hj => ?_))
    · exact (Off.setCell (M := fun k => k = r ∨ k = sb) (a := wx) (w := W2) ⟨e1, e2, e3, Nat.le_of_eq hz.symm, fun k _ hk => ho k (fun e => hk (.inl e))⟩ (.inl (.inr rfl)) u)
    · rcases hj with rfl | rfl
      · exact .inr hrw
      · exact .inl rfl
set_option maxRecDepth 100000 in
set_option maxHeartbeats 3200000 in
/-- flush.on: what waits is safe. -/
theorem flushOn_any (a mb : Nat) (sv : Value) (D : Dk) (R : Reg) (w : World) (ha : a < w.heap.size) (hc2 : w.cell? ⟨a, 2, none⟩ = some sv) (hc : w.cell? ⟨a, 3, none⟩ = some (.map (some mb))) (hsv : RowsB w (fun k => R.m k ∧ k ≠ a ∧ k ≠ mb) R.i sv D.safe) (hm : MapB (OneB w R.i) w mb D.wait) (hok : D.Ok) (hRm : R.m mb) (hap : ∀ k, R.m k → ¬ R.i k) (hlt : ∀ k, R.has k → k < w.heap.size) (hnam : a ≠ mb) :
    Calls Tryz.prog 339 #[.agg #[], .pointer (some ⟨a, 2, none⟩)] w fun e w' => e = .returned (.tuple #[]) ∧ MapB (OneB w' R.i) w' mb [] ∧ RowsB w' (fun k => R.m k ∧ k ≠ a ∧ k ≠ mb) R.i sv D.flushed ∧ Off (fun k => (R.m k ∧ k ≠ a)) w w' := by
  obtain ⟨sb, sc, cs, rfl, ⟨hs1, hs2, hs3⟩, ⟨hsm, hsa, hsmb⟩, hsh, hsx⟩ := hsv
  have hmn := hm.nodup
  obtain ⟨L, ⟨es, c, hb, hst, hp⟩, hll, hL⟩ := id hm
  have hbl : mb < w.heap.size := hm.lt
  have hent : ∀ e ∈ es.toList, ∃ (n g cp : Nat) (u : Value), e.key = .int .i64 n ∧ e.val = .slice (some ⟨g, 0, none⟩) 1 cp ∧ (g < w.heap.size ∧ R.i g) ∧ w.cell? ⟨g, 0, none⟩ = some u ∧ BytesI w R.i u (D.rd n) ∧ n < D.safe.length := by
    intro e he
    obtain ⟨j, hj⟩ := List.getElem?_of_mem he
    obtain ⟨p, hpL, hk, hv⟩ := imap_at hp j e hj
    have hjl : j < D.wait.length := by rw [← hll]; exact (List.getElem?_eq_some_iff.1 hpL).1
    obtain ⟨v, hv2, ⟨g, cp, u, hve, ⟨_, hgi, hgl⟩, hu, hB⟩⟩ := hL j D.wait[j].1 D.wait[j].2 (List.getElem?_eq_getElem hjl)
    rw [hpL] at hv2
    have hpe := Option.some.inj hv2
    have hget : pget D.wait D.wait[j].1 = some D.wait[j].2 := pget_mem hmn (List.getElem_mem hjl)
    refine ⟨D.wait[j].1, g, cp, u, by rw [hk, hpe], by rw [hv, hpe, hve], ⟨hgl, hgi⟩, hu, ?_, ?_⟩
    · have : D.rd D.wait[j].1 = D.wait[j].2 := by unfold Dk.rd; rw [hget]
      rw [this]; exact hB
    · rw [hok.len]; exact (hok.wait _ (List.getElem_mem hjl)).1
  have hpend : ∀ j, phas D.wait j = true → ∃ e ∈ es.toList, e.key = .int .i64 (j : Nat) := by
    intro j hj
    obtain ⟨x, hx⟩ := phas_get hj
    obtain ⟨i, hi⟩ := List.getElem?_of_mem (pget_some hx).1
    obtain ⟨v, hv, _⟩ := hL i j x hi
    have hil : i < es.toList.length := by
      have h1 : es.toList.length = L.length := by simpa using congrArg List.length hp
      rw [h1]; exact (List.getElem?_eq_some_iff.1 hv).1
    obtain ⟨p, hpL, hk, _⟩ := imap_at hp i _ (List.getElem?_eq_getElem hil)
    rw [hv] at hpL
    refine ⟨_, List.getElem_mem hil, ?_⟩
    rw [hk, ← Option.some.inj hpL]
  have hb1 : Below w.heap.size w (w.alloc (.cells #[] 157)) := (Below.refl _ _).alloc (Nat.le_refl _) _
  have hrange := run_range_map (P := Tryz.prog) (w.alloc (.cells #[] 157)) 146 3 141 mb es c Tryz.underlying146 ((hb1.block mb hbl).trans hb)
  have hb2 : Below w.heap.size w ((w.alloc (.cells #[] 157)).alloc (.mapIter (some mb) c #[] c)) := hb1.alloc (by simp) _
  have H0 : FlInv w D R.i sc mb (w.heap.size + 1) sb es c #[] ((w.alloc (.cells #[] 157)).alloc (.mapIter (some mb) c #[] c)) :=
    ⟨by rw [← World.size_alloc w (.cells #[] 157)]; exact heap_alloc_new _ _, (hb2.block mb hbl).trans hb, ⟨cs, (hb2.block sb (hlt sb (.inl hsm))).trans hsh, hs2, fun j hj => by
      obtain ⟨u, hu, hB⟩ := hsx j _ (List.getElem?_eq_getElem hj)
      refine ⟨u, hu, .inr ⟨by rw [List.getD_eq_getElem?_getD, List.getElem?_eq_getElem hj]; exact hB, fun hph => ?_⟩⟩
      obtain ⟨e, he, hk⟩ := hpend j hph
      exact ⟨e, he, hk, by simp⟩⟩, Off.of_below hb2 _⟩
  have hasb : a ≠ sb := fun e => hsa e.symm
  have hfin : ∀ wr seen, FlInv w D R.i sc mb (w.heap.size + 1) sb es c seen wr → (∀ x ∈ es.toList, seen.contains x.born = true) → ∃ w9, (Builtin.clear_ #[146] 0 #[.map (some mb)]).run Tryz.prog wr = .ok (.tuple #[]) w9 ∧ (MapB (OneB w9 R.i) w9 mb [] ∧ RowsB w9 (fun k => R.m k ∧ k ≠ a ∧ k ≠ mb) R.i (.slice (some ⟨sb, 0, none⟩) D.safe.length sc) D.flushed ∧ Off (fun k => (R.m k ∧ k ≠ a)) w w9) ∧ wr.cell? ⟨a, 3, none⟩ = some (.map (some mb)) := by
    intro wr seen hI hall
    have hmr : MapB (fun _ _ => True) wr mb D.wait := hm.mono (hI.off.block mb hbl (fun e => hsmb e.symm)) (fun _ _ _ => trivial)
    obtain ⟨w9, hr9, hm9, hg9, hz9⟩ := hmr.clear Tryz.underlying146 0
    have hoff9 : Off (fun k => k = sb ∨ k = mb) w w9 := (hI.off.mono (fun k e => .inl (.inl e))).grown hg9 (fun k e => by cases e; exact .inl (.inr rfl))
    have hJi : ∀ k, R.i k → ¬ (k = sb ∨ k = mb) := fun k hk e => by
      rcases e with rfl | rfl
      · exact hap _ hsm hk
      · exact hap _ hRm hk
    obtain ⟨cs', h1, h2, h3⟩ := hI.row
    refine ⟨w9, hr9, ⟨?_, ⟨sb, sc, cs', by rw [show D.flushed.length = D.safe.length from by simp [Dk.flushed]], ?_, ⟨hsm, hsa, hsmb⟩, (hg9.block sb (Array.getElem?_eq_some_iff.1 h1).1 (fun e => hsmb (Option.some.inj e))).trans h1, fun j x hx => ?_⟩, hoff9.mono (fun k e => .inl ?_)⟩, (hI.off.cell (p := ⟨a, 3, none⟩) ha hasb).trans hc⟩
    · obtain ⟨L9, hL9, hl9, _⟩ := hm9
      exact ⟨L9, hL9, hl9, fun i n x h => by simp at h⟩
    · have : D.flushed.length = D.safe.length := by simp [Dk.flushed]
      omega
    · have hjl : j < D.safe.length := by have := (List.getElem?_eq_some_iff.1 hx).1; simpa [Dk.flushed] using this
      have hxr : x = D.rd j := by
        have h4 := (List.getElem?_eq_some_iff.1 hx).2
        rw [← h4]; simp [Dk.flushed]
      obtain ⟨u, hu, hB⟩ := h3 j hjl
      have hBj : BytesI w R.i u (D.rd j) := by
        rcases hB with hB | ⟨hB, hpn⟩
        · exact hB
        · have hph : phas D.wait j = false := by
            cases hp2 : phas D.wait j with
            | false => rfl
            | true =>
              obtain ⟨e, he, _, hs⟩ := hpn hp2
              rw [hall e he] at hs
              cases hs
          have : D.rd j = D.safe.getD j [] := by unfold Dk.rd; rw [pget_none hph]
          rw [this]; exact hB
      exact ⟨u, hu, by rw [hxr]; exact hBj.off hoff9 hJi⟩
    · rcases e with rfl | rfl
      · exact ⟨hsm, hsa⟩
      · exact ⟨hRm, fun e => hnam e.symm⟩
  have HFin := Lib.hid hfin
  have HEnt := Lib.hid hent
  have HBorn := Lib.hid hst.2.1
  have HSt := Lib.hid hst
  have HC2 := Lib.hid hc2
  have HAp := Lib.hid hap
  have hsbl := hlt sb (.inl hsm)
  clear hent hst hsx hmn hm hp hll hL hpend hb1 hb2 hok hap hfin hsh hb
  go_enter Tryz.func339, Tryz.ntmps339
  go_wp2_with fail
  go_loopg [4] (leftOf es #[]).size (fun g _ wx => ∃ seen, (leftOf es seen).size = g ∧ FlInv w D R.i sc mb (w.heap.size + 1) sb es c seen wx)
  case atStart => exact ⟨_, rfl, H0⟩
  case round =>
    obtain ⟨seen, hg, hI⟩ := hrel
    obtain ⟨wx, rfl⟩ : ∃ wx, wx = wr := ⟨_, rfl⟩
    have hstep := fun ty => iter_step (P := Tryz.prog) wx mb (w.heap.size + 1) es c seen hI.iter hI.map HSt.out (by omega) ty
    have HI := Lib.hid hI
    clear hI H0 hrange
    rcases hstep 0 with ⟨hall, hnx⟩ | ⟨e, hm, hns, hsh, W2, hnx, hen, hr2, hz2, ho2, e1, e2, e3⟩
    · obtain ⟨w9, hr9, hf9, hc9⟩ := HFin.out wx seen HI.out hall
      have HF := Lib.hid hf9
      clear hstep hf9
      go_wp2
      go_end0
      exact ⟨rfl, HF.out⟩
    · obtain ⟨n, g, cp, u, hek, hev, ⟨hgl, hgi⟩, hcg, hB, hnl⟩ := HEnt.out e hm
      have hne : g ≠ sb := fun e => HAp.out sb hsm (e ▸ hgi)
      rw [hek, hev] at hnx hen
      obtain ⟨cs', h1, h2, h3⟩ := HI.out.row
      have hsb2 : W2.heap[sb]? = some (.cells cs' 37 (0, 0)) := (ho2 sb (by omega)).trans h1
      have k2 : W2.cell? ⟨a, 2, none⟩ = some (.slice (some ⟨sb, 0, none⟩) D.safe.length sc) := (World.cell?_of_block (w := wx) (ho2 a (by omega))).trans ((HI.out.off.cell (p := ⟨a, 2, none⟩) ha hasb).trans HC2.out)
      have kg : W2.cell? ⟨g, 0, none⟩ = some u := (World.cell?_of_block (w := wx) (ho2 g (by omega))).trans ((HI.out.off.cell (p := ⟨g, 0, none⟩) hgl hne).trans hcg)
      obtain ⟨y, hy, _⟩ := h3 n hnl
      have ks : W2.cell? ⟨sb, n, none⟩ = some y := (cell_of_heap hsb2 n).trans hy
      have kf : W2.frozen? ⟨sb, n, none⟩ = false := free_of_heap hsb2 n
      have hnI : (n : Int) < (D.safe.length : Int) := by omega
      have hnew := HI.out.step (W2 := W2.drew) hs1 HBorn.out hm hek hnl hB hr2 ho2 hz2 e1 e2 e3 (by omega) (by omega) (fun e => hsmb e.symm) (by omega)
      obtain ⟨Au, cu, rfl, _, _⟩ := id hB
      have HNew := Lib.hid hnew
      have HSh := Lib.hid hsh
      clear hstep hnew hr2 ho2 hz2 e1 e2 e3 h1 h2 h3 hy hsb2 hek hev hB hcg hsh
      go_wp2_with fail
      go_region
      go_wp2
      go_roundg (leftOf es (seen.push e.born)).size
      case measure => rw [← hg]; exact HSh.out
      case rel => exact ⟨_, rfl, HNew.out⟩
end Go.Proofs.YtakmplpfjcddiaaGreatDoor
