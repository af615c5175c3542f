/-
  The walks over a disk's do, Write, Flush.
  The walks over a disk's Write and Flush.
  The walks over the making of a disk: slices.Clone at sectors, begun, New, Fork.
  The walk over Fork, of a disk on which nothing waits.
  The walks over zeros, head and Open of a log, on a disk whose head is of zeros.
  The walk over setHead of a log.
  The walk over setHead of a log.
  The walk over home of a log: the pages of a group are brought to their places.
  What Commit of a log does, in plain Lean: each page of the group is read behind it, the others are as they were.
  Pages of a group in memory; the walk over Commit's question whether a page's number is out of range: here none is.
  The keys of a map of numbers, in order: maps.Keys, slices.Sorted.
  The walk over Commit of a log.
  Behind the writes of a group: the flush, the head, and home.
-/
import Derived.Test.YtakmplpfjcddiaaGreatDoorG1
import Derived.Deep.RegionLawGrows
import Derived.Deep.DeepCutAuto
import Derived.Maps.AppendAt
import Derived.Laws.MakeOwn
import Derived.IntWalk
import Derived.Shelf.SlIterI.Sorted
set_option linter.unusedVariables false
set_option linter.unusedSimpArgs false
set_option linter.deprecated false
namespace Go.Proofs.YtakmplpfjcddiaaGreatDoor
open Go.RowKit Go.Shelf Pa Go.Maps
attribute [local go_sem] bs_toList bs_size
/-- The value of an op. -/
def opV (x : DOp) (v : Value) : Value := match x with | .write n _ => .iface 155 (.agg #[.int .i64 n, v]) | .flush => .iface 157 (.agg #[])
theorem OpB.of {w : World} {I : Nat → Prop} {x : DOp} {v : Value} (h : ∀ n b, x = .write n b → BytesI w I v b) : OpB w I (opV x v) x := by
  cases x with
  | write n b => exact ⟨v, rfl, h n b rfl⟩
  | flush => rfl
theorem nilAhead_w (i : Int) (A : Option Addr) (l c : Nat) (w : World) : (nilAhead 471 155 (.agg #[.int .i64 i, .slice A l c]) "dunnage/disk.on").run Tryz.prog w = .ok (some false) w := by kernel_rfl
theorem nilAhead_f (w : World) : (nilAhead 471 157 (.agg #[]) "dunnage/disk.on").run Tryz.prog w = .ok (some false) w := by kernel_rfl
theorem method_w (i : Int) (A : Option Addr) (l c : Nat) (w : World) : (method 471 155 (.agg #[.int .i64 i, .slice A l c]) "dunnage/disk.on").run Tryz.prog w = .ok (338, .agg #[.int .i64 i, .slice A l c]) w := by kernel_rfl
theorem method_f (w : World) : (method 471 157 (.agg #[]) "dunnage/disk.on").run Tryz.prog w = .ok (339, .agg #[]) w := by kernel_rfl
theorem cell_later {w w' : World} {a : Addr} {v : Value} (hb : Below w.heap.size w w') (h : w.cell? a = some v) : w'.cell? a = some v := (hb.cell (World.block_lt_of_cell? w a h)).trans h
theorem add_at (b o j : Nat) : (⟨b, o, none⟩ : Addr).add j = ⟨b, o + j, none⟩ := by
  unfold Addr.add
  split
  · rename_i h; subst h; rfl
  · rfl
theorem OpsB.olds {w : World} {I : Nat → Prop} {A : Option Addr} {n c : Nat} {l : List DOp} (h : OpsB w I (.slice A n c) l) : n = l.length ∧ ∃ olds : List Value, olds.length = n * 1 ∧ (∀ b, A = some b → ∀ j u, olds[j]? = some u → w.cell? (b.add j) = some u) ∧ ∀ (i : Nat) (y : DOp), l[i]? = some y → ∃ z, olds[i]? = some z ∧ OpB w I z y := by
  obtain ⟨A', c', e, hc, hf⟩ := h
  injection e with e1 e2 e3
  subst e1 e3
  refine ⟨e2, ?_⟩
  by_cases hn : l = []
  · subst hn
    subst e2
    exact ⟨[], rfl, fun _ _ j u h => by simp at h, fun i y h => by simp at h⟩
  · obtain ⟨b, o, rfl, ⟨hb, hI⟩, hx⟩ := hf hn
    have : ∃ L : List Value, L.length = l.length ∧ ∀ (i : Nat) (z : Value), L[i]? = some z → w.cell? ⟨b, o + i, none⟩ = some z := by
      refine ⟨(List.range l.length).map fun i => (w.cell? ⟨b, o + i, none⟩).getD undef, by simp, fun i z hz => ?_⟩
      rw [List.getElem?_map, Option.map_eq_some_iff] at hz
      obtain ⟨j, hj, rfl⟩ := hz
      have hji : j = i ∧ i < l.length := by
        have h1 := (List.getElem?_eq_some_iff.1 hj)
        obtain ⟨h1, h2⟩ := h1
        simp at h1 h2
        exact ⟨h2.symm, h1⟩
      obtain ⟨rfl, hjl⟩ := hji
      obtain ⟨u, hu, _⟩ := hx j _ (List.getElem?_eq_getElem hjl)
      rw [hu]; rfl
    obtain ⟨L, hL, hLc⟩ := this
    refine ⟨L, by rw [hL, e2]; omega, fun b' e j u hu => ?_, fun i y hy => ?_⟩
    · obtain rfl : (⟨b, o, none⟩ : Addr) = b' := Option.some.inj e
      rw [add_at]; exact hLc j u hu
    · have hi : i < L.length := by rw [hL]; exact (List.getElem?_eq_some_iff.1 hy).1
      obtain ⟨u, hu, hop⟩ := hx i y hy
      have := hLc i _ (List.getElem?_eq_getElem hi)
      rw [hu] at this
      exact ⟨_, List.getElem?_eq_getElem hi, by rw [← Option.some.inj this]; exact hop⟩
theorem OpsB.grow {w w1 : World} {I I' : Nat → Prop} {v' u : Value} {l : List DOp} {x : DOp} (hb : Below w.heap.size w w1) (hI : ∀ k, I k → I' k) {olds : List Value} (hol : olds.length = l.length) (hops : ∀ (i : Nat) (y : DOp), l[i]? = some y → ∃ z, olds[i]? = some z ∧ OpB w I z y)
    {B : Nat} (hown : w1.ownsRow B 153 1 v' (l.length + 1) (olds ++ [u])) (hv : ∀ k, v'.ownBlock = some k → I' k) (hu : OpB w1 I' u x) (hlen : l.length < 1000000000) : OpsB w1 I' v' (l ++ [x]) := by
  obtain ⟨g, cp, rfl, hcell⟩ := ownsRow_some hown
  have hcap : l.length + 1 ≤ cp := by
    rcases hown.2 with ⟨h0, _⟩ | ⟨g', cap, cur, e, _, hgg, hr1, hr2, hr3, hr4⟩
    · cases h0
    · injection e with e1 e2 e3; omega
  have hg0 := hcell l.length u (by rw [List.getElem?_append_right (by omega), hol]; simp)
  refine ⟨_, cp, by simp, ⟨by simp; exact hcap, by simp; omega⟩, fun _ => ⟨g, 0, rfl, ⟨World.block_lt_of_cell? w1 _ hg0, hv g rfl⟩, fun i y hy => ?_⟩⟩
  rw [Nat.zero_add]
  by_cases hi : i < l.length
  · rw [List.getElem?_append_left hi] at hy
    obtain ⟨z, hz, hop⟩ := hops i y hy
    exact ⟨z, hcell i _ (by rw [List.getElem?_append_left (by omega)]; exact hz), (hop.off (Off.of_below hb (fun _ => False)) (fun _ _ e => e)).mono hI⟩
  · have hie : i = l.length := by have := (List.getElem?_eq_some_iff.1 hy).1; simp at this; omega
    subst hie
    have hyx : y = x := by simpa using hy.symm
    subst hyx
    exact ⟨u, hg0, hu⟩
theorem Dk.Ok.wr {D : Dk} (h : D.Ok) {n : Nat} {x : Str} (hn : n < D.first.length) (hx : x.length = 512) : (D.wr n x).Ok := by
  refine ⟨h.len, h.few, h.first, h.safe, fun p hp => ?_⟩
  rcases pset_mem hp with rfl | hp
  · exact ⟨hn, hx⟩
  · exact h.wait p hp
/-- An append that grows, as a step of a region that draws its order; the slice is written out. -/
theorem step_append_grown {P : Program} {ops : Array Oper} {o : Oper} {a : Act} {w : World} {K : Act → World → Prop} {Q : Exit → Act → World → Prop} {E : Prop}
    (hg : o.guard = none) (s x : Operand) (t : TypeId) (hop : o.op = Op.call { callee := Callee.builtin Builtin.append, args := #[s, x], argTypes := #[t, t] })
    (e : TypeId) (i : TypeInfo) (z : Value) (bytes : Nat) (h1 : P.underlying t = some (.slice e)) (h2 : P.info? e = some i) (h3 : i.zero = some z) (h4 : i.size = 1) (h5 : i.bytes = bytes) (h6 : z.cells.size = 1)
    (ao : Option Addr) (n cap : Nat) (olds : List Value) (hs : a.eval s = .slice ao n cap) (hnone : ao = none → n = 0 ∧ cap = 0) (hlo : olds.length = n * 1) (holds : ∀ b, ao = some b → ∀ j u, olds[j]? = some u → w.cell? (b.add j) = some u)
    (ad : Addr) (c : Nat) (new : Value) (hx : a.eval x = .slice (some ad) 1 c) (hc : ∀ j u, [new][j]? = some u → w.cell? (ad.add j) = some u) (h1c : ∀ u ∈ [new], u.oneCell' = true)
    (hfull : cap < n + 1) (b1 : n + 1 ≤ maxLen) (b2 : (n + 1) * bytes ≤ 140737488355328)
    (hK : ∀ g cp w', w'.ownsRow w.heap.size e 1 (.slice (some ⟨g, 0, none⟩) (n + 1) cp) (n + 1) (olds ++ [new]) → w.grownBy w' none → K (a.put o.dst (.slice (some ⟨g, 0, none⟩) (n + 1) cp)) w') :
    if Region.wanted o (yielded ops a.tmps) = true then Oper.wp P o a w K Q else E :=
  step_append_grows hg s x t hop e i z 1 bytes h1 h2 h3 h4 h5 h6 (by decide) ao n cap olds hs hnone hlo holds ad 1 c [new] hx rfl hc h1c hfull b1 b2 (fun v' w' ho hgr => by
    obtain ⟨g, cp, e, _⟩ := ownsRow_some ho
    subst e
    exact hK g cp w' ho hgr)
/-- A disk behind the append to its ops: only the map of what waits is left to be written. -/
theorem DiskAt.logged {w w1 : World} {a : Nat} {D : Dk} {R : Reg} {fv sv v' u : Value} {Al : Option Addr} {cl mb : Nat} {x : DOp} {Nb : Nat → Prop} (h : DiskAt w a D R) (hcells : w.heap[a]? = some (.cells #[fv, .slice Al D.ops.length cl, sv, .map (some mb)] 150 (0, 0)))
    (hb : Below w.heap.size w w1) (hNb : ∀ k, Nb k → ¬ R.has k ∧ k < w.heap.size) {olds : List Value} (hol : olds.length = D.ops.length * 1) (hops : ∀ (i : Nat) (y : DOp), D.ops[i]? = some y → ∃ z, olds[i]? = some z ∧ OpB w R.i z y)
    {B : Nat} (hown : w1.ownsRow B 153 1 v' (D.ops.length + 1) (olds ++ [u])) (hB : w.heap.size ≤ B) (hu : OpB w1 (fun k => R.i k ∨ Nb k ∨ v'.ownBlock = some k) u x) (hlen : D.ops.length < 1000000000) :
    (w1.setCell ⟨a, 1, none⟩ v').heap[a]? = some (.cells #[fv, v', sv, .map (some mb)] 150 (0, 0)) ∧ Off (fun k => k = a) w (w1.setCell ⟨a, 1, none⟩ v') ∧ (∀ k, v'.ownBlock = some k → w.heap.size ≤ k ∧ k < w1.heap.size) ∧
    OpsB (w1.setCell ⟨a, 1, none⟩ v') (fun k => R.i k ∨ Nb k ∨ v'.ownBlock = some k) v' (D.ops ++ [x]) := by
  have ha : R.m a := by
    obtain ⟨_, _, _, _, _, _, _, _, ⟨h5, _⟩, _⟩ := h
    exact h5
  have hal : a < w.heap.size := h.lt a (.inl ha)
  have h1 := heap_setCell_at w1 a 1 v' ((hb.block a hal).trans hcells)
  have hlt : ∀ k, v'.ownBlock = some k → w.heap.size ≤ k ∧ k < w1.heap.size := fun k e => by
    have := World.ownsRow.lt hown k e
    omega
  have hne : ∀ k, R.i k ∨ Nb k ∨ v'.ownBlock = some k → ¬ k = a := fun k hk e => by
    subst e
    rcases hk with hk | hk | hk
    · exact h.apart _ ha hk
    · exact (hNb _ hk).1 (.inl ha)
    · have := hlt _ hk; omega
  have ho : Off (fun k => k = a) w1 (w1.setCell ⟨a, 1, none⟩ v') := Off.setCell (M := fun k => k = a) (p := ⟨a, 1, none⟩) (Off.refl _ w1) (.inl rfl) _
  refine ⟨h1, (Off.of_below hb _).then ho, hlt, ?_⟩
  exact (OpsB.grow hb (fun k hk => .inl hk) (by rw [hol]; omega) hops hown (fun k hk => .inr (.inr hk)) hu hlen).off ho hne
/-- Behind the append to the ops. -/
def LoggedW (w : World) (a mb : Nat) (fv sv : Value) (D : Dk) (I : Nat → Prop) (x : DOp) (g cv : Nat) (W : World) : Prop :=
  W.heap[a]? = some (.cells #[fv, .slice (some ⟨g, 0, none⟩) (D.ops.length + 1) cv, sv, .map (some mb)] 150 (0, 0)) ∧ Off (fun k => k = a) w W ∧ (w.heap.size ≤ g ∧ g < W.heap.size) ∧ OpsB W (fun k => I k ∨ k = g) (.slice (some ⟨g, 0, none⟩) (D.ops.length + 1) cv) (D.ops ++ [x])
/-- A disk behind an op. -/
def Dk.act (D : Dk) : DOp → Dk | .write n b => D.wr n b | .flush => D.fl
/-- What an op is, as a value of the interface. -/
def OpIs (w : World) (D : Dk) (Nb : Nat → Prop) (x : DOp) (t : TypeId) (pv : Value) : Prop :=
  (∃ n b A c, x = .write n b ∧ t = 155 ∧ pv = .agg #[.int .i64 (n : Nat), .slice A (List.length b) c] ∧ BytesI w Nb (.slice A (List.length b) c) b ∧ n < D.first.length ∧ b.length = 512 ∧ phas D.wait n = false) ∨ (x = .flush ∧ t = 157 ∧ pv = .agg #[])
theorem OpIs.at {w w1 : World} {D : Dk} {Nb I : Nat → Prop} {x : DOp} {t : TypeId} {pv : Value} (h : OpIs w D Nb x t pv) (hb : Below w.heap.size w w1) (hI : ∀ k, Nb k → I k) : OpB w1 I (.iface t pv) x := by
  rcases h with ⟨n, b, A, c, rfl, rfl, rfl, hB, _⟩ | ⟨rfl, rfl, rfl⟩
  · exact ⟨_, rfl, (hB.off (Off.of_below hb (fun _ => False)) (fun _ _ e => e)).mono fun k hk _ => hI k hk⟩
  · rfl
/-- What do leaves. -/
def DoPost (w : World) (a : Nat) (D : Dk) (R : Reg) (Nb : Nat → Prop) (x : DOp) (e : Ending) (w' : World) : Prop :=
  e = .returned (.tuple #[]) ∧ (∃ R', DiskAt w' a (D.act x) R' ∧ (∀ k, R'.m k → R.m k) ∧ ∀ k, R'.i k → R.i k ∨ Nb k ∨ w.heap.size ≤ k) ∧ Off R.m w w'
theorem Dk.Ok.fl {D : Dk} (h : D.Ok) : D.fl.Ok := by
  refine ⟨by show D.flushed.length = _; simp [Dk.flushed, h.len, Dk.fl], h.few, h.first, fun x hx => ?_, fun p hp => by cases hp⟩
  obtain ⟨j, hj, rfl⟩ := List.mem_map.1 hx
  exact h.rd (by rw [← h.len]; exact List.mem_range.1 hj)
theorem do_written {w wc w9 : World} {a mb n g cv g9 : Nat} {fv sv : Value} {D : Dk} {R : Reg} {Nb : Nat → Prop} {b : Str} (h : DiskAt w a D R) (h5 : R.m a) (h6 : R.m mb) (h7 : a ≠ mb) (hf : RowsB w R.i R.i fv D.first) (hs : RowsB w (fun k => R.m k ∧ k ≠ a ∧ k ≠ mb) R.i sv D.safe)
    (hNb : ∀ k, Nb k → ¬ R.has k ∧ k < w.heap.size) (hL : LoggedW w a mb fv sv D (fun k => R.i k ∨ Nb k) (.write n b) g cv wc) (hn : n < D.first.length) (hb : b.length = 512) (ho : Off (fun k => k = mb) wc w9) (hg1 : wc.heap.size ≤ g9) (hg2 : g9 < w9.heap.size) (hm : MapB (OneB w9 (fun k => (R.i k ∨ Nb k) ∨ k = g9)) w9 mb (pset D.wait n b)) :
    DoPost w a D R Nb (.write n b) (.returned (.tuple #[])) w9 := by
  obtain ⟨hL1, hL2, hL3, hL4⟩ := hL
  have hal : a < wc.heap.size := (Array.getElem?_eq_some_iff.1 hL1).1
  have hlt : ∀ k, R.has k → k < w.heap.size := h.lt
  have hoff : Off (fun k => k = a ∨ k = mb) w w9 := (hL2.mono (fun k e => .inl (.inl e))).trans ho (fun k e => .inl (.inr e))
  have hap : ∀ k, R.m k → ¬ (((R.i k ∨ Nb k) ∨ k = g) ∨ k = g9) := fun k hk e => by
    have h1 := hlt k (.inl hk)
    have h2 := hL2.size
    rcases e with ((e | e) | e) | e
    · exact h.apart k hk e
    · exact (hNb k e).1 (.inl hk)
    · omega
    · omega
  have hi : ∀ k, R.i k → ¬ (k = a ∨ k = mb) := fun k hk e => by
    rcases e with rfl | rfl
    · exact h.apart _ h5 hk
    · exact h.apart _ h6 hk
  refine ⟨rfl, ⟨⟨R.m, fun k => ((R.i k ∨ Nb k) ∨ k = g) ∨ k = g9⟩, ⟨hap, fun k hk => ?_, h.ok.wr hn hb, fv, _, sv, mb, (ho.block a hal h7).trans hL1, ⟨h5, h6, h7⟩, ?_, ?_, ?_, hm.mono rfl (fun _ _ e => e.mono fun k hk => ?_)⟩, fun k hk => hk, fun k hk => ?_⟩, hoff.mono (fun k e => .inl ?_)⟩
  · rcases hk with hk | (((hk | hk) | hk) | hk)
    · exact Nat.lt_of_lt_of_le (hlt k (.inl hk)) hoff.size
    · exact Nat.lt_of_lt_of_le (hlt k (.inr hk)) hoff.size
    · exact Nat.lt_of_lt_of_le (hNb k hk).2 hoff.size
    · have := ho.size; omega
    · omega
  · exact (hf.off hoff hi hi).mono (fun k hk => .inl (.inl (.inl hk))) (fun k hk => .inl (.inl (.inl hk)))
  · have h4 : OpsB w9 (fun k => (R.i k ∨ Nb k) ∨ k = g) (.slice (some ⟨g, 0, none⟩) (D.ops.length + 1) cv) (D.ops ++ [.write n b]) := hL4.off ho (fun k hk e => hap k (e ▸ h6) (.inl hk))
    exact h4.mono (fun k hk => .inl hk)
  · exact (hs.off hoff (fun k hk e => by rcases e with e | e; exact hk.2.1 e; exact hk.2.2 e) hi).mono (fun k hk => hk) (fun k hk => .inl (.inl (.inl hk)))
  · rcases hk with hk | hk
    · exact .inl (.inl hk)
    · exact .inr hk
  · have := hL2.size
    rcases hk with ((hk | hk) | hk) | hk
    · exact .inl hk
    · exact .inr (.inl hk)
    · exact .inr (.inr (by omega))
    · exact .inr (.inr (by omega))
  · rcases e with rfl | rfl
    · exact h5
    · exact h6
theorem do_flushed {w wc w9 : World} {a mb g cv : Nat} {fv sv : Value} {D : Dk} {R : Reg} {Nb : Nat → Prop} (h : DiskAt w a D R) (h5 : R.m a) (h6 : R.m mb) (h7 : a ≠ mb) (hf : RowsB w R.i R.i fv D.first)
    (hNb : ∀ k, Nb k → ¬ R.has k ∧ k < w.heap.size) (hL : LoggedW w a mb fv sv D (fun k => R.i k ∨ Nb k) .flush g cv wc) (ho : Off (fun k => R.m k ∧ k ≠ a) wc w9) (hm : MapB (OneB w9 R.i) w9 mb []) (hs : RowsB w9 (fun k => R.m k ∧ k ≠ a ∧ k ≠ mb) R.i sv D.flushed) :
    DoPost w a D R Nb .flush (.returned (.tuple #[])) w9 := by
  obtain ⟨hL1, hL2, hL3, hL4⟩ := hL
  have hal : a < wc.heap.size := (Array.getElem?_eq_some_iff.1 hL1).1
  have hlt : ∀ k, R.has k → k < w.heap.size := h.lt
  have hoff : Off R.m w w9 := (hL2.mono (M' := R.m) (fun k e => .inl (by rw [e]; exact h5))).trans ho (fun k e => .inl e.1)
  have hap : ∀ k, R.m k → ¬ ((R.i k ∨ Nb k) ∨ k = g) := fun k hk e => by
    have h1 := hlt k (.inl hk)
    rcases e with (e | e) | e
    · exact h.apart k hk e
    · exact (hNb k e).1 (.inl hk)
    · omega
  refine ⟨rfl, ⟨⟨R.m, fun k => (R.i k ∨ Nb k) ∨ k = g⟩, ⟨hap, fun k hk => ?_, h.ok.fl, fv, _, sv, mb, (ho.block a hal (fun e => e.2 rfl)).trans hL1, ⟨h5, h6, h7⟩, ?_, ?_, ?_, hm.mono rfl (fun _ _ e => e.mono fun k hk => .inl (.inl hk))⟩, fun k hk => hk, fun k hk => ?_⟩, hoff⟩
  · rcases hk with hk | ((hk | hk) | hk)
    · exact Nat.lt_of_lt_of_le (hlt k (.inl hk)) hoff.size
    · exact Nat.lt_of_lt_of_le (hlt k (.inr hk)) hoff.size
    · exact Nat.lt_of_lt_of_le (hNb k hk).2 hoff.size
    · have := ho.size; omega
  · exact (hf.off hoff (fun k hk e => h.apart k e hk) (fun k hk e => h.apart k e hk)).mono (fun k hk => .inl (.inl hk)) (fun k hk => .inl (.inl hk))
  · have h4 : OpsB w9 (fun k => (R.i k ∨ Nb k) ∨ k = g) (.slice (some ⟨g, 0, none⟩) (D.ops.length + 1) cv) (D.ops ++ [.flush]) := hL4.off ho (fun k hk e => hap k e.1 hk)
    exact h4
  · exact hs.mono (fun k hk => hk) (fun k hk => .inl (.inl hk))
  · have := hL2.size
    rcases hk with (hk | hk) | hk
    · exact .inl hk
    · exact .inr (.inl hk)
    · exact .inr (.inr (by omega))
set_option maxRecDepth 100000 in
set_option maxHeartbeats 6400000 in
theorem do_any (a : Nat) (D : Dk) (R : Reg) (x : DOp) (t : TypeId) (pv : Value) (w : World) (h : DiskAt w a D R) (Nb : Nat → Prop) (hNb : ∀ k, Nb k → ¬ R.has k ∧ k < w.heap.size) (hop : OpIs w D Nb x t pv) (hl : D.ops.length < 1000000000) :
    Calls Tryz.prog 272 #[.pointer (some ⟨a, 0, none⟩), .iface t pv] w (DoPost w a D R Nb x) := by
  obtain ⟨i0, hi0, hz0, hz1, hz2⟩ := info_parts info_op
  have H := Lib.hid h
  obtain ⟨h1, h2, h3, fv, lv, sv, mb, h4, ⟨h5, h6, h7⟩, h8, h9, h10, h11⟩ := h
  obtain ⟨Al, cl, rfl, ⟨hcl, hll⟩, _⟩ := id h9
  obtain ⟨_, olds, hol, hold, hops⟩ := h9.olds
  have c1 : w.cell? ⟨a, 1, none⟩ = some (.slice Al D.ops.length cl) := cell_of_heap h4 1
  have f1 : w.frozen? ⟨a, 1, none⟩ = false := free_of_heap h4 1
  have ha := h2 a (.inl h5)
  have hb1 : Below w.heap.size w (w.alloc (.cells #[.iface t pv] 153)) := (Below.refl _ _).alloc (Nat.le_refl _) _
  have hnone : Al = none → D.ops.length = 0 ∧ D.ops.length = 0 := fun e => by
    rcases h9 with ⟨A', c', e', _, hf⟩
    by_cases hne : D.ops = []
    · rw [hne]; exact ⟨rfl, rfl⟩
    · obtain ⟨b, o, e2, _⟩ := hf hne
      injection e' with e3
      rw [← e3, e] at e2; cases e2
  have hclI : (D.ops.length : Int) ≤ (cl : Int) := by omega
  have hadd : Option.map (fun x : Addr => x.add 0) Al = Al := by cases Al <;> simp [Addr.add]
  have hold2 : ∀ b, Al = some b → ∀ j u, olds[j]? = some u → ((w.alloc (.cells #[.iface t pv] 153)).drew).cell? (b.add j) = some u := fun b e j u hu => cell_later hb1.drew (hold b e j u hu)
  have hlog : ∀ g cv w1, w1.ownsRow ((w.alloc (.cells #[.iface t pv] 153)).drew).heap.size 153 1 (.slice (some ⟨g, 0, none⟩) (D.ops.length + 1) cv) (D.ops.length + 1) (olds ++ [.iface t pv]) → ((w.alloc (.cells #[.iface t pv] 153)).drew).grownBy w1 none →
      w1.cell? ⟨a, 1, none⟩ = some (.slice Al D.ops.length cl) ∧ w1.frozen? ⟨a, 1, none⟩ = false ∧ Below w.heap.size w w1 ∧
      LoggedW w a mb fv sv D (fun k => R.i k ∨ Nb k) x g cv (w1.setCell ⟨a, 1, none⟩ (.slice (some ⟨g, 0, none⟩) (D.ops.length + 1) cv)) := by
    intro g cv w1 hown hgrow
    have hbw1 : Below w.heap.size w w1 := hb1.drew.grown hgrow hb1.drew.size (fun k e => by cases e)
    obtain ⟨hL1, hL2, hL3, hL4⟩ := H.out.logged (u := .iface t pv) (x := x) h4 hbw1 hNb hol hops hown hb1.drew.size (hop.at hbw1 (fun k hk => .inr (.inl hk))) hl
    exact ⟨cell_later hbw1 c1, (hbw1.frozen (p := ⟨a, 1, none⟩) ha).trans f1, hbw1, hL1, hL2, ⟨(hL3 g rfl).1, by have h3 := (hL3 g rfl).2; simpa [World.setCell] using h3⟩, hL4.mono fun k hk => by
      rcases hk with hk | hk | hk
      · exact .inl (.inl hk)
      · exact .inl (.inr hk)
      · exact .inr (Option.some.inj hk).symm⟩
  have HLog := Lib.hid hlog
  have HSafe := Lib.hid h10
  have HFirst := Lib.hid h8
  have HWait := Lib.hid h11
  have HNb := Lib.hid hNb
  have H4 := Lib.hid h4
  have HOp := Lib.hid hop
  clear h1 h2 h3 h4 h8 h9 h10 h11 hops hNb hold hop hlog hb1
  go_enter Tryz.func272, Tryz.ntmps272
  go_wp2_with fail
  go_cut [22] (fun _ wx => ∃ g cv, LoggedW w a mb fv sv D (fun k => R.i k ∨ Nb k) x g cv wx)
  case first =>
    go_region_law (refine step_append_grown rfl (.tmp 19) (.tmp 21) 145 rfl 153 i0 .nilIface 16 Tryz.underlying145 hi0 hz0 hz1 hz2 rfl Al D.ops.length D.ops.length olds (by rfl) hnone hol hold2 ⟨w.heap.size, 0, none⟩ 1 (.iface t pv) (by rfl) (cell_one_new _ _ _) (by intro u hu; simp at hu; subst hu; rfl) (by omega) (by unfold maxLen; omega) (by omega) ?_; intro g cv w1 hown hgrow; obtain ⟨q1, qf, hbw1, hL⟩ := HLog.out g cv w1 hown hgrow; have HL := Lib.hid hL; clear hown hgrow hL)
    all_goals (go_wp2_with fail; go_meet; exact ⟨_, _, HL.out⟩)
  case rest =>
    clear hold2 hol hadd hclI hnone f1 c1 HLog hi0 hz0 hz1 hz2
    obtain ⟨g, cv, hL⟩ := hcut
    have HL := Lib.hid hL
    clear hL
    rcases HOp.out with ⟨n, b, A, c, rfl, rfl, rfl, hB, hn, hb, hw⟩ | ⟨rfl, rfl, rfl⟩
    · obtain ⟨hL1, hL2, hL3, hL4⟩ := HL.out
      have hal : a < wc.heap.size := (Array.getElem?_eq_some_iff.1 hL1).1
      have k3 : wc.cell? ⟨a, 3, none⟩ = some (.map (some mb)) := cell_of_heap hL1 3
      have hIa : ∀ k, R.i k ∨ Nb k → ¬ k = a := fun k hk e => by
        subst e
        rcases hk with hk | hk
        · exact H.out.apart _ h5 hk
        · exact (HNb.out _ hk).1 (.inl h5)
      have hImb : ¬ (R.i mb ∨ Nb mb) := fun hk => by
        rcases hk with hk | hk
        · exact H.out.apart _ h6 hk
        · exact (HNb.out _ hk).1 (.inl h6)
      have hwm : MapB (OneB wc (fun k => R.i k ∨ Nb k)) wc mb D.wait := HWait.out.mono (hL2.block mb HWait.out.lt (fun e => h7 e.symm)) (fun _ _ ho => (ho.off hL2 (fun k hk => hIa k (.inl hk))).mono fun k hk => .inl hk)
      have hBc : BytesI wc (fun k => R.i k ∨ Nb k) (.slice A b.length c) b := (hB.off hL2 (fun k hk => hIa k (.inr hk))).mono fun k hk _ => .inr hk
      have hon := fun q => writeOn_any n a mb c D.wait (fun k => R.i k ∨ Nb k) A b (wc.drewN q) (by exact hal) k3 (hwm.mono rfl (fun _ _ ho => ho.off ((Off.refl (fun _ => False) wc).drewN q) (fun _ _ e => e))) hw (hBc.off ((Off.refl (fun _ => False) wc).drewN q) (fun _ _ e => e)) hImb h7
      have HOn := Lib.hid hon
      have HLen := Lib.hid hb
      clear hon hb hL1 hL2 hL3 hL4 hwm hBc hB
      have na := nilAhead_w (n : Int) A b.length c
      have me := method_w (n : Int) A b.length c
      go_wp2_with fail
      go_region_with (go_at_call 338; refine (HOn.out 1).mono ?_; rintro e w9 ⟨rfl, ⟨g9, hg1, hg2, hm9⟩, ho9⟩)
      all_goals (go_end0; exact do_written H.out h5 h6 h7 HFirst.out HSafe.out HNb.out HL.out hn HLen.out ⟨ho9.os, ho9.tape, ho9.output, ho9.size, ho9.block⟩ hg1 hg2 hm9)
    · obtain ⟨hL1, hL2, hL3, hL4⟩ := HL.out
      have hal : a < wc.heap.size := (Array.getElem?_eq_some_iff.1 hL1).1
      have k3 : wc.cell? ⟨a, 3, none⟩ = some (.map (some mb)) := cell_of_heap hL1 3
      have k2 : wc.cell? ⟨a, 2, none⟩ = some sv := cell_of_heap hL1 2
      have hIa : ∀ k, R.i k → ¬ k = a := fun k hk e => H.out.apart k (e ▸ h5) hk
      have hwm : MapB (OneB (wc.drewN 1) R.i) (wc.drewN 1) mb D.wait := HWait.out.mono (hL2.block mb HWait.out.lt (fun e => h7 e.symm)) (fun _ _ ho => ho.off (hL2.drewN 1) hIa)
      have hsv : RowsB (wc.drewN 1) (fun k => R.m k ∧ k ≠ a ∧ k ≠ mb) R.i sv D.safe := HSafe.out.off (hL2.drewN 1) (fun k hk e => hk.2.1 e) hIa
      have hon := flushOn_any a mb sv D R (wc.drewN 1) hal k2 k3 hsv hwm H.out.ok h6 H.out.apart (fun k hk => Nat.lt_of_lt_of_le (H.out.lt k hk) hL2.size) h7
      have HOn := Lib.hid hon
      clear hon hL1 hL2 hL3 hL4 hwm hsv k2 hIa
      have na := nilAhead_f
      have me := method_f
      go_wp2_with fail
      go_region_with (go_at_call 339; refine HOn.out.mono ?_; rintro e w9 ⟨rfl, hm9, hs9, ho9⟩)
      all_goals (go_end0; exact do_flushed H.out h5 h6 h7 HFirst.out HNb.out HL.out ⟨ho9.os, ho9.tape, ho9.output, ho9.size, ho9.block⟩ hm9 hs9)
end Go.Proofs.YtakmplpfjcddiaaGreatDoor

namespace Go.Proofs.YtakmplpfjcddiaaGreatDoor
open Go.RowKit Go.Shelf Pa
attribute [local go_sem] bs_toList bs_size
/-- What Write, Flush leave. -/
def ActPost (w : World) (a : Nat) (D : Dk) (R : Reg) (e : Ending) (w' : World) : Prop :=
  e = .returned (.int .i64 0) ∧ (∃ R', DiskAt w' a D R' ∧ R.To R' w.heap.size) ∧ Off R.m w w'
set_option maxHeartbeats 1000000 in
theorem dwrite_any (n a : Nat) (D : Dk) (R : Reg) (v : Value) (x : Str) (w : World) (h : DiskAt w a D R) (hv : BytesAt w w.heap.size v x) (hn : n < D.first.length) (hx : x.length = 512) (hw : phas D.wait n = false) (hl : D.ops.length < 1000000000) :
    Calls Tryz.prog 213 #[.pointer (some ⟨a, 0, none⟩), .int .i64 n, v] w (ActPost w a (D.wr n x) R) := by
  have H := Lib.hid h
  have hcl := cloneI_any v x w hv
  obtain ⟨Av, cv, rfl, _, _⟩ := hv
  obtain ⟨h1, h2, h3, fv, lv, sv, mb, h4, ⟨h5, h6, h7⟩, ⟨fb, fc, cs, rfl, _, _, _, _⟩, h9, h10, h11⟩ := h
  have c0 : w.cell? ⟨a, 0, none⟩ = some (.slice (some ⟨fb, 0, none⟩) D.first.length fc) := cell_of_heap h4 0
  have hnI : decide ((D.first.length : Int) ≤ (n : Int)) = false := by simp; omega
  have hxn : (((x.length : Nat) : Int) != 512) = false := by simp [hx]
  have HCl := Lib.hid hcl
  have HX := Lib.hid hx
  have HWt := Lib.hid hw
  clear h1 h2 h3 h4 h5 h6 h7 h9 h10 h11 hcl hx hw
  go_enter Tryz.func213, Tryz.ntmps213
  go_wp2_with fail
  refine HCl.out.mono ?_
  rintro e w1 ⟨v1, rfl, ho1, hb1⟩
  have hB1 := ho1.bytes (by rw [HX.out]; omega)
  have hNb : ∀ k, v1.ownBlock = some k → ¬ R.has k ∧ k < w1.heap.size := fun k e => ⟨fun hR => by have := (ho1.block e).1; have := H.out.lt k hR; omega, (ho1.block e).2⟩
  obtain ⟨A1, c1, rfl⟩ := ownsRow_slice ho1
  have hdo := do_any a D R (.write n x) _ _ w1 (H.out.off (Off.of_below hb1 (fun _ => False)) (fun _ _ e => e)) _ hNb (.inl ⟨n, x, A1, c1, rfl, rfl, rfl, hB1, hn, HX.out, HWt.out⟩) hl
  have HDo := Lib.hid hdo
  have HO := Lib.hid (Off.of_below hb1 R.m)
  have HOwn := Lib.hid ho1
  clear hdo hb1 hB1 hNb ho1
  go_wp2_with fail
  refine HDo.out.mono ?_
  rintro e w2 ⟨rfl, ⟨R', hd, hm, hi⟩, ho2⟩
  have hfin : ActPost w a (D.wr n x) R (.returned (.int .i64 0)) w2 := ⟨rfl, ⟨R', hd, fun k hk => .inl (hm k hk), fun k hk => by
    rcases hi k hk with e | e | e
    · exact .inl e
    · exact .inr (HOwn.out.block e).1
    · right; have := HO.out.size; omega⟩, HO.out.then ho2⟩
  have HFin := Lib.hid hfin
  clear hfin hd hm hi ho2
  go_wp2_with fail
  go_ret
  exact HFin.out
set_option maxHeartbeats 1000000 in
theorem dflush_any (a : Nat) (D : Dk) (R : Reg) (w : World) (h : DiskAt w a D R) (hl : D.ops.length < 1000000000) :
    Calls Tryz.prog 214 #[.pointer (some ⟨a, 0, none⟩)] w (ActPost w a D.fl R) := by
  have hdo := do_any a D R .flush _ _ w h (fun _ => False) (fun _ e => e.elim) (.inr ⟨rfl, rfl, rfl⟩) hl
  have HDo := Lib.hid hdo
  clear hdo h
  go_enter Tryz.func214, Tryz.ntmps214
  go_wp2_with fail
  refine HDo.out.mono ?_
  rintro e w2 ⟨rfl, ⟨R', hd, hm, hi⟩, ho2⟩
  have hfin : ActPost w a D.fl R (.returned (.int .i64 0)) w2 := ⟨rfl, ⟨R', hd, fun k hk => .inl (hm k hk), fun k hk => by
    rcases hi k hk with e | e | e
    · exact .inl e
    · exact e.elim
    · exact .inr e⟩, ho2⟩
  have HFin := Lib.hid hfin
  clear hfin hd hm hi ho2
  go_wp2_with fail
  go_ret
  exact HFin.out
end Go.Proofs.YtakmplpfjcddiaaGreatDoor

namespace Go.Proofs.YtakmplpfjcddiaaGreatDoor
open Go.RowKit Go.Shelf Pa
attribute [local go_sem] bs_toList bs_size
theorem sclone_any (M I : Nat → Prop) (L : List Str) (v : Value) (w : World) (h : RowsB w M I v L) :
    Calls Tryz.prog 113 #[v] w fun e w' => ∃ v', e = .returned v' ∧ RowsB w' (fun k => w.heap.size ≤ k ∧ k < w'.heap.size) I v' L ∧ Below w.heap.size w w' := by
  obtain ⟨i0, hi0, hz0, hz1, hz2⟩ := info_parts info_row
  obtain ⟨b, c, cs, rfl, ⟨hc, hcs, hL⟩, hM, hb, hx⟩ := h
  have hsz : ∀ w, (Go.sizeOf 37).run Tryz.prog w = .ok 1 w := fun w => by simp [Go.sizeOf, typeInfo, hi0, hz1]
  have hlen : (cs.toList.take L.length).length = L.length := by simp [List.length_take]; omega
  refine (AnyE.slices_Clone Tryz.cloneBB i0 (.slice none 0 0) 1 24 hi0 hz0 hz1 hz2 rfl (by decide) hsz b 0 L.length c (cs.toList.take L.length) w (by rw [hlen]; omega) (by unfold maxLen; omega) (by omega) ?_ ?_).mono ?_
  · intro j u hu
    have hj : j < L.length := by have := (List.getElem?_eq_some_iff.1 hu).1; omega
    rw [List.getElem?_take_of_lt hj, Array.getElem?_toList] at hu
    rw [Nat.zero_add, cell_of_heap hb]; exact hu
  · intro u hu
    obtain ⟨j, hj⟩ := List.getElem?_of_mem hu
    have hjl : j < L.length := by have := (List.getElem?_eq_some_iff.1 hj).1; omega
    rw [List.getElem?_take_of_lt hjl, Array.getElem?_toList] at hj
    obtain ⟨u', hu', hB⟩ := hx j _ (List.getElem?_eq_getElem hjl)
    rw [hu'] at hj
    obtain rfl := Option.some.inj hj
    obtain ⟨A, c', rfl, _⟩ := hB
    rfl
  · rintro e w' ⟨v', rfl, ⟨_, ho⟩, hn, hbl⟩
    rcases ho with ⟨e, _⟩ | ⟨g, cap, cur, rfl, hB, hg, hc1, hc2, hs, ht⟩
    · exact absurd e hn
    · refine ⟨_, rfl, ⟨g, cap, cur, rfl, ⟨hc1, by omega, hL⟩, ⟨hB, (Array.getElem?_eq_some_iff.1 hg).1⟩, hg, fun i x hi => ?_⟩, hbl⟩
      obtain ⟨u, hu, hBy⟩ := hx i x hi
      have hil : i < L.length := (List.getElem?_eq_some_iff.1 hi).1
      refine ⟨u, ?_, hBy.off (Off.of_below hbl (fun _ => False)) (fun _ _ e => e)⟩
      have h2 : (cur.toList.take (L.length * 1))[i]? = (cs.toList.take L.length)[i]? := by rw [ht]
      rw [List.getElem?_take_of_lt (by omega), List.getElem?_take_of_lt hil, Array.getElem?_toList, Array.getElem?_toList] at h2
      rw [h2]; exact hu
/-- A disk that has done nothing. -/
def Dk.begun (L : List Str) : Dk := ⟨L, [], L, []⟩
/-- What the call's own disk is like. -/
def NewDisk (w : World) (I : Nat → Prop) (D : Dk) (a : Nat) (w' : World) : Prop :=
  (∃ R', DiskAt w' a D R' ∧ (∀ k, R'.m k → w.heap.size ≤ k) ∧ (∀ k, R'.i k → I k)) ∧ Below w.heap.size w w'
theorem disk_laid {w w1 : World} {I : Nat → Prop} {D : Dk} {fv lv v' : Value} (hf : RowsB w I I fv D.first) (hl : OpsB w I lv D.ops) (hs : RowsB w1 (fun k => w.heap.size ≤ k ∧ k < w1.heap.size) I v' D.safe) (hw : D.wait = []) (hok : D.Ok) (hI : ∀ k, I k → k < w.heap.size) (hb : Below w.heap.size w w1) :
    NewDisk w I D (w1.heap.size + 1) ((w1.alloc (.map #[] 0)).alloc (.cells #[fv, lv, v', .map (some w1.heap.size)] 150)) := by
  have hs1 := hb.size
  have ho : Off (fun _ => False) w1 ((w1.alloc (.map #[] 0)).alloc (.cells #[fv, lv, v', .map (some w1.heap.size)] 150)) := ((Off.refl _ w1).alloc _).alloc _
  have hsz : ((w1.alloc (.map #[] 0)).alloc (.cells #[fv, lv, v', .map (some w1.heap.size)] 150)).heap.size = w1.heap.size + 2 := by simp
  have ho2 := (Off.of_below hb (fun _ => False)).then ho
  refine ⟨⟨⟨fun k => w.heap.size ≤ k ∧ k < w1.heap.size + 2, I⟩, ⟨fun k h1 h2 => by have := hI k h2; have := h1.1; omega, ?_, hok, fv, lv, v', w1.heap.size, ?_, ⟨⟨by omega, by omega⟩, ⟨by omega, by omega⟩, by omega⟩, hf.off ho2 (fun _ _ e => e) (fun _ _ e => e), hl.off ho2 (fun _ _ e => e), (hs.off ho (fun _ _ e => e) (fun _ _ e => e)).mono (fun k hk => ⟨⟨hk.1, by have := hk.2; omega⟩, by have := hk.2; omega, by have := hk.2; omega⟩) (fun _ h => h), ?_⟩, fun k h => h.1, fun _ h => h⟩, (ho2.below (Nat.le_refl _) (fun _ e => e.elim))⟩
  · rintro k (h | h)
    · rw [hsz]; exact h.2
    · have := hI k h; rw [hsz]; omega
  · have : (w1.alloc (.map #[] 0)).heap.size = w1.heap.size + 1 := by simp
    rw [← this]; exact heap_alloc_new _ _
  · rw [hw]
    refine (MapB.new w1).mono ?_ (fun _ _ h => h)
    exact ((Below.refl (w1.heap.size + 1) (w1.alloc (.map #[] 0))).alloc (by simp) _).block _ (by omega)
theorem Dk.Ok.begun {L : List Str} (h1 : 1 ≤ L.length ∧ L.length ≤ 4096) (h2 : ∀ x ∈ L, x.length = 512) : (Dk.begun L).Ok := ⟨rfl, h1, h2, h2, fun p hp => by cases hp⟩
set_option maxHeartbeats 1000000 in
theorem begun_any (L : List Str) (I : Nat → Prop) (v : Value) (w : World) (h : RowsB w I I v L) (hI : ∀ k, I k → k < w.heap.size) (h1 : 1 ≤ L.length ∧ L.length ≤ 4096) (h2 : ∀ x ∈ L, x.length = 512) :
    Calls Tryz.prog 108 #[v] w fun e w' => ∃ a, e = .returned (.pointer (some ⟨a, 0, none⟩)) ∧ NewDisk w I (Dk.begun L) a w' := by
  have hcl := fun q => sclone_any I I L v (w.drewN q) (h.off ((Off.refl (fun _ => False) w).drewN q) (fun _ _ e => e) (fun _ _ e => e))
  have hlaid : ∀ w1 v', RowsB w1 (fun k => w.heap.size ≤ k ∧ k < w1.heap.size) I v' L → Below w.heap.size w w1 → NewDisk w I (Dk.begun L) (w1.heap.size + 1) ((w1.alloc (.map #[] 0)).alloc (.cells #[v, .slice none 0 0, v', .map (some w1.heap.size)] 150)) :=
    fun w1 v' hs hb => disk_laid h ⟨none, 0, rfl, ⟨Nat.le_refl _, by simp [Dk.begun]⟩, fun h => absurd rfl h⟩ hs rfl (.begun h1 h2) hI hb
  obtain ⟨b, c, cs, rfl, _, _, _, _⟩ := h
  have HCl := Lib.hid hcl
  have HLaid := Lib.hid hlaid
  clear hcl hlaid hI h1 h2
  have hmk : ∀ w, (Instr.makeMap 146 none).run Tryz.prog w = .ok (.map (some w.heap.size)) (w.alloc (.map #[] 0)) := fun _ => rfl
  go_enter Tryz.func108, Tryz.ntmps108
  go_wp2_with fail
  refine (HCl.out 0).mono ?_
  rintro e w1 ⟨v', rfl, hs, hb⟩
  have HFin := Lib.hid (HLaid.out w1 v' hs hb)
  obtain ⟨b', c', cs', rfl, _, _, _, _⟩ := hs
  clear hb
  go_wp2_with fail
  go_ret
  exact ⟨_, rfl, HFin.out⟩
/-- A sector of zeros. -/
def zSec : Str := List.replicate 512 0
theorem info_u8 : (Tryz.prog.info? 5).map (fun i => (i.zero, i.size, i.bytes)) = some (some (.int .u8 0), 1, 1) := by kernel_rfl
theorem zSec_new (w : World) (I : Nat → Prop) (n : Nat) (hI : I w.heap.size) (hn : n ≤ 4096) : BytesI (w.alloc (.cells (madeCells #[.int .u8 0] n) 5)) I (.slice (some ⟨w.heap.size, 0, none⟩) n n) (List.replicate n 0) := by
  refine ⟨_, _, by rw [List.length_replicate], ⟨by rw [List.length_replicate]; exact Nat.le_refl _, by rw [List.length_replicate]; omega⟩, fun _ => ⟨_, _, rfl, ⟨by simp, hI⟩, fun i x hx => ?_⟩⟩
  obtain ⟨hi, e⟩ := List.getElem?_eq_some_iff.1 hx
  rw [List.length_replicate] at hi
  rw [List.getElem_replicate] at e
  subst e
  rw [Nat.zero_add, cell_of_heap (heap_alloc_new w _)]
  simp [madeCells, hi, Nat.mod_one]
/-- The sectors that New has made at its k-th round. -/
structure NewInv (w : World) (n k : Nat) (wx : World) : Prop where
  row : ∃ cs, wx.heap[w.heap.size]? = some (.cells cs 37 (0, 0)) ∧ cs.size = n ∧ ∀ i, i < n → ∃ u, cs[i]? = some u ∧ (i < k → BytesI wx (fun j => w.heap.size < j) u zSec)
  below : Below w.heap.size w wx
theorem NewInv.start (w : World) (n : Nat) : NewInv w n 0 (w.alloc (.cells (madeCells #[.slice none 0 0] n) 37)) :=
  ⟨⟨_, heap_alloc_new w _, by simp [size_madeCells], fun i hi => ⟨.slice none 0 0, by simp [madeCells, hi, Nat.mod_one], fun h => by omega⟩⟩, (Below.refl _ _).alloc (Nat.le_refl _) _⟩
theorem NewInv.step {w wx : World} {n k : Nat} (h : NewInv w n k wx) (hk : k < n) : NewInv w n (k + 1) ((wx.setCell ⟨w.heap.size, k, none⟩ (.slice (some ⟨wx.heap.size, 0, none⟩) 512 512)).alloc (.cells (madeCells #[.int .u8 0] 512) 5)) := by
  obtain ⟨⟨cs, h1, h2, h3⟩, hb⟩ := h
  have hlt : w.heap.size < wx.heap.size := (Array.getElem?_eq_some_iff.1 h1).1
  have hss : (wx.setCell ⟨w.heap.size, k, none⟩ (.slice (some ⟨wx.heap.size, 0, none⟩) 512 512)).heap.size = wx.heap.size := by simp [World.setCell]
  have hsc := heap_setCell_at wx w.heap.size k (.slice (some ⟨wx.heap.size, 0, none⟩) 512 512) h1
  generalize hW : wx.setCell ⟨w.heap.size, k, none⟩ (.slice (some ⟨wx.heap.size, 0, none⟩) 512 512) = W at hss hsc
  have hal : (W.alloc (.cells (madeCells #[.int .u8 0] 512) 5)).heap[w.heap.size]? = _ := (((Below.refl (w.heap.size + 1) W).alloc (by omega) _).block _ (by omega)).trans hsc
  have ho : Off (fun j => j = w.heap.size) wx (W.alloc (.cells (madeCells #[.int .u8 0] 512) 5)) := by
    rw [← hW]
    exact (Off.setCell (p := ⟨w.heap.size, k, none⟩) (Off.refl (fun j => j = w.heap.size) wx) (.inl rfl) _).alloc _
  refine ⟨⟨_, hal, by simp [h2], fun i hi => ?_⟩, (((Off.of_below hb (fun j => j = w.heap.size)).then ho).below (Nat.le_refl _) (fun j e => by omega))⟩
  by_cases e : i = k
  · subst e
    refine ⟨.slice (some ⟨wx.heap.size, 0, none⟩) 512 512, by simp [h2, hi], fun _ => ?_⟩
    rw [← hss]
    exact zSec_new W (fun j => w.heap.size < j) 512 (by omega) (by omega)
  · obtain ⟨u, hu, hB⟩ := h3 i hi
    refine ⟨u, by rw [Array.getElem?_setIfInBounds_ne (fun h => e h.symm)]; exact hu, fun hik => (hB (by omega)).off ho (fun j hj e => by omega)⟩
theorem NewInv.rows {w wx : World} {n : Nat} (h : NewInv w n n wx) (hn : n ≤ 4096) : RowsB wx (fun j => w.heap.size ≤ j ∧ j < wx.heap.size) (fun j => w.heap.size ≤ j ∧ j < wx.heap.size) (.slice (some ⟨w.heap.size, 0, none⟩) n n) (List.replicate n zSec) := by
  obtain ⟨⟨cs, h1, h2, h3⟩, hb⟩ := h
  have hlt : w.heap.size < wx.heap.size := (Array.getElem?_eq_some_iff.1 h1).1
  refine ⟨_, n, cs, by rw [List.length_replicate], ⟨by simp, by omega, by simpa using hn⟩, ⟨Nat.le_refl _, hlt⟩, h1, fun i x hx => ?_⟩
  obtain ⟨hi, e⟩ := List.getElem?_eq_some_iff.1 hx
  rw [List.length_replicate] at hi
  rw [List.getElem_replicate] at e
  subst e
  obtain ⟨u, hu, hB⟩ := h3 i hi
  exact ⟨u, hu, (hB hi).mono fun k hk hk2 => ⟨Nat.le_of_lt hk, hk2⟩⟩
set_option maxHeartbeats 1000000 in
/-- disk.New: sectors of zeros. -/
theorem new_any (n : Nat) (w : World) (h1 : 1 ≤ n) (h2 : n ≤ 4096) :
    Calls Tryz.prog 46 #[.int .i64 n] w fun e w' => ∃ a, e = .returned (.tuple #[.pointer (some ⟨a, 0, none⟩), .int .i64 0]) ∧ (∃ R, DiskAt w' a (Dk.begun (List.replicate n zSec)) R ∧ ∀ k, R.has k → w.heap.size ≤ k) ∧ Below w.heap.size w w' := by
  have hmk := run_make_row' (P := Tryz.prog) 141 37 (.slice none 0 0) 24 Tryz.underlying141 info_row rfl .i64 .i64 n (by omega) (by omega)
  have hms : ∀ w1, (Instr.makeSlice 37 (.int .i64 512) (.int .i64 512)).run Tryz.prog w1 = .ok (.slice (some ⟨w1.heap.size, 0, none⟩) 512 512) (w1.alloc (.cells (madeCells #[.int .u8 0] 512) 5)) := run_make_row' (P := Tryz.prog) 37 5 (.int .u8 0) 1 Tryz.underlying37 info_u8 rfl .i64 .i64 512 (by omega) (by omega)
  have hn1 : decide ((n : Int) < 1) = false := by simp; omega
  have hn2 : decide (4096 < (n : Int)) = false := by simp; omega
  have H0 := Lib.hid (NewInv.start w n)
  generalize hZ : madeCells #[.slice none 0 0] n = Z at hmk H0
  generalize hZ2 : madeCells #[.int .u8 0] 512 = Z2 at hms
  have HZ2 := Lib.hid hZ2
  clear hZ hZ2
  go_enter Tryz.func46, Tryz.ntmps46
  go_wp2_with fail
  go_loopg [16] n (fun g i wx => ∃ k : Nat, i = .int .i64 k ∧ g = n - k ∧ k ≤ n ∧ NewInv w n k wx)
  case atStart => exact ⟨0, rfl, rfl, Nat.zero_le _, H0.out⟩
  case round =>
    obtain ⟨k, rfl, rfl, hk, hI⟩ := hrel
    have HI := Lib.hid hI
    clear hI
    by_cases hlt : k < n
    · have hltI : decide ((k : Int) < (n : Int)) = true := by simp; omega
      obtain ⟨cs, hb1, hb2, hb3⟩ := HI.out.row
      have hsz := (Array.getElem?_eq_some_iff.1 hb1).1
      obtain ⟨u, hu, _⟩ := hb3 k hlt
      have hc := (cell_of_heap hb1 k).trans hu
      have hf := free_of_heap hb1 k
      have hstep := HI.out.step hlt
      rw [HZ2.out] at hstep
      have HStep := Lib.hid hstep
      clear hstep hb1 hb2 hb3 hu
      go_wp2_with fail
      go_roundg (n - (k + 1))
      case measure => omega
      case rel => exact ⟨k + 1, by go_num, rfl, hlt, HStep.out⟩
    · have hltI : decide ((k : Int) < (n : Int)) = false := by simp; omega
      obtain rfl : k = n := by omega
      have hrows := HI.out.rows h2
      have hrl : (List.replicate k zSec).length = k := by simp
      have hbg := begun_any (List.replicate k zSec) _ _ wr hrows (fun j hj => hj.2) (by rw [hrl]; exact ⟨h1, h2⟩) (fun x hx => by rw [List.eq_of_mem_replicate hx]; exact List.length_replicate ..)
      have HBg := Lib.hid hbg
      clear hbg hrows hrl
      go_wp2_with fail
      refine HBg.out.mono ?_
      rintro e w1 ⟨a, rfl, ⟨R, hd, hm, hi⟩, hb⟩
      have hfin : ∃ b, Ending.returned (.tuple #[.pointer (some ⟨a, 0, none⟩), .int .i64 0]) = .returned (.tuple #[.pointer (some ⟨b, 0, none⟩), .int .i64 0]) ∧ (∃ R, DiskAt w1 b (Dk.begun (List.replicate k zSec)) R ∧ ∀ k, R.has k → w.heap.size ≤ k) ∧ Below w.heap.size w w1 := ⟨a, rfl, ⟨R, hd, fun j hj => by
        have := HI.out.below.size
        rcases hj with hj | hj
        · have := hm j hj; omega
        · exact (hi j hj).1⟩, HI.out.below.trans (hb.mono HI.out.below.size)⟩
      have HFin := Lib.hid hfin
      clear hfin hd hm hi hb
      go_wp2_with fail
      go_ret2
      exact HFin.out
end Go.Proofs.YtakmplpfjcddiaaGreatDoor

namespace Go.Proofs.YtakmplpfjcddiaaGreatDoor
open Go.RowKit Go.Shelf Pa
open Go.MapKept
attribute [local go_sem] bs_toList bs_size
theorem disk_boxed {w w1 : World} {I : Nat → Prop} {D : Dk} {fv lv v' : Value} {mb : Nat} (hf : RowsB w I I fv D.first) (hl : OpsB w I lv D.ops) (hs : RowsB w1 (fun k => w.heap.size ≤ k ∧ k < w1.heap.size ∧ k ≠ mb) I v' D.safe) (hm : MapB (OneB w1 I) w1 mb D.wait) (hmb : w.heap.size ≤ mb) (hok : D.Ok) (hI : ∀ k, I k → k < w.heap.size) (hb : Below w.heap.size w w1) :
    NewDisk w I D w1.heap.size (w1.alloc (.cells #[fv, lv, v', .map (some mb)] 150)) := by
  have hs1 := hb.size
  have hml := hm.lt
  have ho : Off (fun _ => False) w1 (w1.alloc (.cells #[fv, lv, v', .map (some mb)] 150)) := (Off.refl _ w1).alloc _
  have hsz : (w1.alloc (.cells #[fv, lv, v', .map (some mb)] 150)).heap.size = w1.heap.size + 1 := by simp
  have ho2 := (Off.of_below hb (fun _ => False)).then ho
  refine ⟨⟨⟨fun k => w.heap.size ≤ k ∧ k < w1.heap.size + 1, I⟩, ⟨fun k h1 h2 => by have := hI k h2; have := h1.1; omega, ?_, hok, fv, lv, v', mb, heap_alloc_new _ _, ⟨⟨by omega, by omega⟩, ⟨hmb, by omega⟩, by omega⟩, hf.off ho2 (fun _ _ e => e) (fun _ _ e => e), hl.off ho2 (fun _ _ e => e), (hs.off ho (fun _ _ e => e) (fun _ _ e => e)).mono (fun k hk => ⟨⟨hk.1, by have := hk.2.1; omega⟩, by have := hk.2.1; omega, hk.2.2⟩) (fun _ h => h), hm.mono (ho.block mb hml (fun e => e)) (fun _ _ h => h.off ho (fun _ _ e => e))⟩, fun k h => h.1, fun _ h => h⟩, (ho2.below (Nat.le_refl _) (fun _ e => e.elim))⟩
  rintro k (h | h)
  · rw [hsz]; exact h.2
  · have := hI k h; rw [hsz]; omega
theorem NewDisk.alloc {w wx : World} {I : Nat → Prop} {D : Dk} {b : Nat} (h : NewDisk w I D b wx) (o : Obj) : NewDisk w I D b (wx.alloc o) := by
  obtain ⟨⟨R', hd, hm, hi⟩, hb⟩ := h
  exact ⟨⟨R', hd.off ((Off.refl (fun _ => False) wx).alloc o) (fun _ _ e => e), hm, hi⟩, hb.alloc hb.size o⟩
set_option maxHeartbeats 2000000 in
theorem fork_any (a : Nat) (D : Dk) (R : Reg) (w : World) (h : DiskAt w a D R) (hw : D.wait = []) :
    Calls Tryz.prog 148 #[.pointer (some ⟨a, 0, none⟩)] w fun e w' => ∃ b, e = .returned (.pointer (some ⟨b, 0, none⟩)) ∧ NewDisk w R.i D b w' := by
  have H := Lib.hid h
  obtain ⟨h1, h2, h3, fv, lv, sv, mb, h4, ⟨h5, h6, h7⟩, h8, h9, h10, h11⟩ := h
  have hcl := fun w' (hb : Below w.heap.size w w') => sclone_any _ R.i D.safe sv w' (h10.off (Off.of_below hb (fun _ => False)) (fun _ _ e => e) (fun _ _ e => e))
  have hIlt : ∀ k, R.i k → k < w.heap.size := fun k hk => h2 k (.inr hk)
  have hal := h2 a (.inl h5)
  have hml := h2 mb (.inl h6)
  have hS : ∀ w', Below w.heap.size w w' → w'.cell? ⟨a, 0, none⟩ = some fv ∧ w'.cell? ⟨a, 1, none⟩ = some lv ∧ w'.cell? ⟨a, 2, none⟩ = some sv ∧ w'.cell? ⟨a, 3, none⟩ = some (.map (some mb)) ∧ Below w.heap.size w w' := fun w' hb =>
    have e := (hb.block a hal).trans h4
    ⟨cell_of_heap e 0, cell_of_heap e 1, cell_of_heap e 2, cell_of_heap e 3, hb⟩
  obtain ⟨i0, i1, i2, i3, _⟩ := hS w (Below.refl _ _)
  obtain ⟨fb, fc, fcs, rfl, _, _, _, _⟩ := id h8
  obtain ⟨Al, cl, rfl, _, _⟩ := id h9
  obtain ⟨sb, sc, scs, rfl, _, _, _, _⟩ := id h10
  have hcl2 : ∀ w' (hb : Below w.heap.size w w'), Calls Tryz.prog 113 #[.slice (some ⟨sb, 0, none⟩) D.safe.length sc] w' fun e w1 => ∃ g gc, e = .returned (.slice (some ⟨g, 0, none⟩) D.safe.length gc) ∧ RowsB w1 (fun k => w'.heap.size ≤ k ∧ k < w1.heap.size) R.i (.slice (some ⟨g, 0, none⟩) D.safe.length gc) D.safe ∧ Below w'.heap.size w' w1 ∧ Below w.heap.size w w1 := fun w' hb => (hcl w' hb).mono (by
    rintro e w1 ⟨v', rfl, hs, hb1⟩
    have hs' := hs
    obtain ⟨g, gc, gcs, rfl, _, _, _, _⟩ := hs'
    exact ⟨g, gc, rfl, hs, hb1, Below.trans hb (hb1.mono hb.size)⟩)
  have HCl := Lib.hid hcl2
  have hS3 := fun w' (hb : Below w.heap.size w w') => (fun h => ⟨h.1, h.2.1, h.2.2.1, hb⟩ : _ → w'.cell? ⟨a, 0, none⟩ = some (.slice (some ⟨fb, 0, none⟩) D.first.length fc) ∧ w'.cell? ⟨a, 1, none⟩ = some (.slice Al D.ops.length cl) ∧ w'.cell? ⟨a, 2, none⟩ = some (.slice (some ⟨sb, 0, none⟩) D.safe.length sc) ∧ Below w.heap.size w w') (hS w' hb)
  have HS3 := Lib.hid hS3
  have HS := Lib.hid hS
  have hmk : ∀ w, (Instr.makeMap 146 none).run Tryz.prog w = .ok (.map (some w.heap.size)) (w.alloc (.map #[] 0)) := fun _ => rfl
  have hA : ∀ w1 g gc, RowsB w1 (fun k => w.heap.size ≤ k ∧ k < w1.heap.size) R.i (.slice (some ⟨g, 0, none⟩) D.safe.length gc) D.safe → Below w.heap.size w w1 → NewDisk w R.i D (w1.heap.size + 1) ((w1.alloc (.map #[] 0)).alloc (.cells #[.slice (some ⟨fb, 0, none⟩) D.first.length fc, .slice Al D.ops.length cl, .slice (some ⟨g, 0, none⟩) D.safe.length gc, .map (some w1.heap.size)] 150)) :=
    fun w1 g gc hs hb => disk_laid h8 h9 hs hw h3 hIlt hb
  have hB : ∀ w1 g gc, RowsB w1 (fun k => (w.alloc (.map #[] 0)).drew.heap.size ≤ k ∧ k < w1.heap.size) R.i (.slice (some ⟨g, 0, none⟩) D.safe.length gc) D.safe → Below (w.alloc (.map #[] 0)).drew.heap.size (w.alloc (.map #[] 0)).drew w1 → Below w.heap.size w w1 → NewDisk w R.i D w1.heap.size (w1.alloc (.cells #[.slice (some ⟨fb, 0, none⟩) D.first.length fc, .slice Al D.ops.length cl, .slice (some ⟨g, 0, none⟩) D.safe.length gc, .map (some w.heap.size)] 150)) := by
    intro w1 g gc hs hb hb2
    have hz : (w.alloc (.map #[] 0)).drew.heap.size = w.heap.size + 1 := World.size_alloc _ _
    rw [hz] at hs
    refine disk_boxed h8 h9 (hs.mono (fun k hk => ⟨by omega, hk.2, by omega⟩) (fun _ h => h)) ?_ (Nat.le_refl _) h3 hIlt hb2
    rw [hw]
    exact (MapB.new w).mono (hb.block _ (by rw [hz]; omega)) (fun _ _ h => h)
  have hml2 : ∃ c, w.heap[mb]? = some (.map #[] c) ∧ Stamped #[] c := by
    obtain ⟨L, ⟨es, c, he, hst, hmap⟩, hL, _⟩ := h11
    rw [hw] at hL
    obtain rfl : L = [] := List.length_eq_zero_iff.1 hL
    have : es = #[] := by
      have h := congrArg List.length hmap
      simp at h
      exact h
    subst this
    exact ⟨c, he, hst⟩
  obtain ⟨c, hmap, hst⟩ := hml2
  have HA := Lib.hid hA
  have HB := Lib.hid hB
  have HSt := Lib.hid hst
  have HMap := Lib.hid hmap
  clear hA hB hst hmap
  have hb0 := Below.refl w.heap.size w
  clear h1 h2 h3 h4 h5 h6 h7 h8 h9 h10 h11 hcl hS hcl2 hS3
  go_enter Tryz.func148, Tryz.ntmps148
  go_wp2_with fail
  go_cut [3] (fun s3 wx => ∃ b, s3 = .pointer (some ⟨b, 0, none⟩) ∧ NewDisk w R.i D b wx)
  · go_region_held3 (fun w' => w'.cell? ⟨a, 0, none⟩ = some (.slice (some ⟨fb, 0, none⟩) D.first.length fc) ∧ w'.cell? ⟨a, 1, none⟩ = some (.slice Al D.ops.length cl) ∧ w'.cell? ⟨a, 2, none⟩ = some (.slice (some ⟨sb, 0, none⟩) D.safe.length sc) ∧ Below w.heap.size w w')
      ((go_split_ands; refine HS3.out _ ?_; with_reducible (repeat' first | assumption | refine Below.drew ?_ | refine Below.alloc ?_ ?_ _ | exact Below.size (by assumption))))
      ((go_at_call 113; go_split_ands; refine (HCl.out _ (by with_reducible (repeat' first | assumption | refine Below.drew ?_ | refine Below.alloc ?_ ?_ _ | exact Below.size (by assumption)))).mono ?_; rintro e w1 ⟨g, gc, rfl, hs, hb, hb2⟩))
    · have HX := Lib.hid (HA.out w1 g gc hs hb2)
      go_wp2
      go_meet
      exact ⟨_, rfl, HX.out⟩
    · have HX := Lib.hid (HB.out w1 g gc hs hb hb2)
      go_wp2
      go_meet
      exact ⟨_, rfl, HX.out⟩
  · obtain ⟨b, rfl, hN⟩ := hcut
    have hbl := hN.2
    have hmc := (hbl.block mb hml).trans HMap.out
    have k3 : wc.cell? ⟨a, 3, none⟩ = _ := (World.cell?_of_block (w := w) (hbl.block a hal)).trans i3
    have hmlc : mb < wc.heap.size := (Array.getElem?_eq_some_iff.1 hmc).1
    have hrange := run_range_map (P := Tryz.prog) wc 146 3 141 mb #[] c Tryz.underlying146 hmc
    have hN2 := hN.alloc (.mapIter (some mb) c #[] c)
    have hstep := iter_step (P := Tryz.prog) (wc.alloc (.mapIter (some mb) c #[] c)) mb wc.heap.size #[] c #[] (heap_alloc_new _ _) (((Below.refl wc.heap.size wc).alloc (Nat.le_refl _) _ |>.block mb hmlc).trans hmc) HSt.out (by omega) 0
    have hnx : (Instr.next (.pointer (some ⟨wc.heap.size, 0, none⟩)) false 0).run Tryz.prog (wc.alloc (.mapIter (some mb) c #[] c)) = .ok (.tuple #[.bool false]) (wc.alloc (.mapIter (some mb) c #[] c)) := by
      rcases hstep with ⟨_, h⟩ | ⟨e, he, _⟩
      · exact h
      · cases he
    have HN := Lib.hid hN2
    clear hstep hN hN2 hbl hmc i0 i1 i2 i3
    go_wp2_with fail
    apply wp_loop_once
    go_wp2
    go_ret
    exact ⟨_, rfl, HN.out⟩
end Go.Proofs.YtakmplpfjcddiaaGreatDoor

namespace Go.Proofs.YtakmplpfjcddiaaGreatDoor
open Go.RowKit Go.Shelf Pa
attribute [local go_sem] bs_toList bs_size
theorem zeros1_any (x : UInt8) (W : World) : FnGives Tryz.prog 301 #[] #[.int .u8 x.toNat] (.bool (x != 0)) W := by
  show Calls Tryz.prog 301 #[.int .u8 x.toNat] W _
  have hx : (((x.toNat : Nat) : Int) != 0) = (x != 0) := by
    rw [Bool.eq_iff_iff]
    simp only [bne_iff_ne, ne_eq]
    constructor
    · intro h e; subst e; exact h rfl
    · intro h e; exact h (UInt8.toNat_inj.1 (by simpa using e))
  go_enter Tryz.func301, Tryz.ntmps301
  go_wp2
  go_ret
  exact ⟨ret_bool rfl, 0, rfl⟩
theorem enters_zeros1 : ∀ args w, (callFunc 301 args).run Tryz.prog w = .ok (.enter 301 args) w := enters_of Tryz.func301 (by kernel_rfl) rfl
theorem containsByte_any (x : Str) (v : Value) (w : World) (h : BytesAt w w.heap.size v x) :
    Calls Tryz.prog 300 #[v, .func (.func 301) #[] #[]] w fun e w' => e = .returned (.bool (x.any (fun b => b != 0))) ∧ ∃ q, w' = w.drewN q := by
  obtain ⟨A, c, rfl, ⟨hc, hl⟩, hf⟩ := h
  cases x with
  | nil =>
    refine (AnyE.slices_ContainsFunc_empty Tryz.containsB A c _ w).mono ?_
    rintro e w' ⟨rfl, rfl⟩
    exact ⟨rfl, 0, rfl⟩
  | cons y t =>
    obtain ⟨b, o, rfl, _, hx⟩ := hf (by simp)
    have hh := AnyE.slices_ContainsFunc (P := Tryz.prog) (ρ := Tryz.containsB_ren) Tryz.containsB (fun b : UInt8 => Value.int .u8 b.toNat) (fun b => b != 0) 301 #[] enters_zeros1 b o (y :: t).length c (y :: t) w (fun W x _ => zeros1_any x W) (Nat.le_refl _) (by omega) (fun j hj => by
      rw [hx j _ (List.getElem?_eq_getElem hj), getElem!_pos _ j hj])
    refine hh.mono ?_
    rintro e w' ⟨rfl, q, rfl⟩
    exact ⟨by rw [List.take_length], q, rfl⟩
set_option maxHeartbeats 400000 in
theorem zeros_any (x : Str) (v : Value) (w : World) (h : BytesAt w w.heap.size v x) :
    Calls Tryz.prog 277 #[v] w fun e w' => e = .returned (.bool (!x.any (fun b => b != 0))) ∧ ∃ q, w' = w.drewN q := by
  have hc := containsByte_any x v w h
  obtain ⟨A, c, rfl, _, _⟩ := h
  have HC := Lib.hid hc
  clear hc
  go_enter Tryz.func277, Tryz.ntmps277
  go_wp2_with fail
  refine HC.out.mono ?_
  rintro e w' ⟨rfl, q, rfl⟩
  go_wp2
  go_ret
  exact ⟨rfl, q, rfl⟩
set_option maxHeartbeats 1000000 in
theorem head_zero (l a : Nat) (sz came : Int) (D : Dk) (RD : Reg) (w : World) (hl : w.heap[l]? = some (.cells #[.pointer (some ⟨a, 0, none⟩), .int .i64 sz, .int .i64 came] 217 (0, 0))) (hd : DiskAt w a D RD) (h0 : (D.rd 0).any (fun b => b != 0) = false) :
    Calls Tryz.prog 233 #[.pointer (some ⟨l, 0, none⟩)] w fun e w' => e = .returned (.tuple #[.slice none 0 0, .bool true]) ∧ Below w.heap.size w w' := by
  have c0 : w.cell? ⟨l, 0, none⟩ = some (.pointer (some ⟨a, 0, none⟩)) := cell_of_heap hl 0
  have hr := dread_any 0 a D RD w hd (by have := hd.ok.few; omega)
  have hlen : (D.rd 0).length = 512 := hd.ok.rd (by have := hd.ok.few; omega)
  have HR := Lib.hid hr
  have HL := Lib.hid hlen
  have H0 := Lib.hid h0
  clear hr hd hl hlen h0
  go_enter Tryz.func233, Tryz.ntmps233
  go_wp2_with fail
  refine HR.out.mono ?_
  rintro e w1 ⟨v, rfl, ho, hb⟩
  have hz := zeros_any _ v w1 (ho.bytes (by rw [HL.out]; omega)).at
  rw [H0.out] at hz
  obtain ⟨A, c, rfl⟩ := ownsRow_slice ho
  have HZ := Lib.hid hz
  have HB := Lib.hid hb
  clear hz hb ho
  go_wp2_with fail
  refine HZ.out.mono ?_
  rintro e w2 ⟨rfl, q, hw⟩
  have hb2 : Below w.heap.size w w2 := by rw [hw]; exact below_drewN HB.out q
  have HB2 := Lib.hid hb2
  clear hb2 hw
  go_wp2_with fail
  go_ret2
  exact ⟨rfl, HB2.out⟩
/-- What Open leaves. -/
def NewLog (w : World) (I : Nat → Prop) (G : Lg) (l : Nat) (w' : World) : Prop :=
  (∃ R', LogAt w' l G R' ∧ ∀ k, R'.has k → I k ∨ w.heap.size ≤ k) ∧ Below w.heap.size w w'
theorem log_laid {w w1 : World} {I : Nat → Prop} {D : Dk} {a : Nat} {sz : Nat} (h : NewDisk w I D a w1) (hs : 1 ≤ sz ∧ sz + 2 ≤ D.first.length) :
    ∃ RD, DiskAt (w1.alloc (.cells #[.pointer (some ⟨a, 0, none⟩), .int .i64 sz, .int .i64 0] 217)) a D RD ∧ (∀ w2, Below (w1.heap.size + 1) (w1.alloc (.cells #[.pointer (some ⟨a, 0, none⟩), .int .i64 sz, .int .i64 0] 217)) w2 → NewLog w I ⟨D, sz⟩ w1.heap.size (w2.setCell ⟨w1.heap.size, 2, none⟩ (.int .i64 0))) := by
  obtain ⟨⟨RD, hd, hm, hi⟩, hb⟩ := h
  refine ⟨RD, hd.off ((Off.refl (fun _ => False) w1).alloc _) (fun _ _ e => e), fun w2 hb2 => ?_⟩
  have hz1 : (w1.alloc (.cells #[.pointer (some ⟨a, 0, none⟩), .int .i64 sz, .int .i64 0] 217)).heap.size = w1.heap.size + 1 := by simp
  have hcell : w2.heap[w1.heap.size]? = some (.cells #[.pointer (some ⟨a, 0, none⟩), .int .i64 sz, .int .i64 0] 217 (0, 0)) := (hb2.block _ (by omega)).trans (heap_alloc_new _ _)
  have ho : Off (fun k => k = w1.heap.size) w1 (w2.setCell ⟨w1.heap.size, 2, none⟩ (.int .i64 0)) :=
    Off.setCell (p := ⟨w1.heap.size, 2, none⟩) (((Off.refl (fun k => k = w1.heap.size) w1).alloc _).step (by rw [hz1]; exact hb2)) (.inl rfl) _
  have hz2 : w1.heap.size + 1 ≤ (w2.setCell ⟨w1.heap.size, 2, none⟩ (.int .i64 0)).heap.size := by
    have := hb2.size
    simp [World.setCell]; omega
  have hs1 := hb.size
  refine ⟨⟨⟨RD.m, fun k => RD.i k ∨ k = w1.heap.size⟩, ⟨fun k h1 h2 => ?_, fun k hk => ?_, ⟨hs⟩, .inr rfl, a, 0, RD, ?_, hd.off ho (fun k hk e => by have := hd.lt k hk; omega), fun _ h => h, fun _ h => .inl h⟩, fun k hk => ?_⟩, ?_⟩
  · rcases h2 with h2 | h2
    · exact hd.apart k h1 h2
    · have := hd.lt k (.inl h1); omega
  · have : RD.has k ∨ k = w1.heap.size := by
      rcases hk with hk | hk | hk
      · exact .inl (.inl hk)
      · exact .inl (.inr hk)
      · exact .inr hk
    rcases this with hk | hk
    · have := hd.lt k hk; omega
    · omega
  · have := heap_setCell_at w2 w1.heap.size 2 (.int .i64 0) hcell
    simpa using this
  · rcases hk with hk | hk | hk
    · exact .inr (hm k hk)
    · exact .inl (hi k hk)
    · right; omega
  · exact ((Off.of_below hb (fun k => k = w1.heap.size)).then ho).below (Nat.le_refl _) (fun k e => by omega)
set_option maxHeartbeats 1000000 in
theorem open_zero (sz a : Nat) (D : Dk) (R : Reg) (w : World) (h : DiskAt w a D R) (hw : D.wait = []) (h0 : (D.rd 0).any (fun b => b != 0) = false) (hs : 1 ≤ sz ∧ sz + 2 ≤ D.first.length) :
    Calls Tryz.prog 166 #[.pointer (some ⟨a, 0, none⟩), .int .i64 sz] w fun e w' => ∃ l, e = .returned (.tuple #[.pointer (some ⟨l, 0, none⟩), .int .i64 0]) ∧ NewLog w R.i ⟨D, sz⟩ l w' := by
  have hsec := sectors_any a D R w h
  have hfk := fork_any a D R w h hw
  have hn := h.ok.few
  have hn1 : decide ((sz : Int) < 1) = false := by simp; omega
  have hn2 : decide ((D.first.length : Int) - 2 < (sz : Int)) = false := by simp; omega
  have HS := Lib.hid hsec
  have HF := Lib.hid hfk
  have H0 := Lib.hid h0
  have HSz := Lib.hid hs
  clear hsec hfk h hw h0 hs
  go_enter Tryz.func166, Tryz.ntmps166
  go_wp2_with fail
  refine HS.out.mono ?_
  rintro e w' ⟨rfl, rfl⟩
  go_wp2_with fail
  refine HF.out.mono ?_
  rintro e w1 ⟨b, rfl, hN⟩
  obtain ⟨RD, hd, hfin⟩ := log_laid hN HSz.out
  have hhd := head_zero w1.heap.size b sz 0 D RD _ (heap_alloc_new _ _) hd H0.out
  have HH := Lib.hid hhd
  have HFin := Lib.hid hfin
  clear hhd hfin hd hN
  go_wp2_with fail
  refine HH.out.mono ?_
  rintro e w2 ⟨rfl, hb2⟩
  rw [World.size_alloc] at hb2
  have hc2 : w2.heap[w1.heap.size]? = _ := (hb2.block _ (Nat.lt_succ_self _)).trans (heap_alloc_new _ _)
  have k2 := cell_of_heap hc2 2
  have kf := free_of_heap hc2 2
  have HL := Lib.hid (HFin.out w2 hb2)
  clear hb2 hc2
  go_wp2
  go_ret2
  exact ⟨_, rfl, HL.out⟩
end Go.Proofs.YtakmplpfjcddiaaGreatDoor

namespace Go.Proofs.YtakmplpfjcddiaaGreatDoor
open Go.RowKit Go.Shelf Pa
attribute [local go_sem] bs_toList bs_size
/-- A slice of numbers that lies in blocks of a set. -/
def NatsI (w : World) (I : Nat → Prop) (v : Value) (l : List Nat) : Prop :=
  ∃ A c, v = .slice A l.length c ∧ l.length ≤ c ∧ (l ≠ [] → ∃ b o, A = some ⟨b, o, none⟩ ∧ (b < w.heap.size ∧ I b) ∧ ∀ (i x : Nat), l[i]? = some x → w.cell? ⟨b, o + i, none⟩ = some (.int .i64 x))
theorem NatsI.off {w w' : World} {I M : Nat → Prop} {v : Value} {l : List Nat} (h : NatsI w I v l) (ho : Off M w w') (hd : ∀ k, I k → ¬ M k) : NatsI w' I v l := by
  obtain ⟨A, c, e, hc, h⟩ := h
  refine ⟨A, c, e, hc, fun hn => ?_⟩
  obtain ⟨b, o, e, hB, h⟩ := h hn
  exact ⟨b, o, e, ⟨Nat.lt_of_lt_of_le hB.1 ho.size, hB.2⟩, fun i x hx => (ho.cell (p := ⟨b, o + i, none⟩) hB.1 (hd _ hB.2)).trans (h i x hx)⟩
theorem NatsI.nil (w : World) (I : Nat → Prop) : NatsI w I (.slice none 0 0) [] := ⟨none, 0, rfl, Nat.le_refl _, fun h => absurd rfl h⟩
/-- A number in two bytes; a head; what of it is there at the k-th number. -/
def two8 (n : Nat) : Str := [UInt8.ofNat (n / 256), UInt8.ofNat n]
def pad (l : Str) : Str := l ++ List.replicate (512 - l.length) 0
def headP (ns : List Nat) (k : Nat) : Str := [68, 78] ++ two8 ns.length ++ (ns.take k).flatMap two8
def headS (ns : List Nat) : Str := pad (headP ns ns.length)
theorem headP_length (ns : List Nat) (k : Nat) (hk : k ≤ ns.length) : (headP ns k).length = 4 + 2 * k := by
  have h : ∀ l : List Nat, (l.flatMap two8).length = 2 * l.length := by
    intro l
    induction l with
    | nil => rfl
    | cons a l ih => rw [List.flatMap_cons, List.length_append, ih]; simp [two8]; omega
  unfold headP
  rw [List.length_append, List.length_append, h, List.length_take]
  simp [two8]; omega
theorem headP_succ {ns : List Nat} {k n : Nat} (h : ns[k]? = some n) : headP ns (k + 1) = headP ns k ++ two8 n := by
  obtain ⟨hk, e⟩ := List.getElem?_eq_some_iff.1 h
  unfold headP
  rw [List.take_succ_eq_append_getElem hk, e, List.flatMap_append, ← List.append_assoc]
  simp
theorem pad_length {l : Str} (h : l.length ≤ 512) : (pad l).length = 512 := by unfold pad; simp; omega
/-- Block hb has these bytes at its head, and zeros behind them. -/
def HeadB (w : World) (hb : Nat) (l : Str) : Prop := ∃ cs, w.heap[hb]? = some (.cells cs 5 (0, 0)) ∧ cs.toList = (pad l).map (fun x => Value.int .u8 (UInt8.toNat x))
theorem HeadB.append {w : World} {hb : Nat} {l m : Str} {ad : Addr} {c : Nat} (h : HeadB w hb l) (hl : l.length + m.length ≤ 512) (hn : ∀ j u, (m.map (fun x => Value.int .u8 (UInt8.toNat x)))[j]? = some u → w.cell? (ad.add j) = some u) (ty : TypeId) :
    ∃ w', (Builtin.append_ #[37, 37] ty #[.slice (some ⟨hb, 0, none⟩) l.length 512, .slice (some ad) m.length c]).run Tryz.prog w = .ok (.slice (some ⟨hb, 0, none⟩) (l.length + m.length) 512) w' ∧ HeadB w' hb (l ++ m) ∧ Off (fun k => k = hb) w w' := by
  obtain ⟨i0, hi0, hz0, hz1, hz2⟩ := info_parts info_u8
  obtain ⟨cs, hg, hcs⟩ := h
  have hsz : cs.size = 512 := by rw [← Array.length_toList, hcs, List.length_map, pad_length (by omega)]
  have hr := run_append_room (P := Tryz.prog) w 37 ty 5 i0 Tryz.underlying37 hi0 hb l.length 512 cs hg ad m.length c (m.map (fun x => Value.int .u8 (UInt8.toNat x))) (by rw [hz1]; simp) hn (by
    intro u hu
    obtain ⟨x, _, rfl⟩ := List.mem_map.1 hu
    rfl) (by omega) (by rw [hz1]; simp; omega)
  refine ⟨_, hr, ⟨_, setRow_heap w hb cs _ _ _ hg, ?_⟩, ⟨rfl, rfl, rfl, by simp [World.setRow], fun k _ hk => setRow_other w hb k _ hk⟩⟩
  rw [hz1, hcs, Nat.mul_one, List.length_map]
  have e1 : ((pad l).map (fun x => Value.int .u8 (UInt8.toNat x))).take l.length = l.map (fun x => Value.int .u8 (UInt8.toNat x)) := by
    rw [← List.map_take]; unfold pad; rw [List.take_left]
  have e2 : ((pad l).map (fun x => Value.int .u8 (UInt8.toNat x))).drop (l.length + m.length) = (List.replicate (512 - (l ++ m).length) 0).map (fun x => Value.int .u8 (UInt8.toNat x)) := by
    rw [← List.map_drop]; unfold pad
    rw [← List.drop_drop, List.drop_left, List.drop_replicate, List.length_append, Nat.sub_sub]
  show _ ++ _ ++ _ = _
  rw [e1, e2, ← List.map_append, ← List.map_append]
  unfold pad
  rfl
theorem HeadB.bytes {w : World} {hb : Nat} {l : Str} (h : HeadB w hb l) (hl : l.length ≤ 512) : BytesAt w w.heap.size (.slice (some ⟨hb, 0, none⟩) 512 512) (pad l) := by
  obtain ⟨cs, hg, hcs⟩ := h
  refine ⟨_, 512, by rw [pad_length hl], ⟨by rw [pad_length hl]; exact Nat.le_refl _, by rw [pad_length hl]; omega⟩, fun _ => ⟨hb, 0, rfl, (Array.getElem?_eq_some_iff.1 hg).1, fun i x hx => ?_⟩⟩
  rw [Nat.zero_add, cell_of_heap hg, ← Array.getElem?_toList, hcs, List.getElem?_map, hx]
  rfl
theorem wpList_append_head {ops : Array Oper} {rest : List Oper} {o : Oper} {a : Act} {Q : Exit → Act → World → Prop} {w : World}
    (hg : o.guard = none) (s x : Operand) (hop : o.op = Op.call { callee := Callee.builtin Builtin.append, args := #[s, x], argTypes := #[37, 37] })
    (hb n m c : Nat) (l d : Str) (ad : Addr) (hs : a.eval s = .slice (some ⟨hb, 0, none⟩) n 512) (hx : a.eval x = .slice (some ad) m c) (hl : l.length = n) (hd : d.length = m) (hH : HeadB w hb l) (hfit : n + m ≤ 512)
    (hc : ∀ j u, (d.map (fun x => Value.int .u8 (UInt8.toNat x)))[j]? = some u → w.cell? (ad.add j) = some u)
    (hK : ∀ w', HeadB w' hb (l ++ d) → Off (fun k => k = hb) w w' → wpList Tryz.prog ops Q rest (a.put o.dst (.slice (some ⟨hb, 0, none⟩) (n + m) 512)) w') :
    wpList Tryz.prog ops Q (o :: rest) a w := by
  subst hl hd
  refine wpList_plain hg fun K hK' => ?_
  obtain ⟨w', hrun, r1, r2⟩ := hH.append (c := c) hfit hc o.type
  unfold Oper.wp
  simp [execOp, hop, resolve, invoke, builtin, hs, hx, hrun, Result.andThen]
  exact hK' _ _ (hK w' r1 r2)
theorem head_start (w : World) (n : Nat) (hn : n ≤ 100) : HeadB (w.alloc (.cells (((((madeCells #[.int .u8 0] 512).setIfInBounds 0 (.int .u8 68)).setIfInBounds 1 (.int .u8 78)).setIfInBounds 2 (.int .u8 ((n : Int) / 256))).setIfInBounds 3 (.int .u8 n)) 5)) w.heap.size ([68, 78] ++ two8 n) := by
  refine ⟨_, heap_alloc_new w _, ?_⟩
  have e : (madeCells #[Value.int .u8 0] 512).toList = List.replicate (508 + 4) (Value.int .u8 0) := by
    rw [List.eq_replicate_iff]
    refine ⟨by simp [madeCells], fun b hb => ?_⟩
    simp [madeCells] at hb
    obtain ⟨_, _, rfl⟩ := hb
    rw [Nat.mod_one]; rfl
  simp only [Array.toList_setIfInBounds, e]
  have h1 : ((n : Int) / 256) = ((UInt8.ofNat (n / 256)).toNat : Int) := by
    rw [UInt8.toNat_ofNat']; omega
  have h2 : (n : Int) = ((UInt8.ofNat n).toNat : Int) := by
    rw [UInt8.toNat_ofNat']; omega
  rw [h1]
  conv => lhs; rw [h2]
  have e3 : List.replicate (508 + 4) (Value.int .u8 0) = Value.int .u8 0 :: Value.int .u8 0 :: Value.int .u8 0 :: Value.int .u8 0 :: List.replicate 508 (Value.int .u8 0) := by
    generalize 508 = m
    rfl
  rw [e3]
  have e4 : pad ([68, 78] ++ two8 n) = 68 :: 78 :: UInt8.ofNat (n / 256) :: UInt8.ofNat n :: List.replicate 508 0 := by
    unfold pad
    have e5 : 512 - ([68, 78] ++ two8 n).length = 508 := rfl
    rw [e5]
    generalize 508 = m
    rfl
  rw [e4]
  simp only [List.map_cons, List.map_replicate, List.set_cons_zero, List.set_cons_succ]
  rfl
/-- What an act on a log leaves. -/
def LogPost (w : World) (l : Nat) (G : Lg) (R : Reg) (e0 : Ending) (e : Ending) (w' : World) : Prop :=
  e = e0 ∧ (∃ R', LogAt w' l G R' ∧ R.To R' w.heap.size) ∧ Off R.m w w'
theorem LogAt.acted {w w' : World} {l a : Nat} {G : Lg} {R RD RD' : Reg} {came : Int} {D' : Dk} (h : LogAt w l G R) (hc : w.heap[l]? = some (.cells #[.pointer (some ⟨a, 0, none⟩), .int .i64 G.size, .int .i64 came] 217 (0, 0))) (hm : ∀ k, RD.m k → R.m k) (hi : ∀ k, RD.i k → R.i k)
    (hd : DiskAt w' a D' RD') (ht : RD.To RD' w.heap.size) (ho : Off RD.m w w') (hl : D'.first.length = G.D.first.length) :
    (∃ R', LogAt w' l ⟨D', G.size⟩ R' ∧ R.To R' w.heap.size) ∧ Off R.m w w' := by
  have hll := h.lt l (.inr h.li)
  have hlm : ¬ RD.m l := fun e => h.apart l (hm l e) h.li
  refine ⟨⟨⟨RD'.m, fun k => RD'.i k ∨ k = l⟩, ⟨fun k h1 h2 => ?_, fun k hk => ?_, ⟨by have := h.ok.size; show 1 ≤ G.size ∧ G.size + 2 ≤ D'.first.length; rw [hl]; exact this⟩, .inr rfl, a, _, RD', (ho.block l hll hlm).trans hc, hd, fun _ h => h, fun _ h => .inl h⟩, ⟨fun k hk => ?_, fun k hk => ?_⟩⟩, ho.mono fun k e => .inl (hm k e)⟩
  · rcases h2 with h2 | rfl
    · exact hd.apart k h1 h2
    · rcases ht.m k h1 with e | e
      · exact hlm e
      · omega
  · rcases hk with hk | hk | rfl
    · exact hd.lt k (.inl hk)
    · exact hd.lt k (.inr hk)
    · exact Nat.lt_of_lt_of_le hll ho.size
  · rcases ht.m k hk with e | e
    · exact .inl (hm k e)
    · exact .inr e
  · rcases hk with hk | rfl
    · rcases ht.i k hk with e | e
      · exact .inl (hi k e)
      · exact .inr e
    · exact .inl h.li
end Go.Proofs.YtakmplpfjcddiaaGreatDoor

namespace Go.Proofs.YtakmplpfjcddiaaGreatDoor
open Go.RowKit Go.Shelf Pa
attribute [local go_sem] bs_toList bs_size
set_option maxHeartbeats 2000000 in
theorem setHead_any (l : Nat) (G : Lg) (R : Reg) (ns : List Nat) (v : Value) (w : World) (h : LogAt w l G R) (hv : NatsI w (fun _ => True) v ns) (hns : ns.length ≤ 100) (hn : ∀ n ∈ ns, n < 65536) (hw : phas G.D.wait 0 = false) (hops : G.D.ops.length + 2 < 1000000000) :
    Calls Tryz.prog 215 #[.pointer (some ⟨l, 0, none⟩), v] w (LogPost w l ⟨(G.D.wr 0 (headS ns)).fl, G.size⟩ R (.returned (.tuple #[]))) := by
  have H := Lib.hid h
  obtain ⟨_, _, _, hli, a, came, RD, hcells, hd, hm, hi⟩ := h
  have hll := H.out.lt l (.inr hli)
  have hlm : ¬ RD.m l := fun e => H.out.apart l (hm l e) hli
  obtain ⟨i0, hi0, hz0, hz1, hz2⟩ := info_parts info_u8
  have hms : ∀ w1, (Instr.makeSlice 37 (.int .i64 4) (.int .i64 512)).run Tryz.prog w1 = .ok (.slice (some ⟨w1.heap.size, 0, none⟩) 4 512) (w1.alloc (.cells (madeCells #[.int .u8 0] 512) 5)) := by
    intro w1
    have := run_make (P := Tryz.prog) w1 37 5 i0 (.int .u8 0) Tryz.underlying37 hi0 hz0 .i64 .i64 4 512 (by omega) (by omega) (by rw [hz2]; decide) (by omega)
    rw [hz1] at this
    exact this
  have hst := head_start w ns.length hns
  generalize hZ : madeCells #[.int .u8 0] 512 = Z at hms hst
  have hZs : Z.size = 512 := by rw [← hZ]; exact size_madeCells _ _
  have z0 : Z[0]? = some (.int .u8 0) := by rw [← hZ]; simp [madeCells]
  have z1 : Z[1]? = some (.int .u8 0) := by rw [← hZ]; simp [madeCells]
  have z2 : Z[2]? = some (.int .u8 0) := by rw [← hZ]; simp [madeCells]
  have z3 : Z[3]? = some (.int .u8 0) := by rw [← hZ]; simp [madeCells]
  have hst2 : ∀ o, HeadB (w.alloc o) w.heap.size ([68, 78] ++ two8 ns.length) → HeadB (w.alloc o) w.heap.size (headP ns 0) := fun o h => by
    have : headP ns 0 = [68, 78] ++ two8 ns.length := by unfold headP; simp
    rw [this]; exact h
  obtain ⟨A, c, rfl, hc, hf⟩ := hv
  -- behind the loop: Write, Flush
  have hwr : ∀ wx, Below w.heap.size w wx → HeadB wx w.heap.size (headP ns ns.length) → ∀ q, Calls Tryz.prog 213 #[.pointer (some ⟨a, 0, none⟩), .int .i64 0, .slice (some ⟨w.heap.size, 0, none⟩) 512 512] (wx.drewN q) fun e w' => ∃ R1, e = .returned (.int .i64 0) ∧ DiskAt w' a (G.D.wr 0 (headS ns)) R1 ∧ RD.To R1 w.heap.size ∧ Off RD.m w w' := by
    intro wx hb hH q
    have hlen := headP_length ns ns.length (Nat.le_refl _)
    have hbq : Below w.heap.size w (wx.drewN q) := below_drewN hb q
    have hHq : HeadB (wx.drewN q) w.heap.size (headP ns ns.length) := hH
    refine (dwrite_any 0 a G.D RD _ (headS ns) (wx.drewN q) (hd.off (Off.of_below hbq (fun _ => False)) (fun _ _ e => e)) (hHq.bytes (by omega)) (by have := hd.ok.few; omega) (pad_length (by omega)) hw (by omega)).mono ?_
    rintro e w' ⟨rfl, ⟨R1, h1, h2⟩, h3⟩
    have hsz := hbq.size
    exact ⟨R1, rfl, h1, ⟨fun k hk => by rcases h2.m k hk with e | e; exact .inl e; right; omega, fun k hk => by rcases h2.i k hk with e | e; exact .inl e; right; omega⟩, (Off.of_below hbq RD.m).then h3⟩
  have hfl : ∀ w2 R1, DiskAt w2 a (G.D.wr 0 (headS ns)) R1 → RD.To R1 w.heap.size → Off RD.m w w2 → Calls Tryz.prog 214 #[.pointer (some ⟨a, 0, none⟩)] w2 fun e w' => e = .returned (.int .i64 0) ∧ LogPost w l ⟨(G.D.wr 0 (headS ns)).fl, G.size⟩ R (.returned (.tuple #[])) (.returned (.tuple #[])) w' := by
    intro w2 R1 h1 h2 h3
    refine (dflush_any a _ R1 w2 h1 (by simp [Dk.wr]; omega)).mono ?_
    rintro e w' ⟨rfl, ⟨R2, h4, h5⟩, h6⟩
    exact ⟨rfl, rfl, H.out.acted hcells hm hi h4 (h2.trans h5 h3.size) (h3.trans h6 h2.m) rfl⟩
  have HF := Lib.hid hf
  have HN := Lib.hid hn
  have HWr := Lib.hid hwr
  have HFl := Lib.hid hfl
  have HS := Lib.hid hst
  have HS2 := Lib.hid hst2
  have hcl : ∀ w', Off RD.m w w' → w'.cell? ⟨l, 0, none⟩ = some (.pointer (some ⟨a, 0, none⟩)) := fun w' ho => (ho.cell (p := ⟨l, 0, none⟩) hll hlm).trans (cell_of_heap hcells 0)
  have HCl := Lib.hid hcl
  clear hZ hZs hf hi0 hz0 hz1 hz2 hst hst2 hn hd hm hi hcells hw hwr hfl hcl
  go_enter Tryz.func215, Tryz.ntmps215
  go_wp2_with fail
  go_loopg [4, 25] ns.length (fun g s4 i wx => ∃ k : Nat, i = .int .i64 k ∧ g = ns.length - k ∧ k ≤ ns.length ∧ s4 = .slice (some ⟨w.heap.size, 0, none⟩) (4 + 2 * k) 512 ∧ HeadB wx w.heap.size (headP ns k) ∧ Below w.heap.size w wx)
  case atStart => exact ⟨0, rfl, rfl, Nat.zero_le _, rfl, HS2.out _ HS.out, (Below.refl _ _).alloc (Nat.le_refl _) _⟩
  case round =>
    obtain ⟨k, rfl, rfl, hk, rfl, hH, hb⟩ := hrel
    have HH := Lib.hid hH
    have HB := Lib.hid hb
    clear hH hb
    by_cases hlt : k < ns.length
    · have hltI : decide ((k : Int) < (ns.length : Int)) = true := by simp; omega
      obtain ⟨b, o, rfl, ⟨hbl, _⟩, hx⟩ := HF.out (by rintro rfl; simp at hlt)
      obtain ⟨n, hnk⟩ : ∃ n, ns[k]? = some n := ⟨_, List.getElem?_eq_getElem hlt⟩
      have hcell := (HB.out.cell (p := ⟨b, o + k, none⟩) hbl).trans (hx k n hnk)
      have hnlt := HN.out n (List.mem_of_getElem? hnk)
      have hHa : ∀ o, HeadB (wr.alloc o) w.heap.size (headP ns k) := fun o => by
        obtain ⟨cs, h1, h2⟩ := HH.out
        exact ⟨cs, (((Below.refl wr.heap.size wr).alloc (Nat.le_refl _) o).block _ (Array.getElem?_eq_some_iff.1 h1).1).trans h1, h2⟩
      have hca : ∀ j u, ((two8 n).map (fun x => Value.int .u8 (UInt8.toNat x)))[j]? = some u → (wr.alloc (.cells #[.int .u8 ((n : Int) / 256), .int .u8 ((n : Int) % 256)] 5)).cell? ((⟨wr.heap.size, 0, none⟩ : Addr).add j) = some u := by
        have e : (two8 n).map (fun x => Value.int .u8 (UInt8.toNat x)) = [.int .u8 ((n : Int) / 256), .int .u8 ((n : Int) % 256)] := by
          have h1 : ((n : Int) / 256) = ((UInt8.ofNat (n / 256)).toNat : Int) := by rw [UInt8.toNat_ofNat']; omega
          have h2 : ((n : Int) % 256) = ((UInt8.ofNat n).toNat : Int) := by rw [UInt8.toNat_ofNat']; omega
          rw [h1, h2]; rfl
        rw [e]
        exact World.news_of_block (cs := #[.int .u8 ((n : Int) / 256), .int .u8 ((n : Int) % 256)]) (t := 5) (heap_alloc_new wr _)
      have hnxt : ∀ w', HeadB w' w.heap.size (headP ns k ++ two8 n) → Off (fun j => j = w.heap.size) (wr.alloc (.cells #[.int .u8 ((n : Int) / 256), .int .u8 ((n : Int) % 256)] 5)) w' → HeadB w' w.heap.size (headP ns (k + 1)) ∧ Below w.heap.size w w' := fun w' h1 h2 => by
        refine ⟨by rw [headP_succ hnk]; exact h1, ?_⟩
        have h3 : Off (fun j => j = w.heap.size) w w' := ((Off.of_below HB.out _).alloc _).then h2
        exact h3.below (Nat.le_refl _) (fun j e => by omega)
      have hpl := headP_length ns k hk
      have HHa := Lib.hid hHa
      have HCa := Lib.hid hca
      have HNx := Lib.hid hnxt
      have HPl := Lib.hid hpl
      clear hnk hx hHa hca hnxt hpl
      go_wp2_with (at_builtin; refine wpList_append_head rfl (.tmp 29) (.tmp 35) rfl w.heap.size (4 + 2 * k) 2 2 (headP ns k) (two8 n) ⟨wr.heap.size, 0, none⟩ (by rfl) (by rfl) HPl.out (by rfl) (HHa.out _) (by omega) HCa.out ?_; intro w' hh ho)
      have HX := Lib.hid (HNx.out w' hh ho)
      clear hh ho
      go_wp2
      go_roundg (ns.length - (k + 1))
      case measure => omega
      case rel => exact ⟨k + 1, by go_num, rfl, hlt, rfl, HX.out⟩
    · have hltI : decide ((k : Int) < (ns.length : Int)) = false := by simp; omega
      obtain rfl : k = ns.length := by omega
      have hq := HWr.out wr HB.out HH.out
      have HQ := Lib.hid hq
      have k0 := HCl.out wr (Off.of_below HB.out _)
      clear hq
      go_wp2_with fail
      go_region_with (go_at_call 213; refine (HQ.out 1).mono ?_; rintro e w2 ⟨R1, rfl, h1, h2, h3⟩)
      have k1 := HCl.out w2 h3
      have hflx := HFl.out w2 R1 h1 h2 h3
      have HFx := Lib.hid hflx
      clear hflx h1 h2 h3 k0
      go_wp2_with fail
      refine HFx.out.mono ?_
      rintro e w3 ⟨rfl, hp⟩
      have HP := Lib.hid hp
      clear hp
      go_wp2_with fail
      go_end0
      exact HP.out
end Go.Proofs.YtakmplpfjcddiaaGreatDoor

namespace Go.Proofs.YtakmplpfjcddiaaGreatDoor
open Go.RowKit Go.Shelf Pa
attribute [local go_sem] bs_toList bs_size
/-- The disk when k pages of the group were brought home. -/
def homeD (D : Dk) (sz : Nat) (ns : List Nat) : Nat → Dk
  | 0 => D
  | k + 1 => (homeD D sz ns k).wr (sz + 1 + ns.getD k 0) (D.rd (1 + k))
theorem homeD_first (D : Dk) (sz : Nat) (ns : List Nat) (k : Nat) : (homeD D sz ns k).first = D.first := by
  induction k with
  | zero => rfl
  | succ k ih => exact ih
theorem homeD_ops (D : Dk) (sz : Nat) (ns : List Nat) (k : Nat) : (homeD D sz ns k).ops.length = D.ops.length + k := by
  induction k with
  | zero => rfl
  | succ k ih => show ((homeD D sz ns k).ops ++ [_]).length = _; rw [List.length_append, ih]; rfl
theorem homeD_safe (D : Dk) (sz : Nat) (ns : List Nat) (k : Nat) : (homeD D sz ns k).safe = D.safe := by
  induction k with
  | zero => rfl
  | succ k ih => exact ih
theorem phas_pset (l : List (Nat × Str)) (n m : Nat) (x : Str) : phas (pset l n x) m = (decide (m = n) || phas l m) := by
  rw [Bool.eq_iff_iff]
  simp only [Bool.or_eq_true, decide_eq_true_eq]
  rw [phas_iff, pset_keys]
  by_cases h : phas l n = true
  · rw [if_pos h]
    constructor
    · intro h2; exact .inr (phas_iff.2 h2)
    · rintro (rfl | h2)
      · exact phas_iff.1 h
      · exact phas_iff.1 h2
  · rw [if_neg h, List.mem_append]
    constructor
    · rintro (h2 | h2)
      · exact .inr (phas_iff.2 h2)
      · exact .inl (by simpa using h2)
    · rintro (rfl | h2)
      · exact .inr (by simp)
      · exact .inl (phas_iff.1 h2)
theorem homeD_has {D : Dk} {sz : Nat} {ns : List Nat} {k m : Nat} (h : phas (homeD D sz ns k).wait m = true) : phas D.wait m = true ∨ ∃ j, j < k ∧ m = sz + 1 + ns.getD j 0 := by
  induction k with
  | zero => exact .inl h
  | succ k ih =>
    have h' : phas (pset (homeD D sz ns k).wait (sz + 1 + ns.getD k 0) (D.rd (1 + k))) m = true := h
    rw [phas_pset, Bool.or_eq_true, decide_eq_true_eq] at h'
    rcases h' with h' | h'
    · exact .inr ⟨k, Nat.lt_succ_self k, h'⟩
    · rcases ih h' with h' | ⟨j, hj, e⟩
      · exact .inl h'
      · exact .inr ⟨j, by omega, e⟩
theorem homeD_rd {D : Dk} {sz : Nat} {ns : List Nat} {k m : Nat} (hm : m ≤ sz) : (homeD D sz ns k).rd m = D.rd m := by
  induction k with
  | zero => rfl
  | succ k ih =>
    rw [← ih]
    unfold Dk.rd
    show (match pget (pset (homeD D sz ns k).wait (sz + 1 + ns.getD k 0) (D.rd (1 + k))) m with | some b => b | none => (homeD D sz ns k).safe.getD m []) = _
    rw [pget_pset, if_neg (by omega)]
    rfl
set_option maxHeartbeats 2000000 in
theorem home_any (l : Nat) (G : Lg) (R : Reg) (ns : List Nat) (v : Value) (w : World) (h : LogAt w l G R) (hv : NatsI w (fun k => ¬ R.m k) v ns) (hns : ns.length ≤ G.cap) (hn : ∀ n ∈ ns, n < G.pages) (hnd : ns.Nodup) (hw : G.D.wait = []) (hops : G.D.ops.length + 200 < 1000000000) :
    Calls Tryz.prog 216 #[.pointer (some ⟨l, 0, none⟩), v] w (LogPost w l ⟨((homeD G.D G.size ns ns.length).fl.wr 0 (headS [])).fl, G.size⟩ R (.returned (.tuple #[]))) := by
  have H := Lib.hid h
  obtain ⟨_, _, hok, hli, a, came, RD, hcells, hd, hm, hi⟩ := h
  have hll := H.out.lt l (.inr hli)
  have hlm : ¬ RD.m l := fun e => H.out.apart l (hm l e) hli
  have hcap : ns.length ≤ G.size ∧ ns.length ≤ 100 := by unfold Lg.cap at hns; omega
  have hfew := hd.ok.few
  have hcl : ∀ w', Off RD.m w w' → w'.cell? ⟨l, 0, none⟩ = some (.pointer (some ⟨a, 0, none⟩)) ∧ w'.cell? ⟨l, 1, none⟩ = some (.int .i64 G.size) := fun w' ho =>
    ⟨(ho.cell (p := ⟨l, 0, none⟩) hll hlm).trans (cell_of_heap hcells 0), (ho.cell (p := ⟨l, 1, none⟩) hll hlm).trans (cell_of_heap hcells 1)⟩
  obtain ⟨A, c, rfl, hc, hf⟩ := hv
  have hrd : ∀ (k : Nat) (wx : World) (R1 : Reg), k < ns.length → DiskAt wx a (homeD G.D G.size ns k) R1 → Calls Tryz.prog 253 #[.pointer (some ⟨a, 0, none⟩), .int .i64 (1 + k)] wx fun e w' => ∃ v, e = .returned (.tuple #[v, .int .i64 0]) ∧ OwnB w' wx.heap.size v (G.D.rd (1 + k)) ∧ Below wx.heap.size wx w' := fun k wx R1 hk h1 => by
    have hq := hok.size
    have := dread_any (1 + k) a _ R1 wx h1 (by rw [homeD_first]; omega)
    rw [homeD_rd (by omega)] at this
    have e : ((1 + k : Nat) : Int) = 1 + (k : Int) := by omega
    rw [e] at this
    exact this
  have hwr : ∀ (k n : Nat) (w1 : World) (R1 : Reg) (A1 : Option Addr) (c1 : Nat), ns[k]? = some n → DiskAt w1 a (homeD G.D G.size ns k) R1 → RD.To R1 w.heap.size → Off RD.m w w1 → BytesAt w1 w1.heap.size (.slice A1 (G.D.rd (1 + k)).length c1) (G.D.rd (1 + k)) → ∀ q, Calls Tryz.prog 213 #[.pointer (some ⟨a, 0, none⟩), .int .i64 ((G.size : Int) + 1 + (n : Int)), .slice A1 (G.D.rd (1 + k)).length c1] (w1.drewN q) fun e w' => ∃ R2, e = .returned (.int .i64 0) ∧ DiskAt w' a (homeD G.D G.size ns (k + 1)) R2 ∧ RD.To R2 w.heap.size ∧ Off RD.m w w' := by
    intro k n w1 R1 A1 c1 hk h1 h2 h3 hB q
    obtain ⟨hkl, hke⟩ := List.getElem?_eq_some_iff.1 hk
    have hkd : ns.getD k 0 = n := by rw [List.getD_eq_getElem?_getD, hk]; rfl
    have hpg := hn n (List.mem_of_getElem? hk)
    have hq := hok.size
    have hphas : phas (homeD G.D G.size ns k).wait (G.size + 1 + n) = false := by
      cases hp : phas (homeD G.D G.size ns k).wait (G.size + 1 + n) with
      | false => rfl
      | true =>
        rcases homeD_has hp with e | ⟨j, hj, e⟩
        · rw [hw] at e; cases e
        · have hjl : j < ns.length := by omega
          have : ns.getD j 0 = n := by omega
          rw [List.getD_eq_getElem?_getD, List.getElem?_eq_getElem hjl] at this
          have hne := (List.pairwise_iff_getElem.1 hnd) j k hjl hkl hj
          exact absurd (this.trans hke.symm) hne
    have := dwrite_any (G.size + 1 + n) a _ R1 (.slice A1 (G.D.rd (1 + k)).length c1) (G.D.rd (1 + k)) (w1.drewN q) (h1.off ((Off.refl (fun _ => False) w1).drewN q) (fun _ _ e => e)) hB (by rw [homeD_first]; unfold Lg.pages at hpg; omega) (hd.ok.rd (by omega)) hphas (by rw [homeD_ops]; omega)
    rw [show ((G.size + 1 + n : Nat) : Int) = (G.size : Int) + 1 + (n : Int) from by omega] at this
    refine this.mono ?_
    rintro e w' ⟨rfl, ⟨R2, h4, h5⟩, h6⟩
    refine ⟨R2, rfl, ?_, h2.trans h5 h3.size, (h3.drewN q).trans h6 h2.m⟩
    show DiskAt w' a ((homeD G.D G.size ns k).wr (G.size + 1 + ns.getD k 0) (G.D.rd (1 + k))) R2
    rw [hkd]; exact h4
  have hfl : ∀ w2 R1, DiskAt w2 a (homeD G.D G.size ns ns.length) R1 → RD.To R1 w.heap.size → Off RD.m w w2 → Calls Tryz.prog 214 #[.pointer (some ⟨a, 0, none⟩)] w2 fun e w3 => e = .returned (.int .i64 0) ∧ Calls Tryz.prog 215 #[.pointer (some ⟨l, 0, none⟩), .slice none 0 0] w3 (LogPost w l ⟨((homeD G.D G.size ns ns.length).fl.wr 0 (headS [])).fl, G.size⟩ R (.returned (.tuple #[]))) := by
    intro w2 R1 h1 h2 h3
    have hol := homeD_ops G.D G.size ns ns.length
    refine (dflush_any a _ R1 w2 h1 (by omega)).mono ?_
    rintro e w3 ⟨rfl, ⟨R2, h4, h5⟩, h6⟩
    have h7 := h3.trans h6 h2.m
    obtain ⟨⟨R3, h8, h9⟩, h10⟩ := H.out.acted hcells hm hi h4 (h2.trans h5 h3.size) h7 (by show (homeD G.D G.size ns ns.length).first.length = _; rw [homeD_first])
    refine ⟨rfl, (setHead_any l _ R3 [] (.slice none 0 0) w3 h8 (NatsI.nil _ _) (by simp) (by simp) rfl (by simp [Dk.fl]; omega)).mono ?_⟩
    rintro e w4 ⟨rfl, ⟨R4, h11, h12⟩, h13⟩
    exact ⟨rfl, ⟨R4, h11, h9.trans h12 h10.size⟩, h10.trans h13 h9.m⟩
  have hNum : ∀ (k n : Nat) (w' : World), ns[k]? = some n → Off RD.m w w' → ∃ b o, A = some ⟨b, o, none⟩ ∧ w'.cell? ⟨b, o + k, none⟩ = some (.int .i64 n) := fun k n w' hk ho => by
    obtain ⟨b, o, e, ⟨hb, hbm⟩, hx⟩ := hf (by rintro rfl; simp at hk)
    exact ⟨b, o, e, (ho.cell (p := ⟨b, o + k, none⟩) hb (fun e => hbm (hm _ e))).trans (hx k n hk)⟩
  have hown : ∀ (k : Nat) (w1 w' : World) (v : Value), k < ns.length → OwnB w1 w'.heap.size v (G.D.rd (1 + k)) → BytesAt w1 w1.heap.size v (G.D.rd (1 + k)) := fun k w1 w' v hk ho => by
    have hq := hok.size
    exact (ho.bytes (by rw [hd.ok.rd (by omega)]; omega)).at
  have hsz : (G.size : Int) + 1 ≤ 5000 ∧ ∀ n ∈ ns, (n : Int) ≤ 5000 := ⟨by have := hok.size; omega, fun n h => by have := hn n h; unfold Lg.pages at this; omega⟩
  have hw1 : IntKind.i64.wrap ((G.size : Int) + 1) = (G.size : Int) + 1 := IntWalk.i64_in _ (by omega)
  have HF := Lib.hid hNum
  have HN := Lib.hid hsz.2
  have HWr := Lib.hid hwr
  have HFl := Lib.hid hfl
  have HRd := Lib.hid hrd
  have HCl := Lib.hid hcl
  have HOwn := Lib.hid hown
  have HD := Lib.hid hd
  have hsz1 := hsz.1
  clear hf hn hd hm hi hcells hw hwr hfl hcl hrd hNum hsz hown hnd hok hfew
  go_enter Tryz.func216, Tryz.ntmps216
  go_wp2_with fail
  go_loopg [10] ns.length (fun g i wx => ∃ k : Nat, ∃ R1, i = .int .i64 k ∧ g = ns.length - k ∧ k ≤ ns.length ∧ DiskAt wx a (homeD G.D G.size ns k) R1 ∧ RD.To R1 w.heap.size ∧ Off RD.m w wx)
  case atStart => exact ⟨0, RD, rfl, rfl, Nat.zero_le _, HD.out, .refl _ _, .refl _ _⟩
  case round =>
    obtain ⟨k, R1, rfl, rfl, hk, h1, h2, h3⟩ := hrel
    obtain ⟨k0, k1⟩ := HCl.out wr h3
    by_cases hlt : k < ns.length
    · have hltI : decide ((k : Int) < (ns.length : Int)) = true := by simp; omega
      obtain ⟨n, hnk⟩ : ∃ n, ns[k]? = some n := ⟨_, List.getElem?_eq_getElem hlt⟩
      obtain ⟨b, o, rfl, hcell⟩ := HF.out k n wr hnk h3
      have hnlt := HN.out n (List.mem_of_getElem? hnk)
      have hw2 : IntKind.i64.wrap ((G.size : Int) + 1 + (n : Int)) = (G.size : Int) + 1 + (n : Int) := IntWalk.i64_in _ (by omega)
      have hrd := HRd.out k wr R1 hlt h1
      have HR := Lib.hid hrd
      have HNk := Lib.hid hnk
      have H1 := Lib.hid h1
      have H2 := Lib.hid h2
      have H3 := Lib.hid h3
      clear hrd hnk h1 h2 h3
      go_wp2_with fail
      refine HR.out.mono ?_
      rintro e w1 ⟨v, rfl, ho, hb⟩
      have h3' := H3.out.step hb
      have hB := HOwn.out k w1 wr v hlt ho
      obtain ⟨A1, c1, rfl⟩ := ownsRow_slice ho
      have hwx := HWr.out k n w1 R1 A1 c1 HNk.out (H1.out.off (Off.of_below hb (fun _ => False)) (fun _ _ e => e)) H2.out h3' hB
      obtain ⟨j0, j1⟩ := HCl.out w1 h3'
      have HWx := Lib.hid hwx
      clear hwx hB ho hb h3' k0 k1
      go_wp2_with fail
      go_region_with (go_at_call 213; refine (HWx.out 1).mono ?_; rintro e w2 ⟨R2, rfl, h4, h5, h6⟩)
      · have H4 := Lib.hid h4
        have H5 := Lib.hid h5
        have H6 := Lib.hid h6
        clear h4 h5 h6
        go_wp2
        go_roundg (ns.length - (k + 1))
        case measure => omega
        case rel => exact ⟨k + 1, R2, by go_num, rfl, hlt, H4.out, H5.out, H6.out⟩
      · have H4 := Lib.hid h4
        have H5 := Lib.hid h5
        have H6 := Lib.hid h6
        clear h4 h5 h6
        go_wp2
        go_roundg (ns.length - (k + 1))
        case measure => omega
        case rel => exact ⟨k + 1, R2, by go_num, rfl, hlt, H4.out, H5.out, H6.out⟩
    · have hltI : decide ((k : Int) < (ns.length : Int)) = false := by simp; omega
      obtain rfl : k = ns.length := by omega
      have hfx := HFl.out wr R1 h1 h2 h3
      have HFx := Lib.hid hfx
      clear hfx h1 h2 h3
      go_wp2_with fail
      refine HFx.out.mono ?_
      rintro e w3 ⟨rfl, hset⟩
      have HSet := Lib.hid hset
      clear hset
      go_wp2_with fail
      refine HSet.out.mono ?_
      rintro e w4 hp
      obtain ⟨rfl, hp2⟩ := id hp
      have HP := Lib.hid hp
      clear hp hp2
      go_wp2_with fail
      go_end0
      exact HP.out
end Go.Proofs.YtakmplpfjcddiaaGreatDoor

namespace Go.Proofs.YtakmplpfjcddiaaGreatDoor
open Go.RowKit Go.Shelf Pa
theorem Dk.rd_wr (D : Dk) (m n : Nat) (x : Str) : (D.wr m x).rd n = if n = m then x else D.rd n := by
  unfold Dk.rd
  show (match pget (pset D.wait m x) n with | some b => b | none => D.safe.getD n []) = _
  rw [pget_pset]
  by_cases h : n = m
  · rw [if_pos h, if_pos h]
  · rw [if_neg h, if_neg h]; rfl
theorem Dk.rd_fl (D : Dk) (n : Nat) (h : n < D.safe.length) : D.fl.rd n = D.rd n := by
  show (match pget ([] : List (Nat × Str)) n with | some b => b | none => D.flushed.getD n []) = _
  show D.flushed.getD n [] = _
  unfold Dk.flushed
  rw [List.getD_eq_getElem?_getD, List.getElem?_map, List.getElem?_range h]
  rfl
theorem Dk.fl_safe (D : Dk) : D.fl.safe.length = D.safe.length := by show D.flushed.length = _; simp [Dk.flushed]
/-- The numbers of a group, in order. -/
def srtN (ps : List (Nat × Str)) : List Nat := (ps.map (·.1)).mergeSort (fun x y => decide (x ≤ y))
theorem srtN_perm (ps : List (Nat × Str)) : (srtN ps).Perm (ps.map (·.1)) := List.mergeSort_perm _ _
theorem srtN_length (ps : List (Nat × Str)) : (srtN ps).length = ps.length := by rw [(srtN_perm ps).length_eq, List.length_map]
theorem srtN_nodup {ps : List (Nat × Str)} (h : (ps.map (·.1)).Nodup) : (srtN ps).Nodup := (srtN_perm ps).nodup_iff.2 h
theorem srtN_mem {ps : List (Nat × Str)} {n : Nat} : n ∈ srtN ps ↔ n ∈ ps.map (·.1) := (srtN_perm ps).mem_iff
/-- The disk when k pages of the group were written to the log. -/
def logD (D : Dk) (ps : List (Nat × Str)) (ns : List Nat) : Nat → Dk
  | 0 => D
  | k + 1 => (logD D ps ns k).wr (1 + k) ((pget ps (ns.getD k 0)).getD [])
theorem logD_first (D : Dk) (ps : List (Nat × Str)) (ns : List Nat) (k : Nat) : (logD D ps ns k).first = D.first := by
  induction k with
  | zero => rfl
  | succ k ih => exact ih
theorem logD_safe (D : Dk) (ps : List (Nat × Str)) (ns : List Nat) (k : Nat) : (logD D ps ns k).safe = D.safe := by
  induction k with
  | zero => rfl
  | succ k ih => exact ih
theorem logD_ops (D : Dk) (ps : List (Nat × Str)) (ns : List Nat) (k : Nat) : (logD D ps ns k).ops.length = D.ops.length + k := by
  induction k with
  | zero => rfl
  | succ k ih => show ((logD D ps ns k).ops ++ [_]).length = _; rw [List.length_append, ih]; rfl
theorem logD_has {D : Dk} {ps : List (Nat × Str)} {ns : List Nat} {k m : Nat} (h : phas (logD D ps ns k).wait m = true) : phas D.wait m = true ∨ (1 ≤ m ∧ m ≤ k) := by
  induction k with
  | zero => exact .inl h
  | succ k ih =>
    have h' : phas (pset (logD D ps ns k).wait (1 + k) ((pget ps (ns.getD k 0)).getD [])) m = true := h
    rw [phas_pset, Bool.or_eq_true, decide_eq_true_eq] at h'
    rcases h' with h' | h'
    · right; omega
    · rcases ih h' with h' | h'
      · exact .inl h'
      · right; omega
theorem logD_rd (D : Dk) (ps : List (Nat × Str)) (ns : List Nat) (k m : Nat) : (logD D ps ns k).rd m = if 1 ≤ m ∧ m ≤ k then (pget ps (ns.getD (m - 1) 0)).getD [] else D.rd m := by
  induction k with
  | zero => rw [if_neg (by omega)]; rfl
  | succ k ih =>
    show ((logD D ps ns k).wr (1 + k) _).rd m = _
    rw [Dk.rd_wr, ih]
    by_cases h : m = 1 + k
    · subst h; rw [if_pos rfl, if_pos (by omega), Nat.add_sub_cancel_left]
    · rw [if_neg h]
      by_cases h2 : 1 ≤ m ∧ m ≤ k
      · rw [if_pos h2, if_pos (by omega)]
      · rw [if_neg h2, if_neg (by omega)]
theorem homeD_rd_off {D : Dk} {sz : Nat} {ns : List Nat} {k m : Nat} (h : ∀ j, j < k → m ≠ sz + 1 + ns.getD j 0) : (homeD D sz ns k).rd m = D.rd m := by
  induction k with
  | zero => rfl
  | succ k ih =>
    show ((homeD D sz ns k).wr _ _).rd m = _
    rw [Dk.rd_wr, if_neg (h k (Nat.lt_succ_self k)), ih (fun j hj => h j (by omega))]
theorem homeD_rd_on {D : Dk} {sz : Nat} {ns : List Nat} {k j : Nat} (hj : j < k) (hk : k ≤ ns.length) (hnd : ns.Nodup) : (homeD D sz ns k).rd (sz + 1 + ns.getD j 0) = D.rd (1 + j) := by
  induction k with
  | zero => omega
  | succ k ih =>
    show ((homeD D sz ns k).wr _ _).rd _ = _
    rw [Dk.rd_wr]
    by_cases h : j = k
    · subst h; rw [if_pos rfl]
    · have hne : sz + 1 + ns.getD j 0 ≠ sz + 1 + ns.getD k 0 := by
        have h1 : j < ns.length := by omega
        have h2 : k < ns.length := by omega
        rw [List.getD_eq_getElem?_getD, List.getD_eq_getElem?_getD, List.getElem?_eq_getElem h1, List.getElem?_eq_getElem h2]
        simp only [Option.getD_some]
        intro e
        exact (List.pairwise_iff_getElem.1 hnd) j k h1 h2 (by omega) (by omega)
      rw [if_neg hne, ih (by omega) (by omega)]
/-- A log behind the Commit of a group. -/
def logged (G : Lg) (ps : List (Nat × Str)) : Dk := (logD G.D ps (srtN ps) (srtN ps).length).fl
def headed (G : Lg) (ps : List (Nat × Str)) : Dk := ((logged G ps).wr 0 (headS (srtN ps))).fl
def Lg.commit (G : Lg) (ps : List (Nat × Str)) : Lg := ⟨((homeD (headed G ps) G.size (srtN ps) (srtN ps).length).fl.wr 0 (headS [])).fl, G.size⟩
theorem logged_safe (G : Lg) (ps : List (Nat × Str)) : (logged G ps).safe.length = G.D.safe.length := by unfold logged; rw [Dk.fl_safe, logD_safe]
theorem headed_safe (G : Lg) (ps : List (Nat × Str)) : (headed G ps).safe.length = G.D.safe.length := by
  unfold headed; rw [Dk.fl_safe]; exact logged_safe G ps
theorem headed_rd {G : Lg} {ps : List (Nat × Str)} {m : Nat} (hm : 1 ≤ m) (hl : m < G.D.safe.length) : (headed G ps).rd m = if m ≤ (srtN ps).length then (pget ps ((srtN ps).getD (m - 1) 0)).getD [] else G.D.rd m := by
  unfold headed
  rw [Dk.rd_fl _ _ (by show m < (logged G ps).safe.length; rw [logged_safe]; exact hl), Dk.rd_wr, if_neg (by omega)]
  unfold logged
  rw [Dk.rd_fl _ _ (by rw [logD_safe]; exact hl), logD_rd]
  by_cases h : m ≤ (srtN ps).length
  · rw [if_pos ⟨hm, h⟩, if_pos h]
  · rw [if_neg (fun e => h e.2), if_neg h]
theorem Lg.commit_rd {G : Lg} {ps : List (Nat × Str)} {n : Nat} (hn : n < G.pages) (hok : G.D.safe.length = G.D.first.length) (hc : ps.length ≤ G.size) (hnd : (ps.map (·.1)).Nodup) : (G.commit ps).rd n = match pget ps n with | some x => x | none => G.rd n := by
  have hpg : G.size + 1 + n < G.D.safe.length := by unfold Lg.pages at hn; omega
  unfold Lg.rd Lg.commit
  show ((homeD (headed G ps) G.size (srtN ps) (srtN ps).length).fl.wr 0 (headS [])).fl.rd (G.size + 1 + n) = _
  have hs : (homeD (headed G ps) G.size (srtN ps) (srtN ps).length).safe.length = G.D.safe.length := by rw [homeD_safe, headed_safe]
  rw [Dk.rd_fl _ _ (by show _ < (homeD (headed G ps) G.size (srtN ps) (srtN ps).length).fl.safe.length; rw [Dk.fl_safe, hs]; exact hpg), Dk.rd_wr, if_neg (by omega), Dk.rd_fl _ _ (by rw [hs]; exact hpg)]
  have hlen := srtN_length ps
  by_cases hm : n ∈ srtN ps
  · obtain ⟨j, hj⟩ := List.getElem?_of_mem hm
    obtain ⟨hjl, hje⟩ := List.getElem?_eq_some_iff.1 hj
    have hjn : (srtN ps).getD j 0 = n := by rw [List.getD_eq_getElem?_getD, hj]; rfl
    have h1 := homeD_rd_on (D := headed G ps) (sz := G.size) hjl (Nat.le_refl _) (srtN_nodup hnd)
    rw [hjn] at h1
    rw [h1, headed_rd (by omega) (by omega), if_pos (by omega), Nat.add_sub_cancel_left, hjn]
    obtain ⟨p, hp, hpe⟩ := List.mem_map.1 (srtN_mem.1 hm)
    have h2 : pget ps n = some p.2 := by subst hpe; exact pget_mem hnd hp
    rw [h2]; rfl
  · rw [homeD_rd_off (fun j hj e => hm ?_), headed_rd (by omega) hpg, if_neg (by omega)]
    · have h2 : pget ps n = none := pget_none (by
        cases h : phas ps n with
        | false => rfl
        | true => exact absurd (srtN_mem.2 (phas_iff.1 h)) hm)
      rw [h2]
    · have : (srtN ps)[j] = n := by
        rw [List.getD_eq_getElem?_getD, List.getElem?_eq_getElem hj] at e
        simp only [Option.getD_some] at e
        omega
      rw [← this]; exact List.getElem_mem _
end Go.Proofs.YtakmplpfjcddiaaGreatDoor

namespace Go.Proofs.YtakmplpfjcddiaaGreatDoor
open Go.RowKit Go.Shelf Pa
attribute [local go_sem] bs_toList bs_size
/-- A slice of pages that lies in blocks of a set, with its bytes. -/
def PgsI (w : World) (I : Nat → Prop) (v : Value) (ps : List (Nat × Str)) : Prop :=
  ∃ A c, v = .slice A ps.length c ∧ (ps.length ≤ c ∧ ps.length ≤ 1000000000) ∧ (ps ≠ [] → ∃ b o, A = some ⟨b, o, none⟩ ∧ (b < w.heap.size ∧ I b) ∧ ∀ (i n : Nat) (x : Str), ps[i]? = some (n, x) → ∃ u, w.cell? ⟨b, o + i * 2, none⟩ = some (.int .i64 n) ∧ w.cell? ⟨b, o + i * 2 + 1, none⟩ = some u ∧ BytesI w I u x)
theorem PgsI.off {w w' : World} {I M : Nat → Prop} {v : Value} {l : List (Nat × Str)} (h : PgsI w I v l) (ho : Off M w w') (hd : ∀ k, I k → ¬ M k) : PgsI w' I v l := by
  obtain ⟨A, c, e, hc, h⟩ := h
  refine ⟨A, c, e, hc, fun hn => ?_⟩
  obtain ⟨b, o, e, hB, h⟩ := h hn
  refine ⟨b, o, e, ⟨Nat.lt_of_lt_of_le hB.1 ho.size, hB.2⟩, fun i n x hx => ?_⟩
  obtain ⟨u, h1, h2, h3⟩ := h i n x hx
  exact ⟨u, (ho.cell (p := ⟨b, o + i * 2, none⟩) hB.1 (hd _ hB.2)).trans h1, (ho.cell (p := ⟨b, o + i * 2 + 1, none⟩) hB.1 (hd _ hB.2)).trans h2, h3.off ho hd⟩
set_option maxHeartbeats 1000000 in
theorem page1_any (n B l : Nat) (u : Value) (G : Lg) (R : Reg) (w : World) (hu : ∃ A k c, u = .slice A k c) (hB : w.cell? ⟨B, 0, none⟩ = some (.pointer (some ⟨l, 0, none⟩))) (h : LogAt w l G R) (hn : n < G.pages) :
    Calls Tryz.prog 210 #[.agg #[.int .i64 n, u], .pointer (some ⟨B, 0, none⟩)] w fun e w' => e = .returned (.bool false) ∧ Below w.heap.size w w' := by
  obtain ⟨A, k, c, rfl⟩ := hu
  have hBl : B < w.heap.size := by
    rcases Nat.lt_or_ge B w.heap.size with h | h
    · exact h
    · simp [World.cell?, Array.getElem?_eq_none h] at hB
  have hb1 : Below w.heap.size w (w.alloc (.cells #[.int .i64 n, .slice A k c] 212)) := (Below.refl _ _).alloc (Nat.le_refl _) _
  have hp := fun q => pages_any l G R ((w.alloc (.cells #[.int .i64 n, .slice A k c] 212)).drewN q) (h.off (((Off.refl (fun _ => False) w).alloc _).drewN q) (fun _ _ e => e))
  have c1 : (w.alloc (.cells #[.int .i64 n, .slice A k c] 212)).cell? ⟨B, 0, none⟩ = some (.pointer (some ⟨l, 0, none⟩)) := (hb1.cell (p := ⟨B, 0, none⟩) hBl).trans hB
  have h0 : decide ((n : Int) < 0) = false := by simp
  have hge : decide ((G.pages : Int) ≤ (n : Int)) = false := by simp; omega
  have HP := Lib.hid hp
  have hgeN : decide (G.pages ≤ n) = false := by simp; omega
  have HB1 := Lib.hid hb1
  clear hp hb1 h hn
  go_enter Tryz.func210, Tryz.ntmps210
  go_wp2_with fail
  go_quiet ((go_at_call 168; exact (HP.out _).mono (by rintro e w9 ⟨rfl, q9, rfl⟩; exact ⟨rfl, _, World.drewN_drewN _ _ _⟩)))
  go_wp2
  go_ret
  exact ⟨rfl, below_drewN HB1.out _⟩
set_option maxHeartbeats 1000000 in
theorem indexPages_any (ps : List (Nat × Str)) (v : Value) (B l : Nat) (I : Nat → Prop) (G : Lg) (R : Reg) (w : World) (hv : PgsI w I v ps) (hB : w.cell? ⟨B, 0, none⟩ = some (.pointer (some ⟨l, 0, none⟩))) (h : LogAt w l G R) (hn : ∀ p ∈ ps, p.1 < G.pages) :
    Calls Tryz.prog 269 #[v, .func (.func 210) #[] #[.pointer (some ⟨B, 0, none⟩)]] w fun e w' => e = .returned (.int .i64 (-1)) ∧ Below w.heap.size w w' := by
  have hBl : B < w.heap.size := by
    rcases Nat.lt_or_ge B w.heap.size with h | h
    · exact h
    · simp [World.cell?, Array.getElem?_eq_none h] at hB
  have hq := fun (w' : World) (hb : Below w.heap.size w w') (n : Nat) (u : Value) hu hn => page1_any n B l u G R w' hu ((hb.cell (p := ⟨B, 0, none⟩) hBl).trans hB) (h.off (Off.of_below hb (fun _ => False)) (fun _ _ e => e)) hn
  obtain ⟨A, cp, rfl, ⟨hc, hlen⟩, hf⟩ := hv
  have HF := Lib.hid hf
  have HQ := Lib.hid hq
  have HN := Lib.hid hn
  clear hf hq h hn
  go_enter Tryz.func269, Tryz.ntmps269
  go_wp2_with fail
  go_loopg [8] ps.length (fun g i wx => ∃ k : Nat, i = .int .i64 k ∧ g = ps.length - k ∧ k ≤ ps.length ∧ Below w.heap.size w wx)
  case atStart => exact ⟨0, rfl, rfl, Nat.zero_le _, Below.refl _ _⟩
  case round =>
    obtain ⟨k, rfl, rfl, hk, hb⟩ := hrel
    by_cases hlt : k < ps.length
    · have hlt' : decide ((k : Int) < (ps.length : Int)) = true := by simp; omega
      obtain ⟨b, o, rfl, ⟨hbl, _⟩, hx⟩ := HF.out (by rintro rfl; simp at hlt)
      obtain ⟨⟨n, x⟩, hkp⟩ : ∃ p, ps[k]? = some p := ⟨_, List.getElem?_eq_getElem hlt⟩
      obtain ⟨u, h1, h2, h3⟩ := hx k n x hkp
      have k0 := (hb.cell (p := ⟨b, o + k * 2, none⟩) hbl).trans h1
      have k1 := (hb.cell (p := ⟨b, o + k * 2 + 1, none⟩) hbl).trans h2
      obtain ⟨A', c', rfl, _, _⟩ := id h3
      have hq := HQ.out wr hb n (.slice A' x.length c') ⟨_, _, _, rfl⟩ (HN.out _ (List.mem_of_getElem? hkp))
      have HQ1 := Lib.hid hq
      have HB := Lib.hid hb
      clear hq hkp hx h1 h2 h3 hb
      go_wp2_with fail
      refine HQ1.out.mono ?_
      rintro e w' ⟨rfl, hb'⟩
      have hb2 := HB.out.trans (hb'.mono HB.out.size)
      have HB2 := Lib.hid hb2
      clear hb' hb2 k0 k1
      go_wp2
      go_roundg (ps.length - (k + 1))
      case measure => omega
      case rel => exact ⟨k + 1, by go_num, rfl, hlt, HB2.out⟩
    · have hlt' : decide ((k : Int) < (ps.length : Int)) = false := by simp; omega
      have HB := Lib.hid hb
      clear hb
      go_wp2
      go_ret
      exact ⟨rfl, HB.out⟩
set_option maxHeartbeats 1000000 in
theorem containsPages_any (ps : List (Nat × Str)) (v : Value) (B l : Nat) (I : Nat → Prop) (G : Lg) (R : Reg) (w : World) (hv : PgsI w I v ps) (hB : w.cell? ⟨B, 0, none⟩ = some (.pointer (some ⟨l, 0, none⟩))) (h : LogAt w l G R) (hn : ∀ p ∈ ps, p.1 < G.pages) :
    Calls Tryz.prog 209 #[v, .func (.func 210) #[] #[.pointer (some ⟨B, 0, none⟩)]] w fun e w' => e = .returned (.bool false) ∧ Below w.heap.size w w' := by
  have hi := indexPages_any ps v B l I G R w hv hB h hn
  have HI := Lib.hid hi
  obtain ⟨A, cp, rfl, _, _⟩ := hv
  clear hi h hn
  go_enter Tryz.func209, Tryz.ntmps209
  go_wp2_with fail
  refine HI.out.mono ?_
  rintro e w' ⟨rfl, hb⟩
  have HB := Lib.hid hb
  clear hb
  go_wp2
  go_ret
  exact ⟨rfl, HB.out⟩
end Go.Proofs.YtakmplpfjcddiaaGreatDoor

namespace Go.Proofs.YtakmplpfjcddiaaGreatDoor
open Go.RowKit Go.Shelf Pa Go.Maps Go.Sort
open Go.WideElems (Fit rd rg rd_val)
open Go.WideShapes
/-- How a map's value reads: not at all. -/
def noRI : Value → Option (DataW Unit × List MemPlace) := fun _ => some (.nil, [])
theorem rgI_key {P : Program} {k : TypeId} (hk : P.underlying k = some (.int .i64)) {x : MapEntry} {n : Nat} (hx : x.key = .int .i64 n) (hn : n ≤ 1000000000) : Go.WideElems.rd P k noRI x = some (.int .i64 n, .nil) := by
  unfold Go.WideElems.rd
  have : keyOf P k x.key = some (.int .i64 n) := by
    rw [hx]
    have h1 : keyOf P k (.int .i64 n) = mapKey P k (.int .i64 n) := by unfold keyOf; rw [hk]
    have h2 : mapKey P k (.int .i64 n) = if IntKind.i64 = IntKind.i64 ∧ (Lit.int .i64 n).wf = true then some (.int .i64 n) else none := by unfold mapKey; rw [hk]
    rw [h1, h2, if_pos]
    refine ⟨rfl, ?_⟩
    simp only [Lit.wf, Bool.and_eq_true, decide_eq_true_eq]
    exact ⟨by show (-9223372036854775808 : Int) ≤ n; omega, by show (n : Int) ≤ 9223372036854775807; omega⟩
  rw [this]
  rfl
theorem MapB.owns {α : Type} {Q : Value → α → Prop} {w : World} {mb : Nat} {l : List (Nat × α)} (h : MapB Q w mb l) (hk : ∀ p ∈ l, p.1 ≤ 1000000000) (hl : l.length ≤ 256) :
    ∃ D0 : DataW Unit, w.ownsMap Tryz.prog 3 noRI mb 256 D0 ∧ (intKeys D0).Perm (l.map (fun p => (p.1 : Int))) ∧ Maps.size D0 = l.length := by
  obtain ⟨L, hi, hkeys⟩ := h.keys
  obtain ⟨es, c, hb, hs, hpr⟩ := hi
  have hLl : L.length = l.length := by simpa using congrArg List.length hkeys
  have hsz : es.size = l.length := by
    have h1 : es.toList.length = L.length := by simpa using congrArg List.length hpr
    rw [← Array.length_toList, h1, hLl]
  have hke : es.toList.map (·.key) = l.map (fun p => Value.int .i64 (p.1 : Nat)) := by
    have h1 : es.toList.map (·.key) = (es.toList.map (fun e => (e.key, e.val))).map (·.1) := by rw [List.map_map]; rfl
    rw [h1, hpr, List.map_map]
    have h2 : l.map (fun p => Value.int .i64 (p.1 : Nat)) = (l.map (fun p => (p.1 : Int))).map (Value.int .i64) := by rw [List.map_map]; rfl
    rw [h2, ← hkeys, List.map_map]; rfl
  have hrd : ∀ x ∈ es.toList, ∃ n : Nat, x.key = .int .i64 n ∧ Go.WideElems.rd Tryz.prog 3 noRI x = some (.int .i64 n, .nil) := fun x hx => by
    have : x.key ∈ l.map (fun p => Value.int .i64 (p.1 : Nat)) := by rw [← hke]; exact List.mem_map.2 ⟨x, hx, rfl⟩
    obtain ⟨p, hp, e⟩ := List.mem_map.1 this
    exact ⟨p.1, e.symm, rgI_key Tryz.underlying3 e.symm (hk p hp)⟩
  refine ⟨_, ⟨es, c, hb, ⟨by rw [hsz]; exact Nat.le_trans hl (by decide), hs, fun x hx => ?_⟩, by omega, rfl⟩, ?_, ?_⟩
  · obtain ⟨n, _, h2⟩ := hrd x hx
    exact ⟨_, h2⟩
  · obtain ⟨f, hf, hdef⟩ : ∃ f : Lit × DataW Unit → Int, (∀ n d, f (.int .i64 n, d) = n) ∧ ∀ es : List (Lit × DataW Unit), intKeys (DataW.map es) = es.map f := ⟨_, fun _ _ => rfl, fun _ => rfl⟩
    show (intKeys (DataW.map ((es.toList.map (Go.WideElems.rg Tryz.prog 3 noRI)).foldr DataW.insert []))).Perm _
    rw [hdef]
    refine ((sorted_perm _).map _).trans ?_
    rw [List.map_map]
    have key : ∀ (el : List MapEntry) (M : List (Nat × α)), (∀ x ∈ el, ∃ n : Nat, x.key = .int .i64 n ∧ Go.WideElems.rd Tryz.prog 3 noRI x = some (.int .i64 n, .nil)) → el.map (·.key) = M.map (fun p => Value.int .i64 (p.1 : Nat)) → el.map (f ∘ Go.WideElems.rg Tryz.prog 3 noRI) = M.map (fun p => (p.1 : Int)) := by
      intro el
      induction el with
      | nil => intro M _ hM; cases M with
        | nil => rfl
        | cons _ _ => cases hM
      | cons x el ih => intro M hx hM; cases M with
        | nil => cases hM
        | cons q M =>
          simp only [List.map_cons, List.cons.injEq] at hM ⊢
          obtain ⟨h1, h3⟩ := hM
          refine ⟨?_, ih M (fun x hm => hx x (by simp [hm])) h3⟩
          obtain ⟨n, hn1, hn2⟩ := hx x (by simp)
          rw [hn1] at h1
          have hnq : (n : Int) = (q.1 : Int) := by injection h1
          simp only [Function.comp, Go.WideElems.rg, hn2, Option.getD_some, hf]
          exact hnq
    rw [key _ _ hrd hke]
  · show ((es.toList.map (Go.WideElems.rg Tryz.prog 3 noRI)).foldr DataW.insert []).length = _
    rw [(sorted_perm _).length_eq, List.length_map, Array.length_toList, hsz]
theorem keysI_any (b : Nat) (w : World) : Calls Tryz.prog 212 #[.map (some b)] w fun e w' =>
    e = .returned (.func (.func 271) #[] #[.pointer (some ⟨w.heap.size, 0, none⟩)]) ∧ w' = w.alloc (.cells #[.map (some b)] 208) :=
  (callsIn_wide (n := 6)).1 (AnyZI.keys_in Tryz.keysI Fence.wide 6 trivial rfl (some b) w)
/-- slices.Sort's two contracts at ints, at the fence that asks nothing. -/
theorem sortsI (m : Nat) : AnyZI.SortsIn Tryz.prog Tryz.sortedI_ren Fence.wide m :=
  ⟨fun blk off cap ss W hH hblk hsz => callsIn_wide.2 (Tryz.slices_Sort_int blk off cap ss W hH hblk hsz),
   fun p cap W => callsIn_wide.2 (Tryz.slices_Sort_int_none p cap W)⟩
theorem sortedI_any {α : Type} {Q : Value → α → Prop} (l : List (Nat × α)) (b B : Nat) (w : World) (h : MapB Q w b l) (hk : ∀ p ∈ l, p.1 ≤ 1000000000) (hl : l.length ≤ 256) (hB : B < w.heap.size) (hm : w.cell? ⟨B, 0, none⟩ = some (.map (some b))) :
    Calls Tryz.prog 211 #[.func (.func 271) #[] #[.pointer (some ⟨B, 0, none⟩)]] w fun e w' =>
      ∃ (v : Value) (ss : List Int), e = .returned v ∧ ss.Perm (l.map (fun p => (p.1 : Int))) ∧ w'.ownsRow w.heap.size 3 1 v ss.length ((ss.mergeSort (fun x y => decide (x ≤ y))).map encZ) ∧ (v = .slice none 0 0 ↔ ss = []) ∧ Below w.heap.size w w' := by
  obtain ⟨D0, hown, hperm, hsz⟩ := h.owns hk hl
  have hseq : SeqGives Fence.wide 2 Tryz.prog 271 #[.pointer (some ⟨B, 0, none⟩)] encZ (fun ss => ss.Perm (intKeys D0)) (Maps.size D0) w :=
    AnyZI.keys_gives (ρ := Tryz.keysI_ren) { Tryz.keysI with } Fence.wide _ trivial rfl (by omega) B b 256 D0 w hB hm hown
  have hc := AnyZI.sorted_in Tryz.sortedI Fence.wide 5 trivial trivial trivial trivial rfl (by omega) (sortsI _) (enters_of Tryz.func112 (by kernel_rfl) rfl) 271 #[.pointer (some ⟨B, 0, none⟩)] trivial (enters_of Tryz.func271 (by kernel_rfl) rfl) _ (Maps.size D0) (by rw [hsz]; exact Nat.le_trans hl (by decide)) (by rw [hsz]; omega) w hseq
  refine ((callsIn_wide (n := 5)).1 hc).mono ?_
  rintro e w' ⟨v, ss, h1, h2, h3, h4, h5⟩
  exact ⟨v, ss, h1, h2.trans hperm, h3, h4, h5⟩
end Go.Proofs.YtakmplpfjcddiaaGreatDoor

namespace Go.Proofs.YtakmplpfjcddiaaGreatDoor
open Go.RowKit Go.Shelf Pa
attribute [local go_sem] bs_toList bs_size
theorem bytesZ (w : World) : (zeroValue 37).run Tryz.prog w = .ok (.slice none 0 0) w := by kernel_rfl
/-- What stands at the k-th round of Commit's first loop: the map has the first k pages. -/
structure CmInv (w : World) (l mb : Nat) (R : Reg) (ps : List (Nat × Str)) (k : Nat) (wx : World) : Prop where
  map : MapB (fun v x => BytesI w (fun j => ¬ R.m j) v x) wx mb (ps.take k)
  below : Below w.heap.size w wx
  box : wx.cell? ⟨w.heap.size, 0, none⟩ = some (.pointer (some ⟨l, 0, none⟩))
  mb : w.heap.size < mb
theorem CmInv.step {w wx : World} {l mb : Nat} {R : Reg} {ps : List (Nat × Str)} {k n : Nat} {x : Str} {A : Option Addr} {c : Nat} (h : CmInv w l mb R ps k wx) (hk : ps[k]? = some (n, x)) (hnd : (ps.map (·.1)).Nodup) (hB : BytesI w (fun j => ¬ R.m j) (.slice A x.length c) x) (o : Obj) :
    (Instr.lookup 208 (.map (some mb)) (.int .i64 n) false).run Tryz.prog (wx.alloc o) = .ok (.slice none 0 0) (wx.alloc o) ∧ ∃ w8, (Instr.mapUpdate 208 (.map (some mb)) (.int .i64 n) (.slice A x.length c)).run Tryz.prog (wx.alloc o) = .ok () w8 ∧ CmInv w l mb R ps (k + 1) w8 := by
  obtain ⟨h1, h2, h3, h4⟩ := h
  have hmlt := h1.lt
  have hm2 : MapB (fun v x => BytesI w (fun j => ¬ R.m j) v x) (wx.alloc o) mb (ps.take k) := h1.mono (((Below.refl wx.heap.size wx).alloc (Nat.le_refl _) o).block mb hmlt) (fun _ _ h => h)
  obtain ⟨hkl, hke⟩ := List.getElem?_eq_some_iff.1 hk
  have hno : phas (ps.take k) n = false := by
    cases hp : phas (ps.take k) n with
    | false => rfl
    | true =>
      have h5 := phas_iff.1 hp
      obtain ⟨p, hp1, hp2⟩ := List.mem_map.1 h5
      obtain ⟨j, hj⟩ := List.getElem?_of_mem hp1
      have hjk : j < k := by have := (List.getElem?_eq_some_iff.1 hj).1; simp at this; omega
      rw [List.getElem?_take_of_lt hjk] at hj
      obtain ⟨hjl, hje⟩ := List.getElem?_eq_some_iff.1 hj
      have h6 := (List.pairwise_iff_getElem.1 (List.pairwise_map.1 hnd)) j k hjl hkl hjk
      rw [hje, hke] at h6
      exact absurd hp2 h6
  refine ⟨?_, ?_⟩
  · rcases hm2.lookup Tryz.underlying208 Tryz.underlying3 bytesZ n with ⟨_, _, hlo, _⟩ | ⟨_, _, hp, _⟩
    · exact hlo
    · rw [hno] at hp; cases hp
  · obtain ⟨w8, hu1, hu2, hu3, hu4⟩ := hm2.update Tryz.underlying208 Tryz.underlying3 n _ x hB
    refine ⟨w8, hu1, ?_, ?_, ?_, h4⟩
    · have e : pset (ps.take k) n x = ps.take (k + 1) := by
        unfold pset
        have : (ps.take k).any (fun p => decide (p.1 = n)) = false := hno
        rw [if_neg (by rw [this]; simp), List.take_succ_eq_append_getElem hkl, hke]
      rw [← e]; exact hu2
    · have ho : Off (fun j => j = mb) w w8 := ((Off.of_below h2 _).alloc o).grown hu3 (fun k e => by cases e; exact .inl rfl)
      exact ho.below (Nat.le_refl _) (fun j e => by omega)
    · have hbl : w.heap.size < wx.heap.size := by omega
      have h5 : (wx.alloc o).cell? ⟨w.heap.size, 0, none⟩ = some (.pointer (some ⟨l, 0, none⟩)) := (((Below.refl wx.heap.size wx).alloc (Nat.le_refl _) o).cell (p := ⟨w.heap.size, 0, none⟩) hbl).trans h3
      exact (World.cell?_of_block (w := wx.alloc o) (hu3.block w.heap.size (by simp; omega) (fun e => by have := Option.some.inj e; omega))).trans h5
theorem sorted_nats {ps : List (Nat × Str)} {ss : List Int} (h : ss.Perm (ps.map (fun p => (p.1 : Int)))) : ss.mergeSort (fun x y => decide (x ≤ y)) = (srtN ps).map (fun n : Nat => (n : Int)) := by
  refine List.Perm.eq_of_pairwise (le := fun x y : Int => x ≤ y) (fun a b _ _ h1 h2 => Int.le_antisymm h1 h2) ?_ ?_ ?_
  · have := List.pairwise_mergeSort (le := fun x y : Int => decide (x ≤ y)) (fun a b c h1 h2 => by simp at *; omega) (fun a b => by simp; omega) ss
    exact this.imp (fun h => by simpa using h)
  · rw [List.pairwise_map]
    have := List.pairwise_mergeSort (le := fun x y : Nat => decide (x ≤ y)) (fun a b c h1 h2 => by simp at *; omega) (fun a b => by simp; omega) (ps.map (·.1))
    exact this.imp (fun h => by have h2 := of_decide_eq_true h; omega)
  · refine (List.mergeSort_perm _ _).trans (h.trans ?_)
    have := (srtN_perm ps).symm.map (fun n : Nat => (n : Int))
    rw [List.map_map] at this
    exact this
/-- The sorted numbers, as a slice in new blocks. -/
theorem nats_of_own {w' : World} {B : Nat} {v : Value} {ps : List (Nat × Str)} {ss : List Int} (h : w'.ownsRow B 3 1 v ss.length ((ss.mergeSort (fun x y => decide (x ≤ y))).map encZ)) (hp : ss.Perm (ps.map (fun p => (p.1 : Int)))) : NatsI w' (fun k => B ≤ k) v (srtN ps) := by
  have hl : ss.length = (srtN ps).length := by rw [srtN_length, hp.length_eq, List.length_map]
  rw [sorted_nats hp] at h
  obtain ⟨_, h⟩ := h
  rcases h with ⟨rfl, h0⟩ | ⟨g, cap, cur, rfl, hB, hg, hc, hm, hs, ht⟩
  · have : srtN ps = [] := List.length_eq_zero_iff.1 (by omega)
    rw [this]; exact NatsI.nil _ _
  · refine ⟨_, cap, by rw [hl], by omega, fun _ => ⟨g, 0, rfl, ⟨(Array.getElem?_eq_some_iff.1 hg).1, hB⟩, fun i x hx => ?_⟩⟩
    have hi : i < (srtN ps).length := (List.getElem?_eq_some_iff.1 hx).1
    have h2 : (cur.toList.take (ss.length * 1))[i]? = some (Value.int .i64 x) := by rw [ht, List.getElem?_map, List.getElem?_map, hx]; rfl
    rw [List.getElem?_take_of_lt (by omega), Array.getElem?_toList] at h2
    rw [Nat.zero_add, cell_of_heap hg]; exact h2
end Go.Proofs.YtakmplpfjcddiaaGreatDoor

namespace Go.Proofs.YtakmplpfjcddiaaGreatDoor
open Go.RowKit Go.Shelf Pa
theorem NatsI.mono {w : World} {I J : Nat → Prop} {v : Value} {l : List Nat} (h : NatsI w I v l) (hI : ∀ k, I k → k < w.heap.size → J k) : NatsI w J v l := by
  obtain ⟨A, c, e, hc, h⟩ := h
  refine ⟨A, c, e, hc, fun hn => ?_⟩
  obtain ⟨b, o, e, hB, h⟩ := h hn
  exact ⟨b, o, e, ⟨hB.1, hI _ hB.2 hB.1⟩, h⟩
theorem commit_tail {w3 : World} {l a : Nat} {G : Lg} {R RD : Reg} {came : Int} {ps : List (Nat × Str)} {v3 : Value} {I : Nat → Prop} (H3 : LogAt w3 l G R) (hcells : w3.heap[l]? = some (.cells #[.pointer (some ⟨a, 0, none⟩), .int .i64 G.size, .int .i64 came] 217 (0, 0))) (hm : ∀ k, RD.m k → R.m k) (hi : ∀ k, RD.i k → R.i k)
    (hv : NatsI w3 I v3 (srtN ps)) (hI : ∀ k, I k → ¬ R.m k ∧ k < w3.heap.size) (hcap : ps.length ≤ G.cap) (hn : ∀ p ∈ ps, p.1 < G.pages) (hnd : (ps.map (·.1)).Nodup) (hpg : G.pages ≤ 4096) (hops : G.D.ops.length + 1000 < 1000000000)
    {w4 : World} {R1 : Reg} (h1 : DiskAt w4 a (logD G.D ps (srtN ps) (srtN ps).length) R1) (h2 : RD.To R1 w3.heap.size) (h3 : Off RD.m w3 w4) :
    Calls Tryz.prog 214 #[.pointer (some ⟨a, 0, none⟩)] w4 fun e w5 => e = .returned (.int .i64 0) ∧ Off R.m w3 w5 ∧ Calls Tryz.prog 215 #[.pointer (some ⟨l, 0, none⟩), v3] w5 fun e w6 => e = .returned (.tuple #[]) ∧ Off R.m w3 w6 ∧ Calls Tryz.prog 216 #[.pointer (some ⟨l, 0, none⟩), v3] w6 (LogPost w3 l (G.commit ps) R (.returned (.tuple #[]))) := by
  have hlen := srtN_length ps
  have hmem : ∀ n ∈ srtN ps, n < G.pages := fun n hn2 => by
    obtain ⟨p, hp, rfl⟩ := List.mem_map.1 (srtN_mem.1 hn2)
    exact hn p hp
  have hol := logD_ops G.D ps (srtN ps) (srtN ps).length
  have hc2 : ps.length ≤ 100 := by unfold Lg.cap at hcap; omega
  refine (dflush_any a _ R1 w4 h1 (by omega)).mono ?_
  rintro e w5 ⟨rfl, ⟨R2, h4, h5⟩, h6⟩
  have h7 := h3.trans h6 h2.m
  obtain ⟨⟨R3, h8, h9⟩, h10⟩ := H3.acted hcells hm hi h4 (h2.trans h5 h3.size) h7 (by show (logD G.D ps (srtN ps) (srtN ps).length).first.length = _; rw [logD_first])
  refine ⟨rfl, h10, ?_⟩
  have hv5 := hv.off h10 (fun k hk => (hI k hk).1)
  refine (setHead_any l _ R3 (srtN ps) v3 w5 h8 (hv5.mono fun _ _ _ => trivial) (by omega) (fun n hn2 => by have := hmem n hn2; omega) rfl (by show (logD G.D ps (srtN ps) (srtN ps).length).fl.ops.length + 2 < _; simp [Dk.fl]; omega)).mono ?_
  rintro e w6 ⟨rfl, ⟨R4, h11, h12⟩, h13⟩
  have h14 : Off R.m w3 w6 := h10.trans h13 h9.m
  refine ⟨rfl, h14, ?_⟩
  have h15 : R.To R4 w3.heap.size := h9.trans h12 h10.size
  have hv6 : NatsI w6 (fun k => ¬ R4.m k) v3 (srtN ps) := (hv.off h14 (fun k hk => (hI k hk).1)).mono fun k hk _ e => by
    have h16 := hI k hk
    rcases h15.m k e with e | e
    · exact h16.1 e
    · omega
  refine (home_any l _ R4 (srtN ps) v3 w6 h11 hv6 (by show _ ≤ G.cap; omega) (fun n hn2 => ?_) (srtN_nodup hnd) rfl ?_).mono ?_
  · have := hmem n hn2
    show n < ((logD G.D ps (srtN ps) (srtN ps).length).first.length - G.size - 1)
    rw [logD_first]; exact this
  · show (((logD G.D ps (srtN ps) (srtN ps).length).fl.wr 0 (headS (srtN ps))).fl).ops.length + 200 < _
    simp [Dk.fl, Dk.wr]; omega
  · rintro e w7 ⟨rfl, ⟨R5, h17, h18⟩, h19⟩
    exact ⟨rfl, ⟨R5, h17, h15.trans h18 h14.size⟩, h14.trans h19 h15.m⟩
end Go.Proofs.YtakmplpfjcddiaaGreatDoor
