/-
  The walk over the function that Write hands to try: bytes are written over a file's pages.
  The walks over super, numbers and may of the map.
  Rows of one's own, element by element; the walk over numbers.
  The walk over Write: bytes are written at a place of a file (where there is room).
  What the document says of inodes, in plain Lean; and when the pages of a cache stand for it.
  The saving of an inode, the taking and giving of a page, in plain Lean, against what the document says.
  What the document says of the growing and shrinking of a file and of writing, in plain Lean; the pages of a cache keep standing for it.
  A file grows and shrinks page by page, in plain Lean: the pages keep standing for what the document says.
-/
import Derived.Test.YtakmplpfjcddiaaGreatDoorG5
import Derived.Laws.IdiomCopy
import Derived.Lib.LazyBuf
import Derived.Maps.AppendAt
set_option linter.unusedVariables false
set_option linter.unusedSimpArgs false
set_option linter.deprecated false
namespace Go.Proofs.YtakmplpfjcddiaaGreatDoor
open Go.RowKit Go.Shelf Pa
attribute [local go_sem] bs_toList bs_size
theorem info_u8s : (Tryz.prog.info? 5).map (·.size) = some 1 := by kernel_rfl
theorem BytesI.slice {w : World} {I : Nat → Prop} {A : Option Addr} {n c : Nat} {l : Str} (h : BytesI w I (.slice A n c) l) (hn : l ≠ []) : ∃ b o, A = some ⟨b, o, none⟩ ∧ (b < w.heap.size ∧ I b) ∧ ∀ i x, l[i]? = some x → w.cell? ⟨b, o + i, none⟩ = some (.int .u8 (UInt8.toNat x)) := by
  obtain ⟨A', c', e, _, hd⟩ := h
  injection e with e1 e2 e3
  rw [e1]; exact hd hn
theorem BytesI.drop {w : World} {I : Nat → Prop} {g o c m : Nat} {l : Str} (h : BytesI w I (.slice (some ⟨g, o, none⟩) l.length c) l) (hl : l ≠ []) (hm : m ≤ l.length) (hc : l.length ≤ c) : BytesI w I (.slice (some ⟨g, o + m, none⟩) (l.length - m) (c - m)) (l.drop m) := by
  obtain ⟨A', c', e, hb, hd⟩ := h
  injection e with e1 e2 e3
  obtain ⟨b, o', e4, hI, hcell⟩ := hd hl
  rw [← e1] at e4
  injection e4 with e4
  injection e4 with e5 e6
  subst e5 e6
  refine ⟨some ⟨g, o + m, none⟩, c - m, by rw [List.length_drop], ⟨by rw [List.length_drop]; omega, by rw [List.length_drop]; omega⟩, fun _ => ⟨g, o + m, rfl, hI, fun i x hx => ?_⟩⟩
  rw [List.getElem?_drop] at hx
  rw [Nat.add_assoc]; exact hcell _ x hx
/-- What stands still while bytes are written. -/
structure WrD where
  w : World
  F : List (Nat × Obj)
  c : Nat
  R : Reg
  b0 : Nat
  bo : Nat
  ba : Nat
  bb : Nat
  s : Nat
  o1 : Opn
def WrD.X (D : WrD) (k : Nat) : Prop := k = D.bo ∨ k = D.ba ∨ k = D.bb
def WrD.J (D : WrD) (k : Nat) : Prop := ¬ D.R.m k ∧ ¬ D.X k ∧ k < D.w.heap.size
structure WrD.Ok (D : WrD) : Prop where
  l0 : D.b0 < D.w.heap.size
  lo : D.bo < D.w.heap.size
  la : D.ba < D.w.heap.size
  lb : D.bb < D.w.heap.size
  n0 : ¬ D.X D.b0
  oa : D.bo ≠ D.ba
  ob : D.bo ≠ D.bb
  ab : D.ba ≠ D.bb
/-- A round of the writing. -/
structure WrI (D : WrD) (C : Ca) (at_ : Nat) (v : Value) (x : Str) (wx : World) : Prop where
  held : ∃ R1, Held wx D.F D.c C R1 ∧ D.R.To R1 D.w.heap.size ∧ ∀ k, D.X k ∨ k = D.b0 → ¬ R1.has k
  off : Off (fun k => D.R.m k ∨ D.X k) D.w wx
  opn : OpnAt wx D.bo D.o1
  q0 : wx.heap[D.b0]? = some (.cells #[.pointer (some ⟨D.s, 0, none⟩)] 52 (0, 0))
  qa : wx.heap[D.ba]? = some (.cells #[.int .i64 at_] 3 (0, 0))
  qb : wx.heap[D.bb]? = some (.cells #[v] 37 (0, 0))
  data : BytesI wx D.J v x
theorem WrI.step {D : WrD} {C C' : Ca} {at_ : Nat} {v : Value} {x : Str} {wx w2 : World} {M : Nat → Prop} (h : WrI D C at_ v x wx) (hD : D.Ok) (ho : Off M wx w2) (hM : ∀ k, M k → (D.R.m k ∨ D.w.heap.size ≤ k) ∧ ¬ D.X k ∧ k ≠ D.b0) (hh : ∃ R2, Held w2 D.F D.c C' R2 ∧ D.R.To R2 D.w.heap.size ∧ ∀ k, D.X k ∨ k = D.b0 → ¬ R2.has k) : WrI D C' at_ v x w2 := by
  have hlt : ∀ k, k < D.w.heap.size → k < wx.heap.size := fun k hk => Nat.lt_of_lt_of_le hk h.off.size
  refine ⟨hh, h.off.trans ho (fun k e => ?_), h.opn.keep (ho.block _ (hlt _ hD.lo) (fun e => (hM _ e).2.1 (.inl rfl))), (ho.block _ (hlt _ hD.l0) (fun e => (hM _ e).2.2 rfl)).trans h.q0, (ho.block _ (hlt _ hD.la) (fun e => (hM _ e).2.1 (.inr (.inl rfl)))).trans h.qa, (ho.block _ (hlt _ hD.lb) (fun e => (hM _ e).2.1 (.inr (.inr rfl)))).trans h.qb, h.data.off ho (fun k hk e => ?_)⟩
  · rcases (hM k e).1 with e | e
    · exact .inl (.inl e)
    · exact .inr e
  · rcases (hM k e).1 with e | e
    · exact hk.1 e
    · have := hk.2.2; omega
theorem WrI.setX {D : WrD} {C : Ca} {at_ : Nat} {v u : Value} {x : Str} {wx : World} {b : Nat} (h : WrI D C at_ v x wx) (hb : b = D.ba ∨ b = D.bb) : (∃ R1, Held (wx.setCell ⟨b, 0, none⟩ u) D.F D.c C R1 ∧ D.R.To R1 D.w.heap.size ∧ ∀ k, D.X k ∨ k = D.b0 → ¬ R1.has k) ∧ Off (fun k => D.R.m k ∨ D.X k) D.w (wx.setCell ⟨b, 0, none⟩ u) ∧ Off (fun k => k = b) wx (wx.setCell ⟨b, 0, none⟩ u) := by
  have ho : Off (fun k => k = b) wx (wx.setCell ⟨b, 0, none⟩ u) := (Off.refl (fun k => k = b) wx).setCell (p := ⟨b, 0, none⟩) (.inl rfl) _
  have hx : D.X b := by rcases hb with e | e; exact .inr (.inl e); exact .inr (.inr e)
  obtain ⟨R1, h1, h2, h3⟩ := h.held
  refine ⟨⟨R1, h1.off ho (fun k hk e => h3 b (.inl hx) (e ▸ hk)), h2, h3⟩, h.off.trans ho (fun k e => .inl (.inr (e ▸ hx))), ho⟩
theorem WrI.setA {D : WrD} {C : Ca} {at_ : Nat} {v : Value} {x : Str} {wx : World} (h : WrI D C at_ v x wx) (hD : D.Ok) (n : Nat) : WrI D C n v x (wx.setCell ⟨D.ba, 0, none⟩ (.int .i64 n)) := by
  obtain ⟨h1, h2, ho⟩ := h.setX (u := .int .i64 n) (.inl rfl)
  have hlt : ∀ k, k < D.w.heap.size → k < wx.heap.size := fun k hk => Nat.lt_of_lt_of_le hk h.off.size
  refine ⟨h1, h2, h.opn.keep (ho.block _ (hlt _ hD.lo) hD.oa), (ho.block _ (hlt _ hD.l0) (fun e => hD.n0 (.inr (.inl e)))).trans h.q0, ?_, (ho.block _ (hlt _ hD.lb) (fun e => hD.ab e.symm)).trans h.qb, h.data.off ho (fun k hk e => hk.2.1 (.inr (.inl e)))⟩
  rw [heap_setCell_at _ _ _ _ h.qa]; rfl
theorem WrI.setB {D : WrD} {C : Ca} {at_ : Nat} {v v' : Value} {x x' : Str} {wx : World} (h : WrI D C at_ v x wx) (hD : D.Ok) (hd : BytesI wx D.J v' x') : WrI D C at_ v' x' (wx.setCell ⟨D.bb, 0, none⟩ v') := by
  obtain ⟨h1, h2, ho⟩ := h.setX (u := v') (.inr rfl)
  have hlt : ∀ k, k < D.w.heap.size → k < wx.heap.size := fun k hk => Nat.lt_of_lt_of_le hk h.off.size
  refine ⟨h1, h2, h.opn.keep (ho.block _ (hlt _ hD.lo) hD.ob), (ho.block _ (hlt _ hD.l0) (fun e => hD.n0 (.inr (.inr e)))).trans h.q0, (ho.block _ (hlt _ hD.la) hD.ab).trans h.qa, ?_, hd.off ho (fun k hk e => hk.2.1 (.inr (.inr e)))⟩
  rw [heap_setCell_at _ _ _ _ h.qb]; rfl
theorem layP_succ {o : Opn} {f at_ : Nat} {C C2 : Ca} {b : Str} (h : layP o f C at_ b = some C2) (hb : b ≠ []) (hf : b.length ≤ f) : ∃ f' C1, C.w (o.slot (at_ / 512)) (over (C.rd (o.slot (at_ / 512))) (at_ % 512) b) = some C1 ∧ layP o f' C1 (at_ + min (512 - at_ % 512) b.length) (b.drop (min (512 - at_ % 512) b.length)) = some C2 ∧ f = f' + 1 := by
  cases f with
  | zero => exact absurd (List.length_eq_zero_iff.1 (by omega)) hb
  | succ f =>
    unfold layP at h
    rw [if_neg hb] at h
    split at h
    · cases h
    · rename_i C1 h1; exact ⟨f, C1, h1, h, rfl⟩
theorem layP_nil {o : Opn} {f at_ : Nat} {C C2 : Ca} (h : layP o f C at_ [] = some C2) : C2 = C := by
  cases f with
  | zero => exact (Option.some.inj h).symm
  | succ f => unfold layP at h; rw [if_pos rfl] at h; exact (Option.some.inj h).symm
theorem off_drewN_setCells {g a q : Nat} {w : World} {x ys : Str} {S : Nat} (hB : Blk w g S x) (h : a + ys.length ≤ x.length) : Blk ((w.drewN q).setCells g a (ys.map fun y => Value.int .u8 y.toNat)) g S (laidAt x a ys) ∧ Off (fun k => k = g) w ((w.drewN q).setCells g a (ys.map fun y => Value.int .u8 y.toNat)) := by
  have hb : Blk (w.drewN q) g S x := hB.keep rfl
  obtain ⟨h1, h2⟩ := hb.cells a ys h
  exact ⟨h1, ((Off.refl (fun k => k = g) w).drewN q).then h2⟩
set_option maxRecDepth 100000 in
set_option maxHeartbeats 4000000 in
theorem write1_any (D : WrD) (hD : D.Ok) (m ino at_ : Nat) (v : Value) (x : Str) (o : Opn) (C C1 C2 C3 : Ca) (h : Held D.w D.F D.c C D.R) (hm : (m, mapO D.c ino) ∈ D.F) (hs : (D.s, storeO m) ∈ D.F) (hi : ino ≤ 512) (h8 : ino % 8 = 0) (hp : alFirst ino < C.G.pages)
    (q0 : D.w.heap[D.b0]? = some (.cells #[.pointer (some ⟨D.s, 0, none⟩)] 52 (0, 0))) (qo : OpnAt D.w D.bo o) (qa : D.w.heap[D.ba]? = some (.cells #[.int .i64 at_] 3 (0, 0))) (qb : D.w.heap[D.bb]? = some (.cells #[v] 37 (0, 0)))
    (hfr : ∀ k, D.X k ∨ k = D.b0 → ¬ D.R.has k) (hv : BytesI D.w D.J v x) (hsz : at_ + x.length ≤ 70656) (hos : o.size ≤ 70656)
    (hrs : resizeP ino (o, C) (max o.size (at_ + x.length)) = some (D.o1, C1)) (hly : layP D.o1 x.length C1 at_ x = some C2) (hsv : C2.save D.o1 = some C3) (hG1 : C1.G = C.G)
    (hsl : ∀ k, k < npg D.o1.size → D.o1.slot k < C.G.pages) (hoi : D.o1.i < ino) (hon : D.o1.ind < C.G.pages) (hol : D.o1.Len) (ho1 : D.o1.size = max o.size (at_ + x.length)) :
    Calls Tryz.prog 125 #[.pointer (some ⟨D.b0, 0, none⟩), .pointer (some ⟨D.bo, 0, none⟩), .pointer (some ⟨D.ba, 0, none⟩), .pointer (some ⟨D.bb, 0, none⟩)] D.w fun e w' => e = .returned (.tuple #[]) ∧ StepX D.w D.F D.c C3 D.R D.X w' := by
  obtain ⟨A0, c0, rfl, _, _⟩ := id hv
  have hbo : ¬ D.R.has D.bo := hfr _ (.inl (.inl rfl))
  obtain ⟨sz, hszE⟩ : ∃ sz, sz = max o.size (at_ + x.length) := ⟨_, rfl⟩
  have hszI : max ((o.size : Nat) : Int) ((at_ : Int) + (x.length : Int)) = (sz : Int) := by omega
  have hsz2 : sz ≤ 70656 := by omega
  rw [← hszE] at hrs ho1
  have hre := resize_any D.s m D.c ino D.bo sz o D.o1 C C1 D.R D.F D.w h hm hs hi (by unfold alFirst at hp; omega) qo hbo hos hsz2 hrs (fun h0 => hsl _ (by rw [ho1]; unfold npg; omega))
  have hstart : ∀ w1, OcI D.w D.F D.c D.R D.bo D.o1 C1 w1 → WrI D C1 at_ (.slice A0 x.length c0) x w1 := fun w1 ⟨R1, g1, t1, f1, o1, _⟩ => by
    have hnm : ∀ k, D.X k ∨ k = D.b0 → ¬ D.R.m k := fun k hk e => hfr k hk (.inl e)
    refine ⟨⟨R1, g1, t1, fun k hk => t1.free (hfr k hk) ?_⟩, f1.mono (fun k e => ?_), o1, ?_, ?_, ?_, ?_⟩
    · rcases hk with (e | e | e) | e <;> rw [e]
      · exact hD.lo
      · exact hD.la
      · exact hD.lb
      · exact hD.l0
    · rcases e with e | e
      · exact .inl (.inl e)
      · exact .inl (.inr (.inl e))
    · exact (f1.block _ hD.l0 (fun e => by rcases e with e | e; exact hnm _ (.inr rfl) e; exact hD.n0 (.inl e))).trans q0
    · exact (f1.block _ hD.la (fun e => by rcases e with e | e; exact hnm _ (.inl (.inr (.inl rfl))) e; exact hD.oa e.symm)).trans qa
    · exact (f1.block _ hD.lb (fun e => by rcases e with e | e; exact hnm _ (.inl (.inr (.inr rfl))) e; exact hD.ob e.symm)).trans qb
    · exact hv.off f1 (fun k hk e => by rcases e with e | e; exact hk.1 e; exact hk.2.1 (.inl e))
  have k0 : D.w.cell? ⟨D.b0, 0, none⟩ = some (.pointer (some ⟨D.s, 0, none⟩)) := cell_of_heap q0 0
  have k3 := qo.size
  have ka : D.w.cell? ⟨D.ba, 0, none⟩ = some (.int .i64 at_) := cell_of_heap qa 0
  have kb : D.w.cell? ⟨D.bb, 0, none⟩ = some (.slice A0 x.length c0) := cell_of_heap qb 0
  have hw1 : IntKind.i64.wrap ((at_ : Int) + (x.length : Int)) = (at_ : Int) + (x.length : Int) := IntWalk.i64_in _ (by omega)
  have HRe := Lib.hid hre
  have HSt := Lib.hid hstart
  have HM := Lib.hid hm
  have HS := Lib.hid hs
  have HLy := Lib.hid hly
  have HSv := Lib.hid hsv
  have HSl := Lib.hid hsl
  have HO1 := Lib.hid ho1
  have HSzE := Lib.hid hszE
  have HV := Lib.hid hv
  clear hre hstart hm hs hly hsv hsl ho1 hszE hv h q0 qo qa qb hrs hfr hbo
  go_enter Tryz.func125, Tryz.ntmps125
  go_wp2_with fail
  refine HRe.out.mono ?_
  rintro e w1 ⟨rfl, hI1⟩
  have HI1 := Lib.hid (HSt.out w1 hI1)
  clear hI1 k0 k3 ka kb hw1 hszI
  go_wp2_with fail
  go_loopg [] x.length (fun gg wx => ∃ (Ck : Ca) (ak f : Nat) (vk : Value) (xk : Str), gg = xk.length ∧ layP D.o1 f Ck ak xk = some C2 ∧ xk.length ≤ f ∧ ak + xk.length ≤ sz ∧ Ck.G = C.G ∧ WrI D Ck ak vk xk wx)
  case atStart => exact ⟨C1, at_, x.length, _, x, rfl, HLy.out, Nat.le_refl _, by rw [HSzE.out]; omega, hG1, HI1.out⟩
  case round =>
    obtain ⟨Ck, ak, f, vk, xk, hgg, hly, hf, hak, hG, hI⟩ := hrel
    obtain ⟨A, cp, rfl, ⟨hcp, _⟩, _⟩ := id hI.data
    have k0 : wr.cell? ⟨D.b0, 0, none⟩ = some (.pointer (some ⟨D.s, 0, none⟩)) := cell_of_heap hI.q0 0
    have ka : wr.cell? ⟨D.ba, 0, none⟩ = some (.int .i64 ak) := cell_of_heap hI.qa 0
    have kb : wr.cell? ⟨D.bb, 0, none⟩ = some (.slice A xk.length cp) := cell_of_heap hI.qb 0
    have HI := Lib.hid hI
    have HLy2 := Lib.hid hly
    clear hI hly HLy HI1
    by_cases hx0 : xk = []
    · have hlt' : decide ((0 : Int) < (xk.length : Int)) = false := by rw [hx0]; rfl
      have hlt2 : decide (0 < xk.length) = false := by rw [hx0]; rfl
      obtain rfl : C2 = Ck := by
        have h9 := HLy2.out
        rw [hx0] at h9
        exact layP_nil h9
      obtain ⟨R1, g1, t1, r1⟩ := HI.out.held
      have hsv := save_any D.s m D.c ino D.o1 C2 C3 R1 D.F wr g1 HM.out HS.out hi h8 (by rw [hG]; omega) hol hoi (by rw [hG]; exact hon) HSv.out
      have HSave := Lib.hid hsv
      have HT := Lib.hid (⟨t1, r1⟩ : D.R.To R1 D.w.heap.size ∧ _)
      clear hsv g1 t1 r1 hx0
      go_wp2_with (refine wpList_load_row rfl 171 _ rfl D.bo rfl 171 (cellsO D.o1).toArray (0, 0) _ HI.out.opn.1 Tryz.underlying171 rfl HI.out.opn.info ?_)
      refine HSave.out.mono ?_
      rintro e w2 ⟨rfl, R2, g2, t2, f2⟩
      have HFin : Hid (StepX D.w D.F D.c C3 D.R D.X w2) := Lib.hid ⟨R2, g2, HT.out.1.trans t2 HI.out.off.size, HI.out.off.trans f2 (fun k e => by
        rcases HT.out.1.m k e with e | e
        · exact .inl (.inl e)
        · exact .inr e)⟩
      clear g2 t2 f2
      go_wp2_with fail
      go_end0
      exact ⟨rfl, HFin.out⟩
    · have hpos := List.length_pos_iff.2 hx0
      have hlt' : decide ((0 : Int) < (xk.length : Int)) = true := by simp; omega
      have hlt2 : decide (0 < xk.length) = true := by simp; omega
      obtain ⟨f', C9, hw9, hly9, rfl⟩ := layP_succ HLy2.out hx0 hf
      obtain ⟨n, hn⟩ : ∃ n, n = D.o1.slot (ak / 512) := ⟨_, rfl⟩
      rw [← hn] at hw9
      have hknp : ak / 512 < npg D.o1.size := by rw [HO1.out]; unfold npg; omega
      have hnp : n < Ck.G.pages := by rw [hG, hn]; exact HSl.out _ hknp
      have hquo : ((ak : Nat) : Int).tdiv 512 = ((ak / 512 : Nat) : Int) := tdiv_nat ak 512
      obtain ⟨kq, hkq⟩ : ∃ q, q = ak / 512 := ⟨_, rfl⟩
      obtain ⟨a, ha⟩ : ∃ a, a = ak % 512 := ⟨_, rfl⟩
      rw [← hkq] at hquo hn
      have hrem : ((ak : Nat) : Int).tmod 512 = (a : Int) := by rw [ha]; exact tmod_nat ak 512
      have hrem2 : ((ak : Nat) : Int) % 512 = (a : Int) := by omega
      have hquo2 : ((ak : Nat) : Int) / 512 = (kq : Int) := by omega
      have ha5 : a < 512 := by omega
      have hk138 : kq < 138 := by
        have h9 := hknp
        rw [HO1.out] at h9
        unfold npg at h9
        omega
      rw [← ha] at hw9 hly9
      obtain ⟨R1, g1, t1, r1⟩ := HI.out.held
      have hslot := slot_any D.bo kq wr hk138
      have ksl := HI.out.opn.slot kq hk138
      rw [← hn] at ksl
      have ks : wr.cell? ⟨D.s, 0, none⟩ = some (.pointer (some ⟨m, 0, none⟩)) := cell_of_heap (g1.fix _ HS.out).1 0
      have hmc := mcache_any m D.c ino wr (g1.fix _ HM.out).1
      have hrd := hread_any n D.c Ck R1 D.F wr g1 hnp
      have hpl0 := g1.at_.rdlen hnp
      have HSlot := Lib.hid hslot
      have HMc := Lib.hid hmc
      have HRd := Lib.hid hrd
      have HPl0 := Lib.hid hpl0
      have HK := Lib.hid (⟨g1, t1, r1⟩ : Held wr D.F D.c Ck R1 ∧ D.R.To R1 D.w.heap.size ∧ ∀ k, D.X k ∨ k = D.b0 → ¬ R1.has k)
      have HW9 := Lib.hid hw9
      have HLy9 := Lib.hid hly9
      clear hslot hmc hrd g1 t1 r1 hw9 hly9 HLy2 hn hkq ha hknp hpl0
      go_wp2_with fail
      refine HSlot.out.mono ?_
      rintro e w1 ⟨rfl, rfl⟩
      go_wp2_with fail
      refine HMc.out.mono ?_
      rintro e w1 ⟨rfl, rfl⟩
      go_wp2_with fail
      refine HRd.out.mono ?_
      rintro e w2 ⟨v', rfl, hr⟩
      obtain ⟨page, hpage⟩ : ∃ page, page = Ck.rd n := ⟨_, rfl⟩
      have hpl : page.length = 512 := by rw [hpage]; exact HPl0.out
      rw [← hpage] at hr
      obtain ⟨R2, o3, g2, t2, f2, fr2⟩ := hr
      obtain ⟨g, cv, rfl, hgB, hblk, hcv⟩ := o3.blk (by intro e; rw [e] at hpl; cases hpl)
      rw [hpl] at hcv
      obtain ⟨g1, t1, r1⟩ := HK.out
      have hwr0 : D.w.heap.size ≤ wr.heap.size := HI.out.off.size
      have t12 := t1.trans t2 hwr0
      have hXlt : ∀ k, D.X k ∨ k = D.b0 → k < D.w.heap.size := fun k hk => by
        rcases hk with (e | e | e) | e <;> rw [e]
        · exact hD.lo
        · exact hD.la
        · exact hD.lb
        · exact hD.l0
      have r2 : ∀ k, D.X k ∨ k = D.b0 → ¬ R2.has k := fun k hk => t2.free (r1 k hk) (by have := hXlt k hk; omega)
      have hI2 : WrI D Ck ak (.slice A xk.length cp) xk w2 := HI.out.step hD f2 (fun k e => ⟨t1.m k e, fun hx => r1 k (.inl hx) (.inl e), fun hx => r1 k (.inr hx) (.inl e)⟩) ⟨R2, g2, t12, r2⟩
      -- the bytes that go over
      obtain ⟨mk, hmk⟩ : ∃ q, q = min (512 - a) xk.length := ⟨_, rfl⟩
      have hly9 := HLy9.out
      rw [← hmk] at hly9
      have hmk1 : 1 ≤ mk := by omega
      obtain ⟨gb, ob, rfl, ⟨hgb1, hgbJ⟩, hcells⟩ := hI2.data.slice hx0
      have htk : (xk.take mk).length = mk := by rw [List.length_take]; omega
      have hfit : a + (xk.take mk).length ≤ page.length := by rw [htk, hpl]; omega
      have hsrc : ∀ q j u, ((xk.take mk).map fun y => Value.int .u8 (UInt8.toNat y))[j]? = some u → (w2.drewN q).cell? ((⟨gb, ob, none⟩ : Addr).add j) = some u := by
        intro q j u hj
        rw [List.getElem?_map] at hj
        obtain ⟨z, hz, rfl⟩ := Option.map_eq_some_iff.1 hj
        have hz2 : xk[j]? = some z := by
          rw [List.getElem?_take] at hz
          split at hz
          · exact hz
          · cases hz
        have h9 := hcells j z hz2
        by_cases hj0 : j = 0
        · subst hj0; simpa [Addr.add] using h9
        · simpa [Addr.add, hj0] using h9
      have hcp9 : ∀ (q : Nat) (ty : TypeId), (Builtin.copy_ #[37, 37] ty #[.slice (some ⟨g, a, none⟩) (512 - a) (cv - a), .slice (some ⟨gb, ob, none⟩) xk.length cp]).run Tryz.prog (w2.drewN q) = .ok (.int .i64 mk) ((w2.drewN q).setCells g a ((xk.take mk).map fun y => Value.int .u8 (UInt8.toNat y))) := fun q ty => by
        have h9 := run_copy_cells (P := Tryz.prog) (w2.drewN q) 37 37 ty 5 g a (512 - a) (cv - a) ⟨gb, ob, none⟩ xk.length cp ((xk.take mk).map fun y => Value.int .u8 (UInt8.toNat y)) Tryz.underlying37 info_u8s (by rw [List.length_map, htk, hmk, Nat.min_comm]) (hsrc q)
          (fun j hj => by
            rw [List.length_map, htk] at hj
            show (w2.cell? _).isSome = true
            rw [hblk.cell (i := a + j) (List.getElem?_eq_getElem (by rw [hpl]; omega))]; rfl) (fun j hj => hblk.free _) (fun u hu => by
            obtain ⟨z, _, rfl⟩ := List.mem_map.1 hu
            rfl)
        rw [List.length_map, htk] at h9
        exact h9
      have hov : laidAt page a (xk.take mk) = over page a xk := by
        unfold over
        rw [hpl, hmk]
        congr 1
        by_cases e : 512 - a ≤ xk.length
        · rw [Nat.min_eq_left e]
        · rw [List.take_of_length_le (by omega), List.take_of_length_le (by omega)]
      have hovl : (over page a xk).length = 512 := by rw [← hov, laidAt_length hfit, hpl]
      have hnew : ∀ q, Blk ((w2.drewN q).setCells g a ((xk.take mk).map fun y => Value.int .u8 (UInt8.toNat y))) g cv (over page a xk) ∧ WrI D Ck ak (.slice (some ⟨gb, ob, none⟩) xk.length cp) xk ((w2.drewN q).setCells g a ((xk.take mk).map fun y => Value.int .u8 (UInt8.toNat y))) ∧ Calls Tryz.prog 129 #[.pointer (some ⟨D.s, 0, none⟩), .int .i64 n, .slice (some ⟨g, 0, none⟩) 512 cv] ((w2.drewN q).setCells g a ((xk.take mk).map fun y => Value.int .u8 (UInt8.toNat y))) fun e w' => e = .returned (.tuple #[]) ∧ WrI D C9 ak (.slice (some ⟨gb, ob, none⟩) xk.length cp) xk w' := fun q => by
        obtain ⟨b1, b2⟩ := off_drewN_setCells (q := q) hblk hfit
        rw [hov] at b1
        have g3 := g2.off b2 (fun k hk e => fr2 g rfl (e ▸ hk))
        have hI3 : WrI D Ck ak (.slice (some ⟨gb, ob, none⟩) xk.length cp) xk _ := hI2.step hD b2 (fun k e => ⟨.inr (by omega), fun hx => by have := hXlt k (.inl hx); omega, fun hx => by have := hXlt k (.inr hx); omega⟩) ⟨R2, g3, t12, r2⟩
        refine ⟨b1, hI3, ?_⟩
        have hby := b1.bytes (by rw [hovl]; decide)
        rw [hovl] at hby
        have hw9 := HW9.out
        rw [← hpage] at hw9
        refine (iwrite_any D.s m D.c ino n _ (over page a xk) Ck C9 R2 D.F _ g3 HM.out HS.out hnp hby hovl hw9).mono ?_
        rintro e w4 ⟨rfl, R4, g4, t4, f4⟩
        have hz3 : D.w.heap.size ≤ ((w2.drewN q).setCells g a ((xk.take mk).map fun y => Value.int .u8 (UInt8.toNat y))).heap.size := hI3.off.size
        exact ⟨rfl, hI3.step hD f4 (fun k e => ⟨t12.m k e, fun hx => r2 k (.inl hx) (.inl e), fun hx => r2 k (.inr hx) (.inl e)⟩) ⟨R4, g4, t12.trans t4 hz3, fun k hk => t4.free (r2 k hk) (by have := hXlt k hk; omega)⟩⟩
      obtain ⟨cs, hcs⟩ : ∃ cs, cs = (xk.take mk).map fun y => Value.int .u8 (UInt8.toNat y) := ⟨_, rfl⟩
      simp only [← hcs] at hnew hcp9
      have hmkl : mk ≤ xk.length := by omega
      clear hcs hmk
      have HNew := Lib.hid hnew
      have ka2 : w2.cell? ⟨D.ba, 0, none⟩ = some (.int .i64 ak) := cell_of_heap hI2.qa 0
      have kb2 : w2.cell? ⟨D.bb, 0, none⟩ = some (.slice (some ⟨gb, ob, none⟩) xk.length cp) := cell_of_heap hI2.qb 0
      have hcva : a ≤ cv := by omega
      have hcvn : ¬ cv = a := by omega
      have ha512 : a ≤ 512 := by omega
      clear hnew hov hovl hsrc hcells hI2 r2 t12 t1 r1 g1 o3 g2 t2 f2 fr2 hblk hpage
      rw [hpl]
      clear hpl
      have hcpd : (Builtin.copy_ #[37, 37] 3 #[.slice (some ⟨g, a, none⟩) (512 - a) (cv - a), .slice (some ⟨gb, ob, none⟩) xk.length cp]).run Tryz.prog w2.drew = .ok (.int .i64 mk) (w2.drew.setCells g a cs) := hcp9 1 _
      clear hcp9
      go_wp2_with fail
      go_cut [0, 1, 2, 3, 4, 5, 7] (fun t0 t1 t2 t3 t4 t5 t7 wx => t0 = .pointer (some ⟨D.b0, 0, none⟩) ∧ t1 = .pointer (some ⟨D.bo, 0, none⟩) ∧ t2 = .pointer (some ⟨D.ba, 0, none⟩) ∧ t3 = .pointer (some ⟨D.bb, 0, none⟩) ∧ t4 = .int .i64 n ∧ t5 = .slice (some ⟨g, 0, none⟩) 512 cv ∧ t7 = .int .i64 mk ∧ ∃ q, wx = (w2.drewN q).setCells g a cs)
      · go_region_with (fail)
        all_goals (go_wp2_with fail; go_meet; exact ⟨rfl, rfl, rfl, rfl, rfl, rfl, rfl, 1, rfl⟩)
      · obtain ⟨rfl, rfl, rfl, rfl, rfl, rfl, rfl, q, hwx⟩ := hcut
        obtain ⟨b1, hI3, hwr⟩ := HNew.out q
        rw [← hwx] at b1 hI3 hwr
        clear hwx hcpd HNew
        have k0c : wc.cell? ⟨D.b0, 0, none⟩ = some (.pointer (some ⟨D.s, 0, none⟩)) := cell_of_heap hI3.q0 0
        have HWr := Lib.hid hwr
        clear b1 hI3 hwr
        obtain ⟨an, han⟩ : ∃ an, an = ak + mk := ⟨_, rfl⟩
        have hw2 : IntKind.i64.wrap ((ak : Int) + (mk : Int)) = (an : Int) := by rw [IntWalk.i64_in _ (by omega)]; omega
        rw [← han] at hly9
        have HLyN := Lib.hid hly9
        have hfN : (xk.drop mk).length ≤ f' := by rw [List.length_drop]; omega
        have haN : an + (xk.drop mk).length ≤ sz := by rw [List.length_drop]; omega
        have HfN := Lib.hid hfN
        have HaN := Lib.hid haN
        have hGN : C9.G = C.G := by rw [Ca.w_G HW9.out]; exact hG
        have hmkc : mk ≤ cp := by omega
        clear hly9 han hfN haN
        go_wp2_with fail
        refine HWr.out.mono ?_
        rintro e w4 ⟨rfl, hI4⟩
        have ka4 : w4.cell? ⟨D.ba, 0, none⟩ = some (.int .i64 ak) := cell_of_heap hI4.qa 0
        have za4 : w4.frozen? ⟨D.ba, 0, none⟩ = false := free_of_heap hI4.qa 0
        have hI5 := hI4.setA hD an
        have kb5 : (w4.setCell ⟨D.ba, 0, none⟩ (.int .i64 an)).cell? ⟨D.bb, 0, none⟩ = some (.slice (some ⟨gb, ob, none⟩) xk.length cp) := cell_of_heap hI5.qb 0
        have zb5 : (w4.setCell ⟨D.ba, 0, none⟩ (.int .i64 an)).frozen? ⟨D.bb, 0, none⟩ = false := free_of_heap hI5.qb 0
        by_cases hcm : cp = mk
        · have hlm : xk.length = mk := by omega
          have hd0 : xk.drop mk = [] := List.drop_eq_nil_of_le (by omega)
          have hI6 := hI5.setB hD (v' := .slice (some ⟨gb, ob, none⟩) (xk.length - mk) 0) (x' := xk.drop mk) (by rw [hd0, show xk.length - mk = 0 from by omega]; exact BytesI.nil _ _ _ _)
          have HI6 := Lib.hid hI6
          have HD0 := Lib.hid hd0
          have HLm := Lib.hid hlm
          clear hI4 hI5 hI6 hd0 hlm
          go_wp2_with fail
          go_roundg (xk.length - mk)
          case measure => omega
          case rel => exact ⟨C9, an, f', _, xk.drop mk, by rw [List.length_drop], HLyN.out, HfN.out, HaN.out, hGN, HI6.out⟩
        · have hI6 := hI5.setB hD (hI5.data.drop hx0 hmkl hcp)
          have hcm2 : ¬ cp = mk := hcm
          have HI6 := Lib.hid hI6
          clear hI4 hI5 hI6
          go_wp2_with fail
          go_roundg (xk.length - mk)
          case measure => omega
          case rel => exact ⟨C9, an, f', _, xk.drop mk, by rw [List.length_drop], HLyN.out, HfN.out, HaN.out, hGN, HI6.out⟩
end Go.Proofs.YtakmplpfjcddiaaGreatDoor

namespace Go.Proofs.YtakmplpfjcddiaaGreatDoor
open Go.RowKit Go.Shelf Pa
attribute [local go_sem] bs_toList bs_size
/-- The first bytes of a list, then zeros. -/
def upZ (x : Str) (j n : Nat) : Str := x.take j ++ List.replicate (n - j) 0
theorem upZ_length {x : Str} {j n : Nat} (h1 : j ≤ x.length) (h2 : j ≤ n) : (upZ x j n).length = n := by unfold upZ; rw [List.length_append, List.length_take, List.length_replicate]; omega
theorem upZ_set {x : Str} {j n : Nat} (h1 : j < x.length) (h2 : j < n) {y : UInt8} (hy : x[j]? = some y) : (upZ x j n).set j y = upZ x (j + 1) n := by
  unfold upZ
  have hl : (x.take j).length = j := by rw [List.length_take]; omega
  rw [List.set_append_right _ _ (by omega), hl, Nat.sub_self, show n - j = (n - (j + 1)) + 1 from by omega, List.replicate_succ, List.set_cons_zero, List.take_add_one, hy, List.append_assoc]; rfl
theorem superB_get (P I : Nat) (i k : Nat) (hi : i < 2) (hk : k < 4) : (superB P I)[4 + 4 * i + k]? = some (UInt8.ofNat ((if i = 0 then P else I) / 2 ^ (8 * (3 - k)))) := by
  have h4 : ([68, 85, 78, 49] : Str).length = 4 := rfl
  unfold superB
  rcases (by omega : i = 0 ∨ i = 1) with rfl | rfl
  · rw [List.getElem?_append_left (by simp only [List.length_append, putN_length, h4]; omega), List.getElem?_append_left (by simp only [List.length_append, putN_length, h4]; omega), List.getElem?_append_right (by rw [h4]; omega), h4, show 4 + 4 * 0 + k - 4 = k from by omega, putN_getElem? 4 P k hk, if_pos rfl]
  · rw [List.getElem?_append_left (by simp only [List.length_append, putN_length, h4]; omega), List.getElem?_append_right (by simp only [List.length_append, putN_length, h4]; omega)]
    simp only [List.length_append, putN_length, h4]
    rw [show 4 + 4 * 1 + k - (4 + 4) = k from by omega, putN_getElem? 4 I k hk, if_neg (by decide)]
theorem superB_end (P I : Nat) : upZ (superB P I) 12 512 = superB P I := by
  unfold upZ
  have h : (superB P I).take 12 = [68, 85, 78, 49] ++ putN 4 P ++ putN 4 I := by
    unfold superB
    rw [List.take_left' (by simp only [List.length_append, putN_length]; rfl)]
  rw [h]; rfl
theorem blk_zero (w : World) (n : Nat) (hn : n ≤ 1000000) : Blk (w.alloc (.cells (madeCells #[.int .u8 0] n) 5)) w.heap.size n (List.replicate n 0) := by
  refine ⟨_, heap_alloc_new _ _, by simp [size_madeCells], ⟨by rw [List.length_replicate]; exact Nat.le_refl _, by unfold maxLen; omega⟩, fun i y hy => ?_⟩
  have hi : i < n := by have := (List.getElem?_eq_some_iff.1 hy).1; rwa [List.length_replicate] at this
  rw [List.getElem?_replicate, if_pos hi] at hy
  cases hy
  simp [madeCells, hi, Nat.mod_one]
set_option maxRecDepth 100000 in
set_option maxHeartbeats 4000000 in
theorem super_any (P I : Nat) (w : World) (hP : P < 4294967296) (hI : I < 4294967296) :
    Calls Tryz.prog 171 #[.int .i64 P, .int .i64 I] w fun e w' => ∃ g, e = .returned (.slice (some ⟨g, 0, none⟩) 512 512) ∧ w.heap.size ≤ g ∧ Blk w' g 512 (superB P I) ∧ Below w.heap.size w w' := by
  have hms : ∀ w1, (Instr.makeSlice 37 (.int .i64 512) (.int .i64 512)).run Tryz.prog w1 = .ok (.slice (some ⟨w1.heap.size, 0, none⟩) 512 512) (w1.alloc (.cells (madeCells #[.int .u8 0] 512) 5)) := run_make_row' (P := Tryz.prog) 37 5 (.int .u8 0) 1 Tryz.underlying37 info_u8 rfl .i64 .i64 512 (by omega) (by omega)
  obtain ⟨W1, hW1⟩ : ∃ W1, W1 = w.alloc (.cells (madeCells #[.int .u8 0] 512) 5) := ⟨_, rfl⟩
  have hB1 := blk_zero w 512 (by omega)
  rw [← hW1] at hB1
  have hb1 : Below w.heap.size w W1 := by rw [hW1]; exact (Below.refl _ _).alloc (Nat.le_refl _) _
  have hcp : ∀ ty, (Builtin.copy_ #[37, 9] ty #[.slice (some ⟨w.heap.size, 0, none⟩) 512 512, .string ⟨#[68, 85, 78, 49]⟩]).run Tryz.prog W1 = .ok (.int .i64 4) (W1.setCells w.heap.size 0 (([68, 85, 78, 49] : Str).map fun x => Value.int .u8 (UInt8.toNat x))) := fun ty =>
    run_copy_string (P := Tryz.prog) W1 37 9 ty 5 w.heap.size 0 512 512 ⟨#[68, 85, 78, 49]⟩ Tryz.underlying37 (fun w => by kernel_rfl) (by decide)
      (fun j hj => by
        have hj4 : j < 4 := hj
        rw [Nat.zero_add, hB1.cell (i := j) (by rw [List.getElem?_replicate, if_pos (by omega)])]; rfl) (fun j hj => hB1.free _)
  obtain ⟨hB2, ho2⟩ := hB1.cells 0 [68, 85, 78, 49] (by simp)
  have hst2 : laidAt (List.replicate 512 0) 0 [68, 85, 78, 49] = upZ (superB P I) 4 512 := by
    unfold laidAt upZ
    rw [show (superB P I).take 4 = [68, 85, 78, 49] from rfl]
    simp
  rw [hst2] at hB2
  obtain ⟨W2, hW2⟩ : ∃ W2, W2 = W1.setCells w.heap.size 0 (([68, 85, 78, 49] : Str).map fun x => Value.int .u8 (UInt8.toNat x)) := ⟨_, rfl⟩
  rw [← hW2] at hB2 ho2
  simp only [← hW2] at hcp
  have hb2 : Below w.heap.size w W2 := (Off.of_below hb1 (fun k => k = w.heap.size)).then ho2 |>.below (Nat.le_refl _) (fun k e => by omega)
  have hcpi := hcp 3
  have hms2 := hms w
  rw [← hW1] at hms2
  have HB2 := Lib.hid hB2
  have HBw := Lib.hid hb2
  clear hms hW1 hW2 hB1 hb1 hB2 ho2 hst2 hb2 hcp
  go_enter Tryz.func171, Tryz.ntmps171
  go_wp2_with fail
  obtain ⟨W3, hW3⟩ : ∃ W3, W3 = W2.alloc (.cells #[.int .i64 P, .int .i64 I] 3) := ⟨_, rfl⟩
  rw [← hW3]
  have hz2 := HB2.out.lt
  have harr : W3.heap[W2.heap.size]? = some (.cells #[.int .i64 P, .int .i64 I] 3 (0, 0)) := by rw [hW3]; exact heap_alloc_new _ _
  have hb23 : Below W2.heap.size W2 W3 := by rw [hW3]; exact (Below.refl _ _).alloc (Nat.le_refl _) _
  have hB3 := HB2.out.below hb23 hz2
  have hb3 := HBw.out.trans (hb23.mono HBw.out.size)
  have hnext : ∀ (wx : World) (i k : Nat), i < 2 → k < 4 → Blk wx w.heap.size 512 (upZ (superB P I) (4 + 4 * i + k) 512) → wx.heap[W2.heap.size]? = some (.cells #[.int .i64 P, .int .i64 I] 3 (0, 0)) → Below w.heap.size w wx →
      (∃ y, wx.cell? ⟨w.heap.size, 4 + 4 * i + k, none⟩ = some (.int .u8 (UInt8.toNat y))) ∧ wx.frozen? ⟨w.heap.size, 4 + 4 * i + k, none⟩ = false ∧ ∀ z : Int, z = (((if i = 0 then P else I) / 2 ^ (8 * (3 - k)) % 256 : Nat) : Int) →
        Blk (wx.setCell ⟨w.heap.size, 4 + 4 * i + k, none⟩ (.int .u8 z)) w.heap.size 512 (upZ (superB P I) (4 + 4 * i + (k + 1)) 512) ∧ (wx.setCell ⟨w.heap.size, 4 + 4 * i + k, none⟩ (.int .u8 z)).heap[W2.heap.size]? = some (.cells #[.int .i64 P, .int .i64 I] 3 (0, 0)) ∧ Below w.heap.size w (wx.setCell ⟨w.heap.size, 4 + 4 * i + k, none⟩ (.int .u8 z)) := by
    intro wx i k hi hk h1 h2 h3
    have hl := superB_length P I
    have hul : (upZ (superB P I) (4 + 4 * i + k) 512).length = 512 := upZ_length (by omega) (by omega)
    refine ⟨⟨_, h1.cell (List.getElem?_eq_getElem (by rw [hul]; omega))⟩, h1.free _, fun z hz => ?_⟩
    have hy := superB_get P I i k hi hk
    have hs := h1.set (4 + 4 * i + k) (UInt8.ofNat ((if i = 0 then P else I) / 2 ^ (8 * (3 - k)))) (by rw [hul]; omega)
    rw [upZ_set (by rw [hl]; omega) (by omega) hy, UInt8.toNat_ofNat', show (2 : Nat) ^ 8 = 256 from rfl, ← hz] at hs
    exact ⟨hs, (Below.heap_setCell _ _ _ _ (by show W2.heap.size ≠ w.heap.size; omega)).trans h2, h3.setCell (p := ⟨w.heap.size, 4 + 4 * i + k, none⟩) (Nat.le_refl _) _⟩
  have HNx := Lib.hid hnext
  have H3 := Lib.hid (⟨hB3, harr, hb3⟩ : Blk W3 w.heap.size 512 (upZ (superB P I) 4 512) ∧ _ ∧ Below w.heap.size w W3)
  clear hnext hB3 harr hb3 hb23 hW3 hcpi hms2
  go_loopg [16] 2 (fun gg u wx => ∃ i : Nat, u = .int .i64 i ∧ gg = 2 - i ∧ i ≤ 2 ∧ Blk wx w.heap.size 512 (upZ (superB P I) (4 + 4 * i) 512) ∧ wx.heap[W2.heap.size]? = some (.cells #[.int .i64 P, .int .i64 I] 3 (0, 0)) ∧ Below w.heap.size w wx)
  case atStart => exact ⟨0, rfl, rfl, by omega, H3.out⟩
  case round =>
    obtain ⟨i, rfl, rfl, hi, h1, h2, h3⟩ := hrel
    have HI := Lib.hid (⟨h1, h2, h3⟩ : _ ∧ _ ∧ _)
    clear h1 h2 h3
    rcases (by omega : i = 0 ∨ i = 1 ∨ i = 2) with rfl | rfl | rfl
    · have hc := cell_of_heap HI.out.2.1 0
      have hc0 : wr.cell? ⟨W2.heap.size, 0, none⟩ = some (.int .i64 P) := hc
      clear hc
      go_wp2_with fail
      go_loopg [21] 4 (fun gg u wx => ∃ k : Nat, u = .int .i64 k ∧ gg = 4 - k ∧ k ≤ 4 ∧ Blk wx w.heap.size 512 (upZ (superB P I) (4 + 4 * 0 + k) 512) ∧ wx.heap[W2.heap.size]? = some (.cells #[.int .i64 P, .int .i64 I] 3 (0, 0)) ∧ Below w.heap.size w wx)
      case atStart => exact ⟨0, rfl, rfl, by omega, HI.out⟩
      case round =>
        obtain ⟨k, rfl, rfl, hk, h1, h2, h3⟩ := hrel
        by_cases hk4 : k < 4
        · obtain ⟨⟨y, e1⟩, e2, e3⟩ := HNx.out wr 0 k (by omega) hk4 h1 h2 h3
          have HE := Lib.hid e3
          clear e3 h1 h2 h3
          rcases (by omega : k = 0 ∨ k = 1 ∨ k = 2 ∨ k = 3) with rfl | rfl | rfl | rfl <;> simp only [Nat.reduceMul, Nat.reduceAdd] at e1 e2 <;> go_wp2_with fail
          · go_roundg 3
            case measure => omega
            case rel => exact ⟨1, rfl, rfl, by omega, HE.out _ (by simp; try omega)⟩
          · go_roundg 2
            case measure => omega
            case rel => exact ⟨2, rfl, rfl, by omega, HE.out _ (by simp; try omega)⟩
          · go_roundg 1
            case measure => omega
            case rel => exact ⟨3, rfl, rfl, by omega, HE.out _ (by simp; try omega)⟩
          · go_roundg 0
            case measure => omega
            case rel => exact ⟨4, rfl, rfl, by omega, HE.out _ (by simp; try omega)⟩
        · obtain rfl : k = 4 := by omega
          have HF := Lib.hid (⟨h1, h2, h3⟩ : _ ∧ _ ∧ _)
          clear h1 h2 h3
          go_wp2_with fail
          go_roundg 1
          case measure => omega
          case rel => exact ⟨1, rfl, rfl, by omega, HF.out⟩
    · have hc := cell_of_heap HI.out.2.1 1
      have hc0 : wr.cell? ⟨W2.heap.size, 1, none⟩ = some (.int .i64 I) := hc
      clear hc
      go_wp2_with fail
      go_loopg [21] 4 (fun gg u wx => ∃ k : Nat, u = .int .i64 k ∧ gg = 4 - k ∧ k ≤ 4 ∧ Blk wx w.heap.size 512 (upZ (superB P I) (4 + 4 * 1 + k) 512) ∧ wx.heap[W2.heap.size]? = some (.cells #[.int .i64 P, .int .i64 I] 3 (0, 0)) ∧ Below w.heap.size w wx)
      case atStart => exact ⟨0, rfl, rfl, by omega, HI.out⟩
      case round =>
        obtain ⟨k, rfl, rfl, hk, h1, h2, h3⟩ := hrel
        by_cases hk4 : k < 4
        · obtain ⟨⟨y, e1⟩, e2, e3⟩ := HNx.out wr 1 k (by omega) hk4 h1 h2 h3
          have HE := Lib.hid e3
          clear e3 h1 h2 h3
          rcases (by omega : k = 0 ∨ k = 1 ∨ k = 2 ∨ k = 3) with rfl | rfl | rfl | rfl <;> simp only [Nat.reduceMul, Nat.reduceAdd] at e1 e2 <;> go_wp2_with fail
          · go_roundg 3
            case measure => omega
            case rel => exact ⟨1, rfl, rfl, by omega, HE.out _ (by simp; try omega)⟩
          · go_roundg 2
            case measure => omega
            case rel => exact ⟨2, rfl, rfl, by omega, HE.out _ (by simp; try omega)⟩
          · go_roundg 1
            case measure => omega
            case rel => exact ⟨3, rfl, rfl, by omega, HE.out _ (by simp; try omega)⟩
          · go_roundg 0
            case measure => omega
            case rel => exact ⟨4, rfl, rfl, by omega, HE.out _ (by simp; try omega)⟩
        · obtain rfl : k = 4 := by omega
          have HF := Lib.hid (⟨h1, h2, h3⟩ : _ ∧ _ ∧ _)
          clear h1 h2 h3
          go_wp2_with fail
          go_roundg 0
          case measure => omega
          case rel => exact ⟨2, rfl, rfl, by omega, HF.out⟩
    · have hB9 : Blk wr w.heap.size 512 (superB P I) := by rw [← superB_end]; exact HI.out.1
      have HF := Lib.hid (⟨hB9, HI.out.2.2⟩ : _ ∧ _)
      clear hB9
      go_wp2_with fail
      go_ret
      exact ⟨_, rfl, Nat.le_refl _, HF.out⟩
end Go.Proofs.YtakmplpfjcddiaaGreatDoor

namespace Go.Proofs.YtakmplpfjcddiaaGreatDoor
open Go.RowKit Go.Shelf Pa Go.Maps
attribute [local go_sem] bs_toList bs_size
/-- A row of one's own: a slice of one-celled elements in a block at or above B. -/
def OwnL (w : World) (B : Nat) (e : TypeId) (v : Value) (vs : List Value) : Prop := w.ownsRow B e 1 v vs.length vs
theorem OwnL.block {w : World} {B : Nat} {e : TypeId} {v : Value} {vs : List Value} (h : OwnL w B e v vs) {k : Nat} (hk : v.ownBlock = some k) : B ≤ k ∧ k < w.heap.size := World.ownsRow.lt h k hk
theorem OwnL.off {w w' : World} {B : Nat} {e : TypeId} {v : Value} {vs : List Value} {M : Nat → Prop} (h : OwnL w B e v vs) (ho : Off M w w') (hm : ∀ k, v.ownBlock = some k → ¬ M k) : OwnL w' B e v vs := by
  obtain ⟨h1, h⟩ := id h
  refine ⟨h1, ?_⟩
  rcases h with hn | ⟨g, cap, cur, rfl, hB, hg, hr⟩
  · exact .inl hn
  · refine .inr ⟨g, cap, cur, rfl, hB, ?_, hr⟩
    rw [ho.block g (Array.getElem?_eq_some_iff.1 hg).1 (hm g rfl)]
    exact hg
theorem OwnL.below {w w' : World} {B : Nat} {e : TypeId} {v : Value} {vs : List Value} (h : OwnL w B e v vs) (hb : Below w.heap.size w w') : OwnL w' B e v vs := h.off (Off.of_below hb (fun _ => False)) (fun _ _ e => e)
theorem OwnL.nil (w : World) (B : Nat) (e : TypeId) : OwnL w B e (.slice none 0 0) [] := World.ownsRow_nil _ _ _ _
theorem OwnL.at {w : World} {B : Nat} {e : TypeId} {v : Value} {vs : List Value} (h : OwnL w B e v vs) (h0 : vs ≠ []) : ∃ g c, v = .slice (some ⟨g, 0, none⟩) vs.length c ∧ B ≤ g ∧ g < w.heap.size ∧ vs.length ≤ c ∧ (∀ i x, vs[i]? = some x → w.cell? ⟨g, i, none⟩ = some x) ∧ ∀ i, w.frozen? ⟨g, i, none⟩ = false := by
  obtain ⟨h1, h⟩ := h
  rcases h with ⟨_, h2⟩ | ⟨g, cap, cur, rfl, hB, hg, hc, hm, hs, ht⟩
  · exact absurd (List.length_eq_zero_iff.1 h2) h0
  · refine ⟨g, cap, rfl, hB, (Array.getElem?_eq_some_iff.1 hg).1, hc, fun i x hx => ?_, fun i => free_of_heap hg i⟩
    have hi : i < vs.length := (List.getElem?_eq_some_iff.1 hx).1
    rw [cell_of_heap hg, ← Array.getElem?_toList, ← List.getElem?_take_of_lt (show i < vs.length * 1 by omega), ht]
    exact hx
theorem OwnL.nats {w : World} {B : Nat} {v : Value} {l : List Nat} (h : OwnL w B 3 v (l.map fun n => Value.int .i64 (n : Nat))) : NatsI w (fun k => v.ownBlock = some k) v l := by
  by_cases h0 : l = []
  · subst h0
    obtain ⟨h1, h⟩ := h
    rcases h with ⟨rfl, h2⟩ | ⟨g, cap, cur, rfl, _⟩
    · exact ⟨none, 0, rfl, Nat.le_refl _, fun e => absurd rfl e⟩
    · exact ⟨_, cap, rfl, Nat.zero_le _, fun e => absurd rfl e⟩
  · obtain ⟨g, c, rfl, _, hg, hc, hcell, _⟩ := h.at (by simpa using h0)
    rw [List.length_map] at hc ⊢
    refine ⟨_, c, rfl, hc, fun _ => ⟨g, 0, rfl, ⟨hg, by simp [Value.ownBlock]⟩, fun i x hx => ?_⟩⟩
    rw [Nat.zero_add]
    exact hcell i _ (by rw [List.getElem?_map, hx]; rfl)
set_option maxRecDepth 100000 in
set_option maxHeartbeats 2000000 in
theorem numbers_any (n : Nat) (w : World) (hn : n ≤ 10000) :
    Calls Tryz.prog 175 #[.int .i64 n] w fun e w' => ∃ v, e = .returned v ∧ OwnL w' w.heap.size 3 v ((List.range n).map fun k => Value.int .i64 (k : Nat)) ∧ Below w.heap.size w w' := by
  obtain ⟨i0, hi0, hz0, hz1, hz2⟩ := info_parts info_int
  go_enter Tryz.func175, Tryz.ntmps175
  go_wp2_with fail
  go_loopg [3, 6] n (fun gg u i wx => ∃ k : Nat, i = .int .i64 k ∧ gg = n - k ∧ k ≤ n ∧ OwnL wx w.heap.size 3 u ((List.range k).map fun k => Value.int .i64 (k : Nat)) ∧ Below w.heap.size w wx)
  case atStart => exact ⟨0, rfl, rfl, Nat.zero_le _, OwnL.nil _ _ _, Below.refl _ _⟩
  case round =>
    obtain ⟨k, rfl, rfl, hk, hO, hb⟩ := hrel
    by_cases hlt : k < n
    · have hlt' : decide ((k : Int) < (n : Int)) = true := by simp; omega
      have hown1 := World.ownsRow.alloc hO (.cells #[.int .i64 k] 3)
      have hkl : ((List.range k).map fun k => Value.int .i64 (k : Nat)).length = k := by simp
      rw [hkl] at hown1
      have hkm : k + 1 ≤ maxLen := by unfold maxLen; omega
      have hkb : (k + 1) * 8 ≤ 140737488355328 := by omega
      have hbs := hb.size
      have hbase : w.heap.size ≤ (wr.alloc (.cells #[.int .i64 k] 3)).heap.size := by simp; omega
      have hstep : ∀ v' w6, w6.ownsRow w.heap.size 3 1 v' (k + 1) (((List.range k).map fun k => Value.int .i64 (k : Nat)) ++ [.int .i64 k]) → (wr.alloc (.cells #[.int .i64 k] 3)).grownBy w6 u3.ownBlock → OwnL w6 w.heap.size 3 v' ((List.range (k + 1)).map fun k => Value.int .i64 (k : Nat)) ∧ Below w.heap.size w w6 := fun v' w6 h1 h2 => by
        refine ⟨?_, (hb.alloc hbs _).grown h2 (by simp; omega) (fun j e => (hO.block e).1)⟩
        unfold OwnL
        rw [List.range_succ, List.map_append, List.length_append, hkl]
        exact h1
      have HOwn := Lib.hid hown1
      have HStep := Lib.hid hstep
      clear hown1 hstep hO hb hkl
      go_wp2_with (at_builtin; refine wpList_append_own_at _ rfl _ _ 82 rfl w.heap.size 3 i0 (.int .i64 0) 1 8 Tryz.underlying82 hi0 hz0 hz1 hz2 rfl (by decide) u3 _ _ rfl HOwn.out ⟨wr.heap.size, 0, none⟩ 1 1 [.int .i64 (k : Nat)] rfl rfl (cell_one_new _ _ _) (by intro u hu; simp at hu; subst hu; rfl) hkm hkb hbase ?_; intro v' w6 hown' hgrow hnil hloc; have hS6 := HStep.out v' w6 hown' hgrow; have HS6 := Lib.hid hS6; clear hown' hgrow hnil hloc hS6)
      go_roundg (n - (k + 1))
      case measure => omega
      case rel => exact ⟨k + 1, by go_num, rfl, hlt, HS6.out⟩
    · have hlt' : decide ((k : Int) < (n : Int)) = false := by simp; omega
      obtain rfl : k = n := by omega
      have HF := Lib.hid (⟨hO, hb⟩ : _ ∧ _)
      clear hO hb
      go_wp2_with fail
      go_ret
      exact ⟨_, rfl, HF.out⟩
end Go.Proofs.YtakmplpfjcddiaaGreatDoor

namespace Go.Proofs.YtakmplpfjcddiaaGreatDoor
open Go.RowKit Go.Shelf Pa
attribute [local go_sem] bs_toList bs_size
theorem alloc3 (w : World) (o0 o1 o2 : Obj) : (((w.alloc o0).alloc o1).alloc o2).heap[w.heap.size]? = some o0 ∧ (((w.alloc o0).alloc o1).alloc o2).heap[w.heap.size + 1]? = some o1 ∧
    (((w.alloc o0).alloc o1).alloc o2).heap[w.heap.size + 1 + 1]? = some o2 ∧ (((w.alloc o0).alloc o1).alloc o2).heap.size = w.heap.size + 1 + 1 + 1 := by
  have s1 : (w.alloc o0).heap.size = w.heap.size + 1 := World.size_alloc _ _
  have s2 : ((w.alloc o0).alloc o1).heap.size = w.heap.size + 1 + 1 := by rw [World.size_alloc, s1]
  refine ⟨?_, ?_, alloc_at _ _ _ s2.symm, by rw [World.size_alloc, s2]⟩
  · rw [alloc_old _ _ _ (by omega), alloc_old _ _ _ (by omega)]; exact alloc_at _ _ _ rfl
  · rw [alloc_old _ _ _ (by omega)]; exact alloc_at _ _ _ s1.symm
/-- Behind load: the inode lies in a new box; two boxes more are laid for try. -/
structure OpenedI (w W0 : World) (F : List (Nat × Obj)) (c : Nat) (C : Ca) (R : Reg) (s : Nat) (o : Opn) (w1 : World) (W3 : World) (W5 : World) (R1 : Reg) : Prop where
  held : Held W5 F c C R1
  tw : R.To R1 w.heap.size
  off : Off R.m w W5
  opn : OpnAt W5 w1.heap.size o
  old : ∀ k, w.heap.size ≤ k → k < W0.heap.size → W5.heap[k]? = W0.heap[k]? ∧ ¬ R1.has k
  new : ¬ R1.has w1.heap.size ∧ W0.heap.size ≤ w1.heap.size ∧ W3.heap.size = w1.heap.size + 1 ∧ W5.heap.size = W3.heap.size + 1 + 1
  err : W5.heap[W3.heap.size + 1]? = some (.cells #[.int .i64 0] 27 (0, 0)) ∧ ¬ R1.has (W3.heap.size + 1)
  old3 : ∀ k, w.heap.size ≤ k → k < W0.heap.size → W3.heap[k]? = W0.heap[k]?
theorem opened_i {w W0 w1 : World} {F : List (Nat × Obj)} {c : Nat} {C : Ca} {R R1 : Reg} {o : Opn} (s : Nat) (h : Held w F c C R) (hb : Below w.heap.size w W0) (g1 : Held w1 F c C R1) (t1 : R.To R1 W0.heap.size) (o1 : Off R.m W0 w1) (hl : o.Len) :
    OpenedI w W0 F c C R s o w1 ((w1.alloc (.cells Tryz.zeroCells171 171)).setRow w1.heap.size (cellsO o).toArray) ((((w1.alloc (.cells Tryz.zeroCells171 171)).setRow w1.heap.size (cellsO o).toArray).alloc (.cells #[.pointer (some ⟨s, 0, none⟩)] 52)).alloc (.cells #[.int .i64 0] 27)) R1 := by
  obtain ⟨W3, hW3⟩ : ∃ W3, W3 = (w1.alloc (.cells Tryz.zeroCells171 171)).setRow w1.heap.size (cellsO o).toArray := ⟨_, rfl⟩
  rw [← hW3]
  have hO3 : OpnAt W3 w1.heap.size o := by rw [hW3]; exact (opn_new w1).row o hl
  have hz3 : W3.heap.size = w1.heap.size + 1 := by rw [hW3]; simp [World.setRow, World.size_alloc]
  have ho3 : Off (fun k => k = w1.heap.size) w1 W3 := by
    rw [hW3]
    exact ((Off.refl (fun k => k = w1.heap.size) w1).alloc _).trans (off_setRow _ _ _) (fun k e => .inl e)
  obtain ⟨W5, hW5⟩ : ∃ W5, W5 = (W3.alloc (.cells #[.pointer (some ⟨s, 0, none⟩)] 52)).alloc (.cells #[.int .i64 0] 27) := ⟨_, rfl⟩
  rw [← hW5]
  have hb35 : Below W3.heap.size W3 W5 := by rw [hW5]; exact ((Below.refl _ _).alloc (Nat.le_refl _) _).alloc (by simp) _
  have hz5 : W5.heap.size = W3.heap.size + 1 + 1 := by rw [hW5, World.size_alloc, World.size_alloc]
  have hw0 := hb.size
  have hw1 := o1.size
  have ho13 : Off (fun k => k = w1.heap.size) w1 W5 := ho3.step hb35
  have hfr : ∀ k, w.heap.size ≤ k → k < W0.heap.size → ¬ R1.has k := fun k hk hk2 => t1.free (fun e => by have := h.lt k e; omega) hk2
  have hn1 : ∀ k, w1.heap.size ≤ k → ¬ R1.has k := fun k hk e => by have := g1.lt k e; omega
  have hR : ∀ k, w.heap.size ≤ k → ¬ R.has k := fun k hk e => by have := h.lt k e; omega
  refine ⟨g1.off ho13 (fun k hk e => hn1 k (Nat.le_of_eq e.symm) hk), ⟨fun k hk => (t1.m k hk).imp id (by omega), fun k hk => (t1.i k hk).imp id (by omega)⟩, ((Off.of_below hb R.m).then o1).trans ho13 (fun k e => .inr (by omega)), hO3.keep (hb35.block _ (by omega)), fun k h1 h2 => ⟨?_, hfr k h1 h2⟩, ⟨hn1 _ (Nat.le_refl _), hw1, hz3, hz5⟩, ⟨by rw [hW5]; exact alloc_at _ _ _ (World.size_alloc _ _).symm, hn1 _ (by omega)⟩, fun k h1 h2 => ?_⟩
  · rw [ho13.block k (by omega) (by omega)]; exact o1.block k h2 (fun e => hR k h1 (.inl e))
  · rw [ho3.block k (by omega) (by omega)]; exact o1.block k h2 (fun e => hR k h1 (.inl e))
set_option maxRecDepth 100000 in
set_option maxHeartbeats 4000000 in
theorem iwr_any (s m c ino i at_ : Nat) (v : Value) (x : Str) (o o1 : Opn) (C C1 C2 C3 : Ca) (R : Reg) (F : List (Nat × Obj)) (w : World) (h : Held w F c C R) (hm : (m, mapO c ino) ∈ F) (hs : (s, storeO m) ∈ F) (hi : ino ≤ 512) (h8 : ino % 8 = 0) (hp : alFirst ino < C.G.pages)
    (hvv : ∀ j, 1 ≤ j → j < ino → bitAt (C.rd 1) j = true → (C.recd j).ind < C.G.pages) (hlo : C.loadR ino i = (o, 0)) (hlen : o.Len) (hv : BytesI w (fun k => ¬ R.m k) v x) (hx : x ≠ []) (hsz : at_ + x.length ≤ 70656) (hos : o.size ≤ 70656)
    (hrs : resizeP ino (o, C) (max o.size (at_ + x.length)) = some (o1, C1)) (hly : layP o1 x.length C1 at_ x = some C2) (hsv : C2.save o1 = some C3) (hG1 : C1.G = C.G)
    (hsl : ∀ k, k < npg o1.size → o1.slot k < C.G.pages) (hoi : o1.i < ino) (hon : o1.ind < C.G.pages) (hol : o1.Len) (ho1 : o1.size = max o.size (at_ + x.length)) :
    Calls Tryz.prog 63 #[.pointer (some ⟨s, 0, none⟩), .int .i64 i, .int .i64 at_, v] w fun e w' => e = .returned (.int .i64 0) ∧ Step w F c C3 R w' := by
  have hmf : ∀ (fn : Fn) (first cap : Array Value) (w : World), (Instr.makeFunc fn first cap).run Tryz.prog w = .ok (.func fn first cap) w := fun _ _ _ _ => rfl
  obtain ⟨A0, c0, rfl, _, _⟩ := id hv
  obtain ⟨p0, p1, p2, z0⟩ := alloc3 w (.cells #[.pointer (some ⟨s, 0, none⟩)] 52) (.cells #[.int .i64 at_] 3) (.cells #[.slice A0 x.length c0] 37)
  obtain ⟨W0, hW0⟩ : ∃ W0, W0 = (((w.alloc (.cells #[.pointer (some ⟨s, 0, none⟩)] 52)).alloc (.cells #[.int .i64 at_] 3)).alloc (.cells #[.slice A0 x.length c0] 37)) := ⟨_, rfl⟩
  rw [← hW0] at p0 p1 p2 z0
  have hb0 : Below w.heap.size w W0 := by
    rw [hW0]
    exact (((Below.refl _ _).alloc (Nat.le_refl _) _).alloc (by simp) _).alloc (by simp; omega) _
  have h0 := h.below hb0
  have hld := load_any s m c ino i C R F W0 h0 hm hs hi hp hvv
  rw [hlo] at hld
  have ks0 : W0.cell? ⟨w.heap.size, 0, none⟩ = some (.pointer (some ⟨s, 0, none⟩)) := cell_of_heap p0 0
  have hlx := List.length_pos_iff.2 hx
  have ha0 : decide ((at_ : Int) < 0) = false := by simp
  have ha1 : decide ((70656 : Int) < (at_ : Int)) = false := by simp; omega
  have hw1 : IntKind.i64.wrap ((70656 : Int) - (at_ : Int)) = 70656 - (at_ : Int) := IntWalk.i64_in _ (by omega)
  have ha2 : decide ((70656 : Int) - (at_ : Int) < (x.length : Int)) = false := by simp; omega
  have ha3 : ((x.length : Int) == 0) = false := by simp; omega
  have HLd := Lib.hid hld
  have hmain : ∀ w1, Step W0 F c C R w1 → ∃ W3, W3 = (w1.alloc (.cells Tryz.zeroCells171 171)).setRow w1.heap.size (cellsO o).toArray ∧ W3.cell? ⟨w.heap.size, 0, none⟩ = some (.pointer (some ⟨s, 0, none⟩)) ∧ W3.cell? ⟨w.heap.size + 1, 0, none⟩ = some (.int .i64 at_) ∧ W3.cell? ⟨w.heap.size + 1 + 1, 0, none⟩ = some (.slice A0 x.length c0) ∧
      Calls Tryz.prog 121 #[.pointer (some ⟨s, 0, none⟩), .func (.func 125) #[] #[.pointer (some ⟨w.heap.size, 0, none⟩), .pointer (some ⟨w1.heap.size, 0, none⟩), .pointer (some ⟨w.heap.size + 1, 0, none⟩), .pointer (some ⟨w.heap.size + 1 + 1, 0, none⟩)]] W3 fun e w' => e = .returned (.int .i64 0) ∧ Step w F c C3 R w' := by
    intro w1 ⟨R1, g1, t1, f1⟩
    have hop := opened_i s h hb0 g1 t1 f1 hlen
    obtain ⟨W3, hW3⟩ : ∃ W3, W3 = (w1.alloc (.cells Tryz.zeroCells171 171)).setRow w1.heap.size (cellsO o).toArray := ⟨_, rfl⟩
    rw [← hW3] at hop
    obtain ⟨W5, hW5⟩ : ∃ W5, W5 = (W3.alloc (.cells #[.pointer (some ⟨s, 0, none⟩)] 52)).alloc (.cells #[.int .i64 0] 27) := ⟨_, rfl⟩
    rw [← hW5] at hop
    obtain ⟨n1, n2, n3, n4⟩ := hop.new
    refine ⟨W3, hW3, cell_of_heap ((hop.old3 _ (Nat.le_refl _) (by omega)).trans p0) 0, cell_of_heap ((hop.old3 _ (by omega) (by omega)).trans p1) 0, cell_of_heap ((hop.old3 _ (by omega) (by omega)).trans p2) 0, ?_⟩
    have hX : ∀ k, (k = w1.heap.size ∨ k = w.heap.size + 1 ∨ k = w.heap.size + 1 + 1) ∨ k = w.heap.size → ¬ R1.has k := fun k hk => by
      rcases hk with (e | e | e) | e <;> rw [e]
      · exact n1
      · exact (hop.old _ (by omega) (by omega)).2
      · exact (hop.old _ (by omega) (by omega)).2
      · exact (hop.old _ (by omega) (by omega)).2
    have hv5 : BytesI W5 (fun k => ¬ R1.m k ∧ ¬ (k = w1.heap.size ∨ k = w.heap.size + 1 ∨ k = w.heap.size + 1 + 1) ∧ k < W5.heap.size) (.slice A0 x.length c0) x := by
      have h1 := (hv.mono (J := fun k => ¬ R.m k ∧ k < w.heap.size) (fun k a b => ⟨a, b⟩)).off hop.off (fun k hk => hk.1)
      refine h1.mono fun k hk _ => ⟨fun e => ?_, by omega, by omega⟩
      rcases hop.tw.m k e with e | e
      · exact hk.1 e
      · omega
    have hwr := write1_any ⟨W5, F, c, R1, w.heap.size, w1.heap.size, w.heap.size + 1, w.heap.size + 1 + 1, s, o1⟩
      ⟨by show w.heap.size < W5.heap.size; omega, by show w1.heap.size < W5.heap.size; omega, by show w.heap.size + 1 < W5.heap.size; omega, by show w.heap.size + 1 + 1 < W5.heap.size; omega, (fun e => by unfold WrD.X at e; simp only at e; omega), (by show w1.heap.size ≠ w.heap.size + 1; omega), (by show w1.heap.size ≠ w.heap.size + 1 + 1; omega), (by show w.heap.size + 1 ≠ w.heap.size + 1 + 1; omega)⟩
      m ino at_ _ x o C C1 C2 C3 hop.held hm hs hi h8 hp ((hop.old w.heap.size (Nat.le_refl _) (by omega)).1.trans p0) hop.opn ((hop.old (w.heap.size + 1) (by omega) (by omega)).1.trans p1) ((hop.old (w.heap.size + 1 + 1) (by omega) (by omega)).1.trans p2) hX hv5 hsz hos hrs hly hsv hG1 hsl hoi hon hol ho1
    have htr := try_any s 125 #[.pointer (some ⟨w.heap.size, 0, none⟩), .pointer (some ⟨w1.heap.size, 0, none⟩), .pointer (some ⟨w.heap.size + 1, 0, none⟩), .pointer (some ⟨w.heap.size + 1 + 1, 0, none⟩)] W3
      (fun w6 => StepX W5 F c C3 R1 (fun k => k = w1.heap.size ∨ k = w.heap.size + 1 ∨ k = w.heap.size + 1 + 1) w6 ∧ w6.heap[W3.heap.size + 1]? = some (.cells #[.int .i64 0] 27 (0, 0)))
      (enters_of Tryz.func125 (by kernel_rfl) rfl)
      (by
        rw [← hW5]
        refine hwr.mono ?_
        rintro e w6 ⟨rfl, hx6⟩
        refine ⟨rfl, hx6, ?_⟩
        obtain ⟨R6, _, _, o6⟩ := hx6
        rw [o6.block _ (by show W3.heap.size + 1 < W5.heap.size; omega) (fun e => by
          rcases e with e | e
          · exact hop.err.2 (.inl e)
          · unfold WrD.X at e; simp only at e; omega)]
        exact hop.err.1)
      (fun w6 hh => hh.2)
    refine htr.mono ?_
    rintro e w9 ⟨rfl, w6, ⟨⟨R6, g6, t6, o6⟩, _⟩, rfl⟩
    have hw5 : w.heap.size ≤ W5.heap.size := hop.off.size
    have oX : Off (fun k => k = W3.heap.size + 1) w6 (w6.setCell ⟨W3.heap.size + 1, 0, none⟩ (.int .i64 0)) := (Off.refl (fun k => k = W3.heap.size + 1) w6).setCell (p := ⟨W3.heap.size + 1, 0, none⟩) (.inl rfl) _
    refine ⟨rfl, R6, g6.off oX (fun k hk e => ?_), hop.tw.trans t6 hw5, ((hop.off).trans o6 (fun k e => ?_)).trans oX (fun k e => .inr (by omega))⟩
    · exact t6.free hop.err.2 (by omega) (e ▸ hk)
    · rcases e with e | e
      · exact hop.tw.m k e
      · right; omega
  have HMain := Lib.hid hmain
  have HLen := Lib.hid hlen
  clear hld hmain hlen h0 p0 p1 p2 h hm hs hv hvv hlo hrs hly hsv hsl hb0
  go_enter Tryz.func63, Tryz.ntmps63
  go_wp2_with fail
  rw [← hW0]
  clear hW0
  refine HLd.out.mono ?_
  rintro e w1 ⟨rfl, hs1⟩
  obtain ⟨W3, hW3, a1, a2, a3, htr⟩ := HMain.out w1 hs1
  have hst := opn_store (opn_new w1) o HLen.out
  rw [← hW3] at hst
  have hl144 := cellsO_length HLen.out
  have HTr := Lib.hid htr
  clear hW3 hs1 htr
  go_wp2_with fail
  refine HTr.out.mono ?_
  rintro e w2 ⟨rfl, hs2⟩
  have HS2 := Lib.hid hs2
  clear hs2
  go_wp2_with fail
  go_ret
  exact ⟨rfl, HS2.out⟩
end Go.Proofs.YtakmplpfjcddiaaGreatDoor

namespace Go.Proofs.YtakmplpfjcddiaaGreatDoor
open Go.RowKit Go.Shelf Pa
/-- A file as the document has it. -/
structure RF where
  kind : Nat
  mode : Nat
  links : Nat
  bytes : Str
  data : List Nat
  ind : Nat
def RF.none : RF := ⟨0, 0, 0, [], [], 0⟩
/-- What is taken, and the inodes. -/
structure RS where
  p : List Bool
  i : List Bool
  l : List RF
def RS.file (T : RS) (j : Nat) : RF := T.l.getD j RF.none
def RS.inodes (T : RS) : Nat := T.i.length
def RS.first (T : RS) : Nat := alFirst T.i.length
def RS.set (T : RS) (j : Nat) (f : RF) : RS := { T with l := T.l.set j f }
def RS.live (T : RS) (j : Nat) : Prop := 1 ≤ j ∧ T.i.getD j false = true
def RF.pgs (f : RF) : List Nat := if f.ind = 0 then f.data else f.data ++ [f.ind]
/-- The error of a look at an inode: 0: none. -/
def RS.look (T : RS) (i : Int) : Nat := if i < 1 ∨ (T.inodes : Int) ≤ i then 2 else if T.i.getD i.toNat false = false ∨ (T.file i.toNat).kind = 0 then 4 else 0
def padTo (n : Nat) (l : List Nat) : List Nat := l ++ List.replicate (n - l.length) 0
theorem padTo_length {n : Nat} {l : List Nat} (h : l.length ≤ n) : (padTo n l).length = n := by simp [padTo]; omega
theorem padTo_getD (n : Nat) (l : List Nat) (k : Nat) : (padTo n l).getD k 0 = l.getD k 0 := by
  unfold padTo
  rw [List.getD_eq_getElem?_getD, List.getD_eq_getElem?_getD]
  by_cases h : k < l.length
  · rw [List.getElem?_append_left h]
  · rw [List.getElem?_append_right (by omega), List.getElem?_eq_none (l := l) (by omega), List.getElem?_replicate]
    split <;> rfl
theorem padTo_mem {n : Nat} {l : List Nat} {x : Nat} (h : x ∈ padTo n l) : x ∈ l ∨ x = 0 := by
  rcases List.mem_append.1 h with h | h
  · exact .inl h
  · exact .inr (List.mem_replicate.1 h).2
/-- The inode that stands for a file. -/
def opnOf (f : RF) (i : Nat) : Opn := ⟨f.kind, f.mode, f.links, f.bytes.length, padTo 10 (f.data.take 10) ++ [f.ind], i, padTo 128 (f.data.drop 10)⟩
theorem opnOf_ind (f : RF) (i : Nat) : (opnOf f i).ind = f.ind := by
  have h : (padTo 10 (f.data.take 10)).length = 10 := padTo_length (by rw [List.length_take]; omega)
  unfold Opn.ind opnOf
  rw [List.getD_eq_getElem?_getD, List.getElem?_append_right (by omega), h]; rfl
theorem opnOf_slot (f : RF) (i k : Nat) : (opnOf f i).slot k = f.data.getD k 0 := by
  have h : (padTo 10 (f.data.take 10)).length = 10 := padTo_length (by rw [List.length_take]; omega)
  unfold Opn.slot opnOf
  split
  · rename_i hk
    rw [List.getD_eq_getElem?_getD, List.getElem?_append_left (by omega), ← List.getD_eq_getElem?_getD, padTo_getD, List.getD_eq_getElem?_getD, List.getElem?_take_of_lt hk, List.getD_eq_getElem?_getD]
  · rename_i hk
    simp only
    rw [padTo_getD, List.getD_eq_getElem?_getD, List.getElem?_drop, show 10 + (k - 10) = k from by omega, List.getD_eq_getElem?_getD]
/-- Page k of a file's bytes. -/
def pageOf (b : Str) (k : Nat) : Str := (b.drop (512 * k)).take 512 ++ List.replicate (512 - (b.length - 512 * k)) 0
theorem pageOf_length (b : Str) (k : Nat) : (pageOf b k).length = 512 := by
  unfold pageOf
  simp only [List.length_append, List.length_take, List.length_drop, List.length_replicate]
  omega
theorem pageOf_far {b : Str} {k : Nat} (h : b.length ≤ 512 * k) : pageOf b k = pageZ := by
  unfold pageOf pageZ
  rw [List.drop_eq_nil_of_le h, List.take_nil, show 512 - (b.length - 512 * k) = 512 from by omega]; rfl
theorem pageOf_getElem? (b : Str) (k j : Nat) (h : j < 512) : (pageOf b k)[j]? = some ((b.getD (512 * k + j) 0)) := by
  unfold pageOf
  rw [List.getD_eq_getElem?_getD]
  by_cases hj : 512 * k + j < b.length
  · rw [List.getElem?_append_left (by simp only [List.length_take, List.length_drop]; omega), List.getElem?_take_of_lt h, List.getElem?_drop, List.getElem?_eq_getElem hj]; rfl
  · rw [List.getElem?_append_right (by simp only [List.length_take, List.length_drop]; omega), List.getElem?_eq_none (l := b) (by omega), List.getElem?_replicate, if_pos (by simp only [List.length_take, List.length_drop]; omega)]; rfl
theorem pageOf_ext {x : Str} {b : Str} {k : Nat} (hx : x.length = 512) (h : ∀ j, j < 512 → x[j]? = some (b.getD (512 * k + j) 0)) : x = pageOf b k := by
  refine List.ext_getElem? fun j => ?_
  by_cases hj : j < 512
  · rw [h j hj, pageOf_getElem? _ _ _ hj]
  · rw [List.getElem?_eq_none (by omega), List.getElem?_eq_none (by rw [pageOf_length]; omega)]
/-- A file's pages are as they must be, and hold its bytes. -/
structure FOk (C : Ca) (T : RS) (f : RF) : Prop where
  kind : f.kind ≤ 3
  mode : f.mode ≤ 4095
  links : f.links ≤ 65535
  size : f.bytes.length ≤ 70656
  few : f.data.length ≤ 138
  len : f.bytes.length ≤ 512 * f.data.length
  ind : f.ind = 0 ↔ f.data.length ≤ 10
  own : ∀ n ∈ f.pgs, T.first ≤ n ∧ n < C.G.pages ∧ T.p.getD n false = true
  nodup : f.pgs.Nodup
  bytes : ∀ k, k < f.data.length → C.rd (f.data.getD k 0) = pageOf f.bytes k
/-- The pages stand for what the document says; the records of some inodes need not. -/
structure Rel (C : Ca) (T : RS) (ex : Nat → Prop) : Prop where
  rm : C.Rm
  np : T.p.length = C.G.pages
  npl : C.G.pages ≤ 4096
  ino : T.l.length = T.i.length
  ino8 : T.i.length % 8 = 0 ∧ 8 ≤ T.i.length ∧ T.i.length ≤ 512 ∧ alFirst T.i.length < C.G.pages
  len : ∀ n, n < C.G.pages → (C.rd n).length = 512
  pb : ∀ n, n < C.G.pages → bitAt (C.rd 2) n = T.p.getD n false
  ib : ∀ j, j < T.i.length → bitAt (C.rd 1) j = T.i.getD j false
  sys : ∀ n, n < T.first → T.p.getD n false = true
  zero : T.i.getD 0 false = true
  off : ∀ j, ¬ T.live j → T.file j = RF.none
  files : ∀ j, T.live j → 1 ≤ (T.file j).kind ∧ FOk C T (T.file j)
  apart : ∀ j k n, n ∈ (T.file j).pgs → n ∈ (T.file k).pgs → j = k
  rcd : ∀ j, T.live j → ¬ ex j → ((C.rd (3 + j / 8)).drop (64 * (j % 8))).take 64 = encI (opnOf (T.file j) j) ∧ ((T.file j).ind ≠ 0 → C.rd (T.file j).ind = encM (opnOf (T.file j) j).more)
theorem RS.live_lt {T : RS} {j : Nat} (h : T.live j) : j < T.i.length := by
  have h2 := h.2
  rw [List.getD_eq_getElem?_getD] at h2
  rcases Nat.lt_or_ge j T.i.length with h3 | h3
  · exact h3
  · rw [List.getElem?_eq_none h3] at h2; cases h2
theorem pgs_data {f : RF} {n : Nat} (h : n ∈ f.data) : n ∈ f.pgs := by
  unfold RF.pgs; split
  · exact h
  · exact List.mem_append_left _ h
theorem pgs_ind {f : RF} (h : f.ind ≠ 0) : f.ind ∈ f.pgs := by
  unfold RF.pgs; rw [if_neg h]; simp
theorem getD_mem {l : List Nat} {k : Nat} (h : k < l.length) : l.getD k 0 ∈ l := by
  rw [List.getD_eq_getElem?_getD, List.getElem?_eq_getElem h]; exact List.getElem_mem h
theorem FOk.fit {C : Ca} {T : RS} {f : RF} (h : FOk C T f) (hn : C.G.pages ≤ 4096) (i : Nat) : (opnOf f i).Fit := by
  have hB : ∀ x ∈ f.data, x < 4294967296 := fun x hx => by have := (h.own x (pgs_data hx)).2.1; omega
  have hi : f.ind < 4294967296 := by
    by_cases h0 : f.ind = 0
    · omega
    · have := (h.own _ (pgs_ind h0)).2.1; omega
  refine ⟨by show f.kind < 256; have := h.kind; omega, by show f.mode < _; have := h.mode; omega, by show f.links < _; have := h.links; omega, by show f.bytes.length < _; have := h.size; omega, ?_, fun x hx => ?_⟩
  · show (padTo 10 (f.data.take 10) ++ [f.ind]).length = 11
    rw [List.length_append, padTo_length (by rw [List.length_take]; omega)]; rfl
  · have hx : x ∈ padTo 10 (f.data.take 10) ++ [f.ind] := hx
    rcases List.mem_append.1 hx with hx | hx
    · rcases padTo_mem hx with hx | hx
      · exact hB x (List.mem_of_mem_take hx)
      · omega
    · have : x = f.ind := by simpa using hx
      omega
theorem FOk.more {C : Ca} {T : RS} {f : RF} (h : FOk C T f) (hn : C.G.pages ≤ 4096) (i : Nat) : (opnOf f i).more.length = 128 ∧ ∀ x ∈ (opnOf f i).more, x < 4096 := by
  refine ⟨padTo_length (by rw [List.length_drop]; have := h.few; omega), fun x hx => ?_⟩
  have hx : x ∈ padTo 128 (f.data.drop 10) := hx
  rcases padTo_mem hx with hx | hx
  · have := (h.own x (pgs_data (List.mem_of_mem_drop hx))).2.1; omega
  · omega
theorem FOk.more0 {C : Ca} {T : RS} {f : RF} (h : FOk C T f) (h0 : f.ind = 0) (i : Nat) : (opnOf f i).more = List.replicate 128 0 := by
  show padTo 128 (f.data.drop 10) = _
  rw [List.drop_eq_nil_of_le (h.ind.1 h0)]; rfl
/-- What is read of an inode. -/
theorem Rel.load {C : Ca} {T : RS} {ex : Nat → Prop} (h : Rel C T ex) (i : Int) (hx : ¬ ex i.toNat) : C.load T.inodes i = if T.look i = 0 then .ok (opnOf (T.file i.toNat) i.toNat) else .error (T.look i) := by
  unfold Ca.load RS.look
  by_cases h1 : i < 1 ∨ (T.inodes : Int) ≤ i
  · rw [if_pos (by omega), if_pos h1, if_neg (by omega)]
  · rw [if_neg (by omega), if_neg h1]
    have hlt : i.toNat < T.i.length := by unfold RS.inodes at h1; omega
    rw [h.ib _ hlt]
    by_cases h2 : T.i.getD i.toNat false = false
    · have hl : (if T.i.getD i.toNat false = false ∨ (T.file i.toNat).kind = 0 then 4 else 0) = 4 := if_pos (Or.inl h2)
      rw [if_pos h2, hl, if_neg (by omega)]
    · have hlive : T.live i.toNat := ⟨by omega, by simpa using h2⟩
      obtain ⟨hk, hf⟩ := h.files _ hlive
      obtain ⟨r1, r2⟩ := h.rcd _ hlive hx
      have hfit := hf.fit h.npl i.toNat
      have hd := decI_encI hfit
      have hl : (if T.i.getD i.toNat false = false ∨ (T.file i.toNat).kind = 0 then 4 else 0) = 0 := if_neg (fun h3 => by rcases h3 with h3 | h3; exact h2 h3; omega)
      rw [if_neg h2, hl, if_pos rfl, r1]
      show (if (decI (encI (opnOf (T.file i.toNat) i.toNat)) i.toNat).kind = 0 then _ else _) = _
      rw [show decI (encI (opnOf (T.file i.toNat) i.toNat)) i.toNat = { opnOf (T.file i.toNat) i.toNat with more := List.replicate 128 0 } from hd]
      rw [if_neg (by show (T.file i.toNat).kind ≠ 0; omega)]
      have hind : ({ opnOf (T.file i.toNat) i.toNat with more := List.replicate 128 0 } : Opn).ind = (T.file i.toNat).ind := opnOf_ind _ i.toNat
      rw [hind]
      by_cases h0 : (T.file i.toNat).ind = 0
      · rw [if_pos h0, ← hf.more0 h0 i.toNat]
      · rw [if_neg h0, r2 h0]
        have hm := hf.more h.npl i.toNat
        rw [decM_encM hm.1 (fun x hx => by have := hm.2 x hx; omega)]
end Go.Proofs.YtakmplpfjcddiaaGreatDoor

namespace Go.Proofs.YtakmplpfjcddiaaGreatDoor
open Go.RowKit Go.Shelf Pa
theorem Rel.mono {C : Ca} {T : RS} {ex ex' : Nat → Prop} (h : Rel C T ex) (hx : ∀ j, ex j → ex' j) : Rel C T ex' :=
  { h with rcd := fun j hl hn => h.rcd j hl (fun e => hn (hx j e)) }
theorem file_set (T : RS) (j k : Nat) (f : RF) (hj : j < T.l.length) : (T.set j f).file k = if k = j then f else T.file k := by
  unfold RS.file RS.set
  simp only
  rw [List.getD_eq_getElem?_getD, List.getD_eq_getElem?_getD, List.getElem?_set]
  by_cases h : j = k
  · subst h; rw [if_pos rfl, if_pos hj, if_pos rfl]; rfl
  · rw [if_neg h, if_neg (fun e => h e.symm)]
theorem FOk.setT {C C' : Ca} {T : RS} {f : RF} (h : FOk C T f) (hG : C'.G = C.G) (hr : ∀ n, n ∈ f.data → C'.rd n = C.rd n) : FOk C' T f :=
  { h with
    own := fun n hn => by rw [hG]; exact h.own n hn
    bytes := fun k hk => by rw [hr _ (getD_mem hk)]; exact h.bytes k hk }
/-- A page of the table is not a file's. -/
theorem Rel.table_free {C : Ca} {T : RS} {ex : Nat → Prop} (h : Rel C T ex) {j n : Nat} (hl : T.live j) (hn : n ∈ (T.file j).pgs) : T.first ≤ n ∧ n < C.G.pages := ⟨((h.files j hl).2.own n hn).1, ((h.files j hl).2.own n hn).2.1⟩
theorem Rel.owner {C : Ca} {T : RS} {ex : Nat → Prop} (h : Rel C T ex) {j n : Nat} (hn : n ∈ (T.file j).pgs) : T.live j := Classical.byContradiction fun hl => by
  rw [h.off j hl] at hn; cases hn
/-- A page below the first one that files may have, and above those of bits, is written: the records turn, nothing else. -/
theorem Rel.setTable {C : Ca} {T : RS} {ex : Nat → Prop} (h : Rel C T ex) {n : Nat} {x : Str} (h3 : 3 ≤ n) (hn : n < T.first) (hx : x.length = 512)
    (hr : ∀ j, T.live j → ¬ ex j → 3 + j / 8 = n → (x.drop (64 * (j % 8))).take 64 = encI (opnOf (T.file j) j)) : Rel (C.set n x) T ex := by
  have hnp : n < C.G.pages := Nat.lt_trans hn h.ino8.2.2.2
  have hrd : ∀ m, m ≠ n → (C.set n x).rd m = C.rd m := fun m hm => by rw [Ca.rd_set, if_neg hm]
  have hpg : ∀ j m, T.live j → m ∈ (T.file j).pgs → m ≠ n := fun j m hl hm e => by
    have := (h.table_free hl hm).1
    omega
  refine { h with rm := h.rm.set hnp hx, len := fun m hm => ?_, pb := fun m hm => ?_, ib := fun m hm => ?_, files := fun j hl => ⟨(h.files j hl).1, (h.files j hl).2.setT rfl fun m hm => hrd m (hpg j m hl (pgs_data hm))⟩, rcd := fun j hl he => ⟨?_, fun hi => ?_⟩ }
  · rw [Ca.rd_set]
    split
    · exact hx
    · exact h.len m hm
  · rw [hrd _ (by omega)]; exact h.pb m hm
  · rw [hrd _ (by omega)]; exact h.ib m hm
  · by_cases e : 3 + j / 8 = n
    · rw [e, Ca.rd_set, if_pos rfl]; exact hr j hl he e
    · rw [hrd _ e]; exact (h.rcd j hl he).1
  · rw [hrd _ (hpg j _ hl (pgs_ind hi))]; exact (h.rcd j hl he).2 hi
/-- An indirect page is written: its file's record turns, nothing else. -/
theorem Rel.setInd {C : Ca} {T : RS} {ex : Nat → Prop} (h : Rel C T ex) {j : Nat} {x : Str} (hl : T.live j) (hi : (T.file j).ind ≠ 0) (hx : x.length = 512) (hr : ¬ ex j → x = encM (opnOf (T.file j) j).more) : Rel (C.set (T.file j).ind x) T ex := by
  have hm := pgs_ind hi
  obtain ⟨hf, hnp⟩ := h.table_free hl hm
  have h3 : 3 ≤ T.first := by unfold RS.first alFirst; omega
  have hrd : ∀ m, m ≠ (T.file j).ind → (C.set (T.file j).ind x).rd m = C.rd m := fun m hm => by rw [Ca.rd_set, if_neg hm]
  refine { h with rm := h.rm.set hnp hx, len := fun m hm => ?_, pb := fun m hm => ?_, ib := fun m hm => ?_, files := fun k hk => ⟨(h.files k hk).1, (h.files k hk).2.setT rfl fun n hn => hrd n (fun e => ?_)⟩, rcd := fun k hk he => ⟨?_, fun hi => ?_⟩ }
  · rw [Ca.rd_set]
    split
    · exact hx
    · exact h.len m hm
  · rw [hrd _ (by omega)]; exact h.pb m hm
  · rw [hrd _ (by omega)]; exact h.ib m hm
  · have hjk : k = j := h.apart k j n (pgs_data hn) (by rw [e]; exact hm)
    subst hjk
    have hnd := (h.files k hk).2.nodup
    unfold RF.pgs at hnd
    rw [if_neg hi, List.nodup_append] at hnd
    exact hnd.2.2 n hn _ (by simp) e
  · have hlt := RS.live_lt hk
    have h8 := h.ino8.1
    have : 3 + k / 8 < T.first := by unfold RS.first alFirst; omega
    rw [hrd _ (by omega)]; exact (h.rcd k hk he).1
  · by_cases hjk : k = j
    · subst hjk
      rw [Ca.rd_set, if_pos rfl]; exact hr he
    · rw [hrd _ (fun e => hjk (h.apart k j _ (pgs_ind hi) (by rw [e]; exact hm)))]
      exact (h.rcd k hk he).2 hi
/-- A file's inode is saved: its record stands for it. -/
theorem Rel.save {C : Ca} {T : RS} {ex : Nat → Prop} (h : Rel C T ex) {j : Nat} (hl : T.live j) : ∃ C', C.save (opnOf (T.file j) j) = some C' ∧ Rel C' T (fun k => ex k ∧ k ≠ j) ∧ C'.G = C.G ∧ C'.most = C.most := by
  have hlt := RS.live_lt hl
  have h8 := h.ino8.1
  have hf := (h.files j hl).2
  have htab : 3 + j / 8 < T.first := by unfold RS.first alFirst; omega
  have hnp : 3 + j / 8 < C.G.pages := Nat.lt_trans htab h.ino8.2.2.2
  have hb := h.len _ hnp
  have hen : (encI (opnOf (T.file j) j)).length = 64 := encI_length (hf.fit h.npl j).pages
  have hle : 64 * (j % 8) + (encI (opnOf (T.file j) j)).length ≤ (C.rd (3 + j / 8)).length := by rw [hen, hb]; omega
  have h1 : Rel (C.set (3 + j / 8) (laidAt (C.rd (3 + j / 8)) (64 * (j % 8)) (encI (opnOf (T.file j) j)))) T ex := by
    refine h.setTable (by omega) htab (by rw [laidAt_length hle]; exact hb) fun k hk he e => ?_
    by_cases hkj : k = j
    · subst hkj
      have := laidAt_on hle
      rw [hen] at this; exact this
    · rw [laidAt_off hle (by rw [hen]; omega), ← e]
      exact (h.rcd k hk he).1
  have h1x : Rel (C.set (3 + j / 8) (laidAt (C.rd (3 + j / 8)) (64 * (j % 8)) (encI (opnOf (T.file j) j)))) T (fun k => ex k ∧ k ≠ j) ∨ (T.file j).ind ≠ 0 := by
    by_cases hi : (T.file j).ind = 0
    · left
      refine { h1 with rcd := fun k hk he => ?_ }
      by_cases hkj : k = j
      · subst hkj
        refine ⟨?_, fun e => absurd hi e⟩
        rw [Ca.rd_set, if_pos rfl]
        have := laidAt_on hle
        rw [hen] at this; exact this
      · exact h1.rcd k hk (fun e => he ⟨e, hkj⟩)
    · exact .inr hi
  unfold Ca.save
  rw [opnOf_ind]
  show ∃ C', (match C.w (3 + j / 8) (laidAt (C.rd (3 + j / 8)) (64 * (j % 8)) (encI (opnOf (T.file j) j))) with | none => none | some C1 => if (T.file j).ind = 0 then some C1 else C1.w (T.file j).ind (encM (opnOf (T.file j) j).more)) = some C' ∧ _
  rw [h.rm.w _ hnp]
  simp only
  by_cases hi : (T.file j).ind = 0
  · rw [if_pos hi]
    rcases h1x with h1x | h1x
    · exact ⟨_, rfl, h1x, rfl, rfl⟩
    · exact absurd hi h1x
  · rw [if_neg hi, h1.rm.w _ (h.table_free hl (pgs_ind hi)).2]
    have hml : (encM (opnOf (T.file j) j).more).length = 512 := by rw [encM_length, (hf.more h.npl j).1]
    have h2 := h1.setInd hl hi hml (fun _ => rfl)
    refine ⟨_, rfl, { h2 with rcd := fun k hk he => ?_ }, rfl, rfl⟩
    by_cases hkj : k = j
    · subst hkj
      refine ⟨?_, fun _ => by rw [Ca.rd_set, if_pos rfl]⟩
      have hne : 3 + k / 8 ≠ (T.file k).ind := by have := (h.table_free hl (pgs_ind hi)).1; omega
      rw [Ca.rd_set, if_neg hne, Ca.rd_set, if_pos rfl]
      have := laidAt_on hle
      rw [hen] at this; exact this
    · exact h2.rcd k hk (fun e => he ⟨e, hkj⟩)
/-- The first that is free. -/
def takeB (l : List Bool) : Option Nat := (List.range l.length).find? (fun n => !l.getD n false)
theorem takeB_some {l : List Bool} {n : Nat} (h : takeB l = some n) : n < l.length ∧ l.getD n false = false ∧ ∀ j, j < n → l.getD j false = true := by
  unfold takeB at h
  rw [List.find?_range_eq_some] at h
  obtain ⟨h1, h2, h3⟩ := h
  exact ⟨by simpa using h2, by simpa using h1, fun j hj => by simpa using h3 j hj⟩
theorem find_congr {α : Type} {p q : α → Bool} : ∀ {l : List α}, (∀ x ∈ l, p x = q x) → l.find? p = l.find? q
  | [], _ => rfl
  | x :: l, h => by
    rw [List.find?_cons, List.find?_cons, h x (by simp), find_congr (l := l) (fun y hy => h y (by simp [hy]))]
theorem Rel.bits {C : Ca} {T : RS} {ex : Nat → Prop} (h : Rel C T ex) : firstB (C.rd 2) C.G.pages = takeB T.p := by
  unfold firstB takeB
  rw [h.np]
  refine find_congr fun n hn => ?_
  rw [h.pb n (List.mem_range.1 hn)]
theorem Rel.ibits {C : Ca} {T : RS} {ex : Nat → Prop} (h : Rel C T ex) : firstB (C.rd 1) T.inodes = takeB T.i := by
  unfold firstB takeB RS.inodes
  refine find_congr fun n hn => ?_
  rw [h.ib n (List.mem_range.1 hn)]
theorem Rel.small {C : Ca} {T : RS} {ex : Nat → Prop} (h : Rel C T ex) : 4 ≤ T.first ∧ T.first < C.G.pages ∧ 4 < C.G.pages := by
  have := h.ino8
  unfold RS.first
  unfold alFirst at *
  omega
/-- A bit of the pages' page is turned: nothing else. -/
theorem Rel.turnP {C : Ca} {T : RS} {ex : Nat → Prop} (h : Rel C T ex) {n : Nat} {b : Bool} (hn : n < C.G.pages) (hf : T.first ≤ n) (hb : b = !T.p.getD n false) (hown : ∀ j, n ∉ (T.file j).pgs) :
    Rel (C.set 2 (turnB (C.rd 2) n)) { T with p := T.p.set n b } ex := by
  have hs := h.small
  have hnpl := h.npl
  have hl2 := h.len 2 (by omega)
  have hrd : ∀ m, m ≠ 2 → (C.set 2 (turnB (C.rd 2) n)).rd m = C.rd m := fun m hm => by rw [Ca.rd_set, if_neg hm]
  have hget : ∀ m, (T.p.set n b).getD m false = if m = n then b else T.p.getD m false := fun m => by
    rw [List.getD_eq_getElem?_getD, List.getElem?_set]
    by_cases e : n = m
    · subst e; rw [if_pos rfl, if_pos (by rw [h.np]; exact hn), if_pos rfl]; rfl
    · rw [if_neg e, if_neg (fun e2 => e e2.symm), List.getD_eq_getElem?_getD]
  have hpg : ∀ j m, T.live j → m ∈ (T.file j).pgs → m ≠ 2 := fun j m hl hm e => by
    have := (h.table_free hl hm).1
    omega
  refine { h with rm := h.rm.set (by omega) (by rw [turnB_length]; exact hl2), np := ?_, len := fun m hm => ?_, pb := fun m hm => ?_, ib := fun m hm => ?_, sys := fun m hm => ?_, files := fun j hl => ⟨(h.files j hl).1, ?_⟩, rcd := fun j hl he => ⟨?_, fun hi => ?_⟩ }
  · show (T.p.set n b).length = _; rw [List.length_set]; exact h.np
  · rw [Ca.rd_set]
    split
    · rw [turnB_length]; exact hl2
    · exact h.len m hm
  · show _ = (T.p.set n b).getD m false
    rw [Ca.rd_set, if_pos rfl, bitAt_turnB (by rw [hl2]; omega), hget, h.pb n hn, h.pb m hm, hb]
  · rw [hrd _ (by decide)]; exact h.ib m hm
  · have hm : m < T.first := hm
    show (T.p.set n b).getD m false = true
    rw [hget, if_neg (by omega)]; exact h.sys m hm
  · have hfo := (h.files j hl).2
    refine { hfo with own := fun m hm => ?_, bytes := fun k hk => ?_ }
    · have hmn : m ≠ n := fun e => hown j (by rw [← e]; exact hm)
      obtain ⟨o1, o2, o3⟩ := hfo.own m hm
      refine ⟨o1, o2, ?_⟩
      show (T.p.set n b).getD m false = true
      rw [hget, if_neg hmn]; exact o3
    · exact (hrd _ (hpg j _ hl (pgs_data (getD_mem hk)))).trans (hfo.bytes k hk)
  · rw [hrd _ (by omega)]; exact (h.rcd j hl he).1
  · exact (hrd _ (hpg j _ hl (pgs_ind hi))).trans ((h.rcd j hl he).2 hi)
/-- A page that nobody has is written: nothing turns. -/
theorem Rel.setFree {C : Ca} {T : RS} {ex : Nat → Prop} (h : Rel C T ex) {n : Nat} {x : Str} (hn : n < C.G.pages) (hf : T.first ≤ n) (hx : x.length = 512) (hown : ∀ j, n ∉ (T.file j).pgs) : Rel (C.set n x) T ex := by
  have hs := h.small
  have hrd : ∀ m, m ≠ n → (C.set n x).rd m = C.rd m := fun m hm => by rw [Ca.rd_set, if_neg hm]
  refine { h with rm := h.rm.set hn hx, len := fun m hm => ?_, pb := fun m hm => ?_, ib := fun m hm => ?_, files := fun j hl => ⟨(h.files j hl).1, (h.files j hl).2.setT rfl fun m hm => hrd m (fun e => hown j (e ▸ pgs_data hm))⟩, rcd := fun j hl he => ⟨?_, fun hi => ?_⟩ }
  · rw [Ca.rd_set]
    split
    · exact hx
    · exact h.len m hm
  · rw [hrd _ (by omega)]; exact h.pb m hm
  · rw [hrd _ (by omega)]; exact h.ib m hm
  · have hlt := RS.live_lt hl
    have h8 := h.ino8.1
    have : 3 + j / 8 < T.first := by unfold RS.first alFirst; omega
    rw [hrd _ (by omega)]; exact (h.rcd j hl he).1
  · rw [hrd _ (fun e => hown j (e ▸ pgs_ind hi))]; exact (h.rcd j hl he).2 hi
/-- A page is taken. -/
theorem Rel.page {C : Ca} {T : RS} {ex : Nat → Prop} (h : Rel C T ex) : match takeB T.p with
    | none => C.page = none
    | some n => ∃ C', C.page = some (n, C') ∧ Rel C' { T with p := T.p.set n true } ex ∧ C'.rd n = pageZ ∧ C'.G = C.G ∧ C'.most = C.most ∧ n < C.G.pages ∧ T.first ≤ n ∧ T.p.getD n false = false ∧ ∀ j, n ∉ (T.file j).pgs := by
  unfold Ca.page
  rw [h.bits]
  cases ht : takeB T.p with
  | none => rfl
  | some n =>
    obtain ⟨h1, h2, h3⟩ := takeB_some ht
    have hn : n < C.G.pages := by rw [← h.np]; exact h1
    have hs := h.small
    have hf : T.first ≤ n := Nat.le_of_not_lt fun e => by rw [h.sys n e] at h2; cases h2
    have hown : ∀ j, n ∉ (T.file j).pgs := fun j hm => by
      have := ((h.files j (h.owner hm)).2.own n hm).2.2
      rw [h2] at this; cases this
    simp only
    rw [h.rm.fits (l := [2, n]) (fun m hm => by
      rcases List.mem_cons.1 hm with rfl | hm
      · omega
      · have : m = n := by simpa using hm
        omega), if_pos rfl]
    refine ⟨_, rfl, (h.turnP hn hf (b := true) (by rw [h2]; rfl) hown).setFree hn hf pageZ_length hown, by rw [Ca.rd_set, if_pos rfl], rfl, rfl, hn, hf, h2, hown⟩
/-- A page that nobody has any more is given back. -/
theorem Rel.giveP {C : Ca} {T : RS} {ex : Nat → Prop} (h : Rel C T ex) {n : Nat} (hn : n < C.G.pages) (hf : T.first ≤ n) (hu : T.p.getD n false = true) (hown : ∀ j, n ∉ (T.file j).pgs) :
    C.giveP T.inodes n = some (C.set 2 (turnB (C.rd 2) n)) ∧ Rel (C.set 2 (turnB (C.rd 2) n)) { T with p := T.p.set n false } ex := by
  refine ⟨?_, h.turnP hn hf (by rw [hu]; rfl) hown⟩
  have hs := h.small
  have hlt : ¬ (n < alFirst T.inodes ∨ C.G.pages ≤ n) := by have : T.first = alFirst T.inodes := rfl; omega
  unfold Ca.giveP Ca.give
  rw [if_neg hlt, h.pb n hn, hu, if_neg (by decide), h.rm.fits (l := [2]) (fun m hm => by
    have : m = 2 := by simpa using hm
    omega), if_neg (by decide)]
  rfl
end Go.Proofs.YtakmplpfjcddiaaGreatDoor

namespace Go.Proofs.YtakmplpfjcddiaaGreatDoor
open Go.RowKit Go.Shelf Pa
/-- A page is taken; one is free again. -/
def RS.takeP (T : RS) : Option (Nat × RS) := match takeB T.p with | none => none | some n => some (n, { T with p := T.p.set n true })
def RS.freeP (T : RS) (n : Nat) : RS := { T with p := T.p.set n false }
abbrev TF := RS × RF
def rgrow1 (s : TF) : Option TF :=
  match (if s.2.data.length = 10 ∧ s.2.ind = 0 then (match s.1.takeP with | none => none | some (n, T) => some (T, { s.2 with ind := n })) else some s) with
  | none => none
  | some s1 => match s1.1.takeP with | none => none | some (n, T) => some (T, { s1.2 with data := s1.2.data ++ [n] })
def rgrowN : Nat → TF → Option TF
  | 0, s => some s
  | n + 1, s => match rgrow1 s with | none => none | some s1 => rgrowN n s1
def rshrink1 (s : TF) : TF :=
  let T1 := s.1.freeP (s.2.data.getD (s.2.data.length - 1) 0)
  let f1 : RF := { s.2 with data := s.2.data.dropLast, bytes := s.2.bytes.take (512 * (s.2.data.length - 1)) }
  if s.2.data.length - 1 = 10 then (T1.freeP s.2.ind, { f1 with ind := 0 }) else (T1, f1)
def rshrinkN : Nat → TF → TF
  | 0, s => s
  | n + 1, s => rshrinkN n (rshrink1 s)
/-- Bytes as so many: the first ones, then zeros. -/
def fitTo (b : Str) (n : Nat) : Str := b.take n ++ List.replicate (n - b.length) 0
theorem fitTo_length (b : Str) (n : Nat) : (fitTo b n).length = n := by unfold fitTo; rw [List.length_append, List.length_take, List.length_replicate]; omega
theorem fitTo_getD (b : Str) (n i : Nat) (h : i < n) : (fitTo b n).getD i 0 = b.getD i 0 := by
  unfold fitTo
  rw [List.getD_eq_getElem?_getD, List.getD_eq_getElem?_getD]
  by_cases hi : i < b.length
  · rw [List.getElem?_append_left (by rw [List.length_take]; omega), List.getElem?_take_of_lt h]
  · rw [List.getElem?_append_right (by rw [List.length_take]; omega), List.getElem?_replicate, if_pos (by rw [List.length_take]; omega), List.getElem?_eq_none (l := b) (by omega)]; rfl
def RS.resize (T : RS) (j size : Nat) : Option RS :=
  match rgrowN (npg size - (T.file j).data.length) (T, T.file j) with
  | none => none
  | some s1 => some ((rshrinkN (s1.2.data.length - npg size) s1).1.set j { (rshrinkN (s1.2.data.length - npg size) s1).2 with bytes := fitTo (T.file j).bytes size })
def RS.write (T : RS) (j at_ : Nat) (b : Str) : Option RS :=
  match T.resize j (max (T.file j).bytes.length (at_ + b.length)) with
  | none => none
  | some T1 => some (T1.set j { T1.file j with bytes := laidAt (T1.file j).bytes at_ b })
/-- Every file has just the pages that its bytes need. -/
def RS.Tight (T : RS) : Prop := ∀ j, (T.file j).data.length = npg (T.file j).bytes.length
theorem FOk.same {C : Ca} {T T' : RS} {f : RF} (h : FOk C T f) (hp : T'.p = T.p) (hi : T'.i.length = T.i.length) : FOk C T' f := by
  have hown : ∀ n ∈ f.pgs, T'.first ≤ n ∧ n < C.G.pages ∧ T'.p.getD n false = true := fun n hn => by
    have h1 := h.own n hn
    refine ⟨?_, h1.2.1, ?_⟩
    · show alFirst T'.i.length ≤ n; rw [hi]; exact h1.1
    · rw [hp]; exact h1.2.2
  exact { h with own := hown }
/-- A file turns; its pages are its own or nobody's. -/
theorem Rel.file {C : Ca} {T : RS} {ex : Nat → Prop} (h : Rel C T ex) {j : Nat} {f' : RF} (hl : T.live j) (he : ex j) (hk : 1 ≤ f'.kind) (hf : FOk C T f') (hp : ∀ n ∈ f'.pgs, n ∈ (T.file j).pgs ∨ ∀ k, n ∉ (T.file k).pgs) : Rel C (T.set j f') ex := by
  have hlt : j < T.l.length := by rw [h.ino]; exact RS.live_lt hl
  have hfile := fun k => file_set T j k f' hlt
  refine { h with ino := by show (T.l.set j f').length = _; rw [List.length_set]; exact h.ino, off := fun k hk => ?_, files := fun k hk' => ?_, apart := fun a b n ha hb => ?_, rcd := fun k hk hx => ?_ }
  · rw [hfile, if_neg (fun e => hk (by rw [e]; exact hl))]; exact h.off k hk
  · rw [hfile]
    split
    · exact ⟨hk, hf.same rfl rfl⟩
    · exact ⟨(h.files k hk').1, (h.files k hk').2.same rfl rfl⟩
  · rw [hfile] at ha hb
    by_cases ea : a = j
    · by_cases eb : b = j
      · rw [ea, eb]
      · rw [if_pos ea] at ha
        rw [if_neg eb] at hb
        rcases hp n ha with h1 | h1
        · rw [ea]; exact h.apart j b n h1 hb
        · exact absurd hb (h1 b)
    · rw [if_neg ea] at ha
      by_cases eb : b = j
      · rw [if_pos eb] at hb
        rcases hp n hb with h1 | h1
        · rw [eb]; exact h.apart a j n ha h1
        · exact absurd ha (h1 a)
      · rw [if_neg eb] at hb
        exact h.apart a b n ha hb
  · have hkj : k ≠ j := fun e => hx (e ▸ he)
    rw [hfile, if_neg hkj]; exact h.rcd k hk hx
/-- A page of a file's bytes is written. -/
theorem Rel.setData {C : Ca} {T : RS} {ex : Nat → Prop} (h : Rel C T ex) {j k : Nat} {nb x : Str} (hl : T.live j) (he : ex j) (hk : k < (T.file j).data.length) (hx : x = pageOf nb k) (h1 : nb.length ≤ 70656) (h2 : nb.length ≤ 512 * (T.file j).data.length)
    (hr : ∀ i, i < (T.file j).data.length → i ≠ k → pageOf nb i = pageOf (T.file j).bytes i) : Rel (C.set ((T.file j).data.getD k 0) x) (T.set j { T.file j with bytes := nb }) ex := by
  have hm : (T.file j).data.getD k 0 ∈ (T.file j).pgs := pgs_data (getD_mem hk)
  obtain ⟨hf, hnp⟩ := h.table_free hl hm
  have hs := h.small
  have hxl : x.length = 512 := by rw [hx]; exact pageOf_length _ _
  have hlt : j < T.l.length := by rw [h.ino]; exact RS.live_lt hl
  obtain ⟨n, hn⟩ : ∃ n, n = (T.file j).data.getD k 0 := ⟨_, rfl⟩
  rw [← hn] at hm hf hnp ⊢
  have hrd : ∀ m, m ≠ n → (C.set n x).rd m = C.rd m := fun m hm => by rw [Ca.rd_set, if_neg hm]
  have hfo := (h.files j hl).2
  have hdn : ∀ i, i < (T.file j).data.length → i ≠ k → (T.file j).data.getD i 0 ≠ n := fun i hi hik e => by
    have hnd : (T.file j).data.Nodup := by
      have := hfo.nodup
      unfold RF.pgs at this
      split at this
      · exact this
      · exact (List.nodup_append.1 this).1
    rw [hn, List.getD_eq_getElem?_getD, List.getD_eq_getElem?_getD, List.getElem?_eq_getElem hi, List.getElem?_eq_getElem hk] at e
    exact hik ((List.getElem?_inj hi hnd).1 (by rw [List.getElem?_eq_getElem hi, List.getElem?_eq_getElem hk]; exact congrArg some e))
  have hin : (T.file j).ind ≠ 0 → (T.file j).ind ≠ n := fun hi e => by
    have hnd := hfo.nodup
    unfold RF.pgs at hnd
    rw [if_neg hi, List.nodup_append] at hnd
    exact hnd.2.2 n (by rw [hn]; exact getD_mem hk) _ (by simp) e.symm
  have hfile := fun i => file_set T j i { T.file j with bytes := nb } hlt
  have hpgs : ∀ i, ((T.set j { T.file j with bytes := nb }).file i).pgs = (T.file i).pgs := fun i => by
    rw [hfile]
    split
    · rename_i e; rw [e]; rfl
    · rfl
  refine { h with rm := h.rm.set hnp hxl, ino := by show (T.l.set j _).length = _; rw [List.length_set]; exact h.ino, len := fun m hm => ?_, pb := fun m hm => ?_, ib := fun m hm => ?_, off := fun i hi => ?_, files := fun i hi => ?_, apart := fun a b m ha hb => ?_, rcd := fun i hi hx => ?_ }
  · rw [Ca.rd_set]
    split
    · exact hxl
    · exact h.len m hm
  · rw [hrd _ (by omega)]; exact h.pb m hm
  · rw [hrd _ (by omega)]; exact h.ib m hm
  · rw [hfile, if_neg (fun e => hi (by rw [e]; exact hl))]; exact h.off i hi
  · rw [hfile]
    by_cases e : i = j
    · rw [if_pos e]
      refine ⟨(h.files j hl).1, { hfo with size := h1, len := h2, bytes := fun q hq => ?_, own := fun m hm => hfo.own m hm }⟩
      show (C.set n x).rd ((T.file j).data.getD q 0) = pageOf nb q
      by_cases hqk : q = k
      · rw [hqk, ← hn, Ca.rd_set, if_pos rfl, hx]
      · rw [hrd _ (hdn q hq hqk), hr q hq hqk]; exact hfo.bytes q hq
    · rw [if_neg e]
      refine ⟨(h.files i hi).1, { (h.files i hi).2 with bytes := fun q hq => ?_, own := fun m hm => (h.files i hi).2.own m hm }⟩
      rw [hrd _ (fun e2 => e (h.apart i j n (by rw [← e2]; exact pgs_data (getD_mem hq)) hm))]; exact (h.files i hi).2.bytes q hq
  · rw [hpgs] at ha hb; exact h.apart a b m ha hb
  · have hij : i ≠ j := fun e => hx (e ▸ he)
    rw [hfile, if_neg hij]
    have h3 := h.rcd i hi hx
    refine ⟨?_, fun h0 => ?_⟩
    · have hlt : i < T.i.length := RS.live_lt hi
      have h8 := h.ino8.1
      have : 3 + i / 8 < T.first := by unfold RS.first alFirst; omega
      rw [hrd _ (by omega)]; exact h3.1
    · rw [hrd _ (fun e => hij (h.apart i j _ (pgs_ind h0) (by rw [e]; exact hm)))]; exact h3.2 h0
/-- The inode that is open, midway: its size is as it was. -/
def opnS (f : RF) (j sz : Nat) : Opn := { opnOf f j with size := sz }
theorem opnS_ind (f : RF) (j sz : Nat) : (opnS f j sz).ind = f.ind := opnOf_ind f j
theorem opnS_slot (f : RF) (j sz k : Nat) : (opnS f j sz).slot k = f.data.getD k 0 := opnOf_slot f j k
theorem padTo_snoc {N : Nat} {l : List Nat} (n : Nat) (h : l.length < N) : padTo N (l ++ [n]) = (padTo N l).set l.length n := by
  unfold padTo
  rw [List.set_append_right _ _ (Nat.le_refl _), Nat.sub_self, show N - l.length = (N - (l.length + 1)) + 1 from by omega, List.replicate_succ, List.set_cons_zero, List.length_append, List.length_singleton, List.append_assoc]; rfl
theorem padTo_snoc0 {N : Nat} {l : List Nat} (h : l.length < N) : padTo N (l ++ [0]) = padTo N l := by
  unfold padTo
  rw [show N - l.length = (N - (l.length + 1)) + 1 from by omega, List.replicate_succ, List.length_append, List.length_singleton, List.append_assoc]; rfl
theorem padTo_pop {N : Nat} {l : List Nat} {x : Nat} (h : l.length < N) : (padTo N (l ++ [x])).set l.length 0 = padTo N l := by
  rw [padTo_snoc _ h, List.set_set, ← padTo_snoc _ h, padTo_snoc0 h]
theorem opnS_push (f : RF) (j sz n : Nat) (h : f.data.length < 138) : opnS { f with data := f.data ++ [n] } j sz = (opnS f j sz).setSlot f.data.length n := by
  unfold Opn.setSlot
  by_cases hk : f.data.length < 10
  · rw [if_pos hk]
    have h1 : (f.data ++ [n]).take 10 = f.data ++ [n] := List.take_of_length_le (by rw [List.length_append, List.length_singleton]; omega)
    have h2 : f.data.take 10 = f.data := List.take_of_length_le (by omega)
    have h3 : (f.data ++ [n]).drop 10 = [] := List.drop_eq_nil_of_le (by rw [List.length_append, List.length_singleton]; omega)
    have h4 : f.data.drop 10 = [] := List.drop_eq_nil_of_le (by omega)
    unfold opnS opnOf
    simp only [h1, h2, h3, h4]
    rw [padTo_snoc n hk, List.set_append_left _ _ (by rw [padTo_length (by omega)]; exact hk)]
  · rw [if_neg hk]
    have h1 : (f.data ++ [n]).take 10 = f.data.take 10 := List.take_append_of_le_length (by omega)
    have h2 : (f.data ++ [n]).drop 10 = f.data.drop 10 ++ [n] := List.drop_append_of_le_length (by omega)
    unfold opnS opnOf
    simp only [h1, h2]
    rw [padTo_snoc n (by rw [List.length_drop]; omega), List.length_drop]
theorem opnS_pop (f : RF) (j sz : Nat) (h0 : f.data ≠ []) (h : f.data.length ≤ 138) (b : Str) : opnS { f with data := f.data.dropLast, bytes := b } j sz = (opnS f j sz).setSlot (f.data.length - 1) 0 := by
  obtain ⟨l, x, hlx⟩ : ∃ l x, f.data = l ++ [x] := ⟨f.data.dropLast, f.data.getLast h0, (List.dropLast_concat_getLast h0).symm⟩
  have hlen : f.data.length - 1 = l.length := by rw [hlx, List.length_append, List.length_singleton]; omega
  have hll : l.length < 138 := by rw [hlx, List.length_append, List.length_singleton] at h; omega
  rw [hlen]
  unfold Opn.setSlot
  by_cases hk : l.length < 10
  · rw [if_pos hk]
    have h1 : (l ++ [x]).take 10 = l ++ [x] := List.take_of_length_le (by rw [List.length_append, List.length_singleton]; omega)
    have h2 : l.take 10 = l := List.take_of_length_le (by omega)
    have h3 : (l ++ [x]).drop 10 = [] := List.drop_eq_nil_of_le (by rw [List.length_append, List.length_singleton]; omega)
    have h4 : l.drop 10 = [] := List.drop_eq_nil_of_le (by omega)
    unfold opnS opnOf
    simp only [hlx, List.dropLast_concat, h1, h2, h3, h4]
    rw [List.set_append_left _ _ (by rw [padTo_length (by rw [List.length_append, List.length_singleton]; omega)]; exact hk), padTo_pop hk]
  · rw [if_neg hk]
    have h1 : (l ++ [x]).take 10 = l.take 10 := List.take_append_of_le_length (by omega)
    have h2 : (l ++ [x]).drop 10 = l.drop 10 ++ [x] := List.drop_append_of_le_length (by omega)
    unfold opnS opnOf
    simp only [hlx, List.dropLast_concat, h1, h2]
    rw [show l.length - 10 = (l.drop 10).length from by rw [List.length_drop], padTo_pop (by rw [List.length_drop]; omega)]
theorem opnS_setInd (f : RF) (j sz n : Nat) : opnS { f with ind := n } j sz = (opnS f j sz).setInd n := by
  unfold opnS opnOf Opn.setInd
  simp only
  congr 1
  have h : (padTo 10 (f.data.take 10)).length = 10 := padTo_length (by rw [List.length_take]; omega)
  rw [List.set_append_right _ _ (by omega), h]; rfl
theorem RS.set_set (T : RS) (j : Nat) (f g : RF) : (T.set j f).set j g = T.set j g := by unfold RS.set; simp only [List.set_set]
end Go.Proofs.YtakmplpfjcddiaaGreatDoor

namespace Go.Proofs.YtakmplpfjcddiaaGreatDoor
open Go.RowKit Go.Shelf Pa
theorem nodup_snoc {l : List Nat} {n : Nat} (h : l.Nodup) (hn : n ∉ l) : (l ++ [n]).Nodup := by
  rw [List.nodup_append]
  refine ⟨h, by simp, fun a ha b hb e => hn ?_⟩
  have hb : b = n := by simpa using hb
  rw [← hb, ← e]; exact ha
theorem nodup_snoc_inv {l : List Nat} {n : Nat} (h : (l ++ [n]).Nodup) : l.Nodup ∧ n ∉ l := by
  rw [List.nodup_append] at h
  exact ⟨h.1, fun hn => h.2.2 n hn n (by simp) rfl⟩
theorem getD_setB (l : List Bool) (n m : Nat) (b : Bool) (hn : n < l.length) : (l.set n b).getD m false = if m = n then b else l.getD m false := by
  rw [List.getD_eq_getElem?_getD, List.getElem?_set]
  by_cases e : n = m
  · subst e; rw [if_pos rfl, if_pos hn, if_pos rfl]; rfl
  · rw [if_neg e, if_neg (fun e2 => e e2.symm), List.getD_eq_getElem?_getD]
theorem pageOf_congr {a b : Str} {k : Nat} (h : ∀ i, i < 512 → a.getD (512 * k + i) 0 = b.getD (512 * k + i) 0) : pageOf a k = pageOf b k :=
  pageOf_ext (pageOf_length _ _) fun i hi => by rw [pageOf_getElem? _ _ _ hi, h i hi]
theorem pageOf_take {b : Str} {k m : Nat} (h : k < m) : pageOf (b.take (512 * m)) k = pageOf b k :=
  pageOf_congr fun i hi => by rw [List.getD_eq_getElem?_getD, List.getD_eq_getElem?_getD, List.getElem?_take_of_lt (by omega)]
theorem pageOf_fit {b : Str} {k n : Nat} (h : 512 * k + 512 ≤ n) : pageOf (fitTo b n) k = pageOf b k :=
  pageOf_congr fun i hi => fitTo_getD b n _ (by omega)
/-- The same kind, mode, links. -/
structure RF.like (f g : RF) : Prop where
  kind : g.kind = f.kind
  mode : g.mode = f.mode
  links : g.links = f.links
theorem RF.like.refl (f : RF) : f.like f := ⟨rfl, rfl, rfl⟩
theorem RF.like.trans {f g h : RF} (a : f.like g) (b : g.like h) : f.like h := ⟨b.kind.trans a.kind, b.mode.trans a.mode, b.links.trans a.links⟩
theorem FOk.push {C : Ca} {T : RS} {f : RF} (h : FOk C T f) {n i' : Nat} (hn : T.first ≤ n ∧ n < C.G.pages ∧ T.p.getD n false = true) (hnf : n ∉ f.pgs) (hi : (f.data.length ≠ 10 ∧ i' = f.ind) ∨ (f.data.length = 10 ∧ i' ≠ 0 ∧ (T.first ≤ i' ∧ i' < C.G.pages ∧ T.p.getD i' false = true) ∧ i' ∉ f.pgs ∧ i' ≠ n)) (hz : C.rd n = pageZ) (hb : f.bytes.length ≤ 512 * f.data.length) (hd : f.data.length < 138) :
    FOk C T { f with data := f.data ++ [n], ind := i' } ∧ ∀ m ∈ ({ f with data := f.data ++ [n], ind := i' } : RF).pgs, m ∈ f.pgs ∨ m = n ∨ (f.data.length = 10 ∧ m = i') := by
  have hl : (f.data ++ [n]).length = f.data.length + 1 := by rw [List.length_append, List.length_singleton]
  have hmem : ∀ m ∈ ({ f with data := f.data ++ [n], ind := i' } : RF).pgs, m ∈ f.pgs ∨ m = n ∨ (f.data.length = 10 ∧ m = i') := by
    intro m hm
    have h1 : m ∈ f.data ++ [n] ∨ (i' ≠ 0 ∧ m = i') := by
      unfold RF.pgs at hm
      split at hm
      · exact .inl hm
      · rename_i h0
        rcases List.mem_append.1 hm with hm | hm
        · exact .inl hm
        · exact .inr ⟨h0, by simpa using hm⟩
    rcases h1 with h1 | ⟨h0, h1⟩
    · rcases List.mem_append.1 h1 with h1 | h1
      · exact .inl (pgs_data h1)
      · exact .inr (.inl (by simpa using h1))
    · rcases hi with ⟨_, e⟩ | ⟨e, _⟩
      · left; rw [h1, e]; exact pgs_ind (e ▸ h0)
      · exact .inr (.inr ⟨e, h1⟩)
  refine ⟨{ h with few := by rw [hl]; omega, len := by show f.bytes.length ≤ 512 * (f.data ++ [n]).length; rw [hl]; omega, ind := ?_, own := fun m hm => ?_, nodup := ?_, bytes := fun k hk => ?_ }, hmem⟩
  · show i' = 0 ↔ (f.data ++ [n]).length ≤ 10
    rw [hl]
    rcases hi with ⟨h1, rfl⟩ | ⟨h1, h2, _⟩
    · have := h.ind; omega
    · omega
  · rcases hmem m hm with h1 | h1 | ⟨h0, h1⟩
    · exact h.own m h1
    · rw [h1]; exact hn
    · rcases hi with ⟨e, _⟩ | ⟨_, _, e, _⟩
      · exact absurd h0 e
      · rw [h1]; exact e
  · have hnd := h.nodup
    have hnd2 : n ∉ f.data := fun e => hnf (pgs_data e)
    rcases hi with ⟨h1, rfl⟩ | ⟨h1, h2, _, h3, h4⟩
    · unfold RF.pgs at hnd ⊢
      show (if f.ind = 0 then f.data ++ [n] else f.data ++ [n] ++ [f.ind]).Nodup
      by_cases h0 : f.ind = 0
      · rw [if_pos h0] at hnd ⊢
        exact nodup_snoc hnd hnd2
      · rw [if_neg h0] at hnd ⊢
        obtain ⟨a1, a2⟩ := nodup_snoc_inv hnd
        refine nodup_snoc (nodup_snoc a1 hnd2) fun e => ?_
        rcases List.mem_append.1 e with e | e
        · exact a2 e
        · have e : f.ind = n := by simpa using e
          exact hnf (e ▸ pgs_ind h0)
    · have h0 : f.ind = 0 := h.ind.2 (by omega)
      unfold RF.pgs at hnd ⊢
      rw [if_pos h0] at hnd
      show (if i' = 0 then f.data ++ [n] else f.data ++ [n] ++ [i']).Nodup
      rw [if_neg h2]
      refine nodup_snoc (nodup_snoc hnd hnd2) fun e => ?_
      rcases List.mem_append.1 e with e | e
      · exact h3 (pgs_data e)
      · exact h4 (by simpa using e)
  · have hk : k < (f.data ++ [n]).length := hk
    rw [hl] at hk
    show C.rd ((f.data ++ [n]).getD k 0) = pageOf f.bytes k
    rw [List.getD_eq_getElem?_getD]
    by_cases e : k < f.data.length
    · rw [List.getElem?_append_left e, ← List.getD_eq_getElem?_getD]; exact h.bytes k e
    · obtain rfl : k = f.data.length := by omega
      rw [List.getElem?_append_right (Nat.le_refl _), Nat.sub_self]
      show C.rd n = _
      rw [hz, pageOf_far hb]
/-- Midway: the file's pages stand as they must; its record need not. -/
structure Mid (C : Ca) (T : RS) (j : Nat) (f : RF) : Prop where
  rel : Rel C (T.set j f) (fun k => k = j)
  live : T.live j
  lt : j < T.l.length
theorem Mid.file {C : Ca} {T : RS} {j : Nat} {f : RF} (h : Mid C T j f) : (T.set j f).file j = f := by rw [file_set _ _ _ _ h.lt, if_pos rfl]
theorem Mid.ok {C : Ca} {T : RS} {j : Nat} {f : RF} (h : Mid C T j f) : 1 ≤ f.kind ∧ FOk C (T.set j f) f := by
  have := h.rel.files j h.live
  rw [h.file] at this; exact this
theorem Mid.grow {C : Ca} {T : RS} {j sz : Nat} {f : RF} (h : Mid C T j f) (hd : f.data.length < 138) : match rgrow1 (T, f) with
    | none => grow1 (opnS f j sz, C) f.data.length = none
    | some s => ∃ C', grow1 (opnS f j sz, C) f.data.length = some (opnS s.2 j sz, C') ∧ Mid C' s.1 j s.2 ∧ (C'.G = C.G ∧ C'.most = C.most) ∧ s.2.data.length = f.data.length + 1 ∧ s.2.bytes = f.bytes ∧ (s.1.l = T.l ∧ s.1.i = T.i) ∧ f.like s.2 := by
  have hok := h.ok
  have hpg := h.rel.page
  have hTp : (T.set j f).p = T.p := rfl
  rw [hTp] at hpg
  by_cases h10 : f.data.length = 10
  · have hi0 : f.ind = 0 := hok.2.ind.2 (by omega)
    unfold rgrow1 grow1 RS.takeP
    simp only
    rw [if_pos ⟨h10, hi0⟩, if_pos h10]
    cases ht : takeB T.p with
    | none => rw [ht] at hpg; simp only at hpg; rw [hpg]
    | some n0 =>
      rw [ht] at hpg
      simp only at hpg
      obtain ⟨C0, e0, r0, z0, g0, m0, b0, f0, u0, w0⟩ := hpg
      rw [e0]
      simp only
      have hpg1 := r0.page
      have hq : ({ T.set j f with p := T.p.set n0 true } : RS).p = T.p.set n0 true := rfl
      rw [hq] at hpg1
      cases ht1 : takeB (T.p.set n0 true) with
      | none => rw [ht1] at hpg1; simp only at hpg1; rw [hpg1]
      | some n1 =>
        rw [ht1] at hpg1
        simp only at hpg1
        obtain ⟨C1, e1, r1, z1, g1, m1, b1, f1, u1, w1⟩ := hpg1
        rw [e1]
        simp only
        obtain ⟨t0, _⟩ := takeB_some ht
        obtain ⟨t1, _⟩ := takeB_some ht1
        have hu0 : (T.p.set n0 true).getD n0 false = true := by rw [getD_setB _ _ _ _ t0, if_pos rfl]
        have hne : n0 ≠ n1 := fun e => by rw [← e, hu0] at u1; cases u1
        have hfile1 : ({ T.set j f with p := (T.p.set n0 true).set n1 true } : RS).file j = f := h.file
        have hok1 := r1.files j h.live
        rw [show ({ ({ T.set j f with p := T.p.set n0 true } : RS) with p := (T.p.set n0 true).set n1 true } : RS) = { T.set j f with p := (T.p.set n0 true).set n1 true } from rfl] at hok1 r1
        rw [hfile1] at hok1
        have w0j := w0 j
        rw [h.file] at w0j
        have w1j : n1 ∉ f.pgs := by have := w1 j; rw [show ({ T.set j f with p := T.p.set n0 true } : RS).file j = f from h.file] at this; exact this
        obtain ⟨hF, hmem⟩ := hok1.2.push (n := n1) (i' := n0) ⟨f1, by rw [g1]; exact b1, by show ((T.p.set n0 true).set n1 true).getD n1 false = true; rw [getD_setB _ _ _ _ t1, if_pos rfl]⟩ w1j
          (.inr ⟨h10, fun e => by rw [e] at f0; have := h.rel.small; omega, ⟨f0, by rw [g1, g0]; exact b0, by show ((T.p.set n0 true).set n1 true).getD n0 false = true; rw [getD_setB _ _ _ _ t1, if_neg hne]; exact hu0⟩, w0j, hne⟩) z1 hok.2.len hd
        have hrel := r1.file (j := j) (f' := { f with data := f.data ++ [n1], ind := n0 }) h.live rfl hok1.1 hF fun m hm => by
          rw [hfile1]
          rcases hmem m hm with e | e | ⟨_, e⟩
          · exact .inl e
          · right; rw [e]; exact w1
          · right; rw [e]; exact w0
        refine ⟨C1, ?_, ⟨?_, h.live, h.lt⟩, ⟨g1.trans g0, m1.trans m0⟩, by rw [List.length_append, List.length_singleton], (by first | rfl | trivial), (by first | exact ⟨rfl, rfl⟩ | exact ⟨trivial, trivial⟩), ⟨rfl, rfl, rfl⟩⟩
        · have e9 := opnS_push { f with ind := n0 } j sz n1 hd
          rw [opnS_setInd] at e9
          exact congrArg some (congrArg (·, C1) e9.symm)
        · have : ({ T.set j f with p := (T.p.set n0 true).set n1 true } : RS).set j { f with data := f.data ++ [n1], ind := n0 } = ({ T with p := (T.p.set n0 true).set n1 true } : RS).set j { f with data := f.data ++ [n1], ind := n0 } := by
            unfold RS.set; simp only [List.set_set]
          rw [this] at hrel; exact hrel
  · unfold rgrow1 grow1 RS.takeP
    simp only
    rw [if_neg (fun e => h10 e.1), if_neg h10]
    simp only
    cases ht : takeB T.p with
    | none => rw [ht] at hpg; simp only at hpg; rw [hpg]
    | some n0 =>
      rw [ht] at hpg
      simp only at hpg
      obtain ⟨C0, e0, r0, z0, g0, m0, b0, f0, u0, w0⟩ := hpg
      rw [e0]
      simp only
      obtain ⟨t0, _⟩ := takeB_some ht
      have hfile0 : ({ T.set j f with p := T.p.set n0 true } : RS).file j = f := h.file
      have hok0 := r0.files j h.live
      rw [hfile0] at hok0
      have w0j := w0 j
      rw [h.file] at w0j
      obtain ⟨hF, hmem⟩ := hok0.2.push (n := n0) (i' := f.ind) ⟨f0, by rw [g0]; exact b0, by show (T.p.set n0 true).getD n0 false = true; rw [getD_setB _ _ _ _ t0, if_pos rfl]⟩ w0j (.inl ⟨h10, rfl⟩) z0 hok.2.len hd
      have hrel := r0.file (j := j) (f' := { f with data := f.data ++ [n0], ind := f.ind }) h.live rfl hok0.1 hF fun m hm => by
        rw [hfile0]
        rcases hmem m hm with e | e | ⟨e, _⟩
        · exact .inl e
        · right; rw [e]; exact w0
        · exact absurd e h10
      refine ⟨C0, ?_, ⟨?_, h.live, h.lt⟩, ⟨g0, m0⟩, by rw [List.length_append, List.length_singleton], (by first | rfl | trivial), (by first | exact ⟨rfl, rfl⟩ | exact ⟨trivial, trivial⟩), ⟨rfl, rfl, rfl⟩⟩
      · rw [← opnS_push f j sz n0 hd]
      · have : ({ T.set j f with p := T.p.set n0 true } : RS).set j { f with data := f.data ++ [n0], ind := f.ind } = ({ T with p := T.p.set n0 true } : RS).set j { f with data := f.data ++ [n0] } := by
          unfold RS.set; simp only [List.set_set]
        rw [this] at hrel; exact hrel
theorem FOk.less {C : Ca} {T : RS} {f : RF} (h : FOk C T f) (h0 : f.data ≠ []) {i' : Nat} (hi' : (f.data.length - 1 = 10 ∧ i' = 0) ∨ (f.data.length - 1 ≠ 10 ∧ i' = f.ind)) :
    FOk C T { f with data := f.data.dropLast, bytes := f.bytes.take (512 * (f.data.length - 1)), ind := i' } ∧ ∀ m ∈ ({ f with data := f.data.dropLast, bytes := f.bytes.take (512 * (f.data.length - 1)), ind := i' } : RF).pgs, m ∈ f.pgs ∧ m ≠ f.data.getD (f.data.length - 1) 0 ∧ (f.data.length - 1 = 10 → m ≠ f.ind) := by
  have hp := List.length_pos_iff.2 h0
  obtain ⟨l, x, hlx⟩ : ∃ l x, f.data = l ++ [x] := ⟨f.data.dropLast, f.data.getLast h0, (List.dropLast_concat_getLast h0).symm⟩
  have hd : f.data.dropLast = l := by rw [hlx]; exact List.dropLast_concat
  have hlen : f.data.length - 1 = l.length := by rw [hlx, List.length_append, List.length_singleton]; omega
  have hlen2 : f.data.length = l.length + 1 := by omega
  have hx : f.data.getD (f.data.length - 1) 0 = x := by rw [hlen, hlx, List.getD_eq_getElem?_getD, List.getElem?_append_right (Nat.le_refl _), Nat.sub_self]; rfl
  have hnd : f.data.Nodup := by
    have := h.nodup
    unfold RF.pgs at this
    split at this
    · exact this
    · exact (List.nodup_append.1 this).1
  have hnd2 := hnd
  rw [hlx] at hnd2
  obtain ⟨n1, n2⟩ := nodup_snoc_inv hnd2
  have hini : f.ind ≠ 0 → f.ind ∉ f.data := fun h0 => by
    have := h.nodup
    unfold RF.pgs at this
    rw [if_neg h0] at this
    exact (nodup_snoc_inv this).2
  have hpg : ({ f with data := f.data.dropLast, bytes := f.bytes.take (512 * (f.data.length - 1)), ind := i' } : RF).pgs = if i' = 0 then l else l ++ [i'] := by
    unfold RF.pgs
    simp only [hd]
  have hmem : ∀ m ∈ ({ f with data := f.data.dropLast, bytes := f.bytes.take (512 * (f.data.length - 1)), ind := i' } : RF).pgs, m ∈ f.pgs ∧ m ≠ f.data.getD (f.data.length - 1) 0 ∧ (f.data.length - 1 = 10 → m ≠ f.ind) := by
    intro m hm
    rw [hx]
    have h1 : m ∈ l ∨ (f.data.length - 1 ≠ 10 ∧ f.ind ≠ 0 ∧ m = f.ind) := by
      rw [hpg] at hm
      split at hm
      · exact .inl hm
      · rename_i hz
        rcases List.mem_append.1 hm with hm | hm
        · exact .inl hm
        · have hm : m = i' := by simpa using hm
          rcases hi' with ⟨_, e⟩ | ⟨e1, e2⟩
          · exact absurd e hz
          · exact .inr ⟨e1, e2 ▸ hz, hm.trans e2⟩
    rcases h1 with h1 | ⟨e1, e2, e3⟩
    · have hmf : m ∈ f.data := by rw [hlx]; exact List.mem_append_left _ h1
      refine ⟨pgs_data hmf, fun e => n2 (e ▸ h1), fun e10 e => ?_⟩
      have hi : f.ind ≠ 0 := fun e0 => by have := h.ind.1 e0; omega
      exact hini hi (e ▸ hmf)
    · refine ⟨e3 ▸ pgs_ind e2, fun e => ?_, fun e => absurd e e1⟩
      refine hini e2 ?_
      rw [← e3, e, hlx]; simp
  refine ⟨{ h with size := ?_, few := ?_, len := ?_, ind := ?_, own := fun m hm => h.own m (hmem m hm).1, nodup := ?_, bytes := fun k hk => ?_ }, hmem⟩
  · show (f.bytes.take (512 * (f.data.length - 1))).length ≤ 70656
    rw [List.length_take]; have := h.size; omega
  · show f.data.dropLast.length ≤ 138
    rw [hd]; have := h.few; omega
  · show (f.bytes.take (512 * (f.data.length - 1))).length ≤ 512 * f.data.dropLast.length
    rw [hd, List.length_take, hlen]; omega
  · show i' = 0 ↔ f.data.dropLast.length ≤ 10
    rw [hd]
    have := h.ind
    rcases hi' with ⟨e1, e2⟩ | ⟨e1, e2⟩ <;> omega
  · rw [hpg]
    split
    · exact n1
    · rename_i hz
      rcases hi' with ⟨_, e⟩ | ⟨e1, e2⟩
      · exact absurd e hz
      · rw [e2] at hz ⊢
        exact nodup_snoc n1 fun e => hini hz (by rw [hlx]; exact List.mem_append_left _ e)
  · have hk : k < f.data.dropLast.length := hk
    rw [hd] at hk
    show C.rd (f.data.dropLast.getD k 0) = pageOf (f.bytes.take (512 * (f.data.length - 1))) k
    rw [hd, hlen, pageOf_take hk, ← h.bytes k (by omega), hlx, List.getD_eq_getElem?_getD, List.getD_eq_getElem?_getD, List.getElem?_append_left hk]
theorem Mid.shrink {C : Ca} {T : RS} {j sz : Nat} {f : RF} (h : Mid C T j f) (h0 : f.data ≠ []) :
    ∃ C', shrink1 T.inodes (opnS f j sz, C) (f.data.length - 1) = some (opnS (rshrink1 (T, f)).2 j sz, C') ∧ Mid C' (rshrink1 (T, f)).1 j (rshrink1 (T, f)).2 ∧ (C'.G = C.G ∧ C'.most = C.most) := by
  have hok := h.ok
  have hp := List.length_pos_iff.2 h0
  obtain ⟨i', hi'⟩ : ∃ i', (f.data.length - 1 = 10 ∧ i' = 0) ∨ (f.data.length - 1 ≠ 10 ∧ i' = f.ind) := by
    by_cases e : f.data.length - 1 = 10
    · exact ⟨0, .inl ⟨e, rfl⟩⟩
    · exact ⟨f.ind, .inr ⟨e, rfl⟩⟩
  obtain ⟨hF, hmem⟩ := hok.2.less h0 hi'
  have hfew := hok.2.few
  obtain ⟨n, hn⟩ : ∃ n, n = f.data.getD (f.data.length - 1) 0 := ⟨_, rfl⟩
  obtain ⟨f', hf'⟩ : ∃ f' : RF, f' = { f with data := f.data.dropLast, bytes := f.bytes.take (512 * (f.data.length - 1)), ind := i' } := ⟨_, rfl⟩
  rw [← hf'] at hF hmem
  rw [← hn] at hmem
  have hnm : n ∈ f.pgs := by rw [hn]; exact pgs_data (getD_mem (by omega))
  have hr1 : Rel C (T.set j f') (fun k => k = j) := by
    have := h.rel.file (j := j) (f' := f') h.live rfl (by rw [hf']; exact hok.1) hF fun m hm => .inl (by rw [h.file]; exact (hmem m hm).1)
    rw [RS.set_set] at this; exact this
  have hfile' : ∀ k, (T.set j f').file k = if k = j then f' else T.file k := fun k => file_set _ _ _ _ h.lt
  have hfileF : ∀ k, (T.set j f).file k = if k = j then f else T.file k := fun k => file_set _ _ _ _ h.lt
  have hgone : ∀ m ∈ f.pgs, m ∉ f'.pgs → ∀ k, m ∉ ((T.set j f').file k).pgs := fun m hm hm' k hk => by
    rw [hfile'] at hk
    by_cases e : k = j
    · rw [if_pos e] at hk; exact hm' hk
    · rw [if_neg e] at hk
      exact e (h.rel.apart k j m (by rw [hfileF, if_neg e]; exact hk) (by rw [h.file]; exact hm))
  obtain ⟨o1, o2, o3⟩ := hok.2.own n hnm
  obtain ⟨g1, r1⟩ := hr1.giveP (n := n) o2 o1 o3 (hgone n hnm (fun e => (hmem n e).2.1 rfl))
  have hino : (T.set j f').inodes = T.inodes := rfl
  rw [hino] at g1
  have hslot : (opnS f j sz).slot (f.data.length - 1) = n := by rw [opnS_slot, hn]
  have hpop := opnS_pop f j sz h0 hfew (f.bytes.take (512 * (f.data.length - 1)))
  by_cases h10 : f.data.length - 1 = 10
  · have hi : f.ind ≠ 0 := fun e0 => by have := hok.2.ind.1 e0; omega
    have him := pgs_ind hi
    obtain ⟨q1, q2, q3⟩ := hok.2.own f.ind him
    have hne : f.ind ≠ n := by
      have := hok.2.nodup
      unfold RF.pgs at this
      rw [if_neg hi] at this
      intro e
      exact (nodup_snoc_inv this).2 (by rw [e, hn]; exact getD_mem (by omega))
    have hnlt : n < T.p.length := by
      have := h.rel.np
      rw [show (T.set j f).p = T.p from rfl] at this
      rw [this]; exact o2
    obtain ⟨g2, r2⟩ := r1.giveP (n := f.ind) q2 q1 (by show (T.p.set n false).getD f.ind false = true; rw [getD_setB _ _ _ _ hnlt, if_neg hne]; exact q3) (hgone f.ind him (fun e => (hmem _ e).2.2 h10 rfl))
    have hind : ((opnS f j sz).setSlot (f.data.length - 1) 0).ind = f.ind := by rw [← hpop]; exact opnS_ind _ _ _
    rw [show ({ T.set j f' with p := (T.set j f').p.set n false } : RS).inodes = T.inodes from rfl] at g2
    have hi0 : i' = 0 := by
      rcases hi' with ⟨_, e⟩ | ⟨e, _⟩
      · exact e
      · exact absurd h10 e
    have hrs : rshrink1 (T, f) = ((T.freeP n).freeP f.ind, { f with data := f.data.dropLast, bytes := f.bytes.take (512 * (f.data.length - 1)), ind := 0 }) := by
      unfold rshrink1
      simp only [if_pos h10, ← hn]
    rw [hrs]
    refine ⟨(C.set 2 (turnB (C.rd 2) n)).set 2 (turnB ((C.set 2 (turnB (C.rd 2) n)).rd 2) f.ind), ?_, ⟨?_, h.live, h.lt⟩, ⟨rfl, rfl⟩⟩
    · unfold shrink1
      simp only [hslot, g1, if_pos h10, hind, g2]
      rw [← hpop]
      exact congrArg some (congrArg (·, _) (opnS_setInd { f with data := f.data.dropLast, bytes := f.bytes.take (512 * (f.data.length - 1)) } j sz 0).symm)
    · rw [hf', hi0] at r2; exact r2
  · have hi0 : i' = f.ind := by
      rcases hi' with ⟨e, _⟩ | ⟨_, e⟩
      · exact absurd e h10
      · exact e
    have hrs : rshrink1 (T, f) = (T.freeP n, { f with data := f.data.dropLast, bytes := f.bytes.take (512 * (f.data.length - 1)) }) := by
      unfold rshrink1
      simp only [if_neg h10, ← hn]
    rw [hrs]
    refine ⟨C.set 2 (turnB (C.rd 2) n), ?_, ⟨?_, h.live, h.lt⟩, ⟨rfl, rfl⟩⟩
    · unfold shrink1
      simp only [hslot, g1, if_neg h10]
      rw [← hpop]
    · rw [hf', hi0] at r1; exact r1
theorem Mid.growsN {j sz : Nat} (n : Nat) : ∀ {C : Ca} {T : RS} {f : RF}, Mid C T j f → f.data.length + n ≤ 138 → match rgrowN n (T, f) with
    | none => growN f.data.length n (opnS f j sz, C) = none
    | some s => ∃ C', growN f.data.length n (opnS f j sz, C) = some (opnS s.2 j sz, C') ∧ Mid C' s.1 j s.2 ∧ (C'.G = C.G ∧ C'.most = C.most) ∧ s.2.data.length = f.data.length + n ∧ s.2.bytes = f.bytes ∧ (s.1.l = T.l ∧ s.1.i = T.i) ∧ f.like s.2 := by
  induction n with
  | zero => intro C T f h hd; exact ⟨C, rfl, h, ⟨rfl, rfl⟩, rfl, rfl, ⟨rfl, rfl⟩, RF.like.refl f⟩
  | succ n ih =>
    intro C T f h hd
    have h1 := h.grow (sz := sz) (by omega)
    unfold rgrowN growN
    cases hg : rgrow1 (T, f) with
    | none => rw [hg] at h1; simp only at h1; rw [h1]
    | some s =>
      rw [hg] at h1
      simp only at h1
      obtain ⟨C1, e1, m1, g1, l1, b1, t1, k1⟩ := h1
      rw [e1]
      simp only
      have h2 := ih m1 (by omega)
      rw [l1] at h2
      cases hg2 : rgrowN n (s.1, s.2) with
      | none => rw [hg2] at h2; simp only at h2; exact h2
      | some s2 =>
        rw [hg2] at h2
        simp only at h2
        obtain ⟨C2, e2, m2, g2, l2, b2, t2, k2⟩ := h2
        exact ⟨C2, e2, m2, ⟨g2.1.trans g1.1, g2.2.trans g1.2⟩, by omega, b2.trans b1, ⟨t2.1.trans t1.1, t2.2.trans t1.2⟩, k1.trans k2⟩
theorem rshrink1_like (T : RS) (f : RF) : f.like (rshrink1 (T, f)).2 ∧ (rshrink1 (T, f)).1.l = T.l ∧ (rshrink1 (T, f)).1.i = T.i ∧ (rshrink1 (T, f)).2.data = f.data.dropLast ∧ (rshrink1 (T, f)).2.bytes = f.bytes.take (512 * (f.data.length - 1)) := by
  unfold rshrink1 RS.freeP
  simp only
  split
  · exact ⟨⟨rfl, rfl, rfl⟩, rfl, rfl, rfl, rfl⟩
  · exact ⟨⟨rfl, rfl, rfl⟩, rfl, rfl, rfl, rfl⟩
theorem Mid.shrinksN {j sz : Nat} (n : Nat) : ∀ {C : Ca} {T : RS} {f : RF}, Mid C T j f → n ≤ f.data.length →
    ∃ C', shrinkN T.inodes f.data.length n (opnS f j sz, C) = some (opnS (rshrinkN n (T, f)).2 j sz, C') ∧ Mid C' (rshrinkN n (T, f)).1 j (rshrinkN n (T, f)).2 ∧ (C'.G = C.G ∧ C'.most = C.most) ∧ (rshrinkN n (T, f)).2.data.length = f.data.length - n ∧ (rshrinkN n (T, f)).2.bytes = f.bytes.take (512 * (f.data.length - n)) ∧ ((rshrinkN n (T, f)).1.l = T.l ∧ (rshrinkN n (T, f)).1.i = T.i) ∧ f.like (rshrinkN n (T, f)).2 := by
  induction n with
  | zero => intro C T f h hd; exact ⟨C, rfl, h, ⟨rfl, rfl⟩, rfl, (List.take_of_length_le h.ok.2.len).symm, ⟨rfl, rfl⟩, RF.like.refl f⟩
  | succ n ih =>
    intro C T f h hd
    have h0 : f.data ≠ [] := fun e => by rw [e] at hd; simp at hd
    obtain ⟨C1, e1, m1, g1⟩ := h.shrink (sz := sz) h0
    obtain ⟨k1, t1, i1, d1, b1⟩ := rshrink1_like T f
    have hl1 : (rshrink1 (T, f)).2.data.length = f.data.length - 1 := by rw [d1, List.length_dropLast]
    obtain ⟨C2, e2, m2, g2, l2, b2, t2, k2⟩ := ih m1 (by omega)
    have hino : (rshrink1 (T, f)).1.inodes = T.inodes := by unfold RS.inodes; rw [i1]
    rw [hl1, hino] at e2
    refine ⟨C2, ?_, m2, ⟨g2.1.trans g1.1, g2.2.trans g1.2⟩, ?_, ?_, ⟨t2.1.trans t1, t2.2.trans i1⟩, k1.trans k2⟩
    · unfold shrinkN
      rw [e1]; exact e2
    · show (rshrinkN n (rshrink1 (T, f))).2.data.length = _
      rw [l2, hl1]; omega
    · show (rshrinkN n (rshrink1 (T, f))).2.bytes = _
      rw [b2, b1, hl1, List.take_take]
      congr 1; omega
end Go.Proofs.YtakmplpfjcddiaaGreatDoor
