/-
  The walk over fsys's node: what a path leads to.
  The walk over fsys's made, where all goes well.
  The walk over fsys's stat: what is told of an inode.
  What a turn of an inode's mode and links leaves, in plain Lean.
  The walk over Set: an inode's mode and links are turned.
  The walk over fsys's away, where the inode keeps another name.
  do, of a file system; Mkdir.
  Mkdir of a mode that is none; Symlink.
  Write, of a path that is new.
  Stat.
  Read: a file's bytes.
  Read, as it is called.
-/
import Derived.Test.YtakmplpfjcddiaaGreatDoorG9
import Derived.Laws.Tables
import Derived.Lib.ConvBytes
import Derived.Laws.ResultCell
set_option linter.unusedVariables false
set_option linter.unusedSimpArgs false
set_option linter.deprecated false
namespace Go.Proofs.YtakmplpfjcddiaaGreatDoor
open Go.RowKit Go.Shelf Pa
attribute [local go_sem] bs_toList bs_size
theorem results_node {fn : Func} {p q : Tmp} (h : fn.results = #[.tmp q, .cell p 94]) (tmps : Array Value) (w : World) (b : Nat) (o : Opn) (hl : o.Len) (hp : tmps.getD p undef = .pointer (some ⟨b, 0, none⟩)) (hb : w.heap[b]? = some (.cells (cellsI o).toArray 94 (0, 0))) :
    (results fn tmps).run Tryz.prog w = .ok (.tuple #[tmps.getD q undef, .agg (cellsI o).toArray]) w := by
  have hl := run_loadVar_row (P := Tryz.prog) w b 94 94 (cellsI o).toArray (0, 0) _ hb Tryz.underlying94 rfl (by rw [info_inode, List.size_toArray, cellsI_length hl])
  rw [Array.getD_eq_getD_getElem?] at hp
  simp [results, h, hp, hl, asAddr]
set_option maxRecDepth 100000 in
set_option maxHeartbeats 2000000 in
theorem node_any (B f s c N i : Nat) (p : Str) (l : List Str) (o : Opn) (T : RS) (Z : Nat → Prop) (w : World) (h : FsI B w f s c T N Z) (hp : splitP p = some l) (hs : l.length ≤ 900) (ht : thr T l = (i, 0)) (hl : T.look i = 0) (ho : o = getR T i) (hol : o.Len) :
    Calls Tryz.prog 60 #[.pointer (some ⟨f, 0, none⟩), .string (bs p)] w fun e w' => e = .returned (.tuple #[.int .i64 i, .agg (cellsI o).toArray]) ∧ FsI B w' f s c T N Z ∧ KeptS B Z w w' := by
  obtain ⟨hF1, k1⟩ := h.box zInode
  have hbox : (w.alloc zInode).heap[w.heap.size]? = some (.cells #[.int .i64 0, .int .i64 0, .int .i64 0, .int .i64 0, .int .i64 0, .int .i64 0, .int .i64 0, .int .i64 0, .int .i64 0, .int .i64 0, .int .i64 0, .int .i64 0, .int .i64 0, .int .i64 0, .int .i64 0] 94 (0, 0)) := heap_alloc_new _ _
  obtain ⟨W1, hW1⟩ : ∃ W1, W1 = w.alloc zInode := ⟨_, rfl⟩
  have hz1 : W1.heap.size = w.heap.size + 1 := by rw [hW1, World.size_alloc]
  rw [← hW1] at hF1 k1 hbox
  have hpa := parts_any B f s c N p l T _ W1 hF1 hp
  have HPa := Lib.hid hpa
  have HH := Lib.hid (⟨h, k1, hbox⟩ : _ ∧ _ ∧ _)
  have HL := Lib.hid (⟨hl, hol⟩ : _ ∧ _)
  have HT := Lib.hid (⟨ht, hs, ho⟩ : _ ∧ _ ∧ _)
  clear hpa h hF1 k1 hbox hp ht hl hol ho hs
  go_enter Tryz.func60, Tryz.ntmps60
  go_wp2_with fail
  rw [← hW1]
  clear hW1
  refine HPa.out.mono ?_
  rintro e w2 ⟨A, cc, rfl, hcc, hF2, k2, hst⟩
  have hth := through_any B f s c N l.length cc A l T _ w2 hF2 hst rfl (by have := HT.out.2.1; omega)
  have HTh := Lib.hid hth
  have HK2 := Lib.hid k2
  clear hth hF2 k2 hst hcc HPa
  go_wp2_with fail
  refine HTh.out.mono ?_
  rintro e w3 ⟨he, hF3, k3⟩
  rw [HT.out.1] at he
  obtain rfl := he.1 rfl
  have hF3 := hF3.weak (Z' := fun k => Z k ∨ k = w.heap.size) (fun k hk => .inl hk) (.inl HH.out.1.fz)
  have k13 : KeptS B (fun k => Z k ∨ k = w.heap.size) W1 w3 := HK2.out.trans (k3.weak fun k hk => .inl hk)
  obtain ⟨q0, _⟩ := hF3.cells
  have hg := lget_any B s N i T _ w3 hF3.solo
  rw [← HT.out.2.2, HL.out.1] at hg
  have HG := Lib.hid hg
  have H3 := Lib.hid (⟨hF3, k13⟩ : _ ∧ _)
  clear he hF3 k3 k13 hg HTh HK2
  go_wp2_with fail
  refine HG.out.mono ?_
  rintro e w4 ⟨rfl, hs4, k4⟩
  have hF4 := H3.out.1.next hs4 k4 H3.out.1.fz
  have k14 := H3.out.2.trans k4
  obtain ⟨W5, hst5, _, hF5, k5, hb5⟩ := hF4.inode o HL.out.2
  have hl15 := cellsI_length HL.out.2
  have hz4 : w.heap.size < w4.heap.size := by have := k14.below.size; omega
  have HZ4 := Lib.hid hz4
  have H5 := Lib.hid (⟨hF5, k14.trans k5, hb5⟩ : _ ∧ _ ∧ _)
  clear hz4 hz1 hs4 k4 hF4 k14 hF5 k5 hb5 HG H3
  go_wp2_with fail
  refine (must_ok _).mono ?_
  rintro e w6 ⟨rfl, hw6⟩
  obtain rfl := hw6.symm
  obtain ⟨hF5, k15, hb5⟩ := H5.out
  obtain ⟨h0, h1, h2⟩ := HH.out
  have hbx : W5.heap[w.heap.size]? = some (.cells #[.int .i64 0, .int .i64 0, .int .i64 0, .int .i64 0, .int .i64 0, .int .i64 0, .int .i64 0, .int .i64 0, .int .i64 0, .int .i64 0, .int .i64 0, .int .i64 0, .int .i64 0, .int .i64 0, .int .i64 0] 94 (0, 0)) := (k15.z _ (.inr rfl)).trans h2
  have hld1 : W5.rangeAt w4.heap.size 0 (cellsI o) := fun j v hv => by rw [Nat.zero_add]; exact cell_of_row W5 _ j _ _ _ hb5 ▸ (by simpa using hv)
  have hld2 : W5.drew.rangeAt w4.heap.size 0 (cellsI o) := (World.rangeAt_drew _ _ _ _).2 hld1
  have hst1 := inode_store hbx rfl o HL.out.2
  have hst2 := inode_store (w := W5.drew) hbx rfl o HL.out.2
  have hfin : ∀ W9, Off (fun k => k = w.heap.size) W5 W9 → FsI B W9 f s c T N Z ∧ KeptS B Z w W9 := fun W9 ho =>
    h0.boxed hF5 (h1.trans (k15.weak fun k hk => .inl hk)) (Nat.le_refl _) (.inl (.inr rfl)) (fun k hk => .inl (.inl hk)) ho
  have hcl : (W5.setRow w.heap.size (cellsI o).toArray).heap[w.heap.size]? = some (.cells (cellsI o).toArray 94 (0, 0)) := heap_setRow _ _ _ _ hbx
  have hoff : Off (fun k => k = w.heap.size) W5 (W5.setRow w.heap.size (cellsI o).toArray) := off_setRow _ _ _
  have hra : (W5.drew.setRow w.heap.size (cellsI o).toArray).rangeAt w4.heap.size 0 (cellsI o) := fun j v hv => by
    rw [Nat.zero_add]
    have hb9 : (W5.drew.setRow w.heap.size (cellsI o).toArray).heap[w4.heap.size]? = W5.heap[w4.heap.size]? := hoff.block _ (Array.getElem?_eq_some_iff.1 hb5).1 (fun e => by have := HZ4.out; omega)
    exact cell_of_row _ _ j _ _ _ (hb9.trans hb5) ▸ (by simpa using hv)
  have HFin := Lib.hid (⟨hfin, hcl, hra⟩ : _ ∧ _ ∧ _)
  clear hbx hb5 hfin h0 h1 h2 hF5 k15 H5 HH HT hcl
  go_wp2_with fail
  refine wp_region_noPanic ?_
  refine wp_region_held_drew (S := fun w' => w'.rangeAt w4.heap.size 0 (cellsI o)) (by kernel_rfl) hld2 (fun hHeld => ?_)
  refine wpAnyH_take (i := 1) (oi := _) (v := .agg (cellsI o).toArray) rfl (by kernel_rfl) (by kernel_rfl) (by kernel_rfl) (fun _ _ _ h => h) (yieldsIf_load_mid rfl 94 _ rfl _ 0 rfl (cellsI o) _ (fun w h => h) Tryz.underlying94 rfl (by rw [info_inode, hl15])) hHeld ?_
  refine wpAnyH_take (i := 0) (oi := _) (v := .int .i64 i) rfl (by kernel_rfl) (by kernel_rfl) (by kernel_rfl) (fun _ _ _ h => h) (Or.inl ⟨by rfl, fun w hSw => by go_simp⟩) hHeld ?_
  refine wpAnyH_take (i := 2) (oi := _) (v := .int .i64 i) rfl (by kernel_rfl) (by kernel_rfl) (by kernel_rfl) (fun _ _ _ h => h) (Or.inl ⟨by rfl, fun w hSw => by go_simp⟩) hHeld ?_
  refine wpAnyH_ready (rs := [3]) (by kernel_rfl) (by simp) ?_
  refine AllReadyH.cons rfl (fun K hK => ?_) AllReadyH.nil
  go_simp
  refine hK.out _ _ HFin.out.2.2 (fun hHeld => ?_)
  refine wpAnyH_done (by kernel_rfl) ?_ _
  refine NoPanic.normal ?_
  try simp only [Act.put, List.setIfInBounds_toArray, List.set_cons_zero, List.set_cons_succ]
  go_wp2_with fail
  exact bodyPost_ret (results_node rfl _ _ w.heap.size o HL.out.2 rfl HFin.out.2.1) rfl ⟨rfl, HFin.out.1 _ (off_setRow W5 _ _).drew⟩
set_option maxRecDepth 100000 in
set_option maxHeartbeats 2000000 in
/-- A path that leads nowhere. -/
theorem node_bad (B f s c N n : Nat) (p : Str) (l : List Str) (T : RS) (Z : Nat → Prop) (w : World) (h : FsI B w f s c T N Z) (hp : splitP p = some l) (hs : l.length ≤ 900) (ht : (thr T l).2 = n) (hn : n ≠ 0) :
    Calls Tryz.prog 60 #[.pointer (some ⟨f, 0, none⟩), .string (bs p)] w fun e w' => e = gaveUp n ∧ FsI B w' f s c T N Z ∧ KeptS B Z w w' := by
  obtain ⟨hF1, k1⟩ := h.box zInode
  obtain ⟨W1, hW1⟩ : ∃ W1, W1 = w.alloc zInode := ⟨_, rfl⟩
  rw [← hW1] at hF1 k1
  have hpa := parts_any B f s c N p l T _ W1 hF1 hp
  have HPa := Lib.hid hpa
  have HH := Lib.hid (⟨h, k1⟩ : _ ∧ _)
  have HT := Lib.hid (⟨ht, hs, hn⟩ : _ ∧ _ ∧ _)
  clear hpa h hF1 k1 hp ht hs hn
  go_enter Tryz.func60, Tryz.ntmps60
  go_wp2_with fail
  rw [← hW1]
  clear hW1
  refine HPa.out.mono ?_
  rintro e w2 ⟨A, cc, rfl, hcc, hF2, k2, hst⟩
  have hth := through_any B f s c N l.length cc A l T _ w2 hF2 hst rfl (by have := HT.out.2.1; omega)
  have HTh := Lib.hid hth
  have HK2 := Lib.hid k2
  clear hth hF2 k2 hst hcc HPa
  go_wp2_with fail
  refine HTh.out.mono ?_
  rintro e w3 ⟨he, hF3, k3⟩
  have he2 := he.2 (by rw [HT.out.1]; exact HT.out.2.2)
  rw [HT.out.1] at he2
  obtain rfl := he2
  have hfin : FsI B w3 f s c T N Z ∧ KeptS B Z w w3 := ⟨hF3.weak (fun k hk => .inl (.inl hk)) HH.out.1.fz, HH.out.2.trans ((HK2.out.weak fun k hk => .inl hk).trans (k3.weak fun k hk => .inl (.inl hk)))⟩
  have HFin := Lib.hid hfin
  clear he hF3 k3 hfin HTh HK2
  go_wp2_with fail
  exact ⟨rfl, rfl, HFin.out⟩
end Go.Proofs.YtakmplpfjcddiaaGreatDoor

namespace Go.Proofs.YtakmplpfjcddiaaGreatDoor
open Go.RowKit Go.Shelf Pa
attribute [local go_sem] bs_toList bs_size
theorem BytesI.kept {B : Nat} {Z : Nat → Prop} {w w' : World} {v : Value} {b : Str} (h : BytesI w (fun k => Z k ∨ k < B) v b) (hk : KeptS B Z w w') : BytesI w' (fun k => Z k ∨ k < B) v b := by
  obtain ⟨A, c, e, hc, h⟩ := h
  refine ⟨A, c, e, hc, fun hn => ?_⟩
  obtain ⟨b0, o, e, hB, h⟩ := h hn
  have hh : w'.heap[b0]? = w.heap[b0]? := by
    rcases hB.2 with hb | hb
    · exact hk.z b0 hb
    · exact hk.below.block b0 hb
  exact ⟨b0, o, e, ⟨Nat.lt_of_lt_of_le hB.1 hk.below.size, hB.2⟩, fun i x hx => (World.cell?_of_block (w := w) hh).trans (h i x hx)⟩
set_option maxRecDepth 100000 in
set_option maxHeartbeats 2000000 in
theorem made_any (B f s c N i j k md : Nat) (p : Str) (l : List Str) (nm b : Str) (v : Value) (T T1 T2 : RS) (Z : Nat → Prop) (w : World) (h : FsI B w f s c T N Z) (hp : splitP p = some (l ++ [nm])) (hs : l.length ≤ 900) (ht : thr T l = (i, 0)) (hf : (findR T i nm).2.2 = 4)
    (hl : T.look i = 0) (hlen : ∀ j, (getR T j).Len) (hsz : (T.file i).bytes.length ≤ 60000) (hb : b.length ≤ 70656) (hv : BytesI w (fun k => Z k ∨ k < B) v b) (hk : 1 ≤ k ∧ k ≤ 3) (hmd : md ≤ 4095) (htk : takeB T.i = some j) (hlv : (T.mkI j k md).live j)
    (hw1 : wrT (T.mkI j k md) j b = some T1) (ha : addE T1 i nm j = 0) (hat : addAt (lookB T1 i) + 64 ≤ 70656) (hw2 : T1.write i (addAt (lookB T1 i)) (encS nm j) = some T2) :
    Calls Tryz.prog 57 #[.pointer (some ⟨f, 0, none⟩), .string (bs p), .int .i64 k, .int .i64 md, v] w fun e w' => e = .returned (.tuple #[]) ∧ FsI B w' f s c T2 N Z ∧ KeptS B Z w w' := by
  have hfr := fresh_any B f s c N i p l nm T Z w h hp hs ht hf
  obtain ⟨Av, cv, rfl, _, _⟩ := id hv
  have HFr := Lib.hid hfr
  have HH := Lib.hid (⟨h, hv⟩ : _ ∧ _)
  have HR := Lib.hid (⟨hl, hlen, hsz⟩ : _ ∧ _ ∧ _)
  have HM := Lib.hid (⟨htk, hk, hmd⟩ : _ ∧ _ ∧ _)
  have HW := Lib.hid (⟨hlv, hw1, hb⟩ : _ ∧ _ ∧ _)
  have HA := Lib.hid (⟨ha, hat, hw2⟩ : _ ∧ _ ∧ _)
  have hbl : decide ((70656 : Int) < (b.length : Int)) = false := by simp; omega
  clear hfr h hp hs ht hf hl hlen hsz hb hv hk hmd htk hlv hw1 ha hat hw2
  go_enter Tryz.func57, Tryz.ntmps57
  go_wp2_with fail
  refine HFr.out.mono ?_
  rintro e w3 ⟨rfl, hF3, k3⟩
  obtain ⟨hF4, k4⟩ := hF3.box (.cells #[.int .i64 i, .string (bs nm)] 116)
  have hbox4 : (w3.alloc (.cells #[.int .i64 i, .string (bs nm)] 116)).heap[w3.heap.size]? = some (.cells #[.int .i64 i, .string (bs nm)] 116 (0, 0)) := heap_alloc_new _ _
  obtain ⟨W4, hW4⟩ : ∃ W4, W4 = w3.alloc (.cells #[.int .i64 i, .string (bs nm)] 116) := ⟨_, rfl⟩
  rw [← hW4] at hF4 k4 hbox4
  have b0 : W4.cell? ⟨w3.heap.size, 0, none⟩ = some (.int .i64 i) := cell_of_heap hbox4 0
  have b1 : W4.cell? ⟨w3.heap.size, 1, none⟩ = some (.string (bs nm)) := cell_of_heap hbox4 1
  have hrm := roomFor_any B f s c N i nm T _ W4 hF4 HR.out.1 HR.out.2.1 HR.out.2.2
  have HRm := Lib.hid hrm
  have H4 := Lib.hid (⟨hbox4, k3.trans k4⟩ : _ ∧ _)
  clear hrm hbox4 hF4 k4 k3 hF3 HFr HR
  go_wp2_with fail
  rw [← hW4]
  clear hW4
  go_wp2_with fail
  refine HRm.out.mono ?_
  rintro e w5 ⟨rfl, hF5, k5⟩
  have b0 : w5.cell? ⟨w3.heap.size, 0, none⟩ = some (.int .i64 i) := cell_of_heap ((k5.z _ (.inr rfl)).trans H4.out.1) 0
  obtain ⟨q0, _⟩ := hF5.cells
  have hmk := lmake_any B s N j k md T _ w5 hF5.solo HM.out.1 HM.out.2.1 HM.out.2.2
  have HMk := Lib.hid hmk
  have H5 := Lib.hid (⟨hF5, k5⟩ : _ ∧ _)
  clear hmk hF5 k5 b0 HRm
  go_wp2_with fail
  refine HMk.out.mono ?_
  rintro e w6 ⟨rfl, s6, k6⟩
  have hF6 := H5.out.1.next s6 k6 H5.out.1.fz
  have H6 := Lib.hid (⟨hF6, H5.out.2.trans k6⟩ : _ ∧ _)
  clear hF6 s6 k6 H5 HMk q0
  go_wp2_with fail
  refine (must_ok _).mono ?_
  rintro e w7 ⟨rfl, hw7⟩
  obtain rfl := hw7.symm
  obtain ⟨hF6, k46⟩ := H6.out
  obtain ⟨q0, _⟩ := hF6.cells
  have hv6 := (HH.out.2.kept (H4.out.2.trans (k46.weak fun k hk => .inl hk)))
  have hwr := lwrite0_any B s N j b _ _ T1 _ w6 hF6.solo HW.out.1 HW.out.2.2 (hv6.mono fun k hk _ => hk.imp .inl id) HW.out.2.1
  have HWr := Lib.hid hwr
  clear hv6 hwr hF6 k46
  go_wp2_with fail
  refine HWr.out.mono ?_
  rintro e w8 ⟨rfl, s8, k8⟩
  have hF8 := H6.out.1.next s8 k8 H6.out.1.fz
  have H8 := Lib.hid (⟨hF8, H6.out.2.trans k8⟩ : _ ∧ _)
  clear hF8 s8 k8 H6 HWr q0
  go_wp2_with fail
  refine (must_ok _).mono ?_
  rintro e w9 ⟨rfl, hw9⟩
  obtain rfl := hw9.symm
  obtain ⟨hF8, k48⟩ := H8.out
  obtain ⟨q0, _⟩ := hF8.cells
  have hb8 : w8.heap[w3.heap.size]? = _ := (k48.z _ (.inr rfl)).trans H4.out.1
  have b0 : w8.cell? ⟨w3.heap.size, 0, none⟩ = some (.int .i64 i) := cell_of_heap hb8 0
  have b1 : w8.cell? ⟨w3.heap.size, 1, none⟩ = some (.string (bs nm)) := cell_of_heap hb8 1
  have hadd : ∀ W, Below w8.heap.size w8 W → Calls Tryz.prog 78 #[.pointer (some ⟨s, 0, none⟩), .int .i64 i, .string (bs nm), .int .i64 j] W fun e w' => e = .returned (.int .i64 0) ∧ (w'.cell? ⟨f, 0, none⟩ = some (.pointer (some ⟨s, 0, none⟩)) ∧ w'.cell? ⟨w3.heap.size, 0, none⟩ = some (.int .i64 i) ∧ w'.cell? ⟨w3.heap.size, 1, none⟩ = some (.string (bs nm))) ∧ Hid (∀ W9, Below w'.heap.size w' W9 → FsI B W9 f s c T2 N Z ∧ KeptS B Z w W9) := fun W hW => by
    obtain ⟨sW, kW⟩ := hF8.solo.fresh (Z' := fun k => Z k ∨ k = w3.heap.size) hW (fun k hk => .inl hk)
    have hFW := hF8.next sW kW hF8.fz
    have hla := ladd_any B s N i j nm T1 T2 _ W hFW.solo (by rw [if_pos HA.out.1]; exact ⟨HA.out.2.1, by rw [Int.toNat_natCast, Int.toNat_natCast]; exact HA.out.2.2⟩)
    rw [HA.out.1] at hla
    refine hla.mono ?_
    rintro e w' ⟨rfl, sX, kX⟩
    have hFX := hFW.next sX kX hFW.fz
    have kk := k48.trans (kW.trans kX)
    have hbX : w'.heap[w3.heap.size]? = _ := (kk.z _ (.inr rfl)).trans H4.out.1
    refine ⟨rfl, ⟨hFX.cells.1, cell_of_heap hbX 0, cell_of_heap hbX 1⟩, Lib.hid fun W9 hb9 => ?_⟩
    obtain ⟨s9, k9⟩ := hFX.solo.fresh (Z' := Z) hb9 (fun k hk => .inl (.inl hk))
    have kw9 := H4.out.2.trans ((kk.weak fun k hk => .inl hk).trans (k9.weak fun k hk => .inl hk))
    exact ⟨HH.out.1.next s9 kw9 HH.out.1.fz, kw9⟩
  have HAdd := Lib.hid hadd
  clear hadd hF8 k48 hb8 H8 HW HM HA HH H4
  go_wp2_with fail
  go_region_held3 (fun w' => w'.cell? ⟨f, 0, none⟩ = some (.pointer (some ⟨s, 0, none⟩)) ∧ w'.cell? ⟨w3.heap.size, 0, none⟩ = some (.int .i64 i) ∧ w'.cell? ⟨w3.heap.size, 1, none⟩ = some (.string (bs nm)))
    ((first | assumption | go_keep))
    (first
      | (go_at_call 78; go_split_ands; refine (HAdd.out _ (by first | exact Below.refl _ _ | exact (Below.refl _ _).drew)).mono ?_; rintro e w9 ⟨rfl, hc9, HF9⟩)
      | (go_at_call 61; go_split_ands; refine (must_ok _).mono ?_; rintro e w10 ⟨rfl, hw10⟩; obtain rfl := hw10.symm))
  all_goals
    go_wp2_with fail
    go_end0
    first | exact ⟨rfl, HF9.out _ (Below.refl _ _)⟩ | exact ⟨rfl, HF9.out _ (Below.refl _ _).drew⟩
end Go.Proofs.YtakmplpfjcddiaaGreatDoor

namespace Go.Proofs.YtakmplpfjcddiaaGreatDoor
open Go.RowKit Go.Shelf Pa
attribute [local go_sem] bs_toList bs_size
/-- What is told of an inode. -/
def szT (T : RS) (i : Nat) : Nat := if (getR T i).kind = 2 then (listP (lookB T i)).length else (getR T i).size
def statV (k md ln sz : Nat) : Value := .agg #[.int .i64 k, .int .i64 md, .int .i64 ln, .int .i64 sz]
abbrev zStat : Obj := .cells #[.int .i64 0, .int .i64 0, .int .i64 0, .int .i64 0] 33
theorem info_stat : (Tryz.prog.info? 33).map (·.size) = some 4 := by kernel_rfl
theorem results_stat {fn : Func} {p : Tmp} (h : fn.results = #[.cell p 33]) (tmps : Array Value) (w : World) (b k md ln sz : Nat) (hp : tmps.getD p undef = .pointer (some ⟨b, 0, none⟩)) (hb : w.heap[b]? = some (.cells #[.int .i64 k, .int .i64 md, .int .i64 ln, .int .i64 sz] 33 (0, 0))) :
    (results fn tmps).run Tryz.prog w = .ok (statV k md ln sz) w := by
  have hl := run_loadVar_row (P := Tryz.prog) w b 33 33 _ (0, 0) _ hb Tryz.underlying33 rfl (by rw [info_stat]; rfl)
  rw [Array.getD_eq_getD_getElem?] at hp
  simp [results, h, hp, hl, asAddr, statV]
theorem setCells4 (w : World) (b : Nat) (c : Array Value) (x0 x1 x2 x3 : Value) (hc : c.size = 4) (hb : w.heap[b]? = some (.cells c 33 (0, 0))) :
    ((((w.setCell ⟨b, 0, none⟩ x0).setCell ⟨b, 1, none⟩ x1).setCell ⟨b, 2, none⟩ x2).setCell ⟨b, 3, none⟩ x3).heap[b]? = some (.cells #[x0, x1, x2, x3] 33 (0, 0)) ∧ Off (fun k => k = b) w ((((w.setCell ⟨b, 0, none⟩ x0).setCell ⟨b, 1, none⟩ x1).setCell ⟨b, 2, none⟩ x2).setCell ⟨b, 3, none⟩ x3) := by
  refine ⟨?_, ((((Off.refl (fun k => k = b) w).setCell (p := ⟨b, 0, none⟩) (.inl rfl) _).setCell (p := ⟨b, 1, none⟩) (.inl rfl) _).setCell (p := ⟨b, 2, none⟩) (.inl rfl) _).setCell (p := ⟨b, 3, none⟩) (.inl rfl) _⟩
  have h1 := heap_setCell_at w b 0 x0 hb
  have h2 := heap_setCell_at _ b 1 x1 h1
  have h3 := heap_setCell_at _ b 2 x2 h2
  have h4 := heap_setCell_at _ b 3 x3 h3
  rw [h4]
  obtain ⟨l⟩ := c
  match l, hc with
  | [a0, a1, a2, a3], _ => simp
set_option maxRecDepth 100000 in
set_option maxHeartbeats 2000000 in
theorem stat_any (B f s c N i : Nat) (o : Opn) (T : RS) (Z : Nat → Prop) (w : World) (h : FsI B w f s c T N Z) (hl : T.look i = 0) (ho : o = getR T i) (hol : o.Len) :
    Calls Tryz.prog 67 #[.pointer (some ⟨f, 0, none⟩), .int .i64 i] w fun e w' => e = .returned (statV o.kind o.mode o.links (szT T i)) ∧ FsI B w' f s c T N Z ∧ KeptS B Z w w' := by
  obtain ⟨hF1, k1⟩ := h.box zStat
  have hbox : (w.alloc zStat).heap[w.heap.size]? = some (.cells #[.int .i64 0, .int .i64 0, .int .i64 0, .int .i64 0] 33 (0, 0)) := heap_alloc_new _ _
  obtain ⟨W1, hW1⟩ : ∃ W1, W1 = w.alloc zStat := ⟨_, rfl⟩
  have hz1 : W1.heap.size = w.heap.size + 1 := by rw [hW1, World.size_alloc]
  rw [← hW1] at hF1 k1 hbox
  obtain ⟨q0, _⟩ := hF1.cells
  have hg := lget_any B s N i T _ W1 hF1.solo
  rw [← ho, hl] at hg
  have HG := Lib.hid hg
  have HH := Lib.hid (⟨h, k1, hbox, hF1⟩ : _ ∧ _ ∧ _ ∧ _)
  have HL := Lib.hid (⟨hol, ho⟩ : _ ∧ _)
  clear hg h hF1 k1 hbox hl ho hol
  go_enter Tryz.func67, Tryz.ntmps67
  go_upto_region 1 with fail
  rw [← hW1]
  clear hW1
  go_wp2_with fail
  refine HG.out.mono ?_
  rintro e w2 ⟨rfl, s2, k2⟩
  have hF2 := HH.out.2.2.2.next s2 k2 HH.out.2.2.2.fz
  obtain ⟨W3, hst3, _, hF3, k3, hb3⟩ := hF2.inode o HL.out.1
  have hl15 := cellsI_length HL.out.1
  have p0 : W3.cell? ⟨w2.heap.size, 0, none⟩ = some (.int .i64 o.kind) := by rw [cell_of_heap hb3]; rfl
  have p1 : W3.cell? ⟨w2.heap.size, 1, none⟩ = some (.int .i64 o.mode) := by rw [cell_of_heap hb3]; rfl
  have p2 : W3.cell? ⟨w2.heap.size, 2, none⟩ = some (.int .i64 o.links) := by rw [cell_of_heap hb3]; rfl
  have p3 : W3.cell? ⟨w2.heap.size, 3, none⟩ = some (.int .i64 o.size) := by rw [cell_of_heap hb3]; rfl
  obtain ⟨hF4, k4⟩ := hF3.box (.cells #[.int .i64 o.kind, .int .i64 o.mode, .int .i64 o.links, .int .i64 o.size] 33)
  have hb4 : (W3.alloc (.cells #[.int .i64 o.kind, .int .i64 o.mode, .int .i64 o.links, .int .i64 o.size] 33)).heap[W3.heap.size]? = some (.cells #[.int .i64 o.kind, .int .i64 o.mode, .int .i64 o.links, .int .i64 o.size] 33 (0, 0)) := heap_alloc_new _ _
  have hb3' := (k4.z w2.heap.size (.inr rfl)).trans hb3
  obtain ⟨W4, hW4⟩ : ∃ W4, W4 = W3.alloc (.cells #[.int .i64 o.kind, .int .i64 o.mode, .int .i64 o.links, .int .i64 o.size] 33) := ⟨_, rfl⟩
  rw [← hW4] at hF4 k4 hb4 hb3'
  have k34 : KeptS B (fun k => Z k ∨ k = w.heap.size) W1 W4 := (k2.trans k3).trans (k4.weak fun k hk => .inl hk)
  have d0 : W4.cell? ⟨w2.heap.size, 0, none⟩ = some (.int .i64 o.kind) := by rw [cell_of_heap hb3']; rfl
  obtain ⟨q0, _⟩ := hF4.cells
  -- the end: it is laid into the result's box
  have hend : ∀ W6 sz, FsI B W6 f s c T N (fun k => Z k ∨ k = w.heap.size) → KeptS B (fun k => Z k ∨ k = w.heap.size) W1 W6 → W6.heap[W3.heap.size]? = some (.cells #[.int .i64 o.kind, .int .i64 o.mode, .int .i64 o.links, .int .i64 (sz : Nat)] 33 (0, 0)) →
      (W6.cell? ⟨W3.heap.size, 0, none⟩ = some (.int .i64 o.kind) ∧ W6.cell? ⟨W3.heap.size, 1, none⟩ = some (.int .i64 o.mode) ∧ W6.cell? ⟨W3.heap.size, 2, none⟩ = some (.int .i64 o.links) ∧ W6.cell? ⟨W3.heap.size, 3, none⟩ = some (.int .i64 sz)) ∧
      (W6.cell? ⟨w.heap.size, 0, none⟩ = some (.int .i64 0) ∧ W6.cell? ⟨w.heap.size, 1, none⟩ = some (.int .i64 0) ∧ W6.cell? ⟨w.heap.size, 2, none⟩ = some (.int .i64 0) ∧ W6.cell? ⟨w.heap.size, 3, none⟩ = some (.int .i64 0)) ∧
      (W6.frozen? ⟨w.heap.size, 0, none⟩ = false ∧ W6.frozen? ⟨w.heap.size, 1, none⟩ = false ∧ W6.frozen? ⟨w.heap.size, 2, none⟩ = false ∧ W6.frozen? ⟨w.heap.size, 3, none⟩ = false) ∧
      Hid (((((W6.setCell ⟨w.heap.size, 0, none⟩ (.int .i64 o.kind)).setCell ⟨w.heap.size, 1, none⟩ (.int .i64 o.mode)).setCell ⟨w.heap.size, 2, none⟩ (.int .i64 o.links)).setCell ⟨w.heap.size, 3, none⟩ (.int .i64 sz)).heap[w.heap.size]? = some (.cells #[.int .i64 o.kind, .int .i64 o.mode, .int .i64 o.links, .int .i64 sz] 33 (0, 0)) ∧
        FsI B ((((W6.setCell ⟨w.heap.size, 0, none⟩ (.int .i64 o.kind)).setCell ⟨w.heap.size, 1, none⟩ (.int .i64 o.mode)).setCell ⟨w.heap.size, 2, none⟩ (.int .i64 o.links)).setCell ⟨w.heap.size, 3, none⟩ (.int .i64 sz)) f s c T N Z ∧ KeptS B Z w ((((W6.setCell ⟨w.heap.size, 0, none⟩ (.int .i64 o.kind)).setCell ⟨w.heap.size, 1, none⟩ (.int .i64 o.mode)).setCell ⟨w.heap.size, 2, none⟩ (.int .i64 o.links)).setCell ⟨w.heap.size, 3, none⟩ (.int .i64 sz))) := fun W6 sz hF6 k6 hb6 => by
    obtain ⟨h0, h1, h2, _⟩ := HH.out
    have hbx : W6.heap[w.heap.size]? = _ := (k6.z _ (.inr rfl)).trans h2
    obtain ⟨e1, e2⟩ := setCells4 W6 w.heap.size _ (.int .i64 o.kind) (.int .i64 o.mode) (.int .i64 o.links) (.int .i64 sz) rfl hbx
    exact ⟨⟨cell_of_heap hb6 0, cell_of_heap hb6 1, cell_of_heap hb6 2, cell_of_heap hb6 3⟩, ⟨cell_of_heap hbx 0, cell_of_heap hbx 1, cell_of_heap hbx 2, cell_of_heap hbx 3⟩, ⟨free_of_heap hbx 0, free_of_heap hbx 1, free_of_heap hbx 2, free_of_heap hbx 3⟩,
      Lib.hid ⟨e1, h0.boxed hF6 (h1.trans (k6.weak fun k hk => .inl hk)) (Nat.le_refl _) (.inr rfl) (fun k hk => .inl hk) e2⟩⟩
  have hz3 : W1.heap.size ≤ W3.heap.size := (k2.trans k3).below.size
  have HZ := Lib.hid hz3
  have HEnd := Lib.hid hend
  have H4 := Lib.hid (⟨hF4, k34, hb4⟩ : _ ∧ _ ∧ _)
  clear hz3 hend hF4 k34 hb4 hb3' k4 s2 k2 hF2 hF3 k3 hb3 HG
  go_upto_region 3 with fail
  rw [← hW4]
  clear hW4
  by_cases hk : o.kind = 2
  · have hk' : ((o.kind : Int) == 2) = true := by rw [beq_iff_eq]; omega
    obtain ⟨hF4, k34, hb4⟩ := H4.out
    have hli := llist_any B s N i T _ W4 hF4.solo
    have HLi := Lib.hid hli
    have hszT : szT T i = (listP (lookB T i)).length := by unfold szT; rw [← HL.out.2, if_pos hk]
    have HSz := Lib.hid hszT
    clear hli hF4 k34 hb4 hk hszT
    go_wp2_with fail
    refine HLi.out.mono ?_
    rintro e w5 ⟨v, rfl, hown, s5, k5⟩
    obtain ⟨A, cc, rfl⟩ := ownsRow_slice hown
    obtain ⟨hF4, k34, hb4⟩ := H4.out
    have hF5 := hF4.next s5 k5 (.inl hF4.fz)
    have hb5 : w5.heap[W3.heap.size]? = _ := (k5.z _ (.inr rfl)).trans hb4
    have z3 : w5.cell? ⟨W3.heap.size, 3, none⟩ = some (.int .i64 o.size) := cell_of_heap hb5 3
    have z4 : w5.frozen? ⟨W3.heap.size, 3, none⟩ = false := free_of_heap hb5 3
    have hb6 := heap_setCell_at w5 W3.heap.size 3 (.int .i64 ((listP (lookB T i)).length : Nat)) hb5
    have ho6 : Off (fun k => k = W3.heap.size) w5 (w5.setCell ⟨W3.heap.size, 3, none⟩ (.int .i64 ((listP (lookB T i)).length : Nat))) := (Off.refl (fun k => k = W3.heap.size) w5).setCell (p := ⟨W3.heap.size, 3, none⟩) (.inl rfl) _
    have hF1 := HH.out.2.2.2
    obtain ⟨hF6, k6⟩ := hF1.boxed hF5 (k34.trans (k5.weak fun k hk => .inl (.inl hk))) (b := W3.heap.size) (by have := k34.below.size; have := HZ.out; omega) (.inl (.inr rfl)) (fun k hk => .inl (.inl (.inl hk))) ho6
    obtain ⟨⟨c0, c1, c2, c3⟩, ⟨e0, e1, e2, e3⟩, ⟨f0, f1, f2, f3⟩, HX⟩ := HEnd.out _ ((listP (lookB T i)).length) hF6 k6 (by rw [hb6]; simp)
    clear hF1 hF4 k34 hb4 hF5 hb5 hb6 ho6 hF6 k6 HLi hown s5 k5
    go_wp2_with fail
    rw [HSz.out]
    exact bodyPost_ret (results_stat rfl _ _ w.heap.size _ _ _ _ rfl HX.out.1) rfl ⟨rfl, HX.out.2⟩
  · have hk' : ((o.kind : Int) == 2) = false := by rw [beq_eq_false_iff_ne]; omega
    obtain ⟨hF4, k34, hb4⟩ := H4.out
    obtain ⟨⟨c0, c1, c2, c3⟩, ⟨e0, e1, e2, e3⟩, ⟨f0, f1, f2, f3⟩, HX⟩ := HEnd.out W4 o.size (hF4.weak (fun k hk => .inl (.inl hk)) (.inl HH.out.1.fz)) k34 hb4
    have hszT : szT T i = o.size := by unfold szT; rw [← HL.out.2, if_neg hk]
    have HSz := Lib.hid hszT
    clear hF4 k34 hb4 hk hszT
    go_wp2_with fail
    rw [HSz.out]
    exact bodyPost_ret (results_stat rfl _ _ w.heap.size _ _ _ _ rfl HX.out.1) rfl ⟨rfl, HX.out.2⟩
end Go.Proofs.YtakmplpfjcddiaaGreatDoor

namespace Go.Proofs.YtakmplpfjcddiaaGreatDoor
open Go.RowKit Go.Shelf Pa
/-- Its mode and links are turned. -/
def RS.setM (T : RS) (j m l : Nat) : RS := T.set j { T.file j with mode := m, links := l }
theorem setM_file {C : Ca} {T : RS} {ex : Nat → Prop} (h : Rel C T ex) {j : Nat} (hl : T.live j) (m l k : Nat) : (T.setM j m l).file k = if k = j then { T.file j with mode := m, links := l } else T.file k := by
  unfold RS.setM
  exact file_set T j k _ (by rw [h.ino]; exact RS.live_lt hl)
theorem Rel.setM {C : Ca} {T : RS} {j m l : Nat} (h : Rel C T (fun _ => False)) (ht : T.Tight) (hl : T.live j) (hm : m ≤ 4095) (hk : l ≤ 65535) : ∃ C', C.save (opnOf { T.file j with mode := m, links := l } j) = some C' ∧ Rel C' (T.setM j m l) (fun _ => False) ∧ C'.G = C.G ∧ (T.setM j m l).Tight := by
  have hx : Rel C T (fun k => k = j) := h.mono (fun k e => e.elim)
  obtain ⟨k1, fo⟩ := h.files j hl
  have hf : FOk C T { T.file j with mode := m, links := l } := { fo with mode := hm, links := hk }
  have h2 : Rel C (T.setM j m l) (fun k => k = j) := hx.file hl rfl k1 hf (fun n hn => .inl hn)
  have hl' : (T.setM j m l).live j := hl
  obtain ⟨C2, b1, b2, b3, b4⟩ := h2.save hl'
  have hfj := setM_file h hl m l j
  rw [if_pos rfl] at hfj
  rw [hfj] at b1
  refine ⟨C2, b1, b2.mono (fun k e => e.2 e.1), b3, fun k => ?_⟩
  rw [setM_file h hl]
  by_cases e : k = j
  · rw [if_pos e]; exact ht j
  · rw [if_neg e]; exact ht k
end Go.Proofs.YtakmplpfjcddiaaGreatDoor

namespace Go.Proofs.YtakmplpfjcddiaaGreatDoor
open Go.RowKit Go.Shelf Pa
attribute [local go_sem] bs_toList bs_size
theorem setRow_setCell (w : World) (b i : Nat) (cs : Array Value) (v : Value) : (w.setRow b cs).setCell ⟨b, i, none⟩ v = w.setRow b (cs.setIfInBounds i v) := by
  unfold World.setRow World.setCell
  have : ∀ (h : Array Obj), ((h.modify b fun | .cells _ elem frozen => .cells cs elem frozen | o => o).modify b fun | .cells c elem frozen => .cells (c.setIfInBounds i v) elem frozen | o => o) = h.modify b fun | .cells _ elem frozen => .cells (cs.setIfInBounds i v) elem frozen | o => o := fun h => by
    refine Array.ext (by simp) fun j h1 h2 => ?_
    rw [Array.getElem_modify, Array.getElem_modify, Array.getElem_modify]
    by_cases e : b = j
    · simp only [e, if_true]
      cases h[j]'(by simpa using h2) <;> rfl
    · simp only [e, if_false]
  have h2 := this w.heap
  exact congrArg (fun h => ({ w with heap := h } : World)) h2
theorem cellsO_set (o : Opn) (md ln : Nat) : ((cellsO o).toArray.setIfInBounds 1 (.int .i64 md)).setIfInBounds 2 (.int .i64 ln) = (cellsO { o with mode := md, links := ln }).toArray := by
  unfold cellsO
  simp
set_option maxRecDepth 100000 in
set_option maxHeartbeats 2000000 in
theorem set1_any (b0 bo s m c ino : Nat) (o1 : Opn) (C C2 : Ca) (R : Reg) (F : List (Nat × Obj)) (w : World) (h : Held w F c C R) (hm : (m, mapO c ino) ∈ F) (hs : (s, storeO m) ∈ F) (hi : ino ≤ 512) (h8 : ino % 8 = 0) (hp : alFirst ino ≤ C.G.pages)
    (q0 : w.heap[b0]? = some (.cells #[.pointer (some ⟨s, 0, none⟩)] 52 (0, 0))) (qo : OpnAt w bo o1) (hsv : C.save o1 = some C2) (hoi : o1.i < ino) (hon : o1.ind < C.G.pages) (hol : o1.Len) :
    Calls Tryz.prog 131 #[.pointer (some ⟨b0, 0, none⟩), .pointer (some ⟨bo, 0, none⟩)] w fun e w' => e = .returned (.tuple #[]) ∧ Step w F c C2 R w' := by
  have hsa := save_any s m c ino o1 C C2 R F w h hm hs hi h8 hp hol hoi hon hsv
  have k0 : w.cell? ⟨b0, 0, none⟩ = some (.pointer (some ⟨s, 0, none⟩)) := cell_of_heap q0 0
  have HO := Lib.hid qo
  have HSv := Lib.hid hsa
  clear hsa h hm hs q0 qo hsv
  go_enter Tryz.func131, Tryz.ntmps131
  go_wp2_with (refine wpList_load_row rfl 171 _ rfl bo rfl 171 (cellsO o1).toArray (0, 0) _ HO.out.1 Tryz.underlying171 rfl HO.out.info ?_)
  refine HSv.out.mono ?_
  rintro e w2 ⟨rfl, hs2⟩
  have HS2 := Lib.hid hs2
  clear hs2
  go_wp2_with fail
  go_end0
  exact ⟨rfl, HS2.out⟩
set_option maxRecDepth 100000 in
set_option maxHeartbeats 4000000 in
theorem iset_any (s m c ino i md ln : Nat) (o : Opn) (C C2 : Ca) (R : Reg) (F : List (Nat × Obj)) (w : World) (h : Held w F c C R) (hm : (m, mapO c ino) ∈ F) (hs : (s, storeO m) ∈ F) (hi : ino ≤ 512) (h8 : ino % 8 = 0) (hp : alFirst ino < C.G.pages)
    (hvv : ∀ j, 1 ≤ j → j < ino → bitAt (C.rd 1) j = true → (C.recd j).ind < C.G.pages) (hlo : C.loadR ino i = (o, 0)) (hlen : o.Len) (hmd : md ≤ 4095) (hln : ln ≤ 65535)
    (hsv : C.save { o with mode := md, links := ln } = some C2) (hoi : o.i < ino) (hon : o.ind < C.G.pages) :
    Calls Tryz.prog 64 #[.pointer (some ⟨s, 0, none⟩), .int .i64 i, .int .i64 md, .int .i64 ln] w fun e w' => e = .returned (.int .i64 0) ∧ Step w F c C2 R w' := by
  have hmf : ∀ (fn : Fn) (first cap : Array Value) (w : World), (Instr.makeFunc fn first cap).run Tryz.prog w = .ok (.func fn first cap) w := fun _ _ _ _ => rfl
  obtain ⟨W0, hW0⟩ : ∃ W0, W0 = w.alloc (.cells #[.pointer (some ⟨s, 0, none⟩)] 52) := ⟨_, rfl⟩
  have p0 : W0.heap[w.heap.size]? = some (.cells #[.pointer (some ⟨s, 0, none⟩)] 52 (0, 0)) := by rw [hW0]; exact heap_alloc_new _ _
  have z0 : W0.heap.size = w.heap.size + 1 := by rw [hW0, World.size_alloc]
  have hb0 : Below w.heap.size w W0 := by rw [hW0]; exact (Below.refl _ _).alloc (Nat.le_refl _) _
  have h0 := h.below hb0
  have hld := load_any s m c ino i C R F W0 h0 hm hs hi hp hvv
  rw [hlo] at hld
  have ks0 : W0.cell? ⟨w.heap.size, 0, none⟩ = some (.pointer (some ⟨s, 0, none⟩)) := cell_of_heap p0 0
  have hmode : ∀ W, Calls Tryz.prog 130 #[.int .i64 md] W fun e w' => e = .returned (.bool true) ∧ W = w' := fun W => (mode_any md W).mono fun e w' hh => ⟨hh.1.trans (by simp; omega), hh.2⟩
  have ha0 : decide ((ln : Int) < 0) = false := by simp
  have ha1 : decide ((65535 : Int) < (ln : Int)) = false := by simp; omega
  obtain ⟨o', ho'⟩ : ∃ o' : Opn, o' = { o with mode := md, links := ln } := ⟨_, rfl⟩
  have hlen' : o'.Len := by rw [ho']; exact ⟨hlen.pages, hlen.more⟩
  have hoi' : o'.i < ino := by rw [ho']; exact hoi
  have hon' : o'.ind < C.G.pages := by rw [ho']; exact hon
  rw [← ho'] at hsv
  have HLd := Lib.hid hld
  have hmain : ∀ w1, Step W0 F c C R w1 → ∃ W3 W4 : World, W3 = (w1.alloc (.cells Tryz.zeroCells171 171)).setRow w1.heap.size (cellsO o).toArray ∧ OpnAt W3 w1.heap.size o ∧ W4 = (W3.setCell ⟨w1.heap.size, 1, none⟩ (.int .i64 md)).setCell ⟨w1.heap.size, 2, none⟩ (.int .i64 ln) ∧
      W3.cell? ⟨w.heap.size, 0, none⟩ = some (.pointer (some ⟨s, 0, none⟩)) ∧ W4.cell? ⟨w.heap.size, 0, none⟩ = some (.pointer (some ⟨s, 0, none⟩)) ∧
      Calls Tryz.prog 121 #[.pointer (some ⟨s, 0, none⟩), .func (.func 131) #[] #[.pointer (some ⟨w.heap.size, 0, none⟩), .pointer (some ⟨w1.heap.size, 0, none⟩)]] W4 fun e w' => e = .returned (.int .i64 0) ∧ Step w F c C2 R w' := by
    intro w1 ⟨R1, g1, t1, f1⟩
    have hop := opened_i s h hb0 g1 t1 f1 hlen'
    have hop3 := opened_i s h hb0 g1 t1 f1 hlen
    obtain ⟨W4, hW4⟩ : ∃ W4, W4 = (w1.alloc (.cells Tryz.zeroCells171 171)).setRow w1.heap.size (cellsO o').toArray := ⟨_, rfl⟩
    rw [← hW4] at hop
    have hw4 : W4 = ((((w1.alloc (.cells Tryz.zeroCells171 171)).setRow w1.heap.size (cellsO o).toArray).setCell ⟨w1.heap.size, 1, none⟩ (.int .i64 md)).setCell ⟨w1.heap.size, 2, none⟩ (.int .i64 ln)) := by
      rw [setRow_setCell, setRow_setCell, cellsO_set, hW4, ho']
    refine ⟨_, W4, rfl, (opn_new w1).row o hlen, hw4, cell_of_heap ((hop3.old3 _ (Nat.le_refl _) (by omega)).trans p0) 0, cell_of_heap ((hop.old3 _ (Nat.le_refl _) (by omega)).trans p0) 0, ?_⟩
    obtain ⟨W5, hW5⟩ : ∃ W5, W5 = (W4.alloc (.cells #[.pointer (some ⟨s, 0, none⟩)] 52)).alloc (.cells #[.int .i64 0] 27) := ⟨_, rfl⟩
    rw [← hW5] at hop
    obtain ⟨n1, n2, n3, n4⟩ := hop.new
    have hwr := set1_any w.heap.size w1.heap.size s m c ino o' C C2 R1 F W5 hop.held hm hs hi h8 (Nat.le_of_lt hp) ((hop.old w.heap.size (Nat.le_refl _) (by omega)).1.trans p0) hop.opn hsv hoi' hon' hlen'
    have htr := try_any s 131 #[.pointer (some ⟨w.heap.size, 0, none⟩), .pointer (some ⟨w1.heap.size, 0, none⟩)] W4
      (fun w6 => Step W5 F c C2 R1 w6 ∧ w6.heap[W4.heap.size + 1]? = some (.cells #[.int .i64 0] 27 (0, 0)))
      (enters_of Tryz.func131 (by kernel_rfl) rfl)
      (by
        rw [← hW5]
        refine hwr.mono ?_
        rintro e w6 ⟨rfl, hx6⟩
        refine ⟨rfl, hx6, ?_⟩
        obtain ⟨R6, _, _, o6⟩ := hx6
        rw [o6.block _ (by omega) (fun e => hop.err.2 (.inl e))]
        exact hop.err.1)
      (fun w6 hh => hh.2)
    refine htr.mono ?_
    rintro e w9 ⟨rfl, w6, ⟨⟨R6, g6, t6, o6⟩, _⟩, rfl⟩
    have hw5 : w.heap.size ≤ W5.heap.size := hop.off.size
    have oX : Off (fun k => k = W4.heap.size + 1) w6 (w6.setCell ⟨W4.heap.size + 1, 0, none⟩ (.int .i64 0)) := (Off.refl (fun k => k = W4.heap.size + 1) w6).setCell (p := ⟨W4.heap.size + 1, 0, none⟩) (.inl rfl) _
    refine ⟨rfl, R6, g6.off oX (fun k hk e => ?_), hop.tw.trans t6 hw5, ((hop.off).trans o6 (fun k e => ?_)).trans oX (fun k e => .inr (by omega))⟩
    · exact t6.free hop.err.2 (by omega) (e ▸ hk)
    · exact hop.tw.m k e
  have HMain := Lib.hid hmain
  have HLen := Lib.hid hlen
  have HMode := Lib.hid hmode
  clear hld hmain hlen hmode h0 p0 h hm hs hvv hlo hsv hb0 ho' hlen' hoi' hon'
  go_enter Tryz.func64, Tryz.ntmps64
  go_wp2_with fail
  rw [← hW0]
  clear hW0
  refine HLd.out.mono ?_
  rintro e w1 ⟨rfl, hs1⟩
  obtain ⟨W3, W4, hW3, hO3, hW4, a3, a4, htr⟩ := HMain.out w1 hs1
  have hst := opn_store (opn_new w1) o HLen.out
  rw [← hW3] at hst
  have hl144 := cellsO_length HLen.out
  have q1 := hO3.mode
  have f1 := hO3.free 1
  have q2 : (W3.setCell ⟨w1.heap.size, 1, none⟩ (.int .i64 md)).cell? ⟨w1.heap.size, 2, none⟩ = some (.int .i64 o.links) := by
    rw [cell_of_heap (heap_setCell_at W3 w1.heap.size 1 (.int .i64 md) hO3.1)]
    simp [cellsO]
  have f2 : (W3.setCell ⟨w1.heap.size, 1, none⟩ (.int .i64 md)).frozen? ⟨w1.heap.size, 2, none⟩ = false := free_of_heap (heap_setCell_at W3 w1.heap.size 1 (.int .i64 md) hO3.1) 2
  rw [hW4] at a4 htr
  have HTr := Lib.hid htr
  clear hW3 hW4 hO3 hs1 htr HMain
  go_wp2_with (go_at_call 130; refine (HMode.out _).mono ?_; rintro e w9 ⟨rfl, rfl⟩)
  refine HTr.out.mono ?_
  rintro e w2 ⟨rfl, hs2⟩
  have HS2 := Lib.hid hs2
  clear hs2
  go_wp2_with fail
  go_ret
  exact ⟨rfl, HS2.out⟩
theorem sset_any (s N j md ln : Nat) (T : RS) (R : Reg) (w : World) (h : StI w s T R N) (hl : T.live j) (hmd : md ≤ 4095) (hln : ln ≤ 65535) :
    Calls Tryz.prog 64 #[.pointer (some ⟨s, 0, none⟩), .int .i64 j, .int .i64 md, .int .i64 ln] w fun e w' => e = .returned (.int .i64 0) ∧ StStep w s (T.setM j md ln) R N w' := by
  obtain ⟨m, c, C, F, h1, h2, h3, h4, h5, h6, h7⟩ := h
  obtain ⟨C2, a1, a2, a3, a4⟩ := h4.setM (m := md) (l := ln) h5 hl hmd hln
  have hlk := h4.lookLive hl
  have hlo := h4.loadR (j : Int)
  rw [hlk, if_pos rfl, Int.toNat_natCast] at hlo
  have hfo := (h4.files j hl).2
  have hs := h4.small
  refine (iset_any s m c T.inodes j md ln (opnOf (T.file j) j) C C2 R F w h1 h2 h3 h4.ino8.2.2.1 h4.ino8.1 h4.ino8.2.2.2 h4.recInd hlo (opnOf_len hfo h4.npl j) hmd hln a1 (RS.live_lt hl) ?_).mono ?_
  · rw [opnOf_ind]
    by_cases h0 : (T.file j).ind = 0
    · rw [h0]; omega
    · exact (hfo.own _ (pgs_ind h0)).2.1
  · rintro e w' ⟨rfl, R', k1, k2, k3⟩
    exact ⟨rfl, R', ⟨m, c, C2, F, k1, h2, h3, a2, a4, by rw [a3]; exact h6, by rw [a3]; exact h7⟩, k2, k3⟩
end Go.Proofs.YtakmplpfjcddiaaGreatDoor

namespace Go.Proofs.YtakmplpfjcddiaaGreatDoor
open Go.RowKit Go.Shelf Pa
attribute [local go_sem] bs_toList bs_size
theorem lset_any (B s N j md ln : Nat) (T : RS) (Z : Nat → Prop) (w : World) (h : Solo B w s T N Z) (hl : T.live j) (hmd : md ≤ 4095) (hln : ln ≤ 65535) :
    Calls Tryz.prog 64 #[.pointer (some ⟨s, 0, none⟩), .int .i64 j, .int .i64 md, .int .i64 ln] w fun e w' => e = .returned (.int .i64 0) ∧ Solo B w' s (T.setM j md ln) N Z ∧ KeptS B Z w w' := by
  obtain ⟨R, g, hl'⟩ := h.step
  refine (sset_any s N j md ln T R w g hl hmd hln).mono ?_
  rintro e w' ⟨rfl, hst⟩
  exact ⟨rfl, hl' w' _ _ hst⟩
set_option maxRecDepth 100000 in
set_option maxHeartbeats 2000000 in
theorem away_any (B f s c N i j : Nat) (nm : Str) (o : Opn) (T T1 : RS) (Z : Nat → Prop) (w : World) (h : FsI B w f s c T N Z) (hfe : (findR T i nm).2.2 = 0) (hfi : (findR T i nm).1.i = j) (hd : dropT T i nm = some T1) (hat : (findR T i nm).1.at_ + 64 ≤ 70656) (hnb : lookB T i ≠ [])
    (hlk : T1.look j = 0) (ho : o = getR T1 j) (hol : o.Len) (hln : 1 < o.links) (hl2 : o.links ≤ 65535) (hmd : o.mode ≤ 4095) :
    Calls Tryz.prog 80 #[.pointer (some ⟨f, 0, none⟩), .agg #[.int .i64 i, .string (bs nm)]] w fun e w' => e = .returned (.tuple #[]) ∧ FsI B w' f s c (T1.setM j o.mode (o.links - 1)) N Z ∧ KeptS B Z w w' := by
  obtain ⟨hF1, k1⟩ := h.box (.cells #[.int .i64 i, .string (bs nm)] 116)
  have hbox : (w.alloc (.cells #[.int .i64 i, .string (bs nm)] 116)).heap[w.heap.size]? = some (.cells #[.int .i64 i, .string (bs nm)] 116 (0, 0)) := heap_alloc_new _ _
  obtain ⟨W1, hW1⟩ : ∃ W1, W1 = w.alloc (.cells #[.int .i64 i, .string (bs nm)] 116) := ⟨_, rfl⟩
  rw [← hW1] at hF1 k1 hbox
  obtain ⟨q0, _⟩ := hF1.cells
  have b0 : W1.cell? ⟨w.heap.size, 0, none⟩ = some (.int .i64 i) := cell_of_heap hbox 0
  have b1 : W1.cell? ⟨w.heap.size, 1, none⟩ = some (.string (bs nm)) := cell_of_heap hbox 1
  have hdr : ∀ W, Below W1.heap.size W1 W → Calls Tryz.prog 89 #[.pointer (some ⟨s, 0, none⟩), .int .i64 i, .string (bs nm)] W fun e w' => e = .returned (.tuple #[.int .i64 j, .int .i64 0]) ∧ (w'.cell? ⟨f, 0, none⟩ = some (.pointer (some ⟨s, 0, none⟩)) ∧ w'.cell? ⟨w.heap.size, 0, none⟩ = some (.int .i64 i) ∧ w'.cell? ⟨w.heap.size, 1, none⟩ = some (.string (bs nm))) ∧ Hid (∀ W9, Below w'.heap.size w' W9 → FsI B W9 f s c T1 N Z ∧ KeptS B Z w W9) := fun W hW => by
    obtain ⟨sW, kW⟩ := hF1.solo.fresh (Z' := fun k => Z k ∨ k = w.heap.size) hW (fun k hk => .inl hk)
    have hFW := hF1.next sW kW hF1.fz
    have hld := ldrop_any B s N i nm T T1 _ W hFW.solo (by rw [if_pos hfe]; exact ⟨hd, hat, hnb⟩)
    rw [if_pos hfe, hfi, hfe] at hld
    refine hld.mono ?_
    rintro e w' ⟨rfl, sX, kX⟩
    have hFX := hFW.next sX kX hFW.fz
    have kk := kW.trans kX
    have hbX : w'.heap[w.heap.size]? = _ := (kk.z _ (.inr rfl)).trans hbox
    refine ⟨rfl, ⟨hFX.cells.1, cell_of_heap hbX 0, cell_of_heap hbX 1⟩, Lib.hid fun W9 hb9 => ?_⟩
    obtain ⟨s9, k9⟩ := hFX.solo.fresh (Z' := Z) hb9 (fun k hk => .inl (.inl hk))
    have kw9 := k1.trans ((kk.weak fun k hk => .inl hk).trans (k9.weak fun k hk => .inl hk))
    exact ⟨h.next s9 kw9 h.fz, kw9⟩
  have HDr := Lib.hid hdr
  have HL := Lib.hid (⟨hlk, ho, hol⟩ : _ ∧ _ ∧ _)
  have HM := Lib.hid (⟨hln, hl2, hmd⟩ : _ ∧ _ ∧ _)
  have hgt : decide ((1 : Int) < (o.links : Int)) = true := by simp; omega
  have hsb : IntKind.i64.wrap ((o.links : Int) - 1) = ((o.links - 1 : Nat) : Int) := by rw [IntWalk.i64_in _ (by omega)]; omega
  obtain ⟨l1, hl1⟩ : ∃ l1, l1 = o.links - 1 := ⟨_, rfl⟩
  rw [← hl1] at hsb ⊢
  have HL1 := Lib.hid hl1
  clear hdr h hF1 k1 hbox hfe hfi hd hat hnb hlk ho hol hln hl2 hmd hl1
  go_enter Tryz.func80, Tryz.ntmps80
  go_upto_region 1 with fail
  rw [← hW1]
  clear hW1
  go_cut [4, 5] (fun v4 v5 wx => v4 = .int .i64 j ∧ v5 = .int .i64 0 ∧ FsI B wx f s c T1 N Z ∧ KeptS B Z w wx)
  case first =>
    go_region_held3 (fun w' => w'.cell? ⟨f, 0, none⟩ = some (.pointer (some ⟨s, 0, none⟩)) ∧ w'.cell? ⟨w.heap.size, 0, none⟩ = some (.int .i64 i) ∧ w'.cell? ⟨w.heap.size, 1, none⟩ = some (.string (bs nm)))
      ((first | assumption | go_keep))
      (first
        | (go_at_call 89; go_split_ands; refine (HDr.out _ (by first | exact Below.refl _ _ | exact (Below.refl _ _).drew)).mono ?_; rintro e w9 ⟨rfl, hc9, HF9⟩))
    all_goals (go_wp2_with fail; go_meet; first | exact ⟨rfl, rfl, HF9.out _ (Below.refl _ _)⟩ | exact ⟨rfl, rfl, HF9.out _ (Below.refl _ _).drew⟩)
  case rest =>
    obtain ⟨rfl, rfl, hFc, kc⟩ := hcut
    clear q0 b0 b1
    obtain ⟨q0, _⟩ := hFc.cells
    have hg := lget_any B s N j T1 _ wc hFc.solo
    rw [← HL.out.2.1, HL.out.1] at hg
    have HG := Lib.hid hg
    have HC := Lib.hid (⟨hFc, kc⟩ : _ ∧ _)
    clear hg hFc kc HDr
    go_wp2_with fail
    refine (must_ok _).mono ?_
    rintro e w2 ⟨rfl, hw2⟩
    obtain rfl := hw2.symm
    go_wp2_with fail
    refine HG.out.mono ?_
    rintro e w3 ⟨rfl, s3, k3⟩
    have hF3 := HC.out.1.next s3 k3 HC.out.1.fz
    obtain ⟨W3, hst3, _, hF4, k4, hb4⟩ := hF3.inode o HL.out.2.2
    have hl15 := cellsI_length HL.out.2.2
    have p1 : W3.cell? ⟨w3.heap.size, 1, none⟩ = some (.int .i64 o.mode) := by rw [cell_of_heap hb4]; rfl
    have p2 : W3.cell? ⟨w3.heap.size, 2, none⟩ = some (.int .i64 o.links) := by rw [cell_of_heap hb4]; rfl
    have H4 := Lib.hid (⟨hF4, k3.trans k4, hb4⟩ : _ ∧ _ ∧ _)
    clear s3 k3 hF3 hF4 k4 hb4 HG q0
    go_wp2_with fail
    refine (must_ok _).mono ?_
    rintro e w5 ⟨rfl, hw5⟩
    obtain rfl := hw5.symm
    obtain ⟨hF4, kw4, hb4⟩ := H4.out
    obtain ⟨q0, _⟩ := hF4.cells
    have hset : ∀ W, Below W3.heap.size W3 W → Calls Tryz.prog 64 #[.pointer (some ⟨s, 0, none⟩), .int .i64 j, .int .i64 o.mode, .int .i64 l1] W fun e w' => e = .returned (.int .i64 0) ∧ (w'.cell? ⟨f, 0, none⟩ = some (.pointer (some ⟨s, 0, none⟩)) ∧ w'.cell? ⟨w3.heap.size, 1, none⟩ = some (.int .i64 o.mode) ∧ w'.cell? ⟨w3.heap.size, 2, none⟩ = some (.int .i64 o.links)) ∧ Hid (∀ W9, Below w'.heap.size w' W9 → FsI B W9 f s c (T1.setM j o.mode l1) N Z ∧ KeptS B Z w W9) := fun W hW => by
      obtain ⟨sW, kW⟩ := hF4.solo.fresh (Z' := fun k => Z k ∨ k = w3.heap.size) hW (fun k hk => .inl hk)
      have hFW := hF4.next sW kW hF4.fz
      have hlv : T1.live j := by
        have := (look_live HL.out.1).1
        rwa [Int.toNat_natCast] at this
      refine (lset_any B s N j o.mode l1 T1 _ W hFW.solo hlv HM.out.2.2 (by have h1 := HL1.out; have h2 := HM.out.2.1; omega)).mono ?_
      rintro e w' ⟨rfl, sX, kX⟩
      have hFX := hFW.next sX kX hFW.fz
      have kk := kW.trans kX
      have hbX : w'.heap[w3.heap.size]? = _ := (kk.z _ (.inr rfl)).trans hb4
      refine ⟨rfl, ⟨hFX.cells.1, by rw [cell_of_heap hbX]; rfl, by rw [cell_of_heap hbX]; rfl⟩, Lib.hid fun W9 hb9 => ?_⟩
      obtain ⟨s9, k9⟩ := hFX.solo.fresh (Z' := Z) hb9 (fun k hk => .inl (.inl hk))
      have kc9 := kw4.trans ((kk.weak fun k hk => .inl hk).trans (k9.weak fun k hk => .inl hk))
      exact ⟨HC.out.1.next s9 kc9 HC.out.1.fz, HC.out.2.trans kc9⟩
    have HSet := Lib.hid hset
    clear hset hF4 kw4 hb4 H4 HC HM HL HL1
    go_wp2_with fail
    go_region_held3 (fun w' => w'.cell? ⟨f, 0, none⟩ = some (.pointer (some ⟨s, 0, none⟩)) ∧ w'.cell? ⟨w3.heap.size, 1, none⟩ = some (.int .i64 o.mode) ∧ w'.cell? ⟨w3.heap.size, 2, none⟩ = some (.int .i64 o.links))
      ((first | assumption | go_keep))
      (first
        | (go_at_call 64; go_split_ands; refine (HSet.out _ (by first | exact Below.refl _ _ | exact (Below.refl _ _).drew)).mono ?_; rintro e w9 ⟨rfl, hc9, HF9⟩)
        | (go_at_call 61; go_split_ands; refine (must_ok _).mono ?_; rintro e w10 ⟨rfl, hw10⟩; obtain rfl := hw10.symm))
    all_goals
      go_wp2_with fail
      refine bodyPost_ret (results_none rfl _ _ _) rfl ?_
      first | exact ⟨rfl, HF9.out _ (Below.refl _ _)⟩ | exact ⟨rfl, HF9.out _ (Below.refl _ _).drew⟩
end Go.Proofs.YtakmplpfjcddiaaGreatDoor

namespace Go.Proofs.YtakmplpfjcddiaaGreatDoor
open Go.RowKit Go.Shelf Pa
attribute [local go_sem] bs_toList bs_size
/-- The box of the error that do lays. -/
abbrev errO : Obj := .cells #[.int .i64 0] 27
abbrev ErrAt (W : World) (b : Nat) : Prop := W.heap[b]? = some (.cells #[.int .i64 0] 27 (0, 0))
theorem fsdo_ok (B f s c N cl : Nat) (caps : Array Value) (T T' : RS) (Z Z1 : Nat → Prop) (Q : World → Prop) (w : World) (h : FsI B w f s c T N Z) (he : ∀ args w, (callFunc cl args).run Tryz.prog w = .ok (.enter cl args) w) (hz1 : ∀ k, Z1 k → Z k) (hf1 : Z1 f)
    (hf : FsI B (w.alloc errO) f s c T N (fun k => Z k ∨ k = w.heap.size) → KeptS B Z w (w.alloc errO) → Calls Tryz.prog cl caps (w.alloc errO) fun e w1 => e = .returned (.tuple #[]) ∧ FsI B w1 f s c T' N (fun k => Z k ∨ k = w.heap.size) ∧ KeptS B (fun k => Z1 k ∨ k = w.heap.size) (w.alloc errO) w1 ∧ Q w1) :
    Calls Tryz.prog 54 #[.pointer (some ⟨f, 0, none⟩), .func (.func cl) #[] caps] w fun e w' => e = .returned (.int .i64 0) ∧ FsI B w' f s c T' N Z ∧ KeptS B Z1 w w' ∧ ∃ w1, Q w1 ∧ Off (fun k => k = w.heap.size) w1 w' ∧ ∀ k, Z k → k < w1.heap.size := by
  obtain ⟨hF1, k1⟩ := h.box errO
  have hbox : ErrAt (w.alloc errO) w.heap.size := heap_alloc_new _ _
  refine (fdo_ok f cl caps w (fun w1 => FsI B w1 f s c T' N (fun k => Z k ∨ k = w.heap.size) ∧ KeptS B (fun k => Z1 k ∨ k = w.heap.size) (w.alloc errO) w1 ∧ Q w1) he (hf hF1 k1) (fun w1 hp => (hp.2.1.z _ (.inr rfl)).trans hbox)).mono ?_
  rintro e w' ⟨rfl, w1, ⟨g1, g2, g3⟩, rfl⟩
  have hz : w.heap.size < w1.heap.size := by have := g2.below.size; have h2 : (w.alloc errO).heap.size = w.heap.size + 1 := World.size_alloc _ _; have h0 := g1.solo.lt (k := w.heap.size) (.inr rfl); omega
  have ho : Off (fun k => k = w.heap.size) w1 (w1.setCell ⟨w.heap.size, 0, none⟩ (.int .i64 0)) := (Off.refl (fun k => k = w.heap.size) w1).setCell (p := ⟨w.heap.size, 0, none⟩) (.inl rfl) _
  have hB := h.solo.base
  have s9 := g1.solo.own (Z' := Z) ho (fun k e => .inl (.inr e)) (fun k hk => .inl (.inl hk))
  have hk9 : KeptS B Z1 w (w1.setCell ⟨w.heap.size, 0, none⟩ (.int .i64 0)) := by
    refine ⟨(k1.below.trans g2.below).trans (ho.below g1.solo.base fun k e => by omega), fun k hz => ?_⟩
    have hkl := h.solo.lt (hz1 k hz)
    exact (ho.block k (g1.solo.lt (.inl (hz1 k hz))) (by omega)).trans ((g2.z k (.inl hz)).trans (k1.z k (hz1 k hz)))
  exact ⟨rfl, ⟨s9, h.fz, (hk9.z f hf1).trans h.at_, h.mx.below hk9.below h.mb, h.mb⟩, hk9, w1, g3, ho, fun k hk => g1.solo.lt (.inl hk)⟩
theorem fsdo_bad (B f s c N cl n : Nat) (caps : Array Value) (T T' : RS) (Z Z1 : Nat → Prop) (Q : World → Prop) (w : World) (h : FsI B w f s c T N Z) (he : ∀ args w, (callFunc cl args).run Tryz.prog w = .ok (.enter cl args) w) (hz1 : ∀ k, Z1 k → Z k) (hf1 : Z1 f)
    (hf : FsI B (w.alloc errO) f s c T N (fun k => Z k ∨ k = w.heap.size) → KeptS B Z w (w.alloc errO) → Calls Tryz.prog cl caps (w.alloc errO) fun e w1 => e = gaveUp n ∧ FsI B w1 f s c T' N (fun k => Z k ∨ k = w.heap.size) ∧ KeptS B (fun k => Z1 k ∨ k = w.heap.size) (w.alloc errO) w1 ∧ Q w1) :
    Calls Tryz.prog 54 #[.pointer (some ⟨f, 0, none⟩), .func (.func cl) #[] caps] w fun e w' => e = .returned (.int .i64 n) ∧ FsI B w' f s c T' N Z ∧ KeptS B Z1 w w' ∧ ∃ w1, Q w1 ∧ Off (fun k => k = w.heap.size) w1 w' ∧ ∀ k, Z k → k < w1.heap.size := by
  obtain ⟨hF1, k1⟩ := h.box errO
  have hbox : ErrAt (w.alloc errO) w.heap.size := heap_alloc_new _ _
  refine (fdo_bad f cl n caps w (fun w1 => FsI B w1 f s c T' N (fun k => Z k ∨ k = w.heap.size) ∧ KeptS B (fun k => Z1 k ∨ k = w.heap.size) (w.alloc errO) w1 ∧ Q w1) he (hf hF1 k1) (fun w1 hp => (hp.2.1.z _ (.inr rfl)).trans hbox)).mono ?_
  rintro e w' ⟨rfl, w1, ⟨g1, g2, g3⟩, rfl⟩
  have hz : w.heap.size < w1.heap.size := by have := g2.below.size; have h2 : (w.alloc errO).heap.size = w.heap.size + 1 := World.size_alloc _ _; have h0 := g1.solo.lt (k := w.heap.size) (.inr rfl); omega
  have ho : Off (fun k => k = w.heap.size) w1 ((w1.setCell ⟨w.heap.size, 0, none⟩ (.int .i64 n)).alloc (.cells #[.int .i64 n] 167)) := ((Off.refl (fun k => k = w.heap.size) w1).setCell (p := ⟨w.heap.size, 0, none⟩) (.inl rfl) _).alloc _
  have hB := h.solo.base
  have s9 := g1.solo.own (Z' := Z) ho (fun k e => .inl (.inr e)) (fun k hk => .inl (.inl hk))
  have hk9 : KeptS B Z1 w ((w1.setCell ⟨w.heap.size, 0, none⟩ (.int .i64 n)).alloc (.cells #[.int .i64 n] 167)) := by
    refine ⟨(k1.below.trans g2.below).trans (ho.below g1.solo.base fun k e => by omega), fun k hz => ?_⟩
    have hkl := h.solo.lt (hz1 k hz)
    exact (ho.block k (g1.solo.lt (.inl (hz1 k hz))) (by omega)).trans ((g2.z k (.inl hz)).trans (k1.z k (hz1 k hz)))
  exact ⟨rfl, ⟨s9, h.fz, (hk9.z f hf1).trans h.at_, h.mx.below hk9.below h.mb, h.mb⟩, hk9, w1, g3, ho, fun k hk => g1.solo.lt (.inl hk)⟩
/-- What made asks for, and what it leaves. -/
structure MadeOk (T : RS) (p : Str) (k md : Nat) (b : Str) (T2 : RS) : Prop where
  ex : ∃ (l : List Str) (nm : Str) (i j : Nat) (T1 : RS), splitP p = some (l ++ [nm]) ∧ l.length ≤ 900 ∧ thr T l = (i, 0) ∧ (findR T i nm).2.2 = 4 ∧ T.look i = 0 ∧ (T.file i).bytes.length ≤ 60000 ∧ takeB T.i = some j ∧ (T.mkI j k md).live j ∧ wrT (T.mkI j k md) j b = some T1 ∧ addE T1 i nm j = 0 ∧ addAt (lookB T1 i) + 64 ≤ 70656 ∧ T1.write i (addAt (lookB T1 i)) (encS nm j) = some T2
  len : ∀ j, (getR T j).Len
  kd : 1 ≤ k ∧ k ≤ 3
  mode : md ≤ 4095
  sz : b.length ≤ 70656
theorem MadeOk.calls {B f s c N k md : Nat} {p b : Str} {v : Value} {T T2 : RS} {Z : Nat → Prop} {w : World} (m : MadeOk T p k md b T2) (h : FsI B w f s c T N Z) (hv : BytesI w (fun k => Z k ∨ k < B) v b) :
    Calls Tryz.prog 57 #[.pointer (some ⟨f, 0, none⟩), .string (bs p), .int .i64 k, .int .i64 md, v] w fun e w' => e = .returned (.tuple #[]) ∧ FsI B w' f s c T2 N Z ∧ KeptS B Z w w' := by
  obtain ⟨⟨l, nm, i, j, T1, a1, a2, a3, a4, a5, a6, a7, a8, a9, a10, a11, a12⟩, b1, b2, b3, b4⟩ := m
  exact made_any B f s c N i j k md p l nm b v T T1 T2 Z w h a1 a2 a3 a4 a5 b1 a6 b4 hv b2 b3 a7 a8 a9 a10 a11 a12
/-- With boxes more. -/
theorem FsI.boxes {B f s c N : Nat} {w w' : World} {T : RS} {Z : Nat → Prop} (h : FsI B w f s c T N Z) (hb : Below w.heap.size w w') : FsI B w' f s c T N (fun k => Z k ∨ (w.heap.size ≤ k ∧ k < w'.heap.size)) ∧ KeptS B Z w w' := by
  obtain ⟨s1, k1⟩ := h.solo.fresh (Z' := fun k => Z k ∨ (w.heap.size ≤ k ∧ k < w'.heap.size)) hb (fun k hk => hk)
  exact ⟨h.next s1 k1 (.inl h.fz), k1⟩
set_option maxRecDepth 100000 in
set_option maxHeartbeats 2000000 in
theorem mkdir1_ok (B f s c N md b0 b1 b2 : Nat) (p : Str) (T T2 : RS) (Z : Nat → Prop) (w : World) (h : FsI B w f s c T N Z) (m : MadeOk T p 2 md [] T2)
    (p0 : w.heap[b0]? = some (.cells #[.pointer (some ⟨f, 0, none⟩)] 22 (0, 0))) (p1 : w.heap[b1]? = some (.cells #[.string (bs p)] 9 (0, 0))) (p2 : w.heap[b2]? = some (.cells #[.int .i64 md] 3 (0, 0))) :
    Calls Tryz.prog 55 #[.pointer (some ⟨b2, 0, none⟩), .pointer (some ⟨b0, 0, none⟩), .pointer (some ⟨b1, 0, none⟩)] w fun e w' => e = .returned (.tuple #[]) ∧ FsI B w' f s c T2 N Z ∧ KeptS B Z w w' := by
  have q0 : w.cell? ⟨b0, 0, none⟩ = some (.pointer (some ⟨f, 0, none⟩)) := cell_of_heap p0 0
  have q1 : w.cell? ⟨b1, 0, none⟩ = some (.string (bs p)) := cell_of_heap p1 0
  have q2 : w.cell? ⟨b2, 0, none⟩ = some (.int .i64 md) := cell_of_heap p2 0
  have hmd := Lib.hid (fmode_ok md m.mode)
  have hm := m.calls (v := .slice none 0 0) h (BytesI.nil _ _ _ _)
  have HM := Lib.hid hm
  clear hm h m p0 p1 p2
  go_enter Tryz.func55, Tryz.ntmps55
  go_wp2_with fail
  refine (hmd.out _).mono ?_
  rintro e w2 ⟨rfl, hw2⟩
  obtain rfl := hw2.symm
  go_wp2_with fail
  refine HM.out.mono ?_
  rintro e w3 ⟨rfl, hF3, k3⟩
  have H3 := Lib.hid (⟨hF3, k3⟩ : _ ∧ _)
  clear hF3 k3 HM
  go_wp2_with fail
  go_end0
  exact ⟨rfl, H3.out⟩
set_option maxRecDepth 100000 in
set_option maxHeartbeats 2000000 in
theorem mkdir_ok (B f s c N md : Nat) (p : Str) (T T2 : RS) (Z : Nat → Prop) (w : World) (h : FsI B w f s c T N Z) (m : MadeOk T p 2 md [] T2) :
    Calls Tryz.prog 14 #[.pointer (some ⟨f, 0, none⟩), .string (bs p), .int .i64 md] w fun e w' => e = .returned (.int .i64 0) ∧ FsI B w' f s c T2 N Z ∧ KeptS B Z w w' := by
  have hmf : ∀ (fn : Fn) (first cap : Array Value) (w : World), (Instr.makeFunc fn first cap).run Tryz.prog w = .ok (.func fn first cap) w := fun _ _ _ _ => rfl
  obtain ⟨p0, p1, p2, z0⟩ := alloc3 w (.cells #[.pointer (some ⟨f, 0, none⟩)] 22) (.cells #[.string (bs p)] 9) (.cells #[.int .i64 md] 3)
  have hb0 : Below w.heap.size w (((w.alloc (.cells #[.pointer (some ⟨f, 0, none⟩)] 22)).alloc (.cells #[.string (bs p)] 9)).alloc (.cells #[.int .i64 md] 3)) := (((Below.refl _ _).alloc (Nat.le_refl _) _).alloc (by simp) _).alloc (by simp; omega) _
  obtain ⟨hF3, k3⟩ := h.boxes hb0
  obtain ⟨W3, hW3⟩ : ∃ W3, W3 = ((w.alloc (.cells #[.pointer (some ⟨f, 0, none⟩)] 22)).alloc (.cells #[.string (bs p)] 9)).alloc (.cells #[.int .i64 md] 3) := ⟨_, rfl⟩
  rw [← hW3] at hF3 k3 p0 p1 p2 z0
  have q0 : W3.cell? ⟨w.heap.size, 0, none⟩ = some (.pointer (some ⟨f, 0, none⟩)) := cell_of_heap p0 0
  have hdo := fsdo_ok B f s c N 55 #[.pointer (some ⟨w.heap.size + 1 + 1, 0, none⟩), .pointer (some ⟨w.heap.size, 0, none⟩), .pointer (some ⟨w.heap.size + 1, 0, none⟩)] T T2 _ _ (fun _ => True) W3 hF3 (enters_of Tryz.func55 (by kernel_rfl) rfl) (fun _ h => h) (.inl h.fz)
    (fun hF4 k4 => (mkdir1_ok B f s c N md _ _ _ p T T2 _ _ hF4 m ((k4.z _ (.inr (by omega))).trans p0) ((k4.z _ (.inr (by omega))).trans p1) ((k4.z _ (.inr (by omega))).trans p2)).mono fun e w9 ⟨a, b, c⟩ => ⟨a, b, c, trivial⟩)
  have HDo := Lib.hid hdo
  have HH := Lib.hid (⟨h, k3⟩ : _ ∧ _)
  clear hdo hF3 k3 p0 p1 p2 z0 h hb0 m
  go_enter Tryz.func14, Tryz.ntmps14
  go_upto_region 1 with fail
  rw [← hW3]
  clear hW3
  go_wp2_with fail
  refine HDo.out.mono ?_
  rintro e w5 ⟨rfl, hF5, k5, _⟩
  have H5 := Lib.hid (⟨hF5.weak (fun k hk => .inl hk) HH.out.1.fz, HH.out.2.trans (k5.weak fun k hk => .inl hk)⟩ : _ ∧ _)
  clear hF5 k5 HDo HH
  go_wp2_with fail
  go_ret
  exact ⟨rfl, H5.out⟩
end Go.Proofs.YtakmplpfjcddiaaGreatDoor

namespace Go.Proofs.YtakmplpfjcddiaaGreatDoor
open Go.RowKit Go.Shelf Pa
attribute [local go_sem] bs_toList bs_size
set_option maxRecDepth 100000 in
set_option maxHeartbeats 2000000 in
theorem mkdir1_bad (B f s c N b0 b1 b2 : Nat) (md : Int) (T : RS) (Z : Nat → Prop) (w : World) (h : FsI B w f s c T N Z) (hm : md < 0 ∨ 4095 < md) (p2 : w.heap[b2]? = some (.cells #[.int .i64 md] 3 (0, 0))) :
    Calls Tryz.prog 55 #[.pointer (some ⟨b2, 0, none⟩), .pointer (some ⟨b0, 0, none⟩), .pointer (some ⟨b1, 0, none⟩)] w fun e w' => e = gaveUp 2 ∧ FsI B w' f s c T N Z ∧ KeptS B Z w w' := by
  have q2 : w.cell? ⟨b2, 0, none⟩ = some (.int .i64 md) := cell_of_heap p2 0
  have hmd := Lib.hid (fmode_bad md hm)
  have HM := Lib.hid h
  clear h hm p2
  go_enter Tryz.func55, Tryz.ntmps55
  go_wp2_with fail
  refine (hmd.out _).mono ?_
  rintro e w2 ⟨rfl, hw2⟩
  obtain rfl := hw2.symm
  go_wp2_with fail
  exact ⟨rfl, rfl, HM.out, KeptS.refl _ _ _⟩
set_option maxRecDepth 100000 in
set_option maxHeartbeats 2000000 in
theorem mkdir_bad (B f s c N : Nat) (md : Int) (p : Str) (T : RS) (Z : Nat → Prop) (w : World) (h : FsI B w f s c T N Z) (hm : md < 0 ∨ 4095 < md) :
    Calls Tryz.prog 14 #[.pointer (some ⟨f, 0, none⟩), .string (bs p), .int .i64 md] w fun e w' => e = .returned (.int .i64 2) ∧ FsI B w' f s c T N Z ∧ KeptS B Z w w' := by
  have hmf : ∀ (fn : Fn) (first cap : Array Value) (w : World), (Instr.makeFunc fn first cap).run Tryz.prog w = .ok (.func fn first cap) w := fun _ _ _ _ => rfl
  obtain ⟨p0, p1, p2, z0⟩ := alloc3 w (.cells #[.pointer (some ⟨f, 0, none⟩)] 22) (.cells #[.string (bs p)] 9) (.cells #[.int .i64 md] 3)
  have hb0 : Below w.heap.size w (((w.alloc (.cells #[.pointer (some ⟨f, 0, none⟩)] 22)).alloc (.cells #[.string (bs p)] 9)).alloc (.cells #[.int .i64 md] 3)) := (((Below.refl _ _).alloc (Nat.le_refl _) _).alloc (by simp) _).alloc (by simp; omega) _
  obtain ⟨hF3, k3⟩ := h.boxes hb0
  obtain ⟨W3, hW3⟩ : ∃ W3, W3 = ((w.alloc (.cells #[.pointer (some ⟨f, 0, none⟩)] 22)).alloc (.cells #[.string (bs p)] 9)).alloc (.cells #[.int .i64 md] 3) := ⟨_, rfl⟩
  rw [← hW3] at hF3 k3 p0 p1 p2 z0
  have q0 : W3.cell? ⟨w.heap.size, 0, none⟩ = some (.pointer (some ⟨f, 0, none⟩)) := cell_of_heap p0 0
  have hdo := fsdo_bad B f s c N 55 2 #[.pointer (some ⟨w.heap.size + 1 + 1, 0, none⟩), .pointer (some ⟨w.heap.size, 0, none⟩), .pointer (some ⟨w.heap.size + 1, 0, none⟩)] T T _ _ (fun _ => True) W3 hF3 (enters_of Tryz.func55 (by kernel_rfl) rfl) (fun _ h => h) (.inl h.fz)
    (fun hF4 k4 => (mkdir1_bad B f s c N _ _ _ md T _ _ hF4 hm ((k4.z _ (.inr (by omega))).trans p2)).mono fun e w9 ⟨a, b, c⟩ => ⟨a, b, c, trivial⟩)
  have HDo := Lib.hid hdo
  have HH := Lib.hid (⟨h, k3⟩ : _ ∧ _)
  clear hdo hF3 k3 p0 p1 p2 z0 h hb0 hm
  go_enter Tryz.func14, Tryz.ntmps14
  go_upto_region 1 with fail
  rw [← hW3]
  clear hW3
  go_wp2_with fail
  refine HDo.out.mono ?_
  rintro e w5 ⟨rfl, hF5, k5, _⟩
  have H5 := Lib.hid (⟨hF5.weak (fun k hk => .inl hk) HH.out.1.fz, HH.out.2.trans (k5.weak fun k hk => .inl hk)⟩ : _ ∧ _)
  clear hF5 k5 HDo HH
  go_wp2_with fail
  go_ret
  exact ⟨rfl, H5.out⟩
/-- The bytes of a text are laid into a new row. -/
theorem text_bytes (W : World) (x : Str) (hx : x.length ≤ 255) : ∃ W' cap, (convert 9 37 (.string (bs x))).run Tryz.prog W = .ok (.slice (some ⟨W.heap.size, 0, none⟩) x.length cap) W' ∧ Below W.heap.size W W' ∧ W'.heap.size = W.heap.size + 1 ∧ BytesI W' (fun k => k = W.heap.size) (.slice (some ⟨W.heap.size, 0, none⟩) x.length cap) x := by
  have hc := Lib.run_convert_string_bytes (P := Tryz.prog) W 9 37 5 (bs x) Tryz.underlying9 Tryz.underlying37 Tryz.underlying5
  refine ⟨_, _, hc, ?_, Lib.bytesWorld_size _ _ _, ⟨_, _, rfl, ⟨grownCap_ge _ _ _ _, by omega⟩, fun hn => ⟨_, _, rfl, ⟨by rw [Lib.bytesWorld_size]; omega, rfl⟩, fun i y hy => ?_⟩⟩⟩
  · have h1 : Below W.heap.size W (W.drew.alloc (.cells (Lib.bytesCells W 5 (bs x)) 5)) := ((Below.refl _ _).drew).alloc (Nat.le_refl _) _
    exact ⟨h1.os, h1.tape, h1.output, by rw [Lib.bytesWorld_size]; omega, fun k hk => Lib.bytesWorld_at_old _ _ _ k hk⟩
  · have hi := (List.getElem?_eq_some_iff.1 hy).1
    rw [Nat.zero_add, Lib.bytesWorld_cell W 5 (bs x) i (by rw [bs_size]; exact hi)]
    show some (Value.int .u8 (((x.getD i 0).toNat : Nat) : Int)) = _
    rw [List.getD_eq_getElem?_getD, hy]
    rfl
set_option maxRecDepth 100000 in
set_option maxHeartbeats 2000000 in
theorem symlink1_ok (B f s c N b0 b1 b2 : Nat) (p x : Str) (T T2 : RS) (Z : Nat → Prop) (w : World) (h : FsI B w f s c T N Z) (m : MadeOk T p 3 511 x T2) (hx : x ≠ []) (hx2 : x.length ≤ 255)
    (p0 : w.heap[b0]? = some (.cells #[.pointer (some ⟨f, 0, none⟩)] 22 (0, 0))) (p1 : w.heap[b1]? = some (.cells #[.string (bs p)] 9 (0, 0))) (p2 : w.heap[b2]? = some (.cells #[.string (bs x)] 9 (0, 0))) :
    Calls Tryz.prog 65 #[.pointer (some ⟨b2, 0, none⟩), .pointer (some ⟨b0, 0, none⟩), .pointer (some ⟨b1, 0, none⟩)] w fun e w' => e = .returned (.tuple #[]) ∧ FsI B w' f s c T2 N Z ∧ KeptS B Z w w' := by
  have q0 : w.cell? ⟨b0, 0, none⟩ = some (.pointer (some ⟨f, 0, none⟩)) := cell_of_heap p0 0
  have q1 : w.cell? ⟨b1, 0, none⟩ = some (.string (bs p)) := cell_of_heap p1 0
  have q2 : w.cell? ⟨b2, 0, none⟩ = some (.string (bs x)) := cell_of_heap p2 0
  obtain ⟨W2, cap, hcv, hb2, hz2, hby⟩ := text_bytes w x hx2
  obtain ⟨s2, k2⟩ := h.solo.fresh (Z' := fun k => Z k ∨ k = w.heap.size) hb2 (fun k hk => hk.imp id fun e => by omega)
  have hF2 := h.next s2 k2 (.inl h.fz)
  have hm := m.calls (v := .slice (some ⟨w.heap.size, 0, none⟩) x.length cap) hF2 (hby.mono fun k e _ => .inl (.inr e))
  have hne : x.isEmpty = false := by cases x with | nil => exact absurd rfl hx | cons _ _ => rfl
  have hl : decide ((255 : Int) < (x.length : Int)) = false := by simp; omega
  have HM := Lib.hid hm
  have HH := Lib.hid (⟨h, k2⟩ : _ ∧ _)
  clear hm h m p0 p1 p2 s2 k2 hF2 hby hx2 hb2 hz2
  go_enter Tryz.func65, Tryz.ntmps65
  go_wp2_with fail
  refine HM.out.mono ?_
  rintro e w3 ⟨rfl, hF3, k3⟩
  have H3 := Lib.hid (⟨hF3.weak (fun k hk => .inl hk) HH.out.1.fz, HH.out.2.trans (k3.weak fun k hk => .inl hk)⟩ : _ ∧ _)
  clear hF3 k3 HM
  go_wp2_with fail
  go_end0
  exact ⟨rfl, H3.out⟩
set_option maxRecDepth 100000 in
set_option maxHeartbeats 2000000 in
theorem symlink_ok (B f s c N : Nat) (p x : Str) (T T2 : RS) (Z : Nat → Prop) (w : World) (h : FsI B w f s c T N Z) (m : MadeOk T p 3 511 x T2) (hx : x ≠ []) (hx2 : x.length ≤ 255) :
    Calls Tryz.prog 16 #[.pointer (some ⟨f, 0, none⟩), .string (bs p), .string (bs x)] w fun e w' => e = .returned (.int .i64 0) ∧ FsI B w' f s c T2 N Z ∧ KeptS B Z w w' := by
  have hmf : ∀ (fn : Fn) (first cap : Array Value) (w : World), (Instr.makeFunc fn first cap).run Tryz.prog w = .ok (.func fn first cap) w := fun _ _ _ _ => rfl
  obtain ⟨p0, p1, p2, z0⟩ := alloc3 w (.cells #[.pointer (some ⟨f, 0, none⟩)] 22) (.cells #[.string (bs p)] 9) (.cells #[.string (bs x)] 9)
  have hb0 : Below w.heap.size w (((w.alloc (.cells #[.pointer (some ⟨f, 0, none⟩)] 22)).alloc (.cells #[.string (bs p)] 9)).alloc (.cells #[.string (bs x)] 9)) := (((Below.refl _ _).alloc (Nat.le_refl _) _).alloc (by simp) _).alloc (by simp; omega) _
  obtain ⟨hF3, k3⟩ := h.boxes hb0
  obtain ⟨W3, hW3⟩ : ∃ W3, W3 = ((w.alloc (.cells #[.pointer (some ⟨f, 0, none⟩)] 22)).alloc (.cells #[.string (bs p)] 9)).alloc (.cells #[.string (bs x)] 9) := ⟨_, rfl⟩
  rw [← hW3] at hF3 k3 p0 p1 p2 z0
  have q0 : W3.cell? ⟨w.heap.size, 0, none⟩ = some (.pointer (some ⟨f, 0, none⟩)) := cell_of_heap p0 0
  have hdo := fsdo_ok B f s c N 65 #[.pointer (some ⟨w.heap.size + 1 + 1, 0, none⟩), .pointer (some ⟨w.heap.size, 0, none⟩), .pointer (some ⟨w.heap.size + 1, 0, none⟩)] T T2 _ _ (fun _ => True) W3 hF3 (enters_of Tryz.func65 (by kernel_rfl) rfl) (fun _ h => h) (.inl h.fz)
    (fun hF4 k4 => (symlink1_ok B f s c N _ _ _ p x T T2 _ _ hF4 m hx hx2 ((k4.z _ (.inr (by omega))).trans p0) ((k4.z _ (.inr (by omega))).trans p1) ((k4.z _ (.inr (by omega))).trans p2)).mono fun e w9 ⟨a, b, c⟩ => ⟨a, b, c, trivial⟩)
  have HDo := Lib.hid hdo
  have HH := Lib.hid (⟨h, k3⟩ : _ ∧ _)
  clear hdo hF3 k3 p0 p1 p2 z0 h hb0 m hx hx2
  go_enter Tryz.func16, Tryz.ntmps16
  go_upto_region 1 with fail
  rw [← hW3]
  clear hW3
  go_wp2_with fail
  refine HDo.out.mono ?_
  rintro e w5 ⟨rfl, hF5, k5, _⟩
  have H5 := Lib.hid (⟨hF5.weak (fun k hk => .inl hk) HH.out.1.fz, HH.out.2.trans (k5.weak fun k hk => .inl hk)⟩ : _ ∧ _)
  clear hF5 k5 HDo HH
  go_wp2_with fail
  go_ret
  exact ⟨rfl, H5.out⟩
end Go.Proofs.YtakmplpfjcddiaaGreatDoor

namespace Go.Proofs.YtakmplpfjcddiaaGreatDoor
open Go.RowKit Go.Shelf Pa
attribute [local go_sem] bs_toList bs_size
set_option maxRecDepth 100000 in
set_option maxHeartbeats 2000000 in
theorem write11_bad (B f s c N b0 b1 b2 b3 n : Nat) (p : Str) (l : List Str) (T : RS) (Z : Nat → Prop) (w : World) (h : FsI B w f s c T N Z) (hp : splitP p = some l) (hs : l.length ≤ 900) (ht : (thr T l).2 = n) (hn : n ≠ 0)
    (p0 : w.heap[b0]? = some (.cells #[.pointer (some ⟨f, 0, none⟩)] 22 (0, 0))) (p1 : w.heap[b1]? = some (.cells #[.string (bs p)] 9 (0, 0))) :
    Calls Tryz.prog 59 #[.pointer (some ⟨b0, 0, none⟩), .pointer (some ⟨b1, 0, none⟩), .pointer (some ⟨b2, 0, none⟩), .pointer (some ⟨b3, 0, none⟩)] w fun e w' => e = gaveUp n ∧ FsI B w' f s c T N Z ∧ KeptS B Z w w' := by
  have q0 : w.cell? ⟨b0, 0, none⟩ = some (.pointer (some ⟨f, 0, none⟩)) := cell_of_heap p0 0
  have q1 : w.cell? ⟨b1, 0, none⟩ = some (.string (bs p)) := cell_of_heap p1 0
  have HN := Lib.hid (node_bad B f s c N n p l T Z w h hp hs ht hn)
  clear h hp hs ht hn p0 p1
  go_enter Tryz.func59, Tryz.ntmps59
  go_wp2_with fail
  refine HN.out.mono ?_
  rintro e w3 ⟨rfl, hF3, k3⟩
  have H3 := Lib.hid (⟨hF3, k3⟩ : _ ∧ _)
  clear hF3 k3 HN
  go_wp2_with fail
  exact ⟨rfl, rfl, H3.out⟩
set_option maxRecDepth 100000 in
set_option maxHeartbeats 2000000 in
theorem write1_new (B f s c N md b0 b1 b2 b3 n : Nat) (p : Str) (l : List Str) (b : Str) (v : Value) (T T2 : RS) (Z : Nat → Prop) (w : World) (h : FsI B w f s c T N Z) (hp : splitP p = some l) (hs : l.length ≤ 900) (ht : (thr T l).2 = n) (hn : n ≠ 0) (m : MadeOk T p 1 md b T2) (hv : BytesI w (fun k => Z k ∨ k < B) v b)
    (p0 : w.heap[b0]? = some (.cells #[.pointer (some ⟨f, 0, none⟩)] 22 (0, 0))) (p1 : w.heap[b1]? = some (.cells #[.string (bs p)] 9 (0, 0))) (p2 : w.heap[b2]? = some (.cells #[.int .i64 md] 3 (0, 0))) (p3 : w.heap[b3]? = some (.cells #[v] 37 (0, 0))) (hz : Z b0 ∧ Z b1 ∧ Z b2 ∧ Z b3) :
    Calls Tryz.prog 58 #[.pointer (some ⟨b2, 0, none⟩), .pointer (some ⟨b0, 0, none⟩), .pointer (some ⟨b1, 0, none⟩), .pointer (some ⟨b3, 0, none⟩)] w fun e w' => e = .returned (.tuple #[]) ∧ FsI B w' f s c T2 N Z ∧ KeptS B Z w w' := by
  have hmf : ∀ (fn : Fn) (first cap : Array Value) (w : World), (Instr.makeFunc fn first cap).run Tryz.prog w = .ok (.func fn first cap) w := fun _ _ _ _ => rfl
  have q2 : w.cell? ⟨b2, 0, none⟩ = some (.int .i64 md) := cell_of_heap p2 0
  have hmd := Lib.hid (fmode_ok md m.mode)
  obtain ⟨r0, r1, z2⟩ := alloc2 w (.cells #[.int .i64 0] 3) zInode
  have hb0 : Below w.heap.size w ((w.alloc (.cells #[.int .i64 0] 3)).alloc zInode) := ((Below.refl _ _).alloc (Nat.le_refl _) _).alloc (by simp) _
  obtain ⟨hF2, k2⟩ := h.boxes hb0
  obtain ⟨W2, hW2⟩ : ∃ W2, W2 = (w.alloc (.cells #[.int .i64 0] 3)).alloc zInode := ⟨_, rfl⟩
  rw [← hW2] at hF2 k2 z2
  have q0 : W2.cell? ⟨b0, 0, none⟩ = some (.pointer (some ⟨f, 0, none⟩)) := cell_of_heap ((k2.z _ hz.1).trans p0) 0
  have hdo := fsdo_bad B f s c N 59 n #[.pointer (some ⟨b0, 0, none⟩), .pointer (some ⟨b1, 0, none⟩), .pointer (some ⟨w.heap.size, 0, none⟩), .pointer (some ⟨w.heap.size + 1, 0, none⟩)] T T _ _ (fun _ => True) W2 hF2 (enters_of Tryz.func59 (by kernel_rfl) rfl) (fun _ h => h) (.inl h.fz)
    (fun hF4 k4 => (write11_bad B f s c N _ _ _ _ n p l T _ _ hF4 hp hs ht hn ((k4.z _ (.inl hz.1)).trans ((k2.z _ hz.1).trans p0)) ((k4.z _ (.inl hz.2.1)).trans ((k2.z _ hz.2.1).trans p1))).mono fun e w9 ⟨a, b, c⟩ => ⟨a, b, c, trivial⟩)
  have HDo := Lib.hid hdo
  have HH := Lib.hid (⟨h, k2, hz, p0, p1, p2, p3, hv, m⟩ : _ ∧ _ ∧ _ ∧ _ ∧ _ ∧ _ ∧ _ ∧ _ ∧ _)
  have hn' : ((n : Int) != 0) = true := by rw [bne_iff_ne]; omega
  clear hdo hF2 k2 r0 r1 z2 h hb0 m hz p0 p1 p2 p3 hv hp hs ht hn
  go_enter Tryz.func58, Tryz.ntmps58
  go_wp2_with fail
  refine (hmd.out _).mono ?_
  rintro e w2 ⟨rfl, hw2⟩
  obtain rfl := hw2.symm
  go_upto_region 3 with fail
  rw [← hW2]
  clear hW2
  go_wp2_with fail
  refine HDo.out.mono ?_
  rintro e w5 ⟨rfl, hF5, k5, _⟩
  obtain ⟨h, k2, hz, p0, p1, p2, p3, hv, m⟩ := HH.out
  have k25 := k2.trans (k5.weak fun k hk => .inl hk)
  have hF5 := hF5.weak (Z' := Z) (fun k hk => .inl hk) h.fz
  have q0 : w5.cell? ⟨b0, 0, none⟩ = some (.pointer (some ⟨f, 0, none⟩)) := cell_of_heap ((k25.z _ hz.1).trans p0) 0
  have q1 : w5.cell? ⟨b1, 0, none⟩ = some (.string (bs p)) := cell_of_heap ((k25.z _ hz.2.1).trans p1) 0
  have q2 : w5.cell? ⟨b2, 0, none⟩ = some (.int .i64 md) := cell_of_heap ((k25.z _ hz.2.2.1).trans p2) 0
  have q3 : w5.cell? ⟨b3, 0, none⟩ = some v := cell_of_heap ((k25.z _ hz.2.2.2).trans p3) 0
  have hm := m.calls hF5 (hv.kept k25)
  have HM := Lib.hid hm
  have HK := Lib.hid k25
  clear hm hF5 k25 k5 h k2 hz p0 p1 p2 p3 hv m HH HDo
  go_wp2_with fail
  refine HM.out.mono ?_
  rintro e w6 ⟨rfl, hF6, k6⟩
  have H6 := Lib.hid (⟨hF6, HK.out.trans k6⟩ : _ ∧ _)
  clear hF6 k6 HM
  go_wp2_with fail
  exact bodyPost_ret (results_none rfl _ _ _) rfl ⟨rfl, H6.out⟩
set_option maxRecDepth 100000 in
set_option maxHeartbeats 2000000 in
theorem write1_mode (B f s c N b0 b1 b2 b3 : Nat) (md : Int) (T : RS) (Z : Nat → Prop) (w : World) (h : FsI B w f s c T N Z) (hm : md < 0 ∨ 4095 < md) (p2 : w.heap[b2]? = some (.cells #[.int .i64 md] 3 (0, 0))) :
    Calls Tryz.prog 58 #[.pointer (some ⟨b2, 0, none⟩), .pointer (some ⟨b0, 0, none⟩), .pointer (some ⟨b1, 0, none⟩), .pointer (some ⟨b3, 0, none⟩)] w fun e w' => e = gaveUp 2 ∧ FsI B w' f s c T N Z ∧ KeptS B Z w w' := by
  have q2 : w.cell? ⟨b2, 0, none⟩ = some (.int .i64 md) := cell_of_heap p2 0
  have hmd := Lib.hid (fmode_bad md hm)
  have HM := Lib.hid h
  clear h hm p2
  go_enter Tryz.func58, Tryz.ntmps58
  go_wp2_with fail
  refine (hmd.out _).mono ?_
  rintro e w2 ⟨rfl, hw2⟩
  obtain rfl := hw2.symm
  go_wp2_with fail
  exact ⟨rfl, rfl, HM.out, KeptS.refl _ _ _⟩
/-- What Write's closure does, and what Write hands back. -/
theorem write_any (B f s c N n : Nat) (md : Int) (p b : Str) (v : Value) (T T2 : RS) (Z : Nat → Prop) (w : World) (h : FsI B w f s c T N Z) (hv : BytesI w (fun k => Z k ∨ k < B) v b)
    (hcl : ∀ (W : World) (Z' : Nat → Prop) (b0 b1 b2 b3 : Nat), FsI B W f s c T N Z' → BytesI W (fun k => Z' k ∨ k < B) v b → W.heap[b0]? = some (.cells #[.pointer (some ⟨f, 0, none⟩)] 22 (0, 0)) → W.heap[b1]? = some (.cells #[.string (bs p)] 9 (0, 0)) → W.heap[b2]? = some (.cells #[.int .i64 md] 3 (0, 0)) → W.heap[b3]? = some (.cells #[v] 37 (0, 0)) → (Z' b0 ∧ Z' b1 ∧ Z' b2 ∧ Z' b3) →
      Calls Tryz.prog 58 #[.pointer (some ⟨b2, 0, none⟩), .pointer (some ⟨b0, 0, none⟩), .pointer (some ⟨b1, 0, none⟩), .pointer (some ⟨b3, 0, none⟩)] W fun e w' => e = (if n = 0 then .returned (.tuple #[]) else gaveUp n) ∧ FsI B w' f s c T2 N Z' ∧ KeptS B Z' W w') :
    Calls Tryz.prog 15 #[.pointer (some ⟨f, 0, none⟩), .string (bs p), .int .i64 md, v] w fun e w' => e = .returned (.int .i64 n) ∧ FsI B w' f s c T2 N Z ∧ KeptS B Z w w' := by
  have hmf : ∀ (fn : Fn) (first cap : Array Value) (w : World), (Instr.makeFunc fn first cap).run Tryz.prog w = .ok (.func fn first cap) w := fun _ _ _ _ => rfl
  obtain ⟨Av, cv, rfl, _, _⟩ := id hv
  obtain ⟨p0, p1, p2, p3, z0⟩ := alloc4 w (.cells #[.pointer (some ⟨f, 0, none⟩)] 22) (.cells #[.string (bs p)] 9) (.cells #[.int .i64 md] 3) (.cells #[.slice Av b.length cv] 37)
  have hb0 : Below w.heap.size w ((((w.alloc (.cells #[.pointer (some ⟨f, 0, none⟩)] 22)).alloc (.cells #[.string (bs p)] 9)).alloc (.cells #[.int .i64 md] 3)).alloc (.cells #[.slice Av b.length cv] 37)) := ((((Below.refl _ _).alloc (Nat.le_refl _) _).alloc (by simp) _).alloc (by simp; omega) _).alloc (by simp; omega) _
  obtain ⟨hF3, k3⟩ := h.boxes hb0
  obtain ⟨W3, hW3⟩ : ∃ W3, W3 = (((w.alloc (.cells #[.pointer (some ⟨f, 0, none⟩)] 22)).alloc (.cells #[.string (bs p)] 9)).alloc (.cells #[.int .i64 md] 3)).alloc (.cells #[.slice Av b.length cv] 37) := ⟨_, rfl⟩
  rw [← hW3] at hF3 k3 p0 p1 p2 p3 z0
  have q0 : W3.cell? ⟨w.heap.size, 0, none⟩ = some (.pointer (some ⟨f, 0, none⟩)) := cell_of_heap p0 0
  have hv3 := hv.kept k3
  have hfc : FsI B (W3.alloc errO) f s c T N (fun k => (Z k ∨ (w.heap.size ≤ k ∧ k < W3.heap.size)) ∨ k = W3.heap.size) → KeptS B (fun k => Z k ∨ (w.heap.size ≤ k ∧ k < W3.heap.size)) W3 (W3.alloc errO) → _ := fun hF4 k4 => hcl (W3.alloc errO) _ w.heap.size (w.heap.size + 1) (w.heap.size + 1 + 1) (w.heap.size + 1 + 1 + 1) hF4 (((hv3.mono (J := fun k => (Z k ∨ (w.heap.size ≤ k ∧ k < W3.heap.size)) ∨ k < B) fun k hk _ => hk.imp .inl id).kept k4).mono fun k hk _ => hk.imp .inl id) ((k4.z _ (.inr (by omega))).trans p0) ((k4.z _ (.inr (by omega))).trans p1) ((k4.z _ (.inr (by omega))).trans p2) ((k4.z _ (.inr (by omega))).trans p3) ⟨.inl (.inr (by omega)), .inl (.inr (by omega)), .inl (.inr (by omega)), .inl (.inr (by omega))⟩
  have hdo : Calls Tryz.prog 54 #[.pointer (some ⟨f, 0, none⟩), .func (.func 58) #[] #[.pointer (some ⟨w.heap.size + 1 + 1, 0, none⟩), .pointer (some ⟨w.heap.size, 0, none⟩), .pointer (some ⟨w.heap.size + 1, 0, none⟩), .pointer (some ⟨w.heap.size + 1 + 1 + 1, 0, none⟩)]] W3 fun e w' => e = .returned (.int .i64 n) ∧ FsI B w' f s c T2 N (fun k => Z k ∨ (w.heap.size ≤ k ∧ k < W3.heap.size)) ∧ KeptS B (fun k => Z k ∨ (w.heap.size ≤ k ∧ k < W3.heap.size)) W3 w' := by
    by_cases hn : n = 0
    · subst hn
      rw [if_pos rfl] at hfc
      refine (fsdo_ok B f s c N 58 _ T T2 _ _ (fun _ => True) W3 hF3 (enters_of Tryz.func58 (by kernel_rfl) rfl) (fun _ h => h) (.inl h.fz) (fun hF4 k4 => (hfc hF4 k4).mono fun e w9 ⟨a, b, c⟩ => ⟨a, b, c, trivial⟩)).mono ?_
      rintro e w' ⟨a, b, c, _⟩
      exact ⟨a, b, c⟩
    · rw [if_neg hn] at hfc
      refine (fsdo_bad B f s c N 58 n _ T T2 _ _ (fun _ => True) W3 hF3 (enters_of Tryz.func58 (by kernel_rfl) rfl) (fun _ h => h) (.inl h.fz) (fun hF4 k4 => (hfc hF4 k4).mono fun e w9 ⟨a, b, c⟩ => ⟨a, b, c, trivial⟩)).mono ?_
      rintro e w' ⟨a, b, c, _⟩
      exact ⟨a, b, c⟩
  have HDo := Lib.hid hdo
  have HH := Lib.hid (⟨h, k3⟩ : _ ∧ _)
  clear hdo hfc hF3 k3 p0 p1 p2 p3 z0 h hb0 hv hv3 hcl
  go_enter Tryz.func15, Tryz.ntmps15
  go_upto_region 1 with fail
  rw [← hW3]
  clear hW3
  go_wp2_with fail
  refine HDo.out.mono ?_
  rintro e w5 ⟨rfl, hF5, k5⟩
  have H5 := Lib.hid (⟨hF5.weak (fun k hk => .inl hk) HH.out.1.fz, HH.out.2.trans (k5.weak fun k hk => .inl hk)⟩ : _ ∧ _)
  clear hF5 k5 HDo HH
  go_wp2_with fail
  go_ret
  exact ⟨rfl, H5.out⟩
theorem write_new (B f s c N md n : Nat) (p : Str) (l : List Str) (b : Str) (v : Value) (T T2 : RS) (Z : Nat → Prop) (w : World) (h : FsI B w f s c T N Z) (hp : splitP p = some l) (hs : l.length ≤ 900) (ht : (thr T l).2 = n) (hn : n ≠ 0) (m : MadeOk T p 1 md b T2) (hv : BytesI w (fun k => Z k ∨ k < B) v b) :
    Calls Tryz.prog 15 #[.pointer (some ⟨f, 0, none⟩), .string (bs p), .int .i64 md, v] w fun e w' => e = .returned (.int .i64 0) ∧ FsI B w' f s c T2 N Z ∧ KeptS B Z w w' :=
  write_any B f s c N 0 md p b v T T2 Z w h hv fun W Z' b0 b1 b2 b3 hF hv4 p0 p1 p2 p3 hz => by rw [if_pos rfl]; exact write1_new B f s c N md b0 b1 b2 b3 n p l b v T T2 Z' W hF hp hs ht hn m hv4 p0 p1 p2 p3 hz
theorem write_mode (B f s c N : Nat) (md : Int) (p b : Str) (v : Value) (T : RS) (Z : Nat → Prop) (w : World) (h : FsI B w f s c T N Z) (hm : md < 0 ∨ 4095 < md) (hv : BytesI w (fun k => Z k ∨ k < B) v b) :
    Calls Tryz.prog 15 #[.pointer (some ⟨f, 0, none⟩), .string (bs p), .int .i64 md, v] w fun e w' => e = .returned (.int .i64 2) ∧ FsI B w' f s c T N Z ∧ KeptS B Z w w' :=
  write_any B f s c N 2 md p b v T T Z w h hv fun W Z' b0 b1 b2 b3 hF hv4 p0 p1 p2 p3 hz => by rw [if_neg (by omega)]; exact write1_mode B f s c N b0 b1 b2 b3 md T Z' W hF hm p2
end Go.Proofs.YtakmplpfjcddiaaGreatDoor

namespace Go.Proofs.YtakmplpfjcddiaaGreatDoor
open Go.RowKit Go.Shelf Pa
attribute [local go_sem] bs_toList bs_size
/-- What is done on one box of one's own. -/
theorem FsI.own {B f s c N b : Nat} {w w' : World} {T : RS} {Z : Nat → Prop} (h : FsI B w f s c T N Z) (ho : Off (fun k => k = b) w w') (hz : Z b) (hB : B ≤ b) (hf : b ≠ f) : FsI B w' f s c T N Z ∧ KeptS B (fun k => Z k ∧ k ≠ b) w w' := by
  have s9 := h.solo.own (Z' := Z) ho (fun k e => .inl (by rw [e]; exact hz)) (fun k hk => .inl hk)
  have hk : KeptS B (fun k => Z k ∧ k ≠ b) w w' := ⟨ho.below h.solo.base fun k e => by omega, fun k hk => ho.block k (h.solo.lt hk.1) hk.2⟩
  exact ⟨⟨s9, h.fz, (hk.z f ⟨h.fz, fun e => hf e.symm⟩).trans h.at_, h.mx.below hk.below h.mb, h.mb⟩, hk⟩
theorem results_stat2 {fn : Func} {p q : Tmp} (h : fn.results = #[.cell p 33, .tmp q]) (tmps : Array Value) (w : World) (b k md ln sz : Nat) (hp : tmps.getD p undef = .pointer (some ⟨b, 0, none⟩)) (hb : w.heap[b]? = some (.cells #[.int .i64 k, .int .i64 md, .int .i64 ln, .int .i64 sz] 33 (0, 0))) :
    (results fn tmps).run Tryz.prog w = .ok (.tuple #[statV k md ln sz, tmps.getD q undef]) w := by
  have hl := run_loadVar_row (P := Tryz.prog) w b 33 33 _ (0, 0) _ hb Tryz.underlying33 rfl (by rw [info_stat]; rfl)
  rw [Array.getD_eq_getD_getElem?] at hp
  simp [results, h, hp, hl, asAddr, statV]
set_option maxRecDepth 100000 in
set_option maxHeartbeats 2000000 in
theorem stat1_ok (B f s c N i b0 b1 b2 k0 k1 k2 k3 : Nat) (p : Str) (l : List Str) (o : Opn) (T : RS) (Z : Nat → Prop) (w : World) (h : FsI B w f s c T N Z) (hp : splitP p = some l) (hs : l.length ≤ 900) (ht : thr T l = (i, 0)) (hl : T.look i = 0) (ho : o = getR T i) (hol : o.Len)
    (p0 : w.heap[b0]? = some (.cells #[.pointer (some ⟨f, 0, none⟩)] 22 (0, 0))) (p1 : w.heap[b1]? = some (.cells #[.string (bs p)] 9 (0, 0))) (p2 : w.heap[b2]? = some (.cells #[.int .i64 k0, .int .i64 k1, .int .i64 k2, .int .i64 k3] 33 (0, 0))) (hz : Z b0 ∧ Z b1 ∧ Z b2) (hB : B ≤ b2) (hf : b2 ≠ f) :
    Calls Tryz.prog 66 #[.pointer (some ⟨b0, 0, none⟩), .pointer (some ⟨b1, 0, none⟩), .pointer (some ⟨b2, 0, none⟩)] w fun e w' => e = .returned (.tuple #[]) ∧ FsI B w' f s c T N Z ∧ KeptS B (fun k => Z k ∧ k ≠ b2) w w' ∧ w'.heap[b2]? = some (.cells #[.int .i64 o.kind, .int .i64 o.mode, .int .i64 o.links, .int .i64 (szT T i)] 33 (0, 0)) := by
  have q0 : w.cell? ⟨b0, 0, none⟩ = some (.pointer (some ⟨f, 0, none⟩)) := cell_of_heap p0 0
  have q1 : w.cell? ⟨b1, 0, none⟩ = some (.string (bs p)) := cell_of_heap p1 0
  have HN := Lib.hid (node_any B f s c N i p l o T Z w h hp hs ht hl ho hol)
  have HH := Lib.hid (⟨p0, p2, hz, hB, hf⟩ : _ ∧ _ ∧ _ ∧ _ ∧ _)
  have HL := Lib.hid (⟨hl, ho, hol⟩ : _ ∧ _ ∧ _)
  have hl15 := cellsI_length hol
  clear h hp hs ht hl ho hol p0 p1 p2 hz hB hf
  go_enter Tryz.func66, Tryz.ntmps66
  go_wp2_with fail
  refine HN.out.mono ?_
  rintro e w2 ⟨rfl, hF2, k2⟩
  obtain ⟨W3, hst3, _, hF3, k3, hb3⟩ := hF2.inode o HL.out.2.2
  obtain ⟨p0, p2, hz, hB, hf⟩ := HH.out
  have k23 := k2.trans k3
  have q0 : W3.cell? ⟨b0, 0, none⟩ = some (.pointer (some ⟨f, 0, none⟩)) := cell_of_heap ((k23.z _ hz.1).trans p0) 0
  have hF3 := hF3.weak (Z' := Z) (fun k hk => .inl hk) hF2.fz
  have hs := stat_any B f s c N i o T Z W3 hF3 HL.out.1 HL.out.2.1 HL.out.2.2
  unfold statV at hs
  have HS := Lib.hid hs
  have HK := Lib.hid k23
  clear hs k2 hF2 hF3 k3 hb3 k23 p0 p2 hz hB hf HN
  go_wp2_with fail
  refine HS.out.mono ?_
  rintro e w4 ⟨rfl, hF4, k4⟩
  obtain ⟨p0, p2, hz, hB, hf⟩ := HH.out
  have k24 := HK.out.trans k4
  have hb4 : w4.heap[b2]? = _ := (k24.z _ hz.2.2).trans p2
  obtain ⟨e1, e2⟩ := setCells4 w4 b2 _ (.int .i64 o.kind) (.int .i64 o.mode) (.int .i64 o.links) (.int .i64 (szT T i)) rfl hb4
  have c0 : w4.cell? ⟨b2, 0, none⟩ = some (.int .i64 k0) := cell_of_heap hb4 0
  have c1 : w4.cell? ⟨b2, 1, none⟩ = some (.int .i64 k1) := cell_of_heap hb4 1
  have c2 : w4.cell? ⟨b2, 2, none⟩ = some (.int .i64 k2) := cell_of_heap hb4 2
  have c3 : w4.cell? ⟨b2, 3, none⟩ = some (.int .i64 k3) := cell_of_heap hb4 3
  have f0 : w4.frozen? ⟨b2, 0, none⟩ = false := free_of_heap hb4 0
  have f1 : w4.frozen? ⟨b2, 1, none⟩ = false := free_of_heap hb4 1
  have f2 : w4.frozen? ⟨b2, 2, none⟩ = false := free_of_heap hb4 2
  have f3 : w4.frozen? ⟨b2, 3, none⟩ = false := free_of_heap hb4 3
  obtain ⟨g1, g2⟩ := hF4.own e2 hz.2.2 hB hf
  have HX := Lib.hid (⟨g1, (k24.weak fun k hk => hk.1).trans g2, e1⟩ : _ ∧ _ ∧ _)
  clear e1 e2 g1 g2 hF4 k4 k24 hb4 HS HK p0 p2 hz hB hf HH
  go_wp2_with fail
  go_end0
  exact ⟨rfl, HX.out⟩
set_option maxRecDepth 100000 in
set_option maxHeartbeats 2000000 in
theorem stat1_bad (B f s c N b0 b1 b2 n : Nat) (p : Str) (l : List Str) (T : RS) (Z : Nat → Prop) (w : World) (h : FsI B w f s c T N Z) (hp : splitP p = some l) (hs : l.length ≤ 900) (ht : (thr T l).2 = n) (hn : n ≠ 0)
    (p0 : w.heap[b0]? = some (.cells #[.pointer (some ⟨f, 0, none⟩)] 22 (0, 0))) (p1 : w.heap[b1]? = some (.cells #[.string (bs p)] 9 (0, 0))) :
    Calls Tryz.prog 66 #[.pointer (some ⟨b0, 0, none⟩), .pointer (some ⟨b1, 0, none⟩), .pointer (some ⟨b2, 0, none⟩)] w fun e w' => e = gaveUp n ∧ FsI B w' f s c T N Z ∧ KeptS B Z w w' := by
  have q0 : w.cell? ⟨b0, 0, none⟩ = some (.pointer (some ⟨f, 0, none⟩)) := cell_of_heap p0 0
  have q1 : w.cell? ⟨b1, 0, none⟩ = some (.string (bs p)) := cell_of_heap p1 0
  have HN := Lib.hid (node_bad B f s c N n p l T Z w h hp hs ht hn)
  clear h hp hs ht hn p0 p1
  go_enter Tryz.func66, Tryz.ntmps66
  go_wp2_with fail
  refine HN.out.mono ?_
  rintro e w3 ⟨rfl, hF3, k3⟩
  have H3 := Lib.hid (⟨hF3, k3⟩ : _ ∧ _)
  clear hF3 k3 HN
  go_wp2_with fail
  exact ⟨rfl, rfl, H3.out⟩
set_option maxRecDepth 100000 in
set_option maxHeartbeats 2000000 in
/-- What Stat hands back, by what its closure does. -/
theorem stat_of (B f s c N n k0 k1 k2 k3 : Nat) (p : Str) (T : RS) (Z : Nat → Prop) (w : World) (h : FsI B w f s c T N Z)
    (hcl : ∀ (W : World) (Z' : Nat → Prop) (b0 b1 b2 : Nat), FsI B W f s c T N Z' → W.heap[b0]? = some (.cells #[.pointer (some ⟨f, 0, none⟩)] 22 (0, 0)) → W.heap[b1]? = some (.cells #[.string (bs p)] 9 (0, 0)) → W.heap[b2]? = some (.cells #[.int .i64 0, .int .i64 0, .int .i64 0, .int .i64 0] 33 (0, 0)) → (Z' b0 ∧ Z' b1 ∧ Z' b2) → B ≤ b2 → b2 ≠ f →
      Calls Tryz.prog 66 #[.pointer (some ⟨b0, 0, none⟩), .pointer (some ⟨b1, 0, none⟩), .pointer (some ⟨b2, 0, none⟩)] W fun e w' => e = (if n = 0 then .returned (.tuple #[]) else gaveUp n) ∧ FsI B w' f s c T N Z' ∧ KeptS B (fun k => Z' k ∧ k ≠ b2) W w' ∧ w'.heap[b2]? = some (.cells #[.int .i64 k0, .int .i64 k1, .int .i64 k2, .int .i64 k3] 33 (0, 0))) :
    Calls Tryz.prog 17 #[.pointer (some ⟨f, 0, none⟩), .string (bs p)] w fun e w' => e = .returned (.tuple #[statV k0 k1 k2 k3, .int .i64 n]) ∧ FsI B w' f s c T N Z ∧ KeptS B Z w w' := by
  have hmf : ∀ (fn : Fn) (first cap : Array Value) (w : World), (Instr.makeFunc fn first cap).run Tryz.prog w = .ok (.func fn first cap) w := fun _ _ _ _ => rfl
  obtain ⟨p0, p1, p2, z0⟩ := alloc3 w (.cells #[.pointer (some ⟨f, 0, none⟩)] 22) (.cells #[.string (bs p)] 9) zStat
  have hb0 : Below w.heap.size w (((w.alloc (.cells #[.pointer (some ⟨f, 0, none⟩)] 22)).alloc (.cells #[.string (bs p)] 9)).alloc zStat) := (((Below.refl _ _).alloc (Nat.le_refl _) _).alloc (by simp) _).alloc (by simp; omega) _
  obtain ⟨hF3, k3'⟩ := h.boxes hb0
  obtain ⟨W3, hW3⟩ : ∃ W3, W3 = ((w.alloc (.cells #[.pointer (some ⟨f, 0, none⟩)] 22)).alloc (.cells #[.string (bs p)] 9)).alloc zStat := ⟨_, rfl⟩
  rw [← hW3] at hF3 k3' p0 p1 p2 z0
  have q0 : W3.cell? ⟨w.heap.size, 0, none⟩ = some (.pointer (some ⟨f, 0, none⟩)) := cell_of_heap p0 0
  have hfl := h.solo.lt h.fz
  have hbs := h.solo.base
  have hne : w.heap.size + 1 + 1 ≠ W3.heap.size := by omega
  obtain ⟨Zb, hZb⟩ : ∃ Zb : Nat → Prop, Zb = fun k => Z k ∨ (w.heap.size ≤ k ∧ k < W3.heap.size) := ⟨_, rfl⟩
  rw [← hZb] at hF3
  have hZi : ∀ k, w.heap.size ≤ k → k < W3.heap.size → Zb k := fun k a b => by rw [hZb]; exact .inr ⟨a, b⟩
  have hZz : ∀ k, Z k → Zb k := fun k a => by rw [hZb]; exact .inl a
  have hfc : FsI B (W3.alloc errO) f s c T N (fun k => Zb k ∨ k = W3.heap.size) → KeptS B Zb W3 (W3.alloc errO) → _ := fun hF4 k4 => hcl (W3.alloc errO) _ w.heap.size (w.heap.size + 1) (w.heap.size + 1 + 1) hF4 ((k4.z _ (hZi _ (by omega) (by omega))).trans p0) ((k4.z _ (hZi _ (by omega) (by omega))).trans p1) ((k4.z _ (hZi _ (by omega) (by omega))).trans p2) ⟨.inl (hZi _ (by omega) (by omega)), .inl (hZi _ (by omega) (by omega)), .inl (hZi _ (by omega) (by omega))⟩ (by omega) (by omega)
  have hdo : Calls Tryz.prog 54 #[.pointer (some ⟨f, 0, none⟩), .func (.func 66) #[] #[.pointer (some ⟨w.heap.size, 0, none⟩), .pointer (some ⟨w.heap.size + 1, 0, none⟩), .pointer (some ⟨w.heap.size + 1 + 1, 0, none⟩)]] W3 fun e w' => e = .returned (.int .i64 n) ∧ FsI B w' f s c T N Zb ∧ KeptS B (fun k => Zb k ∧ k ≠ w.heap.size + 1 + 1) W3 w' ∧ w'.heap[w.heap.size + 1 + 1]? = some (.cells #[.int .i64 k0, .int .i64 k1, .int .i64 k2, .int .i64 k3] 33 (0, 0)) := by
    have hQ : ∀ (w' w1 : World), w1.heap[w.heap.size + 1 + 1]? = some (.cells #[.int .i64 k0, .int .i64 k1, .int .i64 k2, .int .i64 k3] 33 (0, 0)) → Off (fun k => k = W3.heap.size) w1 w' → (∀ k, Zb k → k < w1.heap.size) → w'.heap[w.heap.size + 1 + 1]? = some (.cells #[.int .i64 k0, .int .i64 k1, .int .i64 k2, .int .i64 k3] 33 (0, 0)) := fun w' w1 a b c => (b.block _ (c _ (hZi _ (by omega) (by omega))) hne).trans a
    by_cases hn : n = 0
    · subst hn
      rw [if_pos rfl] at hfc
      refine (fsdo_ok B f s c N 66 _ T T _ (fun k => Zb k ∧ k ≠ w.heap.size + 1 + 1) (fun w1 => w1.heap[w.heap.size + 1 + 1]? = some (.cells #[.int .i64 k0, .int .i64 k1, .int .i64 k2, .int .i64 k3] 33 (0, 0))) W3 hF3 (enters_of Tryz.func66 (by kernel_rfl) rfl) (fun _ h => h.1) ⟨hZz _ h.fz, by omega⟩ (fun hF4 k4 => (hfc hF4 k4).mono fun e w9 ⟨a, b, c, d⟩ => ⟨a, b, c.weak (fun k hk => by rcases hk with hk | hk; exact ⟨.inl hk.1, hk.2⟩; exact ⟨.inr hk, by omega⟩), d⟩)).mono ?_
      rintro e w' ⟨a, b, c, w1, d1, d2, d3⟩
      exact ⟨a, b, c, hQ w' w1 d1 d2 d3⟩
    · rw [if_neg hn] at hfc
      refine (fsdo_bad B f s c N 66 n _ T T _ (fun k => Zb k ∧ k ≠ w.heap.size + 1 + 1) (fun w1 => w1.heap[w.heap.size + 1 + 1]? = some (.cells #[.int .i64 k0, .int .i64 k1, .int .i64 k2, .int .i64 k3] 33 (0, 0))) W3 hF3 (enters_of Tryz.func66 (by kernel_rfl) rfl) (fun _ h => h.1) ⟨hZz _ h.fz, by omega⟩ (fun hF4 k4 => (hfc hF4 k4).mono fun e w9 ⟨a, b, c, d⟩ => ⟨a, b, c.weak (fun k hk => by rcases hk with hk | hk; exact ⟨.inl hk.1, hk.2⟩; exact ⟨.inr hk, by omega⟩), d⟩)).mono ?_
      rintro e w' ⟨a, b, c, w1, d1, d2, d3⟩
      exact ⟨a, b, c, hQ w' w1 d1 d2 d3⟩
  have HDo := Lib.hid hdo
  have HH := Lib.hid (⟨h, k3', hZz, hZi, hfl, z0⟩ : _ ∧ _ ∧ _ ∧ _ ∧ _ ∧ _)
  clear hdo hfc hF3 k3' p0 p1 p2 z0 h hb0 hcl hZz hZi hne hZb hfl hbs
  go_enter Tryz.func17, Tryz.ntmps17
  go_upto_region 1 with fail
  rw [← hW3]
  clear hW3
  go_wp2_with fail
  refine HDo.out.mono ?_
  rintro e w5 ⟨rfl, hF5, k5, hb5⟩
  obtain ⟨e1, e2⟩ := setCells4 w5 (w.heap.size + 1 + 1) _ (.int .i64 k0) (.int .i64 k1) (.int .i64 k2) (.int .i64 k3) rfl hb5
  have c0 : w5.cell? ⟨w.heap.size + 1 + 1, 0, none⟩ = some (.int .i64 k0) := cell_of_heap hb5 0
  have c1 : w5.cell? ⟨w.heap.size + 1 + 1, 1, none⟩ = some (.int .i64 k1) := cell_of_heap hb5 1
  have c2 : w5.cell? ⟨w.heap.size + 1 + 1, 2, none⟩ = some (.int .i64 k2) := cell_of_heap hb5 2
  have c3 : w5.cell? ⟨w.heap.size + 1 + 1, 3, none⟩ = some (.int .i64 k3) := cell_of_heap hb5 3
  have f0 : w5.frozen? ⟨w.heap.size + 1 + 1, 0, none⟩ = false := free_of_heap hb5 0
  have f1 : w5.frozen? ⟨w.heap.size + 1 + 1, 1, none⟩ = false := free_of_heap hb5 1
  have f2 : w5.frozen? ⟨w.heap.size + 1 + 1, 2, none⟩ = false := free_of_heap hb5 2
  have f3 : w5.frozen? ⟨w.heap.size + 1 + 1, 3, none⟩ = false := free_of_heap hb5 3
  obtain ⟨h, k3', hZz, hZi, hfl, z0⟩ := HH.out
  obtain ⟨g1, g2⟩ := hF5.own e2 (hZi _ (by omega) (by omega)) (by have := h.solo.base; omega) (by omega)
  have hkk : KeptS B Z w _ := k3'.trans ((k5.weak fun k hk => ⟨hZz k hk, by have := h.solo.lt hk; omega⟩).trans (g2.weak fun k hk => ⟨hZz k hk, by have := h.solo.lt hk; omega⟩))
  have HX := Lib.hid (⟨e1, g1.weak hZz h.fz, hkk⟩ : _ ∧ _ ∧ _)
  clear e1 e2 g1 g2 hF5 k5 hb5 hkk h k3' hZz hZi hfl z0 HDo HH
  go_wp2_with fail
  exact bodyPost_ret (results_stat2 rfl _ _ _ _ _ _ _ rfl HX.out.1) rfl ⟨rfl, HX.out.2⟩
theorem stat_ok (B f s c N i : Nat) (p : Str) (l : List Str) (o : Opn) (T : RS) (Z : Nat → Prop) (w : World) (h : FsI B w f s c T N Z) (hp : splitP p = some l) (hs : l.length ≤ 900) (ht : thr T l = (i, 0)) (hl : T.look i = 0) (ho : o = getR T i) (hol : o.Len) :
    Calls Tryz.prog 17 #[.pointer (some ⟨f, 0, none⟩), .string (bs p)] w fun e w' => e = .returned (.tuple #[statV o.kind o.mode o.links (szT T i), .int .i64 0]) ∧ FsI B w' f s c T N Z ∧ KeptS B Z w w' :=
  stat_of B f s c N 0 _ _ _ _ p T Z w h fun W Z' b0 b1 b2 hF p0 p1 p2 hz hB hf => by rw [if_pos rfl]; exact stat1_ok B f s c N i b0 b1 b2 0 0 0 0 p l o T Z' W hF hp hs ht hl ho hol p0 p1 p2 hz hB hf
theorem stat_bad (B f s c N n : Nat) (p : Str) (l : List Str) (T : RS) (Z : Nat → Prop) (w : World) (h : FsI B w f s c T N Z) (hp : splitP p = some l) (hs : l.length ≤ 900) (ht : (thr T l).2 = n) (hn : n ≠ 0) :
    Calls Tryz.prog 17 #[.pointer (some ⟨f, 0, none⟩), .string (bs p)] w fun e w' => e = .returned (.tuple #[statV 0 0 0 0, .int .i64 n]) ∧ FsI B w' f s c T N Z ∧ KeptS B Z w w' :=
  stat_of B f s c N n 0 0 0 0 p T Z w h fun W Z' b0 b1 b2 hF p0 p1 p2 hz hB hf => by
    rw [if_neg hn]
    refine (stat1_bad B f s c N b0 b1 b2 n p l T Z' W hF hp hs ht hn p0 p1).mono ?_
    rintro e w' ⟨a, b, k⟩
    exact ⟨a, b, k.weak fun k hk => hk.1, (k.z _ hz.2.2).trans p2⟩
end Go.Proofs.YtakmplpfjcddiaaGreatDoor

namespace Go.Proofs.YtakmplpfjcddiaaGreatDoor
open Go.RowKit Go.Shelf Pa
attribute [local go_sem] bs_toList bs_size
theorem lrd_any (B s N n : Nat) (i : Int) (T : RS) (Z : Nat → Prop) (w : World) (h : Solo B w s T N Z) (hn : n ≤ 1000000) (hn0 : T.look i = 0 → 0 < (T.file i.toNat).bytes.length → 0 < n) :
    Calls Tryz.prog 133 #[.pointer (some ⟨s, 0, none⟩), .int .i64 i, .int .i64 0, .int .i64 n] w fun e w' => ∃ v, e = .returned (.tuple #[v, .int .i64 (T.look i : Nat)]) ∧ OwnB w' w.heap.size v (readR T i 0 n) ∧ Solo B w' s T N (fun k => Z k ∨ v.ownBlock = some k) ∧ KeptS B Z w w' := by
  obtain ⟨R, g, hl⟩ := h.left
  refine (stread_any s N 0 n i T R w g hn hn0).mono ?_
  rintro e w' ⟨v, rfl, R', ho, g', t', o', hn'⟩
  refine ⟨v, rfl, ho, hl w' R' T N g' t' o' _ fun k hk => ?_⟩
  rcases hk with hk | hk
  · exact .inl hk
  · exact .inr ⟨hn' k hk, World.ownsRow.lt ho k hk⟩
/-- Behind a read: the row that was handed back lies in a box of one's own. -/
def RdQ (B f s c N b3 : Nat) (w : World) (T : RS) (Z : Nat → Prop) (v : Value) (x : Str) (W9 : World) : Prop :=
  FsI B W9 f s c T N (fun k => Z k ∨ v.ownBlock = some k) ∧ KeptS B (fun k => Z k ∧ k ≠ b3) w W9 ∧ W9.heap[b3]? = some (.cells #[v] 37 (0, 0)) ∧ BytesI W9 (fun k => v.ownBlock = some k) v x ∧ ∀ k, v.ownBlock = some k → w.heap.size ≤ k
set_option maxRecDepth 100000 in
set_option maxHeartbeats 2000000 in
theorem bytes1_ok (B f s c N i kd b0 b1 b2 b3 : Nat) (p : Str) (l : List Str) (o : Opn) (v0 : Value) (T : RS) (Z : Nat → Prop) (w : World) (h : FsI B w f s c T N Z) (hp : splitP p = some l) (hs : l.length ≤ 900) (ht : thr T l = (i, 0)) (hl : T.look i = 0) (ho : o = getR T i) (hol : o.Len) (hkd : o.kind = kd) (hsz : o.size ≤ 100000)
    (p0 : w.heap[b0]? = some (.cells #[.pointer (some ⟨f, 0, none⟩)] 22 (0, 0))) (p1 : w.heap[b1]? = some (.cells #[.string (bs p)] 9 (0, 0))) (p2 : w.heap[b2]? = some (.cells #[.int .i64 kd] 31 (0, 0))) (p3 : w.heap[b3]? = some (.cells #[v0] 37 (0, 0))) (hz : Z b0 ∧ Z b1 ∧ Z b2 ∧ Z b3) (hB : B ≤ b3) (hf : b3 ≠ f) :
    Calls Tryz.prog 132 #[.pointer (some ⟨b0, 0, none⟩), .pointer (some ⟨b1, 0, none⟩), .pointer (some ⟨b2, 0, none⟩), .pointer (some ⟨b3, 0, none⟩)] w fun e w' => e = .returned (.tuple #[]) ∧ ∃ v, RdQ B f s c N b3 w T Z v (T.file i).bytes w' := by
  have q0 : w.cell? ⟨b0, 0, none⟩ = some (.pointer (some ⟨f, 0, none⟩)) := cell_of_heap p0 0
  have q1 : w.cell? ⟨b1, 0, none⟩ = some (.string (bs p)) := cell_of_heap p1 0
  have HN := Lib.hid (node_any B f s c N i p l o T Z w h hp hs ht hl ho hol)
  have HH := Lib.hid (⟨p0, p2, p3, hz, hB, hf, h⟩ : _ ∧ _ ∧ _ ∧ _ ∧ _ ∧ _ ∧ _)
  have hos : o.size = (T.file i).bytes.length := by rw [ho]; unfold getR; rw [if_pos hl, Int.toNat_natCast]; rfl
  have HL := Lib.hid (⟨hl, hol, hsz, hos⟩ : _ ∧ _ ∧ _ ∧ _)
  have hl15 := cellsI_length hol
  subst hkd
  clear h hp hs ht hl ho hol p0 p1 p2 p3 hz hB hf hos hsz
  go_enter Tryz.func132, Tryz.ntmps132
  go_wp2_with fail
  refine HN.out.mono ?_
  rintro e w2 ⟨rfl, hF2, k2⟩
  obtain ⟨W3, hst3, _, hF3, k3, hb3⟩ := hF2.inode o HL.out.2.1
  obtain ⟨p0, p2, p3, hz, hB, hf, h⟩ := HH.out
  have k23 := k2.trans k3
  have q0 : W3.cell? ⟨b0, 0, none⟩ = some (.pointer (some ⟨f, 0, none⟩)) := cell_of_heap ((k23.z _ hz.1).trans p0) 0
  have q2 : W3.cell? ⟨b2, 0, none⟩ = some (.int .i64 o.kind) := cell_of_heap ((k23.z _ hz.2.2.1).trans p2) 0
  have e0 : W3.cell? ⟨w2.heap.size, 0, none⟩ = some (.int .i64 o.kind) := by rw [cell_of_heap hb3]; rfl
  have e3 : W3.cell? ⟨w2.heap.size, 3, none⟩ = some (.int .i64 o.size) := by rw [cell_of_heap hb3]; rfl
  obtain ⟨f0, _⟩ := hF3.cells
  have hrd : ∀ W, Below W3.heap.size W3 W → Calls Tryz.prog 133 #[.pointer (some ⟨s, 0, none⟩), .int .i64 i, .int .i64 0, .int .i64 o.size] W fun e w' => ∃ Av nv cv, e = .returned (.tuple #[.slice Av nv cv, .int .i64 0]) ∧ (w'.cell? ⟨b0, 0, none⟩ = some (.pointer (some ⟨f, 0, none⟩)) ∧ w'.cell? ⟨f, 0, none⟩ = some (.pointer (some ⟨s, 0, none⟩)) ∧ w'.cell? ⟨w2.heap.size, 3, none⟩ = some (.int .i64 o.size)) ∧ (w'.cell? ⟨b3, 0, none⟩ = some v0 ∧ w'.frozen? ⟨b3, 0, none⟩ = false) ∧ Hid (RdQ B f s c N b3 w T Z (.slice Av nv cv) (T.file i).bytes (w'.setCell ⟨b3, 0, none⟩ (.slice Av nv cv))) := fun W hW => by
    obtain ⟨sW, kW⟩ := hF3.solo.fresh (Z' := fun k => Z k ∨ k = w2.heap.size) hW (fun k hk => .inl hk)
    have hFW := hF3.next sW kW hF3.fz
    have hr := lrd_any B s N o.size i T _ W hFW.solo (by have := HL.out.2.2.1; omega) (fun _ h1 => by rw [HL.out.2.2.2]; rwa [Int.toNat_natCast] at h1)
    rw [HL.out.1] at hr
    refine hr.mono ?_
    rintro e w' ⟨v, rfl, hown, sX, kX⟩
    obtain ⟨Av, cv, hve, _⟩ := OwnB.bytes hown (by unfold readR; rw [if_pos HL.out.1, Int.toNat_natCast]; simp only [List.length_take, List.length_drop]; have h1 := HL.out.2.2.1; omega)
    have hFX := hFW.next sX kX (.inl hFW.fz)
    have kk := k23.trans ((kW.trans kX).weak fun k hk => .inl hk)
    have hx : readR T i 0 o.size = (T.file i).bytes := by
      unfold readR
      rw [if_pos HL.out.1, Int.toNat_natCast, List.drop_zero, HL.out.2.2.2, List.take_length]
    rw [hx] at hown
    have hbX : w'.heap[w2.heap.size]? = _ := (kX.z _ (.inr rfl)).trans ((kW.z _ (.inr rfl)).trans hb3)
    have hb3X : w'.heap[b3]? = _ := (kk.z _ hz.2.2.2).trans p3
    have ho9 : Off (fun k => k = b3) w' (w'.setCell ⟨b3, 0, none⟩ v) := (Off.refl (fun k => k = b3) w').setCell (p := ⟨b3, 0, none⟩) (.inl rfl) _
    have hfresh : ∀ k, v.ownBlock = some k → w.heap.size ≤ k := fun k hk => by
      have h1 := (World.ownsRow.lt hown k hk).1
      have h2 := k23.below.size
      have h3 := hW.size
      omega
    have hlb := h.solo.lt hz.2.2.2
    obtain ⟨g1, g2⟩ := hFX.own ho9 (.inl (.inl hz.2.2.2)) hB hf
    rw [hve] at g1 g2 ho9 hown hfresh ⊢
    refine ⟨Av, _, cv, rfl, ⟨cell_of_heap ((kk.z _ hz.1).trans p0) 0, hFX.cells.1, by rw [cell_of_heap hbX]; rfl⟩, ⟨cell_of_heap hb3X 0, free_of_heap hb3X 0⟩, Lib.hid ⟨g1.weak (fun k hk => hk.imp .inl id) (.inl hF2.fz), kk.weak (fun k hk => hk.1) |>.trans (g2.weak fun k hk => ⟨.inl (.inl hk.1), hk.2⟩), ?_, ((OwnB.bytes hown (by have h1 := HL.out.2.2.1; have h2 := HL.out.2.2.2; omega)).off ho9 fun k hk e => by have := hfresh k hk; omega), hfresh⟩⟩
    rw [heap_setCell_at w' b3 0 _ hb3X]; simp
  have HRd := Lib.hid hrd
  have hne0 : b3 ≠ b0 := fun e => by rw [e, p0] at p3; simp at p3
  have hne0' : b0 ≠ b3 := fun e => hne0 e.symm
  have hf' : f ≠ b3 := fun e => hf e.symm
  have hne2 : b3 ≠ w2.heap.size := by have h1 := h.solo.lt hz.2.2.2; have h2 := k2.below.size; omega
  have hne2' : w2.heap.size ≠ b3 := fun e => hne2 e.symm
  clear hrd k2 hF2 hF3 k3 hb3 k23 p0 p2 p3 hz hB h HN HH
  go_upto_region 3 with fail
  go_region_held3 (fun w' => w'.cell? ⟨b0, 0, none⟩ = some (.pointer (some ⟨f, 0, none⟩)) ∧ w'.cell? ⟨f, 0, none⟩ = some (.pointer (some ⟨s, 0, none⟩)) ∧ w'.cell? ⟨w2.heap.size, 3, none⟩ = some (.int .i64 o.size))
    ((first | assumption | go_keep))
    (first
      | (go_at_call 133; go_split_ands; refine (HRd.out _ (by first | exact Below.refl _ _ | exact (Below.refl _ _).drew)).mono ?_; rintro e w9 ⟨A9, n9, c9, rfl, hc9, ⟨x0, x1⟩, HF9⟩))
  all_goals
    go_wp2_with fail
    go_end0
    exact ⟨rfl, _, HF9.out⟩
end Go.Proofs.YtakmplpfjcddiaaGreatDoor

namespace Go.Proofs.YtakmplpfjcddiaaGreatDoor
open Go.RowKit Go.Shelf Pa
attribute [local go_sem] bs_toList bs_size
/-- do, where the closure lays rows of one's own. -/
theorem fsdo_okX (B f s c N cl : Nat) (caps : Array Value) (T T' : RS) (Z Z1 : Nat → Prop) (Q : World → (Nat → Prop) → Prop) (w : World) (h : FsI B w f s c T N Z) (he : ∀ args w, (callFunc cl args).run Tryz.prog w = .ok (.enter cl args) w) (hz1 : ∀ k, Z1 k → Z k) (hf1 : Z1 f)
    (hf : FsI B (w.alloc errO) f s c T N (fun k => Z k ∨ k = w.heap.size) → KeptS B Z w (w.alloc errO) → Calls Tryz.prog cl caps (w.alloc errO) fun e w1 => e = .returned (.tuple #[]) ∧ ∃ X : Nat → Prop, FsI B w1 f s c T' N (fun k => (Z k ∨ k = w.heap.size) ∨ X k) ∧ KeptS B (fun k => Z1 k ∨ k = w.heap.size) (w.alloc errO) w1 ∧ Q w1 X) :
    Calls Tryz.prog 54 #[.pointer (some ⟨f, 0, none⟩), .func (.func cl) #[] caps] w fun e w' => e = .returned (.int .i64 0) ∧ ∃ X : Nat → Prop, FsI B w' f s c T' N (fun k => Z k ∨ X k) ∧ KeptS B Z1 w w' ∧ ∃ w1, Q w1 X ∧ Off (fun k => k = w.heap.size) w1 w' ∧ ∀ k, Z k ∨ X k → k < w1.heap.size := by
  obtain ⟨hF1, k1⟩ := h.box errO
  have hbox : ErrAt (w.alloc errO) w.heap.size := heap_alloc_new _ _
  refine (fdo_ok f cl caps w (fun w1 => ∃ X : Nat → Prop, FsI B w1 f s c T' N (fun k => (Z k ∨ k = w.heap.size) ∨ X k) ∧ KeptS B (fun k => Z1 k ∨ k = w.heap.size) (w.alloc errO) w1 ∧ Q w1 X) he (hf hF1 k1) (fun w1 ⟨_, hp⟩ => (hp.2.1.z _ (.inr rfl)).trans hbox)).mono ?_
  rintro e w' ⟨rfl, w1, ⟨X, g1, g2, g3⟩, rfl⟩
  have hz : w.heap.size < w1.heap.size := g1.solo.lt (k := w.heap.size) (.inl (.inr rfl))
  have ho : Off (fun k => k = w.heap.size) w1 (w1.setCell ⟨w.heap.size, 0, none⟩ (.int .i64 0)) := (Off.refl (fun k => k = w.heap.size) w1).setCell (p := ⟨w.heap.size, 0, none⟩) (.inl rfl) _
  have hB := h.solo.base
  have s9 := g1.solo.own (Z' := fun k => Z k ∨ X k) ho (fun k e => .inl (.inl (.inr e))) (fun k hk => .inl (hk.imp .inl id))
  have hk9 : KeptS B Z1 w (w1.setCell ⟨w.heap.size, 0, none⟩ (.int .i64 0)) := by
    refine ⟨(k1.below.trans g2.below).trans (ho.below g1.solo.base fun k e => by omega), fun k hz => ?_⟩
    have hkl := h.solo.lt (hz1 k hz)
    exact (ho.block k (g1.solo.lt (.inl (.inl (hz1 k hz)))) (by omega)).trans ((g2.z k (.inl hz)).trans (k1.z k (hz1 k hz)))
  exact ⟨rfl, X, ⟨s9, .inl h.fz, (hk9.z f hf1).trans h.at_, h.mx.below hk9.below h.mb, h.mb⟩, hk9, w1, g3, ho, fun k hk => g1.solo.lt (hk.imp .inl id)⟩
theorem results_sl {fn : Func} {p u : Tmp} (h : fn.results = #[.cell p 37, .tmp u]) (tmps : Array Value) (w : World) (b : Nat) (v : Value) (hp : tmps.getD p undef = .pointer (some ⟨b, 0, none⟩)) (hb : w.cell? ⟨b, 0, none⟩ = some v) :
    (results fn tmps).run Tryz.prog w = .ok (.tuple #[v, tmps.getD u undef]) w := by
  rw [results_cell_tmp h, hp]
  simp [asAddr, go_sem, hb]
set_option maxRecDepth 100000 in
set_option maxHeartbeats 2000000 in
theorem bytes_ok (B f s c N i kd : Nat) (p : Str) (l : List Str) (o : Opn) (T : RS) (Z : Nat → Prop) (w : World) (h : FsI B w f s c T N Z) (hp : splitP p = some l) (hs : l.length ≤ 900) (ht : thr T l = (i, 0)) (hl : T.look i = 0) (ho : o = getR T i) (hol : o.Len) (hkd : o.kind = kd) (hsz : o.size ≤ 100000) :
    Calls Tryz.prog 68 #[.pointer (some ⟨f, 0, none⟩), .string (bs p), .int .i64 kd] w fun e w' => ∃ A n cc, e = .returned (.tuple #[.slice A n cc, .int .i64 0]) ∧ FsI B w' f s c T N (fun k => Z k ∨ (Value.slice A n cc).ownBlock = some k) ∧ KeptS B Z w w' ∧ BytesI w' (fun k => (Value.slice A n cc).ownBlock = some k) (.slice A n cc) (T.file i).bytes := by
  have hmf : ∀ (fn : Fn) (first cap : Array Value) (w : World), (Instr.makeFunc fn first cap).run Tryz.prog w = .ok (.func fn first cap) w := fun _ _ _ _ => rfl
  obtain ⟨p0, p1, p2, p3, z0⟩ := alloc4 w (.cells #[.pointer (some ⟨f, 0, none⟩)] 22) (.cells #[.string (bs p)] 9) (.cells #[.int .i64 kd] 31) (.cells #[.slice none 0 0] 37)
  have hb0 : Below w.heap.size w ((((w.alloc (.cells #[.pointer (some ⟨f, 0, none⟩)] 22)).alloc (.cells #[.string (bs p)] 9)).alloc (.cells #[.int .i64 kd] 31)).alloc (.cells #[.slice none 0 0] 37)) := ((((Below.refl _ _).alloc (Nat.le_refl _) _).alloc (by simp) _).alloc (by simp; omega) _).alloc (by simp; omega) _
  obtain ⟨hF3, k3'⟩ := h.boxes hb0
  obtain ⟨W3, hW3⟩ : ∃ W3, W3 = (((w.alloc (.cells #[.pointer (some ⟨f, 0, none⟩)] 22)).alloc (.cells #[.string (bs p)] 9)).alloc (.cells #[.int .i64 kd] 31)).alloc (.cells #[.slice none 0 0] 37) := ⟨_, rfl⟩
  rw [← hW3] at hF3 k3' p0 p1 p2 p3 z0
  have q0 : W3.cell? ⟨w.heap.size, 0, none⟩ = some (.pointer (some ⟨f, 0, none⟩)) := cell_of_heap p0 0
  have hfl := h.solo.lt h.fz
  have hbs := h.solo.base
  obtain ⟨Zb, hZb⟩ : ∃ Zb : Nat → Prop, Zb = fun k => Z k ∨ (w.heap.size ≤ k ∧ k < W3.heap.size) := ⟨_, rfl⟩
  rw [← hZb] at hF3
  have hZi : ∀ k, w.heap.size ≤ k → k < W3.heap.size → Zb k := fun k a b => by rw [hZb]; exact .inr ⟨a, b⟩
  have hZz : ∀ k, Z k → Zb k := fun k a => by rw [hZb]; exact .inl a
  have hdo : Calls Tryz.prog 54 #[.pointer (some ⟨f, 0, none⟩), .func (.func 132) #[] #[.pointer (some ⟨w.heap.size, 0, none⟩), .pointer (some ⟨w.heap.size + 1, 0, none⟩), .pointer (some ⟨w.heap.size + 1 + 1, 0, none⟩), .pointer (some ⟨w.heap.size + 1 + 1 + 1, 0, none⟩)]] W3 fun e w' => e = .returned (.int .i64 0) ∧ ∃ A n cc, FsI B w' f s c T N (fun k => Zb k ∨ (Value.slice A n cc).ownBlock = some k) ∧ KeptS B (fun k => Zb k ∧ k ≠ w.heap.size + 1 + 1 + 1) W3 w' ∧ w'.heap[w.heap.size + 1 + 1 + 1]? = some (.cells #[.slice A n cc] 37 (0, 0)) ∧ BytesI w' (fun k => (Value.slice A n cc).ownBlock = some k) (.slice A n cc) (T.file i).bytes ∧ ∀ k, (Value.slice A n cc).ownBlock = some k → W3.heap.size ≤ k := by
    refine (fsdo_okX B f s c N 132 _ T T _ (fun k => Zb k ∧ k ≠ w.heap.size + 1 + 1 + 1) (fun w1 X => ∃ A n cc, X = (fun k => (Value.slice A n cc).ownBlock = some k) ∧ w1.heap[w.heap.size + 1 + 1 + 1]? = some (.cells #[.slice A n cc] 37 (0, 0)) ∧ BytesI w1 (fun k => (Value.slice A n cc).ownBlock = some k) (.slice A n cc) (T.file i).bytes ∧ ∀ k, (Value.slice A n cc).ownBlock = some k → W3.heap.size < k) W3 hF3 (enters_of Tryz.func132 (by kernel_rfl) rfl) (fun _ h => h.1) ⟨hZz _ h.fz, by omega⟩ (fun hF4 k4 => ?_)).mono ?_
    · have he4 : (W3.alloc errO).heap.size = W3.heap.size + 1 := World.size_alloc _ _
      refine (bytes1_ok B f s c N i kd w.heap.size (w.heap.size + 1) (w.heap.size + 1 + 1) (w.heap.size + 1 + 1 + 1) p l o (.slice none 0 0) T _ _ hF4 hp hs ht hl ho hol hkd hsz ((k4.z _ (hZi _ (by omega) (by omega))).trans p0) ((k4.z _ (hZi _ (by omega) (by omega))).trans p1) ((k4.z _ (hZi _ (by omega) (by omega))).trans p2) ((k4.z _ (hZi _ (by omega) (by omega))).trans p3) ⟨.inl (hZi _ (by omega) (by omega)), .inl (hZi _ (by omega) (by omega)), .inl (hZi _ (by omega) (by omega)), .inl (hZi _ (by omega) (by omega))⟩ (by omega) (by omega)).mono ?_
      rintro e w9 ⟨rfl, v, g1, g2, g3, g4, g5⟩
      obtain ⟨A, cc, rfl, _⟩ := id g4
      exact ⟨rfl, _, g1, g2.weak (fun k hk => by rcases hk with hk | hk; exact ⟨.inl hk.1, hk.2⟩; exact ⟨.inr hk, by omega⟩), A, _, cc, rfl, g3, g4, fun k hk => by have := g5 k hk; omega⟩
    · rintro e w' ⟨rfl, X, g1, g2, w1, ⟨A, n, cc, rfl, d1, d2, d3⟩, d4, d5⟩
      refine ⟨rfl, A, n, cc, g1, g2, ?_, d2.off d4 (fun k hk e => by have := d3 k hk; omega), fun k hk => by have := d3 k hk; omega⟩
      exact (d4.block _ (d5 _ (.inl (hZi _ (by omega) (by omega)))) (by omega)).trans d1
  have HDo := Lib.hid hdo
  have HH := Lib.hid (⟨h, k3', hZz, hZi, hfl, z0⟩ : _ ∧ _ ∧ _ ∧ _ ∧ _ ∧ _)
  clear hdo hF3 k3' p0 p1 p2 p3 z0 h hb0 hZz hZi hZb hfl hbs hp hs ht hl ho hol hkd hsz
  go_enter Tryz.func68, Tryz.ntmps68
  go_upto_region 1 with fail
  rw [← hW3]
  clear hW3
  go_wp2_with fail
  refine HDo.out.mono ?_
  rintro e w5 ⟨rfl, A, n, cc, hF5, k5, hb5, hby, hfr⟩
  have c0 : w5.cell? ⟨w.heap.size + 1 + 1 + 1, 0, none⟩ = some (.slice A n cc) := cell_of_heap hb5 0
  have f0 : w5.frozen? ⟨w.heap.size + 1 + 1 + 1, 0, none⟩ = false := free_of_heap hb5 0
  have e2 : Off (fun k => k = w.heap.size + 1 + 1 + 1) w5 (w5.setCell ⟨w.heap.size + 1 + 1 + 1, 0, none⟩ (.slice A n cc)) := (Off.refl (fun k => k = w.heap.size + 1 + 1 + 1) w5).setCell (p := ⟨w.heap.size + 1 + 1 + 1, 0, none⟩) (.inl rfl) _
  have hb9 := heap_setCell_at w5 (w.heap.size + 1 + 1 + 1) 0 (.slice A n cc) hb5
  obtain ⟨h, k3', hZz, hZi, hfl, z0⟩ := HH.out
  obtain ⟨g1, g2⟩ := hF5.own e2 (.inl (hZi _ (by omega) (by omega))) (by have := h.solo.base; omega) (by omega)
  have hkk : KeptS B Z w _ := k3'.trans ((k5.weak fun k hk => ⟨hZz k hk, by have := h.solo.lt hk; omega⟩).trans (g2.weak fun k hk => ⟨.inl (hZz k hk), by have := h.solo.lt hk; omega⟩))
  have HX := Lib.hid (⟨g1.weak (Z' := fun k => Z k ∨ (Value.slice A n cc).ownBlock = some k) (fun k hk => hk.imp (hZz k) id) (.inl h.fz), hkk, hby.off e2 (fun k hk e => by have := hfr k hk; omega), (cell_of_heap hb9 0 : _ = some (Value.slice A n cc))⟩ : _ ∧ _ ∧ _ ∧ _)
  clear e2 g1 g2 hF5 k5 hb5 hkk h k3' hZz hZi hfl z0 hb9 hby hfr HDo HH
  go_wp2_with fail
  exact bodyPost_ret (results_sl rfl _ _ (w.heap.size + 1 + 1 + 1) (.slice A n cc) rfl HX.out.2.2.2) rfl ⟨A, n, cc, rfl, HX.out.1, HX.out.2.1, HX.out.2.2.1⟩
theorem read_ok (B f s c N i : Nat) (p : Str) (l : List Str) (o : Opn) (T : RS) (Z : Nat → Prop) (w : World) (h : FsI B w f s c T N Z) (hp : splitP p = some l) (hs : l.length ≤ 900) (ht : thr T l = (i, 0)) (hl : T.look i = 0) (ho : o = getR T i) (hol : o.Len) (hkd : o.kind = 1) (hsz : o.size ≤ 100000) :
    Calls Tryz.prog 18 #[.pointer (some ⟨f, 0, none⟩), .string (bs p)] w fun e w' => ∃ A n cc, e = .returned (.tuple #[.slice A n cc, .int .i64 0]) ∧ FsI B w' f s c T N (fun k => Z k ∨ (Value.slice A n cc).ownBlock = some k) ∧ KeptS B Z w w' ∧ BytesI w' (fun k => (Value.slice A n cc).ownBlock = some k) (.slice A n cc) (T.file i).bytes := by
  have HB := Lib.hid (bytes_ok B f s c N i 1 p l o T Z w h hp hs ht hl ho hol hkd hsz)
  clear h hp hs ht hl ho hol hkd hsz
  go_enter Tryz.func18, Tryz.ntmps18
  go_wp2_with fail
  refine HB.out.mono ?_
  rintro e w5 ⟨A, n, cc, rfl, g⟩
  have HG := Lib.hid g
  clear g HB
  go_wp2_with fail
  go_ret2
  exact ⟨A, n, cc, rfl, HG.out⟩
end Go.Proofs.YtakmplpfjcddiaaGreatDoor
