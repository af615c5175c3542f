/-
  Link, where all goes well.
  Link and Unlink, as they are called.
  Unlink, as it is called; Rename to a place below the path itself.
  The states of the file system that live goes through.
  The document's store of inodes in memory: words; a row cloned by append; the walks over take and give.
  The document's map in memory; the walks over its calls.
  The document's store of inodes in memory; the walks over set, Commit and Make.
  The walks over the document's store: Commit, Make.
  The walks over the making of the document's map and store.
-/
import Derived.Test.YtakmplpfjcddiaaGreatDoorG10
import Derived.Deep.MidRow
import Derived.Deep.Cut
set_option linter.unusedVariables false
set_option linter.unusedSimpArgs false
set_option linter.deprecated false
namespace Go.Proofs.YtakmplpfjcddiaaGreatDoor
open Go.RowKit Go.Shelf Pa
attribute [local go_sem] bs_toList bs_size
set_option maxRecDepth 100000 in
set_option maxHeartbeats 2000000 in
theorem link1_ok (B f s c N i d b0 b1 b2 : Nat) (q p : Str) (l0 l : List Str) (nm : Str) (o : Opn) (T T1 : RS) (Z : Nat → Prop) (w : World) (h : FsI B w f s c T N Z) (hq : splitP q = some l0) (hs0 : l0.length ≤ 900) (ht0 : thr T l0 = (i, 0)) (hl : T.look i = 0) (ho : o = getR T i) (hol : o.Len) (hkd : o.kind ≠ 2)
    (hp : splitP p = some (l ++ [nm])) (hs : l.length ≤ 900) (ht : thr T l = (d, 0)) (hf : (findR T d nm).2.2 = 4) (ha : addE T d nm i = 0) (hat : addAt (lookB T d) + 64 ≤ 70656) (hw : T.write d (addAt (lookB T d)) (encS nm i) = some T1) (hlv : T1.live i) (hmd : o.mode ≤ 4095) (hln : o.links + 1 ≤ 65535)
    (p0 : w.heap[b0]? = some (.cells #[.pointer (some ⟨f, 0, none⟩)] 22 (0, 0))) (p1 : w.heap[b1]? = some (.cells #[.string (bs q)] 9 (0, 0))) (p2 : w.heap[b2]? = some (.cells #[.string (bs p)] 9 (0, 0))) (hz : Z b0 ∧ Z b1 ∧ Z b2) :
    Calls Tryz.prog 76 #[.pointer (some ⟨b0, 0, none⟩), .pointer (some ⟨b1, 0, none⟩), .pointer (some ⟨b2, 0, none⟩)] w fun e w' => e = .returned (.tuple #[]) ∧ FsI B w' f s c (T1.setM i o.mode (o.links + 1)) N Z ∧ KeptS B Z w w' := by
  have q0 : w.cell? ⟨b0, 0, none⟩ = some (.pointer (some ⟨f, 0, none⟩)) := cell_of_heap p0 0
  have q1 : w.cell? ⟨b1, 0, none⟩ = some (.string (bs q)) := cell_of_heap p1 0
  have HN := Lib.hid (node_any B f s c N i q l0 o T Z w h hq hs0 ht0 hl ho hol)
  have HH := Lib.hid (⟨p0, p2, hz, h⟩ : _ ∧ _ ∧ _ ∧ _)
  have HP := Lib.hid (⟨hp, hs, ht, hf⟩ : _ ∧ _ ∧ _ ∧ _)
  have HA := Lib.hid (⟨ha, hat, hw⟩ : _ ∧ _ ∧ _)
  have HM := Lib.hid (⟨hlv, hmd, hln⟩ : _ ∧ _ ∧ _)
  have hl15 := cellsI_length hol
  have HOl := Lib.hid hol
  have hk2 : ((o.kind : Int) == 2) = false := by rw [beq_eq_false_iff_ne]; omega
  have hwr : IntKind.i64.wrap ((o.links : Int) + 1) = ((o.links + 1 : Nat) : Int) := by rw [IntWalk.i64_in _ (by omega)]; omega
  obtain ⟨l1, hl1⟩ : ∃ l1, l1 = o.links + 1 := ⟨_, rfl⟩
  rw [← hl1] at hwr ⊢
  have HL1 := Lib.hid hl1
  clear h hq hs0 ht0 hl ho hol hkd hp hs ht hf ha hat hw hlv hmd hln p0 p1 p2 hz hl1
  go_enter Tryz.func76, Tryz.ntmps76
  go_wp2_with fail
  refine HN.out.mono ?_
  rintro e w2 ⟨rfl, hF2, k2⟩
  obtain ⟨W3, hst3, _, hF3, k3, hb3⟩ := hF2.inode o HOl.out
  obtain ⟨p0, p2, hz, h⟩ := HH.out
  have k23 := k2.trans k3
  have q0 : W3.cell? ⟨b0, 0, none⟩ = some (.pointer (some ⟨f, 0, none⟩)) := cell_of_heap ((k23.z _ hz.1).trans p0) 0
  have q2 : W3.cell? ⟨b2, 0, none⟩ = some (.string (bs p)) := cell_of_heap ((k23.z _ hz.2.2).trans p2) 0
  have e0 : W3.cell? ⟨w2.heap.size, 0, none⟩ = some (.int .i64 o.kind) := by rw [cell_of_heap hb3]; rfl
  have hfr := fresh_any B f s c N d p l nm T _ W3 hF3 HP.out.1 HP.out.2.1 HP.out.2.2.1 HP.out.2.2.2
  have HFr := Lib.hid hfr
  have H3 := Lib.hid (⟨k23, hb3⟩ : _ ∧ _)
  clear hfr k2 hF2 hF3 k3 hb3 k23 p0 p2 hz h HN HP
  go_wp2_with fail
  refine HFr.out.mono ?_
  rintro e w4 ⟨rfl, hF4, k4⟩
  obtain ⟨hF5, k5⟩ := hF4.box (.cells #[.int .i64 d, .string (bs nm)] 116)
  have hbx5 : (w4.alloc (.cells #[.int .i64 d, .string (bs nm)] 116)).heap[w4.heap.size]? = some (.cells #[.int .i64 d, .string (bs nm)] 116 (0, 0)) := heap_alloc_new _ _
  obtain ⟨W5, hW5⟩ : ∃ W5, W5 = w4.alloc (.cells #[.int .i64 d, .string (bs nm)] 116) := ⟨_, rfl⟩
  rw [← hW5] at hF5 k5 hbx5
  obtain ⟨p0, p2, hz, h⟩ := HH.out
  have k35 := k4.trans k5
  have kw5 := H3.out.1.trans (k35.weak fun k hk => .inl hk)
  have q0 : W5.cell? ⟨b0, 0, none⟩ = some (.pointer (some ⟨f, 0, none⟩)) := cell_of_heap ((kw5.z _ hz.1).trans p0) 0
  have hbi : W5.heap[w2.heap.size]? = _ := (k35.z _ (.inr rfl)).trans H3.out.2
  obtain ⟨f0, _⟩ := hF5.cells
  have c0 : W5.cell? ⟨w4.heap.size, 0, none⟩ = some (.int .i64 d) := cell_of_heap hbx5 0
  have c1 : W5.cell? ⟨w4.heap.size, 1, none⟩ = some (.string (bs nm)) := cell_of_heap hbx5 1
  have hadd : ∀ W, Below W5.heap.size W5 W → Calls Tryz.prog 78 #[.pointer (some ⟨s, 0, none⟩), .int .i64 d, .string (bs nm), .int .i64 i] W fun e w' => e = .returned (.int .i64 0) ∧ (w'.cell? ⟨b0, 0, none⟩ = some (.pointer (some ⟨f, 0, none⟩)) ∧ w'.cell? ⟨f, 0, none⟩ = some (.pointer (some ⟨s, 0, none⟩)) ∧ w'.cell? ⟨w4.heap.size, 0, none⟩ = some (.int .i64 d) ∧ w'.cell? ⟨w4.heap.size, 1, none⟩ = some (.string (bs nm))) ∧ Hid (∀ W9, Below w'.heap.size w' W9 → FsI B W9 f s c T1 N (fun k => Z k ∨ k = w2.heap.size) ∧ KeptS B (fun k => Z k ∨ k = w2.heap.size) W5 W9) := fun W hW => by
    obtain ⟨sW, kW⟩ := hF5.solo.fresh (Z' := fun k => (Z k ∨ k = w2.heap.size) ∨ k = w4.heap.size) hW (fun k hk => .inl hk)
    have hFW := hF5.next sW kW hF5.fz
    have hla := ladd_any B s N d i nm T T1 _ W hFW.solo (by rw [if_pos HA.out.1]; exact ⟨HA.out.2.1, by rw [Int.toNat_natCast, Int.toNat_natCast]; exact HA.out.2.2⟩)
    rw [HA.out.1] at hla
    refine hla.mono ?_
    rintro e w' ⟨rfl, sX, kX⟩
    have hFX := hFW.next sX kX hFW.fz
    have kk := kW.trans kX
    have hbX : w'.heap[w4.heap.size]? = _ := (kk.z _ (.inr rfl)).trans hbx5
    have kw' := kw5.trans (kk.weak fun k hk => .inl (.inl hk))
    refine ⟨rfl, ⟨cell_of_heap ((kw'.z _ hz.1).trans p0) 0, hFX.cells.1, cell_of_heap hbX 0, cell_of_heap hbX 1⟩, Lib.hid fun W9 hb9 => ?_⟩
    obtain ⟨s9, k9⟩ := hFX.solo.fresh (Z' := fun k => Z k ∨ k = w2.heap.size) hb9 (fun k hk => .inl (.inl hk))
    exact ⟨hFX.next s9 k9 (.inl h.fz), (kk.weak fun k hk => .inl hk).trans (k9.weak fun k hk => .inl hk)⟩
  have HAdd := Lib.hid hadd
  have H5 := Lib.hid (⟨kw5, hbi⟩ : _ ∧ _)
  clear hadd hF4 k4 hF5 k5 hbx5 p0 p2 hz h k35 kw5 hbi H3 HFr
  go_upto_region 4 with fail
  rw [← hW5]
  clear hW5
  go_cut [] (fun wx => FsI B wx f s c T1 N (fun k => Z k ∨ k = w2.heap.size) ∧ KeptS B (fun k => Z k ∨ k = w2.heap.size) W5 wx)
  case first =>
    go_region_held3 (fun w' => w'.cell? ⟨b0, 0, none⟩ = some (.pointer (some ⟨f, 0, none⟩)) ∧ w'.cell? ⟨f, 0, none⟩ = some (.pointer (some ⟨s, 0, none⟩)) ∧ w'.cell? ⟨w4.heap.size, 0, none⟩ = some (.int .i64 d) ∧ w'.cell? ⟨w4.heap.size, 1, none⟩ = some (.string (bs nm)))
      ((first | assumption | go_keep))
      (first
        | (go_at_call 78; go_split_ands; refine (HAdd.out _ (by first | exact Below.refl _ _ | exact (Below.refl _ _).drew)).mono ?_; rintro e w9 ⟨rfl, hc9, HF9⟩)
        | (go_at_call 61; go_split_ands; refine (must_ok _).mono ?_; rintro e w10 ⟨rfl, hw10⟩; obtain rfl := hw10.symm))
    all_goals (go_wp2_with fail; go_meet; first | exact HF9.out _ (Below.refl _ _) | exact HF9.out _ (Below.refl _ _).drew)
  case rest =>
    obtain ⟨hFc, kc⟩ := hcut
    clear q0 q2 e0 c0 c1 f0
    obtain ⟨p0, p2, hz, h⟩ := HH.out
    have kwc := H5.out.1.trans (kc.weak fun k hk => .inl hk)
    have hbi : wc.heap[w2.heap.size]? = _ := (kc.z _ (.inr rfl)).trans H5.out.2
    have q0 : wc.cell? ⟨b0, 0, none⟩ = some (.pointer (some ⟨f, 0, none⟩)) := cell_of_heap ((kwc.z _ hz.1).trans p0) 0
    obtain ⟨f0, _⟩ := hFc.cells
    have e1 : wc.cell? ⟨w2.heap.size, 1, none⟩ = some (.int .i64 o.mode) := by rw [cell_of_heap hbi]; rfl
    have e2 : wc.cell? ⟨w2.heap.size, 2, none⟩ = some (.int .i64 o.links) := by rw [cell_of_heap hbi]; rfl
    have hset : ∀ W, Below wc.heap.size wc W → Calls Tryz.prog 64 #[.pointer (some ⟨s, 0, none⟩), .int .i64 i, .int .i64 o.mode, .int .i64 l1] W fun e w' => e = .returned (.int .i64 0) ∧ (w'.cell? ⟨b0, 0, none⟩ = some (.pointer (some ⟨f, 0, none⟩)) ∧ w'.cell? ⟨f, 0, none⟩ = some (.pointer (some ⟨s, 0, none⟩)) ∧ w'.cell? ⟨w2.heap.size, 1, none⟩ = some (.int .i64 o.mode) ∧ w'.cell? ⟨w2.heap.size, 2, none⟩ = some (.int .i64 o.links)) ∧ Hid (∀ W9, Below w'.heap.size w' W9 → FsI B W9 f s c (T1.setM i o.mode l1) N Z ∧ KeptS B Z w W9) := fun W hW => by
      obtain ⟨sW, kW⟩ := hFc.solo.fresh (Z' := fun k => Z k ∨ k = w2.heap.size) hW (fun k hk => .inl hk)
      have hFW := hFc.next sW kW hFc.fz
      refine (lset_any B s N i o.mode l1 T1 _ W hFW.solo HM.out.1 HM.out.2.1 (by have h1 := HL1.out; have h2 := HM.out.2.2; omega)).mono ?_
      rintro e w' ⟨rfl, sX, kX⟩
      have hFX := hFW.next sX kX hFW.fz
      have kk := kW.trans kX
      have hbX : w'.heap[w2.heap.size]? = _ := (kk.z _ (.inr rfl)).trans hbi
      have kw' := kwc.trans (kk.weak fun k hk => .inl hk)
      refine ⟨rfl, ⟨cell_of_heap ((kw'.z _ hz.1).trans p0) 0, hFX.cells.1, by rw [cell_of_heap hbX]; rfl, by rw [cell_of_heap hbX]; rfl⟩, Lib.hid fun W9 hb9 => ?_⟩
      obtain ⟨s9, k9⟩ := hFX.solo.fresh (Z' := Z) hb9 (fun k hk => .inl (.inl hk))
      have k99 := kw'.trans (k9.weak fun k hk => .inl hk)
      exact ⟨h.next s9 k99 h.fz, k99⟩
    have HSet := Lib.hid hset
    clear hset hFc kc p0 p2 hz h kwc hbi H5 HH HM HA HL1
    go_wp2_with fail
    go_region_held3 (fun w' => w'.cell? ⟨b0, 0, none⟩ = some (.pointer (some ⟨f, 0, none⟩)) ∧ w'.cell? ⟨f, 0, none⟩ = some (.pointer (some ⟨s, 0, none⟩)) ∧ w'.cell? ⟨w2.heap.size, 1, none⟩ = some (.int .i64 o.mode) ∧ w'.cell? ⟨w2.heap.size, 2, none⟩ = some (.int .i64 o.links))
      ((first | assumption | go_keep))
      (first
        | (go_at_call 64; go_split_ands; refine (HSet.out _ (by first | exact Below.refl _ _ | exact (Below.refl _ _).drew)).mono ?_; rintro e w9 ⟨rfl, hc9, HF9⟩)
        | (go_at_call 61; go_split_ands; refine (must_ok _).mono ?_; rintro e w10 ⟨rfl, hw10⟩; obtain rfl := hw10.symm))
    all_goals
      go_wp2_with fail
      go_end0
      first | exact ⟨rfl, HF9.out _ (Below.refl _ _)⟩ | exact ⟨rfl, HF9.out _ (Below.refl _ _).drew⟩
/-- A call of two texts whose closure goes well, and what it hands back. -/
theorem two_of (B f s c N n cl cl0 : Nat) (p q : Str) (T T2 : RS) (Z : Nat → Prop) (w : World) (h : FsI B w f s c T N Z) (he : ∀ args w, (callFunc cl args).run Tryz.prog w = .ok (.enter cl args) w)
    (hcl : ∀ (W : World) (Z' : Nat → Prop) (b0 b1 b2 : Nat), FsI B W f s c T N Z' → W.heap[b0]? = some (.cells #[.pointer (some ⟨f, 0, none⟩)] 22 (0, 0)) → W.heap[b1]? = some (.cells #[.string (bs p)] 9 (0, 0)) → W.heap[b2]? = some (.cells #[.string (bs q)] 9 (0, 0)) → (Z' b0 ∧ Z' b1 ∧ Z' b2) →
      Calls Tryz.prog cl #[.pointer (some ⟨b0, 0, none⟩), .pointer (some ⟨b1, 0, none⟩), .pointer (some ⟨b2, 0, none⟩)] W fun e w' => e = (if n = 0 then .returned (.tuple #[]) else gaveUp n) ∧ FsI B w' f s c T2 N Z' ∧ KeptS B Z' W w') :
    ∃ W3, W3 = ((w.alloc (.cells #[.pointer (some ⟨f, 0, none⟩)] 22)).alloc (.cells #[.string (bs p)] 9)).alloc (.cells #[.string (bs q)] 9) ∧ W3.cell? ⟨w.heap.size, 0, none⟩ = some (.pointer (some ⟨f, 0, none⟩)) ∧
      Calls Tryz.prog 54 #[.pointer (some ⟨f, 0, none⟩), .func (.func cl) #[] #[.pointer (some ⟨w.heap.size, 0, none⟩), .pointer (some ⟨w.heap.size + 1, 0, none⟩), .pointer (some ⟨w.heap.size + 1 + 1, 0, none⟩)]] W3 fun e w' => e = .returned (.int .i64 n) ∧ FsI B w' f s c T2 N Z ∧ KeptS B Z w w' := by
  obtain ⟨p0, p1, p2, z0⟩ := alloc3 w (.cells #[.pointer (some ⟨f, 0, none⟩)] 22) (.cells #[.string (bs p)] 9) (.cells #[.string (bs q)] 9)
  have hb0 : Below w.heap.size w (((w.alloc (.cells #[.pointer (some ⟨f, 0, none⟩)] 22)).alloc (.cells #[.string (bs p)] 9)).alloc (.cells #[.string (bs q)] 9)) := (((Below.refl _ _).alloc (Nat.le_refl _) _).alloc (by simp) _).alloc (by simp; omega) _
  obtain ⟨hF3, k3⟩ := h.boxes hb0
  obtain ⟨W3, hW3⟩ : ∃ W3, W3 = ((w.alloc (.cells #[.pointer (some ⟨f, 0, none⟩)] 22)).alloc (.cells #[.string (bs p)] 9)).alloc (.cells #[.string (bs q)] 9) := ⟨_, rfl⟩
  rw [← hW3] at hF3 k3 p0 p1 p2 z0
  refine ⟨W3, hW3, cell_of_heap p0 0, ?_⟩
  have hfc := fun (hF4 : FsI B (W3.alloc errO) f s c T N (fun k => (Z k ∨ (w.heap.size ≤ k ∧ k < W3.heap.size)) ∨ k = W3.heap.size)) (k4 : KeptS B (fun k => Z k ∨ (w.heap.size ≤ k ∧ k < W3.heap.size)) W3 (W3.alloc errO)) => hcl (W3.alloc errO) _ w.heap.size (w.heap.size + 1) (w.heap.size + 1 + 1) hF4 ((k4.z _ (.inr (by omega))).trans p0) ((k4.z _ (.inr (by omega))).trans p1) ((k4.z _ (.inr (by omega))).trans p2) ⟨.inl (.inr (by omega)), .inl (.inr (by omega)), .inl (.inr (by omega))⟩
  by_cases hn : n = 0
  · subst hn
    rw [if_pos rfl] at hfc
    refine (fsdo_ok B f s c N cl _ T T2 _ _ (fun _ => True) W3 hF3 he (fun _ h => h) (.inl h.fz) (fun hF4 k4 => (hfc hF4 k4).mono fun e w9 ⟨a, b, c⟩ => ⟨a, b, c, trivial⟩)).mono ?_
    rintro e w' ⟨rfl, b, k, _⟩
    exact ⟨rfl, b.weak (fun k hk => .inl hk) h.fz, k3.trans (k.weak fun k hk => .inl hk)⟩
  · rw [if_neg hn] at hfc
    refine (fsdo_bad B f s c N cl n _ T T2 _ _ (fun _ => True) W3 hF3 he (fun _ h => h) (.inl h.fz) (fun hF4 k4 => (hfc hF4 k4).mono fun e w9 ⟨a, b, c⟩ => ⟨a, b, c, trivial⟩)).mono ?_
    rintro e w' ⟨rfl, b, k, _⟩
    exact ⟨rfl, b.weak (fun k hk => .inl hk) h.fz, k3.trans (k.weak fun k hk => .inl hk)⟩
end Go.Proofs.YtakmplpfjcddiaaGreatDoor

namespace Go.Proofs.YtakmplpfjcddiaaGreatDoor
open Go.RowKit Go.Shelf Pa
attribute [local go_sem] bs_toList bs_size
/-- What Link asks for, and what it leaves. -/
def LinkOk (T : RS) (q p : Str) (T2 : RS) : Prop := ∃ (l0 l : List Str) (nm : Str) (i d : Nat) (o : Opn) (T1 : RS), splitP q = some l0 ∧ l0.length ≤ 900 ∧ thr T l0 = (i, 0) ∧ T.look i = 0 ∧ o = getR T i ∧ o.Len ∧ o.kind ≠ 2 ∧ splitP p = some (l ++ [nm]) ∧ l.length ≤ 900 ∧ thr T l = (d, 0) ∧ (findR T d nm).2.2 = 4 ∧ addE T d nm i = 0 ∧ addAt (lookB T d) + 64 ≤ 70656 ∧ T.write d (addAt (lookB T d)) (encS nm i) = some T1 ∧ T1.live i ∧ o.mode ≤ 4095 ∧ o.links + 1 ≤ 65535 ∧ T2 = T1.setM i o.mode (o.links + 1)
theorem link_ok (B f s c N : Nat) (q p : Str) (T T2 : RS) (Z : Nat → Prop) (w : World) (h : FsI B w f s c T N Z) (m : LinkOk T q p T2) :
    Calls Tryz.prog 23 #[.pointer (some ⟨f, 0, none⟩), .string (bs q), .string (bs p)] w fun e w' => e = .returned (.int .i64 0) ∧ FsI B w' f s c T2 N Z ∧ KeptS B Z w w' := by
  have hmf : ∀ (fn : Fn) (first cap : Array Value) (w : World), (Instr.makeFunc fn first cap).run Tryz.prog w = .ok (.func fn first cap) w := fun _ _ _ _ => rfl
  obtain ⟨l0, l, nm, i, d, o, T1, a1, a2, a3, a4, a5, a6, a7, a8, a9, a10, a11, a12, a13, a14, a15, a16, a17, rfl⟩ := m
  obtain ⟨W3, hW3, q0, hdo⟩ := two_of B f s c N 0 76 0 q p T _ Z w h (enters_of Tryz.func76 (by kernel_rfl) rfl) fun W Z' b0 b1 b2 hF p0 p1 p2 hz => by
    rw [if_pos rfl]
    exact link1_ok B f s c N i d b0 b1 b2 q p l0 l nm o T T1 Z' W hF a1 a2 a3 a4 a5 a6 a7 a8 a9 a10 a11 a12 a13 a14 a15 a16 a17 p0 p1 p2 hz
  have HDo := Lib.hid hdo
  clear hdo h a1 a2 a3 a4 a5 a6 a7 a8 a9 a10 a11 a12 a13 a14 a15 a16 a17
  go_enter Tryz.func23, Tryz.ntmps23
  go_upto_region 1 with fail
  rw [← hW3]
  clear hW3
  go_wp2_with fail
  refine HDo.out.mono ?_
  rintro e w5 ⟨rfl, g⟩
  have HG := Lib.hid g
  clear g HDo
  go_wp2_with fail
  go_ret
  exact ⟨rfl, HG.out⟩
/-- What away asks for, and what it leaves. -/
def AwayOk (T : RS) (i : Nat) (nm : Str) (T2 : RS) : Prop := ∃ (j : Nat) (o : Opn) (T1 : RS), (findR T i nm).2.2 = 0 ∧ (findR T i nm).1.i = j ∧ dropT T i nm = some T1 ∧ (findR T i nm).1.at_ + 64 ≤ 70656 ∧ lookB T i ≠ [] ∧ T1.look j = 0 ∧ o = getR T1 j ∧ o.Len ∧ 1 < o.links ∧ o.links ≤ 65535 ∧ o.mode ≤ 4095 ∧ T2 = T1.setM j o.mode (o.links - 1)
theorem AwayOk.calls {B f s c N i : Nat} {nm : Str} {T T2 : RS} {Z : Nat → Prop} {w : World} (m : AwayOk T i nm T2) (h : FsI B w f s c T N Z) :
    Calls Tryz.prog 80 #[.pointer (some ⟨f, 0, none⟩), .agg #[.int .i64 i, .string (bs nm)]] w fun e w' => e = .returned (.tuple #[]) ∧ FsI B w' f s c T2 N Z ∧ KeptS B Z w w' := by
  obtain ⟨j, o, T1, a1, a2, a3, a4, a5, a6, a7, a8, a9, a10, a11, rfl⟩ := m
  exact away_any B f s c N i j nm o T T1 Z w h a1 a2 a3 a4 a5 a6 a7 a8 a9 a10 a11
set_option maxRecDepth 100000 in
set_option maxHeartbeats 2000000 in
theorem unlink1_ok (B f s c N i j b0 b1 : Nat) (p : Str) (l : List Str) (nm : Str) (o : Opn) (T T2 : RS) (Z : Nat → Prop) (w : World) (h : FsI B w f s c T N Z) (hp : splitP p = some (l ++ [nm])) (hs : l.length ≤ 800) (ht0 : thr T (l ++ [nm]) = (j, 0)) (hl : T.look j = 0) (ho : o = getR T j) (hol : o.Len) (hkd : o.kind ≠ 2)
    (ht : thr T l = (i, 0)) (m : AwayOk T i nm T2)
    (p0 : w.heap[b0]? = some (.cells #[.pointer (some ⟨f, 0, none⟩)] 22 (0, 0))) (p1 : w.heap[b1]? = some (.cells #[.string (bs p)] 9 (0, 0))) (hz : Z b0 ∧ Z b1) :
    Calls Tryz.prog 79 #[.pointer (some ⟨b0, 0, none⟩), .pointer (some ⟨b1, 0, none⟩)] w fun e w' => e = .returned (.tuple #[]) ∧ FsI B w' f s c T2 N Z ∧ KeptS B Z w w' := by
  have q0 : w.cell? ⟨b0, 0, none⟩ = some (.pointer (some ⟨f, 0, none⟩)) := cell_of_heap p0 0
  have q1 : w.cell? ⟨b1, 0, none⟩ = some (.string (bs p)) := cell_of_heap p1 0
  have HN := Lib.hid (node_any B f s c N j p _ o T Z w h hp (by simp; omega) ht0 hl ho hol)
  have HH := Lib.hid (⟨p0, p1, hz, h⟩ : _ ∧ _ ∧ _ ∧ _)
  have HP := Lib.hid (⟨hp, hs, ht, m⟩ : _ ∧ _ ∧ _ ∧ _)
  have hl15 := cellsI_length hol
  have HOl := Lib.hid hol
  have hk2 : ((o.kind : Int) == 2) = false := by rw [beq_eq_false_iff_ne]; omega
  have hlen : (l ++ [nm]).length = l.length + 1 := by simp
  have HLn := Lib.hid hlen
  clear h hp hs ht0 hl ho hol hkd ht m p0 p1 hz hlen
  go_enter Tryz.func79, Tryz.ntmps79
  go_wp2_with fail
  refine HN.out.mono ?_
  rintro e w2 ⟨rfl, hF2, k2⟩
  obtain ⟨W3, hst3, _, hF3, k3, hb3⟩ := hF2.inode o HOl.out
  obtain ⟨p0, p1, hz, h⟩ := HH.out
  have k23 := k2.trans k3
  have q0 : W3.cell? ⟨b0, 0, none⟩ = some (.pointer (some ⟨f, 0, none⟩)) := cell_of_heap ((k23.z _ hz.1).trans p0) 0
  have q1 : W3.cell? ⟨b1, 0, none⟩ = some (.string (bs p)) := cell_of_heap ((k23.z _ hz.2).trans p1) 0
  have e0 : W3.cell? ⟨w2.heap.size, 0, none⟩ = some (.int .i64 o.kind) := by rw [cell_of_heap hb3]; rfl
  have hS : ∀ (W : World) , KeptS B Z W3 W → W.cell? ⟨b0, 0, none⟩ = some (.pointer (some ⟨f, 0, none⟩)) ∧ W.cell? ⟨b1, 0, none⟩ = some (.string (bs p)) := fun W hk => ⟨cell_of_heap ((hk.z _ hz.1).trans ((k23.z _ hz.1).trans p0)) 0, cell_of_heap ((hk.z _ hz.2).trans ((k23.z _ hz.2).trans p1)) 0⟩
  have hpa : ∀ W, Below W3.heap.size W3 W → Calls Tryz.prog 82 #[.string (bs p)] W fun e w4 => ∃ A cc, e = .returned (.slice A (l.length + 1) cc) ∧ (w4.cell? ⟨b0, 0, none⟩ = some (.pointer (some ⟨f, 0, none⟩)) ∧ w4.cell? ⟨b1, 0, none⟩ = some (.string (bs p))) ∧ Hid (∀ W4, Below w4.heap.size w4 W4 → Calls Tryz.prog 81 #[.pointer (some ⟨f, 0, none⟩), .slice A (l.length + 1) cc] W4 fun e w5 => e = .returned (.agg #[.int .i64 i, .string (bs nm)]) ∧ (w5.cell? ⟨b0, 0, none⟩ = some (.pointer (some ⟨f, 0, none⟩)) ∧ w5.cell? ⟨b1, 0, none⟩ = some (.string (bs p))) ∧
      Hid (∀ W5, Below w5.heap.size w5 W5 → Calls Tryz.prog 80 #[.pointer (some ⟨f, 0, none⟩), .agg #[.int .i64 i, .string (bs nm)]] W5 fun e w6 => e = .returned (.tuple #[]) ∧ (w6.cell? ⟨b0, 0, none⟩ = some (.pointer (some ⟨f, 0, none⟩)) ∧ w6.cell? ⟨b1, 0, none⟩ = some (.string (bs p))) ∧ Hid (∀ W9, Below w6.heap.size w6 W9 → FsI B W9 f s c T2 N Z ∧ KeptS B Z w W9))) := fun W hW => by
    obtain ⟨sW, kW⟩ := hF3.solo.fresh (Z' := Z) hW (fun k hk => .inl (.inl hk))
    have kW := kW.weak (Z' := Z) fun k hk => .inl hk
    have hFW := hF2.next sW (k3.trans kW) hF2.fz
    refine (parts_any B f s c N p _ T _ W hFW HP.out.1).mono ?_
    rintro e w4 ⟨A, cc, rfl, hcc, hF4, k4, hst⟩
    rw [HLn.out] at hcc ⊢
    have k34 := kW.trans k4
    refine ⟨A, cc, rfl, hS w4 k34, Lib.hid fun W4 hW4 => ?_⟩
    obtain ⟨s4, k44⟩ := hF4.solo.fresh (Z' := Zr Z A (l ++ [nm])) hW4 (fun k hk => .inl hk)
    have hF44 := hF4.next s4 k44 hF4.fz
    refine (place_any B f s c N cc i A l nm T _ W4 hF44 (hst.kept k44) (by have := HP.out.2.1; omega) hcc HP.out.2.2.1).mono ?_
    rintro e w5 ⟨rfl, hF5, k5⟩
    have k35 := k34.trans ((k44.trans k5).weak fun k hk => .inl hk)
    refine ⟨rfl, hS w5 k35, Lib.hid fun W5 hW5 => ?_⟩
    obtain ⟨s5, k55⟩ := hF5.solo.fresh (Z' := Z) hW5 (fun k hk => .inl (.inl hk))
    have k55 := k55.weak (Z' := Z) fun k hk => .inl hk
    have hF55 := hFW.next s5 (k4.trans (((k44.trans k5).weak fun k hk => .inl hk).trans k55)) hFW.fz
    refine (HP.out.2.2.2.calls hF55).mono ?_
    rintro e w6 ⟨rfl, hF6, k6⟩
    have k36 := k35.trans (k55.trans k6)
    refine ⟨rfl, hS w6 k36, Lib.hid fun W9 hb9 => ?_⟩
    obtain ⟨s9, k9⟩ := hF6.solo.fresh (Z' := Z) hb9 (fun k hk => .inl hk)
    have kk := k23.trans (k36.trans k9)
    exact ⟨h.next s9 kk h.fz, kk⟩
  have HPa := Lib.hid hpa
  clear hpa hS k2 hF2 hF3 k3 hb3 k23 p0 p1 hz h HN HP HH HLn
  go_upto_region 3 with fail
  go_region_held3 (fun w' => w'.cell? ⟨b0, 0, none⟩ = some (.pointer (some ⟨f, 0, none⟩)) ∧ w'.cell? ⟨b1, 0, none⟩ = some (.string (bs p)))
    ((first | assumption | go_keep))
    (first
      | (go_at_call 82; go_split_ands; refine (HPa.out _ (by first | exact Below.refl _ _ | exact (Below.refl _ _).drew)).mono ?_; rintro e w4 ⟨A4, cc4, rfl, hc4, HF4⟩)
      | (go_at_call 81; go_split_ands; refine (HF4.out _ (by first | exact Below.refl _ _ | exact (Below.refl _ _).drew)).mono ?_; rintro e w5 ⟨rfl, hc5, HF5⟩)
      | (go_at_call 80; go_split_ands; refine (HF5.out _ (by first | exact Below.refl _ _ | exact (Below.refl _ _).drew)).mono ?_; rintro e w6 ⟨rfl, hc6, HF6⟩))
  all_goals
    go_wp2_with fail
    go_end0
    first | exact ⟨rfl, HF6.out _ (Below.refl _ _)⟩ | exact ⟨rfl, HF6.out _ (Below.refl _ _).drew⟩
end Go.Proofs.YtakmplpfjcddiaaGreatDoor

namespace Go.Proofs.YtakmplpfjcddiaaGreatDoor
open Go.RowKit Go.Shelf Pa
attribute [local go_sem] bs_toList bs_size
def UnlinkOk (T : RS) (p : Str) (T2 : RS) : Prop := ∃ (l : List Str) (nm : Str) (i j : Nat) (o : Opn), splitP p = some (l ++ [nm]) ∧ l.length ≤ 800 ∧ thr T (l ++ [nm]) = (j, 0) ∧ T.look j = 0 ∧ o = getR T j ∧ o.Len ∧ o.kind ≠ 2 ∧ thr T l = (i, 0) ∧ AwayOk T i nm T2
set_option maxRecDepth 100000 in
set_option maxHeartbeats 2000000 in
theorem unlink_ok (B f s c N : Nat) (p : Str) (T T2 : RS) (Z : Nat → Prop) (w : World) (h : FsI B w f s c T N Z) (m : UnlinkOk T p T2) :
    Calls Tryz.prog 24 #[.pointer (some ⟨f, 0, none⟩), .string (bs p)] w fun e w' => e = .returned (.int .i64 0) ∧ FsI B w' f s c T2 N Z ∧ KeptS B Z w w' := by
  have hmf : ∀ (fn : Fn) (first cap : Array Value) (w : World), (Instr.makeFunc fn first cap).run Tryz.prog w = .ok (.func fn first cap) w := fun _ _ _ _ => rfl
  obtain ⟨l, nm, i, j, o, a1, a2, a3, a4, a5, a6, a7, a8, a9⟩ := m
  obtain ⟨p0, p1, z0⟩ := alloc2 w (.cells #[.pointer (some ⟨f, 0, none⟩)] 22) (.cells #[.string (bs p)] 9)
  have hb0 : Below w.heap.size w ((w.alloc (.cells #[.pointer (some ⟨f, 0, none⟩)] 22)).alloc (.cells #[.string (bs p)] 9)) := ((Below.refl _ _).alloc (Nat.le_refl _) _).alloc (by simp) _
  obtain ⟨hF3, k3⟩ := h.boxes hb0
  obtain ⟨W3, hW3⟩ : ∃ W3, W3 = (w.alloc (.cells #[.pointer (some ⟨f, 0, none⟩)] 22)).alloc (.cells #[.string (bs p)] 9) := ⟨_, rfl⟩
  rw [← hW3] at hF3 k3 p0 p1 z0
  have q0 : W3.cell? ⟨w.heap.size, 0, none⟩ = some (.pointer (some ⟨f, 0, none⟩)) := cell_of_heap p0 0
  have hdo := fsdo_ok B f s c N 79 #[.pointer (some ⟨w.heap.size, 0, none⟩), .pointer (some ⟨w.heap.size + 1, 0, none⟩)] T T2 _ _ (fun _ => True) W3 hF3 (enters_of Tryz.func79 (by kernel_rfl) rfl) (fun _ h => h) (.inl h.fz)
    (fun hF4 k4 => (unlink1_ok B f s c N i j _ _ p l nm o T T2 _ _ hF4 a1 a2 a3 a4 a5 a6 a7 a8 a9 ((k4.z _ (.inr (by omega))).trans p0) ((k4.z _ (.inr (by omega))).trans p1) ⟨.inl (.inr (by omega)), .inl (.inr (by omega))⟩).mono fun e w9 ⟨a, b, c⟩ => ⟨a, b, c, trivial⟩)
  have HDo := Lib.hid hdo
  have HH := Lib.hid (⟨h, k3⟩ : _ ∧ _)
  clear hdo hF3 k3 p0 p1 z0 h hb0 a1 a2 a3 a4 a5 a6 a7 a8 a9
  go_enter Tryz.func24, Tryz.ntmps24
  go_upto_region 1 with fail
  rw [← hW3]
  clear hW3
  go_wp2_with fail
  refine HDo.out.mono ?_
  rintro e w5 ⟨rfl, hF5, k5, _⟩
  have H5 := Lib.hid (⟨hF5.weak (fun k hk => .inl hk) HH.out.1.fz, HH.out.2.trans (k5.weak fun k hk => .inl hk)⟩ : _ ∧ _)
  clear hF5 k5 HDo HH
  go_wp2_with fail
  go_ret
  exact ⟨rfl, H5.out⟩
/-- The first names of the one are those of the other. -/
theorem eqpre_any (m r : List Str) (hm : m ≠ []) (hs : m.length ≤ 1000) (B : Nat) (Z : Nat → Prop) (A1 A2 : Option Addr) (c1 c2 : Nat) (w : World) (h1 : StrsZ w B Z A1 (m ++ r)) (h2 : StrsZ w B Z A2 m) :
    Calls Tryz.prog 87 #[.slice A1 m.length c1, .slice A2 m.length c2] w fun e w' => e = .returned (.bool true) ∧ ∃ q, w' = w.drewN q := by
  obtain ⟨b, o, rfl, _, _, hx⟩ := h1 (by simp [hm])
  obtain ⟨b', o', rfl, _, _, hx'⟩ := h2 hm
  have hcell : ∀ (l : List Str) (b o : Nat), (∀ i s, l[i]? = some s → w.cell? ⟨b, o + i, none⟩ = some (.string (bs s))) → ∀ j, j < (l.map bs).length → w.cell? ⟨b, o + j, none⟩ = some (.string ((l.map bs).getD j ByteArray.empty)) := fun l b o hx j hj => by
    rw [List.length_map] at hj
    rw [hx j _ (List.getElem?_eq_getElem hj), List.getD_eq_getElem?_getD, List.getElem?_map, List.getElem?_eq_getElem hj]; rfl
  have := Tryz.slices_Equal_string b o m.length c1 b' o' m.length c2 ((m ++ r).map bs) (m.map bs) w (by simp) (by simp) (by omega) (by omega) (hcell _ b o hx) (hcell _ b' o' hx')
  refine this.mono ?_
  rintro e w' ⟨rfl, hq⟩
  refine ⟨?_, hq⟩
  congr 2
  rw [decide_eq_true_iff, List.map_append, List.take_append_of_le_length (by simp)]
set_option maxRecDepth 100000 in
set_option maxHeartbeats 2000000 in
theorem rename1_busy (B f s c N i b0 b1 b2 : Nat) (q p : Str) (m r : List Str) (o : Opn) (T : RS) (Z : Nat → Prop) (w : World) (h : FsI B w f s c T N Z) (hq : splitP q = some m) (hs : m.length ≤ 800) (ht : thr T m = (i, 0)) (hl : T.look i = 0) (ho : o = getR T i) (hol : o.Len) (hi : i ≠ 1)
    (hp : splitP p = some (m ++ r)) (hm : m ≠ []) (hr : r ≠ []) (hs2 : r.length ≤ 800)
    (p0 : w.heap[b0]? = some (.cells #[.pointer (some ⟨f, 0, none⟩)] 22 (0, 0))) (p1 : w.heap[b1]? = some (.cells #[.string (bs q)] 9 (0, 0))) (p2 : w.heap[b2]? = some (.cells #[.string (bs p)] 9 (0, 0))) (hz : Z b0 ∧ Z b1 ∧ Z b2) :
    Calls Tryz.prog 86 #[.pointer (some ⟨b0, 0, none⟩), .pointer (some ⟨b1, 0, none⟩), .pointer (some ⟨b2, 0, none⟩)] w fun e w' => e = gaveUp 11 ∧ FsI B w' f s c T N Z ∧ KeptS B Z w w' := by
  have q0 : w.cell? ⟨b0, 0, none⟩ = some (.pointer (some ⟨f, 0, none⟩)) := cell_of_heap p0 0
  have q1 : w.cell? ⟨b1, 0, none⟩ = some (.string (bs q)) := cell_of_heap p1 0
  have HN := Lib.hid (node_any B f s c N i q m o T Z w h hq (by omega) ht hl ho hol)
  have HH := Lib.hid (⟨p1, p2, hz, h⟩ : _ ∧ _ ∧ _ ∧ _)
  have HP := Lib.hid (⟨hq, hp, hm, hs⟩ : _ ∧ _ ∧ _ ∧ _)
  have hl15 := cellsI_length hol
  have HOl := Lib.hid hol
  have hi1 : ((i : Int) == 1) = false := by rw [beq_eq_false_iff_ne]; omega
  obtain ⟨rn, hrn⟩ : ∃ rn, rn = r.length := ⟨_, rfl⟩
  have hrp : 0 < r.length := List.length_pos_iff.2 hr
  have hgt : decide ((m.length : Int) < ((m ++ r).length : Int)) = true := by simp; omega
  have hle : (m.length : Int) ≤ ((m ++ r).length : Int) := by simp; omega
  obtain ⟨mr, hmr⟩ : ∃ mr, mr = (m ++ r).length := ⟨_, rfl⟩
  rw [← hmr] at hgt hle
  have HMr := Lib.hid hmr
  clear h hq hs ht hl ho hol hi hp hm hr hs2 p0 p1 p2 hz hrp hrn hmr
  go_enter Tryz.func86, Tryz.ntmps86
  go_wp2_with fail
  refine HN.out.mono ?_
  rintro e w2 ⟨rfl, hF2, k2⟩
  obtain ⟨W3, hst3, _, hF3, k3, hb3⟩ := hF2.inode o HOl.out
  obtain ⟨p1, p2, hz, h⟩ := HH.out
  have k23 := k2.trans k3
  have q1 : W3.cell? ⟨b1, 0, none⟩ = some (.string (bs q)) := cell_of_heap ((k23.z _ hz.2.1).trans p1) 0
  have q2 : W3.cell? ⟨b2, 0, none⟩ = some (.string (bs p)) := cell_of_heap ((k23.z _ hz.2.2).trans p2) 0
  have hS : ∀ (W : World) , KeptS B Z W3 W → W.cell? ⟨b1, 0, none⟩ = some (.string (bs q)) ∧ W.cell? ⟨b2, 0, none⟩ = some (.string (bs p)) := fun W hk => ⟨cell_of_heap ((hk.z _ hz.2.1).trans ((k23.z _ hz.2.1).trans p1)) 0, cell_of_heap ((hk.z _ hz.2.2).trans ((k23.z _ hz.2.2).trans p2)) 0⟩
  have hpa : ∀ W, Below W3.heap.size W3 W → Calls Tryz.prog 82 #[.string (bs p)] W fun e w4 => ∃ A cc, e = .returned (.slice A mr cc) ∧ (w4.cell? ⟨b1, 0, none⟩ = some (.string (bs q)) ∧ w4.cell? ⟨b2, 0, none⟩ = some (.string (bs p))) ∧ Hid (mr ≤ cc ∧ ∀ W4, Below w4.heap.size w4 W4 → Calls Tryz.prog 82 #[.string (bs q)] W4 fun e w5 => ∃ A2 c2, e = .returned (.slice A2 m.length c2) ∧ (w5.cell? ⟨b1, 0, none⟩ = some (.string (bs q)) ∧ w5.cell? ⟨b2, 0, none⟩ = some (.string (bs p))) ∧
      Hid (∀ W5, Below w5.heap.size w5 W5 → Calls Tryz.prog 87 #[.slice A m.length cc, .slice A2 m.length c2] W5 fun e w6 => e = .returned (.bool true) ∧ FsI B w6 f s c T N Z ∧ KeptS B Z w w6)) := fun W hW => by
    obtain ⟨sW, kW⟩ := hF3.solo.fresh (Z' := Z) hW (fun k hk => .inl (.inl hk))
    have kW := kW.weak (Z' := Z) fun k hk => .inl hk
    have hFW := hF2.next sW (k3.trans kW) hF2.fz
    refine (parts_any B f s c N p _ T _ W hFW HP.out.2.1).mono ?_
    rintro e w4 ⟨A, cc, rfl, hcc, hF4, k4, hst⟩
    rw [← HMr.out] at hcc ⊢
    have k34 := kW.trans k4
    refine ⟨A, cc, rfl, hS w4 k34, Lib.hid ⟨hcc, fun W4 hW4 => ?_⟩⟩
    obtain ⟨s4, k44⟩ := hF4.solo.fresh (Z' := Zr Z A (m ++ r)) hW4 (fun k hk => .inl hk)
    have hF44 := hF4.next s4 k44 hF4.fz
    refine (parts_any B f s c N q _ T _ W4 hF44 HP.out.1).mono ?_
    rintro e w5 ⟨A2, c2, rfl, hcc2, hF5, k5, hst2⟩
    have hst1 := (hst.kept k44).kept k5
    have k35 := k34.trans ((k44.trans k5).weak fun k hk => .inl hk)
    refine ⟨A2, c2, rfl, hS w5 k35, Lib.hid fun W5 hW5 => ?_⟩
    obtain ⟨s5, k55⟩ := hF5.solo.fresh (Z' := Zr (Zr Z A (m ++ r)) A2 m) hW5 (fun k hk => .inl hk)
    have hF55 := hF5.next s5 k55 hF5.fz
    refine (eqpre_any m r HP.out.2.2.1 (by have := HP.out.2.2.2; omega) B (Zr (Zr Z A (m ++ r)) A2 m) A A2 cc c2 W5 (StrsZ.kept (fun hn => by
      obtain ⟨b, o, e1, e2, e3⟩ := hst1 hn
      exact ⟨b, o, e1, e2.imp .inl id, e3⟩) k55) (hst2.kept k55)).mono ?_
    rintro e w6 ⟨rfl, n, rfl⟩
    have hb9 : Below W5.heap.size W5 (W5.drewN n) := below_drewN (Below.refl _ _) n
    obtain ⟨s9, k9⟩ := hF55.solo.fresh (Z' := Z) hb9 (fun k hk => .inl (.inl (.inl hk)))
    have kk := k23.trans (k35.trans ((k55.weak fun k hk => .inl (.inl hk)).trans (k9.weak fun k hk => .inl (.inl hk))))
    exact ⟨rfl, h.next s9 kk h.fz, kk⟩
  have HPa := Lib.hid hpa
  clear hpa hS k2 hF2 hF3 k3 hb3 k23 p1 p2 hz h HN HP HH
  go_upto_region 3 with fail
  go_cut [5, 6] (fun v5 v6 wx => ∃ A cc A2 c2, v5 = .slice A mr cc ∧ v6 = .slice A2 m.length c2 ∧ mr ≤ cc ∧ Calls Tryz.prog 87 #[.slice A m.length cc, .slice A2 m.length c2] wx fun e w6 => e = .returned (.bool true) ∧ FsI B w6 f s c T N Z ∧ KeptS B Z w w6)
  case first =>
    go_region_held3 (fun w' => w'.cell? ⟨b1, 0, none⟩ = some (.string (bs q)) ∧ w'.cell? ⟨b2, 0, none⟩ = some (.string (bs p)))
      ((first | assumption | go_keep))
      (first
        | (go_at_call 82; go_split_ands; refine (HF4.out.2 _ (by first | exact Below.refl _ _ | exact (Below.refl _ _).drew)).mono ?_; rintro e w5 ⟨A5, cc5, rfl, hc5, HF5⟩)
        | (go_at_call 82; go_split_ands; refine (HPa.out _ (by first | exact Below.refl _ _ | exact (Below.refl _ _).drew)).mono ?_; rintro e w4 ⟨A4, cc4, rfl, hc4, HF4⟩))
    all_goals
      have hcc4 := HF4.out.1
      have HC4 := Lib.hid hcc4
      clear hcc4
      go_wp2_with fail
      go_meet
      first
        | exact ⟨_, _, _, _, rfl, rfl, HC4.out, HF5.out _ (Below.refl _ _)⟩
        | exact ⟨_, _, _, _, rfl, rfl, HC4.out, HF5.out _ (Below.refl _ _).drew⟩
  case rest =>
    obtain ⟨A, cc, A2, c2, rfl, rfl, hcc, heq⟩ := hcut
    have HEq := Lib.hid heq
    have hlc : (m.length : Int) ≤ (cc : Int) := by omega
    have hlcn : m.length ≤ cc := by omega
    have hltn : m.length < mr := by have := of_decide_eq_true hgt; omega
    clear heq HPa q1 q2 hgt
    go_wp2_with fail
    refine HEq.out.mono ?_
    rintro e w6 ⟨rfl, hF6, k6⟩
    have H6 := Lib.hid (⟨hF6, k6⟩ : _ ∧ _)
    clear hF6 k6 HEq
    go_wp2_with fail
    refine (must_bad 11 (by omega) _).mono ?_
    rintro e w7 ⟨rfl, hw7⟩
    obtain rfl := hw7.symm
    go_wp2_with fail
    exact ⟨rfl, rfl, H6.out⟩
def BusyOk (T : RS) (q p : Str) : Prop := ∃ (m r : List Str) (i : Nat) (o : Opn), splitP q = some m ∧ m.length ≤ 800 ∧ thr T m = (i, 0) ∧ T.look i = 0 ∧ o = getR T i ∧ o.Len ∧ i ≠ 1 ∧ splitP p = some (m ++ r) ∧ m ≠ [] ∧ r ≠ [] ∧ r.length ≤ 800
theorem rename_busy (B f s c N : Nat) (q p : Str) (T : RS) (Z : Nat → Prop) (w : World) (h : FsI B w f s c T N Z) (m : BusyOk T q p) :
    Calls Tryz.prog 27 #[.pointer (some ⟨f, 0, none⟩), .string (bs q), .string (bs p)] w fun e w' => e = .returned (.int .i64 11) ∧ FsI B w' f s c T N Z ∧ KeptS B Z w w' := by
  have hmf : ∀ (fn : Fn) (first cap : Array Value) (w : World), (Instr.makeFunc fn first cap).run Tryz.prog w = .ok (.func fn first cap) w := fun _ _ _ _ => rfl
  obtain ⟨l0, r, i, o, a1, a2, a3, a4, a5, a6, a7, a8, a9, a10, a11⟩ := m
  obtain ⟨W3, hW3, q0, hdo⟩ := two_of B f s c N 11 86 0 q p T T Z w h (enters_of Tryz.func86 (by kernel_rfl) rfl) fun W Z' b0 b1 b2 hF p0 p1 p2 hz => by
    rw [if_neg (by omega)]
    exact rename1_busy B f s c N i b0 b1 b2 q p l0 r o T Z' W hF a1 a2 a3 a4 a5 a6 a7 a8 a9 a10 a11 p0 p1 p2 hz
  have HDo := Lib.hid hdo
  clear hdo h a1 a2 a3 a4 a5 a6 a7 a8 a9 a10 a11
  go_enter Tryz.func27, Tryz.ntmps27
  go_upto_region 1 with fail
  rw [← hW3]
  clear hW3
  go_wp2_with fail
  refine HDo.out.mono ?_
  rintro e w5 ⟨rfl, g⟩
  have HG := Lib.hid g
  clear g HDo
  go_wp2_with fail
  go_ret
  exact ⟨rfl, HG.out⟩
end Go.Proofs.YtakmplpfjcddiaaGreatDoor

namespace Go.Proofs.YtakmplpfjcddiaaGreatDoor
open Go.RowKit Go.Shelf Pa
theorem FsI.len {B f s c N : Nat} {w : World} {T : RS} {Z : Nat → Prop} (h : FsI B w f s c T N Z) : ∀ j, (getR T j).Len := fun j => by
  obtain ⟨R, ⟨m, c', C, F, h1, h2, h3, h4, h5, h6, h7⟩, _⟩ := h.solo
  have := loadR_len h4 j
  rw [h4.loadR] at this
  exact this
def rs0 : RS := ⟨[], [], []⟩
/-- A name is laid into a directory that is empty or full. -/
def addT2 (T : RS) (d : Nat) (nm : Str) (i : Nat) : RS := (T.write d (addAt (lookB T d)) (encS nm i)).getD rs0
/-- live's states. -/
def V0 : RS := (RS.fresh 60 32).mkI 1 2 493
def V1 : RS := addT2 (V0.mkI 2 2 493) 1 [97] 2
def V2a : RS := ((V1.mkI 3 1 420).write 3 0 [104, 105]).getD rs0
def V2 : RS := addT2 V2a 2 [102] 3
def V3a : RS := addT2 V2 1 [103] 3
def V3 : RS := V3a.setM 3 420 2
def V4a : RS := (dropT V3 2 [102]).getD rs0
def V4 : RS := V4a.setM 3 420 1
theorem V1_ok (hl : ∀ j, (getR V0 j).Len) : MadeOk V0 [47, 97] 2 493 [] V1 where
  ex := ⟨[], [97], 1, 2, V0.mkI 2 2 493, by kernel_rfl, by decide, by kernel_rfl, by kernel_rfl, by kernel_rfl, by rw [show (V0.file 1).bytes.length = 0 by kernel_rfl]; omega, by kernel_rfl, ⟨by decide, by kernel_rfl⟩, by kernel_rfl, by kernel_rfl, by rw [show addAt (lookB (V0.mkI 2 2 493) (1 : Nat)) = 0 by kernel_rfl]; omega, by kernel_rfl⟩
  len := hl
  kd := by decide
  mode := by decide
  sz := by decide
theorem V2_ok (hl : ∀ j, (getR V1 j).Len) : MadeOk V1 [47, 97, 47, 102] 1 420 [104, 105] V2 where
  ex := ⟨[[97]], [102], 2, 3, V2a, by kernel_rfl, by decide, by kernel_rfl, by kernel_rfl, by kernel_rfl, by rw [show (V1.file 2).bytes.length = 0 by kernel_rfl]; omega, by kernel_rfl, ⟨by decide, by kernel_rfl⟩, by kernel_rfl, by kernel_rfl, by rw [show addAt (lookB V2a (2 : Nat)) = 0 by kernel_rfl]; omega, by kernel_rfl⟩
  len := hl
  kd := by decide
  mode := by decide
  sz := by decide
theorem V1_none : splitP [47, 97, 47, 102] = some [[97], [102]] ∧ (thr V1 [[97], [102]]).2 = 4 := ⟨by kernel_rfl, by kernel_rfl⟩
theorem V3_ok (hl : ∀ j, (getR V2 j).Len) : LinkOk V2 [47, 97, 47, 102] [47, 103] V3 :=
  ⟨[[97], [102]], [], [103], 3, 1, getR V2 (3 : Nat), V3a, by kernel_rfl, by decide, by kernel_rfl, by kernel_rfl, rfl, hl 3, by rw [show (getR V2 (3 : Nat)).kind = 1 by kernel_rfl]; omega, by kernel_rfl, by decide, by kernel_rfl, by kernel_rfl, by kernel_rfl, by rw [show addAt (lookB V2 (1 : Nat)) = 64 by kernel_rfl]; omega, by kernel_rfl, ⟨by decide, by kernel_rfl⟩, by rw [show (getR V2 (3 : Nat)).mode = 420 by kernel_rfl]; omega, by rw [show (getR V2 (3 : Nat)).links = 1 by kernel_rfl]; omega, by kernel_rfl⟩
theorem V4_away : AwayOk V3 2 [102] V4 :=
  ⟨3, getR V4a (3 : Nat), V4a, by kernel_rfl, by kernel_rfl, by kernel_rfl, by rw [show (findR V3 (2 : Nat) [102]).1.at_ = 0 by kernel_rfl]; omega, (fun e => absurd (show (lookB V3 (2 : Nat)).length = 64 by kernel_rfl) (by rw [e]; decide)), by kernel_rfl, rfl, ⟨by kernel_rfl, by kernel_rfl⟩, by rw [show (getR V4a (3 : Nat)).links = 2 by kernel_rfl]; omega, by rw [show (getR V4a (3 : Nat)).links = 2 by kernel_rfl]; omega, by rw [show (getR V4a (3 : Nat)).mode = 420 by kernel_rfl]; omega, by kernel_rfl⟩
theorem V4_ok (hl : ∀ j, (getR V3 j).Len) : UnlinkOk V3 [47, 97, 47, 102] V4 :=
  ⟨[[97]], [102], 2, 3, getR V3 (3 : Nat), by kernel_rfl, by decide, by kernel_rfl, by kernel_rfl, rfl, hl 3, by rw [show (getR V3 (3 : Nat)).kind = 1 by kernel_rfl]; omega, by kernel_rfl, V4_away⟩
theorem V4_g : splitP [47, 103] = some [[103]] ∧ thr V4 [[103]] = (3, 0) ∧ V4.look (3 : Nat) = 0 ∧ (getR V4 (3 : Nat)).kind = 1 ∧ (getR V4 (3 : Nat)).size = 2 ∧ (getR V4 (3 : Nat)).links = 1 ∧ (V4.file 3).bytes = [104, 105] :=
  ⟨by kernel_rfl, by kernel_rfl, by kernel_rfl, by kernel_rfl, by kernel_rfl, by kernel_rfl, by kernel_rfl⟩
theorem V4_busy (hl : ∀ j, (getR V4 j).Len) : BusyOk V4 [47, 103] [47, 103, 47, 104] :=
  ⟨[[103]], [[104]], 3, getR V4 (3 : Nat), by kernel_rfl, by decide, by kernel_rfl, by kernel_rfl, rfl, hl 3, by decide, by kernel_rfl, by simp, by simp, by decide⟩
end Go.Proofs.YtakmplpfjcddiaaGreatDoor

namespace Go.Proofs.YtakmplpfjcddiaaGreatDoor
open Go.RowKit Go.Shelf Pa
attribute [local go_sem] bs_toList bs_size
/-- append to nil of a row: a row of one's own with the same. -/
theorem run_append_clone {P : Program} (w : World) (t ty e : TypeId) (i : TypeInfo) (z : Value) (size bytes : Nat) (ht : P.underlying t = some (.slice e)) (hi : P.info? e = some i) (hz : i.zero = some z)
    (hsize : i.size = size) (hby : i.bytes = bytes) (hzs : z.cells.size = size) (hsz : 0 < size)
    (v : Value) (n B : Nat) (xs : List Value) (hown : w.ownsRow B e size v n xs) (h1 : ∀ u ∈ xs, u.oneCell' = true) (h63 : n ≤ maxLen) (hbytes : n * bytes ≤ 140737488355328) :
    ∃ v' w', (Builtin.append_ #[t, t] ty #[.slice none 0 0, v]).run P w = .ok v' w' ∧ w'.ownsRow w.heap.size e size v' n xs ∧ Below w.heap.size w w' := by
  rcases hown.2 with ⟨rfl, rfl⟩ | ⟨g, cap, cur, rfl, hbg, hg, hnc, hcm, hcs, htake⟩
  · have hx : xs = [] := List.eq_nil_of_length_eq_zero (by simpa using hown.1)
    subst hx
    refine ⟨.slice none 0 0, w, ?_, World.ownsRow_nil w _ e size, Below.refl _ _⟩
    simp [Builtin.append_, run_underlying ht, sizeOf, typeInfo, hi, Builtin.lenOf, Builtin.firstCells, loadCells, loadCellsFrom]
  · obtain ⟨v', w', hr, h2, h3, _⟩ := run_append_own (P := P) w w.heap.size t ty e i z size bytes ht hi hz hsize hby hzs hsz (.slice none 0 0) 0 [] (World.ownsRow_nil w _ e size) ⟨g, 0, none⟩ n cap xs hown.1 (hown.cells (g := g) rfl) h1 (by omega) (by simpa using hbytes) (Nat.le_refl _)
    rw [Nat.zero_add, List.nil_append] at h2
    exact ⟨v', w', hr, h2, (Below.refl _ _).grown h3 (Nat.le_refl _) (fun k e => by cases e)⟩
theorem wpList_append_clone {P : Program} {ops : Array Oper} {rest : List Oper} {o : Oper} {a : Act} {w : World} {Q : Exit → Act → World → Prop} (hgd : o.guard = none) (s x : Operand) (t : TypeId)
    (ho : o.op = .call { callee := .builtin .append, args := #[s, x], argTypes := #[t, t] })
    (e : TypeId) (i : TypeInfo) (z : Value) (size bytes : Nat) (ht : P.underlying t = some (.slice e)) (hi : P.info? e = some i) (hz : i.zero = some z)
    (hsize : i.size = size) (hby : i.bytes = bytes) (hzs : z.cells.size = size) (hsz : 0 < size)
    (v : Value) (n B : Nat) (xs : List Value) (hs : a.eval s = .slice none 0 0) (hx : a.eval x = v) (hown : w.ownsRow B e size v n xs) (h1 : ∀ u ∈ xs, u.oneCell' = true) (h63 : n ≤ maxLen) (hbytes : n * bytes ≤ 140737488355328)
    (h : ∀ v' w', w'.ownsRow w.heap.size e size v' n xs → Below w.heap.size w w' → wpList P ops Q rest (a.put o.dst v') w') :
    wpList P ops Q (o :: rest) a w := by
  refine wpList_plain hgd fun K hK => ?_
  obtain ⟨v', w', hr, h2, h3⟩ := run_append_clone (P := P) w t o.type e i z size bytes ht hi hz hsize hby hzs hsz v n B xs hown h1 h63 hbytes
  unfold Oper.wp execOp
  simp only [ho, resolve, invoke, builtin, Sem.run_bind, Sem.run_pure, Result.andThen_ok, List.map_toArray, List.map_cons, List.map_nil, hs, hx, hr]
  exact hK _ _ (h v' w' h2 h3)
theorem OwnL.set {w : World} {B g c : Nat} {e : TypeId} {vs : List Value} (h : OwnL w B e (.slice (some ⟨g, 0, none⟩) vs.length c) vs) (i : Nat) (x : Value) (hi : i < vs.length) : OwnL (w.setCell ⟨g, i, none⟩ x) B e (.slice (some ⟨g, 0, none⟩) vs.length c) (vs.set i x) := by
  obtain ⟨h1, h2⟩ := h
  rcases h2 with ⟨h0, _⟩ | ⟨g', cap, cur, e', hB, hg, hc, hm, hs, ht⟩
  · cases h0
  · injection e' with e1 e2 e3
    injection e1 with e1
    injection e1 with e1
    subst e1 e3
    refine ⟨by simp, .inr ⟨g, c, cur.setIfInBounds i x, by simp, hB, heap_setCell_at w g i _ hg, by simpa using hc, hm, by simpa using hs, ?_⟩⟩
    have hs' : cur.toList.length = c * 1 := by rw [Array.length_toList]; exact hs
    refine List.ext_getElem? fun j => ?_
    have hj := congrArg (fun l => l[j]?) ht
    rw [List.length_set, Array.toList_setIfInBounds, List.take_set, List.getElem?_set, List.getElem?_set, hj, List.length_take, hs']
    by_cases e2 : i = j
    · rw [if_pos e2, if_pos e2, if_pos (by omega), if_pos hi]
    · rw [if_neg e2, if_neg e2]
theorem rowB_base {w : World} {B B' : Nat} {e : TypeId} {k n : Nat} {v : Value} {xs : List Value} (h : w.ownsRow B e k v n xs) (hB : B' ≤ B) : w.ownsRow B' e k v n xs := by
  obtain ⟨h1, h⟩ := h
  exact ⟨h1, h.imp id fun ⟨g, cap, cur, e1, e2, e3⟩ => ⟨g, cap, cur, e1, by omega, e3⟩⟩
theorem OwnL.base {w : World} {B B' : Nat} {e : TypeId} {v : Value} {vs : List Value} (h : OwnL w B e v vs) (hB : B' ≤ B) : OwnL w B' e v vs := rowB_base h hB
theorem OwnL.shape {w : World} {B : Nat} {e : TypeId} {v : Value} {vs : List Value} (h : OwnL w B e v vs) : ∃ A c, v = .slice A vs.length c := ownsRow_slice h
/-- A row of one-celled values in a block of a set. -/
def SlI (w : World) (I : Nat → Prop) (e : TypeId) (v : Value) (vs : List Value) : Prop := OwnL w 0 e v vs ∧ ∀ k, v.ownBlock = some k → I k
theorem SlI.off {w w' : World} {I M : Nat → Prop} {e : TypeId} {v : Value} {vs : List Value} (h : SlI w I e v vs) (ho : Off M w w') (hd : ∀ k, I k → ¬ M k) : SlI w' I e v vs := ⟨h.1.off ho fun k hk => hd k (h.2 k hk), h.2⟩
theorem SlI.mono {w : World} {I J : Nat → Prop} {e : TypeId} {v : Value} {vs : List Value} (h : SlI w I e v vs) (hI : ∀ k, I k → k < w.heap.size → J k) : SlI w J e v vs := ⟨h.1, fun k hk => hI k (h.2 k hk) (h.1.block hk).2⟩
def boolV (l : List Bool) : List Value := l.map Value.bool
def natV (l : List Nat) : List Value := l.map fun n => Value.int .i64 (n : Nat)
def bytV (l : Str) : List Value := l.map fun x => Value.int .u8 (UInt8.toNat x)
theorem boolV_length (l : List Bool) : (boolV l).length = l.length := List.length_map ..
theorem boolV_one (l : List Bool) : ∀ u ∈ boolV l, u.oneCell' = true := fun u hu => by obtain ⟨_, _, rfl⟩ := List.mem_map.1 hu; rfl
theorem boolV_at (l : List Bool) (k : Nat) (h : k < l.length) : (boolV l)[k]? = some (.bool (l.getD k false)) := by
  unfold boolV; rw [List.getElem?_map, List.getD_eq_getElem?_getD, List.getElem?_eq_getElem h]; rfl
theorem boolV_set (l : List Bool) (k : Nat) (b : Bool) : boolV (l.set k b) = (boolV l).set k (.bool b) := List.map_set ..
theorem info_bool : (Tryz.prog.info? 4).map (fun i => (i.zero, i.size, i.bytes)) = some (some (.bool false), 1, 1) := by kernel_rfl
theorem ent_of {w : World} {B : Nat} {e : TypeId} {A : Option Addr} {n c : Nat} {vs : List Value} (h : OwnL w B e (.slice A n c) vs) (hn : n = vs.length) (k : Nat) (hk : k < vs.length) : ∃ g, A = some ⟨g, 0, none⟩ ∧ B ≤ g ∧ g < w.heap.size ∧ ∀ i x, vs[i]? = some x → w.cell? ⟨g, i, none⟩ = some x := by
  subst hn
  obtain ⟨g, c', e1, h1, h2, h3, h4, _⟩ := h.at (fun e => by rw [e] at hk; cases hk)
  injection e1 with e1 _ _
  exact ⟨g, e1, h1, h2, h4⟩
theorem takeB_at {l : List Bool} {n : Nat} (hn : n < l.length) (h0 : l.getD n false = false) (h : ∀ j, j < n → l.getD j false = true) : takeB l = some n := by
  cases ht : takeB l with
  | none =>
    unfold takeB at ht
    rw [List.find?_eq_none] at ht
    exact absurd (by simpa using h0) (ht n (List.mem_range.2 hn))
  | some m =>
    obtain ⟨_, h2, h3⟩ := takeB_some ht
    rcases Nat.lt_trichotomy m n with e | e | e
    · rw [h m e] at h2; cases h2
    · rw [e]
    · have := h3 n e; rw [h0] at this; cases this
theorem takeB_all {l : List Bool} (h : ∀ j, j < l.length → l.getD j false = true) : takeB l = none := by
  unfold takeB
  rw [List.find?_eq_none]
  intro n hn
  rw [h n (List.mem_range.1 hn)]; decide
/-- What take hands back. -/
def TakePost (w : World) (v : Value) (l : List Bool) (e : Ending) (w' : World) : Prop :=
  match takeB l with
  | some n => ∃ v', e = .returned (.tuple #[v', .int .i64 n, .int .i64 0]) ∧ OwnL w' w.heap.size 4 v' (boolV (l.set n true)) ∧ Below w.heap.size w w'
  | none => e = .returned (.tuple #[v, .int .i64 0, .int .i64 7]) ∧ w' = w
theorem TakePost.some {w w' : World} {v : Value} {l : List Bool} {e : Ending} {n : Nat} (h : TakePost w v l e w') (ht : takeB l = some n) : ∃ v', e = .returned (.tuple #[v', .int .i64 n, .int .i64 0]) ∧ OwnL w' w.heap.size 4 v' (boolV (l.set n true)) ∧ Below w.heap.size w w' := by
  unfold TakePost at h; rw [ht] at h; exact h
theorem TakePost.none {w w' : World} {v : Value} {l : List Bool} {e : Ending} (h : TakePost w v l e w') (ht : takeB l = none) : e = .returned (.tuple #[v, .int .i64 0, .int .i64 7]) ∧ w' = w := by
  unfold TakePost at h; rw [ht] at h; exact h
/-- A cloned row whose k-th element is turned. -/
theorem clone_set {w w1 : World} {e : TypeId} {v' x : Value} {vs : List Value} {k n : Nat} (hn : n = vs.length) (h : w1.ownsRow w.heap.size e 1 v' n vs) (hb : Below w.heap.size w w1) (hk : k < vs.length) :
    ∃ g c u, v' = .slice (some ⟨g, 0, none⟩) n c ∧ w1.cell? ⟨g, k, none⟩ = some u ∧ w1.frozen? ⟨g, k, none⟩ = false ∧ OwnL (w1.setCell ⟨g, k, none⟩ x) w.heap.size e (.slice (some ⟨g, 0, none⟩) n c) (vs.set k x) ∧ Below w.heap.size w (w1.setCell ⟨g, k, none⟩ x) := by
  subst hn
  have h : OwnL w1 w.heap.size e v' vs := h
  obtain ⟨g, c, rfl, h1, h2, h3, h4, h5⟩ := h.at (fun e => by rw [e] at hk; cases hk)
  exact ⟨g, c, _, rfl, h4 k _ (List.getElem?_eq_getElem hk), h5 k, h.set k x hk, hb.setCell h1 _⟩
theorem bool_row {w : World} {B : Nat} {A : Option Addr} {n c : Nat} {l : List Bool} (h : OwnL w B 4 (.slice A n c) (boolV l)) (hn : n = l.length) : w.ownsRow B 4 1 (.slice A l.length c) l.length (boolV l) := by
  unfold OwnL at h
  rw [boolV_length, hn] at h; exact h
theorem results_tmp3 {fn : Func} {t u v : Tmp} (h : fn.results = #[.tmp t, .tmp u, .tmp v]) (tmps : Array Value) (P : Program) (w : World) :
    (results fn tmps).run P w = .ok (.tuple #[tmps.getD t undef, tmps.getD u undef, tmps.getD v undef]) w := by
  simp [results, h]
set_option maxRecDepth 100000 in
set_option maxHeartbeats 1000000 in
theorem rtake_any (l : List Bool) (v : Value) (B : Nat) (w : World) (h : OwnL w B 4 v (boolV l)) (hl : l.length ≤ 10000) :
    Calls Tryz.prog 249 #[v] w fun e w' => TakePost w v l e w' := by
  obtain ⟨i0, hi0, hz0, hz1, hz2⟩ := info_parts info_bool
  obtain ⟨A, c, rfl⟩ := h.shape
  rw [boolV_length] at h ⊢
  have HO := Lib.hid h
  have HOr := Lib.hid (bool_row h rfl)
  clear h
  go_enter Tryz.func249, Tryz.ntmps249
  go_wp2_with fail
  go_loopg [5] l.length (fun gg i wx => ∃ k : Nat, i = .int .i64 k ∧ gg = l.length - k ∧ k ≤ l.length ∧ (∀ j, j < k → l.getD j false = true) ∧ wx = w)
  case atStart => exact ⟨0, rfl, rfl, Nat.zero_le _, fun j hj => absurd hj (Nat.not_lt_zero _), rfl⟩
  case round =>
    obtain ⟨k, rfl, rfl, hk, hall, hwr⟩ := hrel
    subst hwr
    by_cases hlt : k < l.length
    · have hlt' : decide ((k : Int) < (l.length : Int)) = true := by simp; omega
      obtain ⟨g, rfl, _, _, hcs⟩ := ent_of HO.out (boolV_length l).symm k (by rw [boolV_length]; exact hlt)
      have hc := hcs k _ (boolV_at l k hlt)
      have HAll := Lib.hid hall
      clear hcs hall
      by_cases hb : l.getD k false = true
      · rw [hb] at hc
        have HB := Lib.hid hb
        clear hb
        go_wp2_with fail
        go_roundg (l.length - (k + 1))
        case measure => omega
        case rel =>
          refine ⟨k + 1, by go_num, rfl, hlt, fun j hj => ?_, rfl⟩
          rcases Nat.lt_succ_iff_lt_or_eq.1 hj with hj | rfl
          · exact HAll.out j hj
          · exact HB.out
      · have hb : l.getD k false = false := by simpa using hb
        rw [hb] at hc
        have ht := takeB_at hlt hb HAll.out
        have HB := Lib.hid ht
        have hcl := fun v' w1 (h1 : w1.ownsRow wr.heap.size 4 1 v' l.length (boolV l)) (h2 : Below wr.heap.size wr w1) => clone_set (x := .bool true) (k := k) (boolV_length l).symm h1 h2 (by rw [boolV_length]; exact hlt)
        have HCl := Lib.hid hcl
        clear hb ht hcl
        go_wp2_with (at_builtin; refine wpList_append_clone rfl _ _ 249 rfl 4 i0 (.bool false) 1 1 Tryz.underlying249 hi0 hz0 hz1 hz2 rfl (by decide) (.slice (some ⟨g, 0, none⟩) l.length c) l.length B _ rfl rfl HOr.out (boolV_one l) (by unfold maxLen; omega) (by omega) ?_; intro v' w1 hown1 hb1; obtain ⟨g', c', u', rfl, hc', hf', hset', hbl'⟩ := HCl.out v' w1 hown1 hb1; have HS := Lib.hid (⟨hset', hbl'⟩ : _ ∧ _); clear hown1 hb1 hset' hbl')
        refine bodyPost_ret (results_tmp3 rfl _ _ _) rfl ?_
        unfold TakePost
        rw [HB.out]
        exact ⟨_, rfl, by rw [boolV_set]; exact HS.out.1, HS.out.2⟩
    · have hlt' : decide ((k : Int) < (l.length : Int)) = false := by simp; omega
      have ht := takeB_all (l := l) (fun j hj => hall j (by omega))
      have HT := Lib.hid ht
      clear ht hall
      go_wp2_with fail
      refine bodyPost_ret (results_tmp3 rfl _ _ _) rfl ?_
      unfold TakePost
      rw [HT.out]
      exact ⟨rfl, rfl⟩
end Go.Proofs.YtakmplpfjcddiaaGreatDoor

namespace Go.Proofs.YtakmplpfjcddiaaGreatDoor
open Go.RowKit Go.Shelf Pa
attribute [local go_sem] bs_toList bs_size
abbrev rmapO (P ino : Nat) (pv iv : Value) : Obj := .cells #[.int .i64 P, .int .i64 ino, pv, iv] 251 (0, 0)
/-- A map lies at block m, its rows in blocks of I. -/
structure RMap (w : World) (I : Nat → Prop) (m : Nat) (p i : List Bool) (pv iv : Value) : Prop where
  at_ : w.heap[m]? = some (rmapO p.length i.length pv iv)
  rp : SlI w I 4 pv (boolV p)
  ri : SlI w I 4 iv (boolV i)
  few : p.length ≤ 4096 ∧ i.length ≤ 512
theorem RMap.lt {w : World} {I : Nat → Prop} {m : Nat} {p i : List Bool} {pv iv : Value} (h : RMap w I m p i pv iv) : m < w.heap.size := (Array.getElem?_eq_some_iff.1 h.at_).1
theorem RMap.off {w w' : World} {I J : Nat → Prop} {m : Nat} {p i : List Bool} {pv iv : Value} (h : RMap w I m p i pv iv) (ho : Off J w w') (hI : ∀ k, I k → ¬ J k) (hm : ¬ J m) : RMap w' I m p i pv iv :=
  ⟨(ho.block m h.lt hm).trans h.at_, h.rp.off ho hI, h.ri.off ho hI, h.few⟩
theorem RMap.below {w w' : World} {I : Nat → Prop} {m : Nat} {p i : List Bool} {pv iv : Value} (h : RMap w I m p i pv iv) (hb : Below w.heap.size w w') : RMap w' I m p i pv iv := h.off (Off.of_below hb (fun _ => False)) (fun _ _ e => e) (fun e => e)
theorem RMap.mono {w : World} {I J : Nat → Prop} {m : Nat} {p i : List Bool} {pv iv : Value} (h : RMap w I m p i pv iv) (hI : ∀ k, I k → k < w.heap.size → J k) : RMap w J m p i pv iv := ⟨h.at_, h.rp.mono hI, h.ri.mono hI, h.few⟩
theorem RMap.setP {w : World} {I : Nat → Prop} {m : Nat} {p i p' : List Bool} {pv iv pv' : Value} (h : RMap w I m p i pv iv) (ha : ¬ I m) (hp : SlI w I 4 pv' (boolV p')) (hl : p'.length = p.length) : RMap (w.setCell ⟨m, 2, none⟩ pv') I m p' i pv' iv ∧ Off (fun k => k = m) w (w.setCell ⟨m, 2, none⟩ pv') := by
  have ho : Off (fun k => k = m) w (w.setCell ⟨m, 2, none⟩ pv') := (Off.refl (fun k => k = m) w).setCell (p := ⟨m, 2, none⟩) (.inl rfl) _
  have hI : ∀ k, I k → ¬ k = m := fun k hk e => ha (e ▸ hk)
  exact ⟨⟨by rw [hl]; have := heap_setCell_at w m 2 pv' h.at_; simpa using this, hp.off ho hI, h.ri.off ho hI, by rw [hl]; exact h.few⟩, ho⟩
theorem RMap.setI {w : World} {I : Nat → Prop} {m : Nat} {p i i' : List Bool} {pv iv iv' : Value} (h : RMap w I m p i pv iv) (ha : ¬ I m) (hp : SlI w I 4 iv' (boolV i')) (hl : i'.length = i.length) : RMap (w.setCell ⟨m, 3, none⟩ iv') I m p i' pv iv' ∧ Off (fun k => k = m) w (w.setCell ⟨m, 3, none⟩ iv') := by
  have ho : Off (fun k => k = m) w (w.setCell ⟨m, 3, none⟩ iv') := (Off.refl (fun k => k = m) w).setCell (p := ⟨m, 3, none⟩) (.inl rfl) _
  have hI : ∀ k, I k → ¬ k = m := fun k hk e => ha (e ▸ hk)
  exact ⟨⟨by rw [hl]; have := heap_setCell_at w m 3 iv' h.at_; simpa using this, h.rp.off ho hI, hp.off ho hI, by rw [hl]; exact h.few⟩, ho⟩
/-- With new rows. -/
def wid (I : Nat → Prop) (w w' : World) (k : Nat) : Prop := I k ∨ (w.heap.size ≤ k ∧ k < w'.heap.size)
theorem rfirst_any (I : Nat → Prop) (m : Nat) (p i : List Bool) (pv iv : Value) (w : World) (h : RMap w I m p i pv iv) :
    Calls Tryz.prog 181 #[.pointer (some ⟨m, 0, none⟩)] w fun e w' => e = .returned (.int .i64 (alFirst i.length)) ∧ w' = w := by
  have c1 : w.cell? ⟨m, 1, none⟩ = some (.int .i64 i.length) := cell_of_heap h.at_ 1
  have hq : ((i.length : Int)).tdiv 8 = ((i.length / 8 : Nat) : Int) := tdiv_nat i.length 8
  have hf := h.few.2
  go_enter Tryz.func181, Tryz.ntmps181
  go_wp2
  go_ret
  exact ⟨ret_int (by unfold alFirst; omega), rfl⟩
theorem rinodes_any (I : Nat → Prop) (m : Nat) (p i : List Bool) (pv iv : Value) (w : World) (h : RMap w I m p i pv iv) :
    Calls Tryz.prog 182 #[.pointer (some ⟨m, 0, none⟩)] w fun e w' => e = .returned (.int .i64 i.length) ∧ w' = w := by
  have c1 : w.cell? ⟨m, 1, none⟩ = some (.int .i64 i.length) := cell_of_heap h.at_ 1
  go_enter Tryz.func182, Tryz.ntmps182
  go_wp2
  go_ret
  exact ⟨rfl, rfl⟩
def TakenI (w : World) (I : Nat → Prop) (m : Nat) (p i : List Bool) (e : Ending) (w' : World) : Prop :=
  match takeB i with
  | some n => e = .returned (.tuple #[.int .i64 n, .int .i64 0]) ∧ ∃ pv iv, RMap w' (wid I w w') m p (i.set n true) pv iv ∧ Off (fun k => k = m) w w'
  | none => e = .returned (.tuple #[.int .i64 0, .int .i64 7]) ∧ ∃ pv iv, RMap w' (wid I w w') m p i pv iv ∧ Off (fun k => k = m) w w'
theorem wid_not {I : Nat → Prop} {w w' : World} {m : Nat} (h : ¬ I m) (hm : m < w.heap.size) : ¬ wid I w w' m := fun e => by
  rcases e with e | e
  · exact h e
  · omega
theorem OwnL.wid {w w' : World} {I : Nat → Prop} {e : TypeId} {v : Value} {vs : List Value} (h : OwnL w' w.heap.size e v vs) : SlI w' (wid I w w') e v vs := ⟨h.base (Nat.zero_le _), fun _ hk => .inr (h.block hk)⟩
set_option maxRecDepth 100000 in
set_option maxHeartbeats 1000000 in
theorem rinode_any (I : Nat → Prop) (m : Nat) (p i : List Bool) (pv iv : Value) (w : World) (h : RMap w I m p i pv iv) (ha : ¬ I m) :
    Calls Tryz.prog 183 #[.pointer (some ⟨m, 0, none⟩)] w fun e w' => TakenI w I m p i e w' := by
  obtain ⟨A, cA, rfl⟩ := h.ri.1.shape
  have c2 : w.cell? ⟨m, 3, none⟩ = some (.slice A (boolV i).length cA) := cell_of_heap h.at_ 3
  have htk := rtake_any i _ 0 w h.ri.1 (by have := h.few; omega)
  have hml := h.lt
  have HTk := Lib.hid htk
  have H := Lib.hid h
  clear htk h
  cases ht : takeB i with
  | some n =>
    have hfin : ∀ v' w1, OwnL w1 w.heap.size 4 v' (boolV (i.set n true)) → Below w.heap.size w w1 → RMap (w1.setCell ⟨m, 3, none⟩ v') (wid I w (w1.setCell ⟨m, 3, none⟩ v')) m p (i.set n true) pv v' ∧ Off (fun k => k = m) w (w1.setCell ⟨m, 3, none⟩ v') ∧ w1.cell? ⟨m, 3, none⟩ = some (.slice A (boolV i).length cA) ∧ w1.frozen? ⟨m, 3, none⟩ = false := fun v' w1 ho hb => by
      have h1 := (H.out.below hb).mono (J := wid I w w1) (fun k hk _ => .inl hk)
      obtain ⟨a, b⟩ := h1.setI (i' := i.set n true) (wid_not ha hml) ho.wid (List.length_set ..)
      refine ⟨?_, (Off.of_below hb _).then b, cell_of_heap h1.at_ 3, free_of_heap h1.at_ 3⟩
      exact a.mono (fun k hk _ => by
        rcases hk with hk | hk
        · exact .inl hk
        · exact .inr ⟨hk.1, Nat.lt_of_lt_of_le hk.2 b.size⟩)
    have HFin := Lib.hid hfin
    have HT := Lib.hid ht
    clear hfin ht
    go_enter Tryz.func183, Tryz.ntmps183
    go_wp2_with fail
    refine HTk.out.mono ?_
    rintro e w1 hp
    obtain ⟨v', rfl, ho, hb⟩ := hp.some HT.out
    obtain ⟨A', cc', rfl⟩ := ho.shape
    obtain ⟨q1, q2, q3, q4⟩ := HFin.out _ w1 ho hb
    have HQ := Lib.hid (⟨q1, q2⟩ : _ ∧ _)
    clear q1 q2 ho hb hp
    go_wp2_with fail
    go_ret2
    unfold TakenI
    rw [HT.out]
    exact ⟨rfl, _, _, HQ.out.1, HQ.out.2⟩
  | none =>
    have hfin : RMap (w.setCell ⟨m, 3, none⟩ (.slice A (boolV i).length cA)) (wid I w (w.setCell ⟨m, 3, none⟩ (.slice A (boolV i).length cA))) m p i pv (.slice A (boolV i).length cA) ∧ Off (fun k => k = m) w (w.setCell ⟨m, 3, none⟩ (.slice A (boolV i).length cA)) ∧ w.frozen? ⟨m, 3, none⟩ = false := by
      obtain ⟨a, b⟩ := H.out.setI ha H.out.ri rfl
      exact ⟨a.mono (fun k hk _ => .inl hk), b, free_of_heap H.out.at_ 3⟩
    have HFin := Lib.hid (⟨hfin.1, hfin.2.1⟩ : _ ∧ _)
    have hfz := hfin.2.2
    have HT := Lib.hid ht
    clear hfin ht
    go_enter Tryz.func183, Tryz.ntmps183
    go_wp2_with fail
    refine HTk.out.mono ?_
    rintro e w1 hp
    obtain ⟨rfl, rfl⟩ := hp.none HT.out
    clear hp
    go_wp2_with fail
    go_ret2
    unfold TakenI
    rw [HT.out]
    exact ⟨rfl, _, _, HFin.out.1, HFin.out.2⟩
set_option maxRecDepth 100000 in
set_option maxHeartbeats 1000000 in
/-- A map of one's own that is alike. -/
theorem rfork_any (I : Nat → Prop) (m : Nat) (p i : List Bool) (pv iv : Value) (w : World) (h : RMap w I m p i pv iv) :
    Calls Tryz.prog 165 #[.pointer (some ⟨m, 0, none⟩)] w fun e w' => e = .returned (.pointer (some ⟨w.heap.size, 0, none⟩)) ∧ w' = w.alloc (.cells #[.int .i64 p.length, .int .i64 i.length, pv, iv] 251) := by
  have c0 : w.cell? ⟨m, 0, none⟩ = some (.int .i64 p.length) := cell_of_heap h.at_ 0
  have c1 : w.cell? ⟨m, 1, none⟩ = some (.int .i64 i.length) := cell_of_heap h.at_ 1
  have c2 : w.cell? ⟨m, 2, none⟩ = some pv := cell_of_heap h.at_ 2
  have c3 : w.cell? ⟨m, 3, none⟩ = some iv := cell_of_heap h.at_ 3
  obtain ⟨A, c, rfl⟩ := h.rp.1.shape
  obtain ⟨A', c', rfl⟩ := h.ri.1.shape
  have hml := h.lt
  clear h
  go_enter Tryz.func165, Tryz.ntmps165
  go_wp2_with fail
  go_ret
  exact ⟨rfl, rfl⟩
end Go.Proofs.YtakmplpfjcddiaaGreatDoor

namespace Go.Proofs.YtakmplpfjcddiaaGreatDoor
open Go.RowKit Go.Shelf Pa
attribute [local go_sem] bs_toList bs_size
def fileV (f : RF) (bv dv : Value) : List Value := [.int .i64 f.kind, .int .i64 f.mode, .int .i64 f.links, bv, dv, .int .i64 f.ind]
abbrev RFX := RF × Value × Value
def filesC (X : List RFX) : List Value := X.flatMap fun x => fileV x.1 x.2.1 x.2.2
theorem filesC_cons (x : RFX) (X : List RFX) : filesC (x :: X) = fileV x.1 x.2.1 x.2.2 ++ filesC X := List.flatMap_cons
theorem filesC_append (X Y : List RFX) : filesC (X ++ Y) = filesC X ++ filesC Y := List.flatMap_append
theorem filesC_length : ∀ X : List RFX, (filesC X).length = X.length * 6
  | [] => rfl
  | x :: X => by rw [filesC_cons, List.length_append, filesC_length X, List.length_cons]; show 6 + _ = _; omega
theorem filesC_at {X : List RFX} {i : Nat} {x : RFX} (h : X[i]? = some x) {j : Nat} {u : Value} (hu : (fileV x.1 x.2.1 x.2.2)[j]? = some u) : (filesC X)[i * 6 + j]? = some u := by
  obtain ⟨hi, e⟩ := List.getElem?_eq_some_iff.1 h
  have hj : j < 6 := (List.getElem?_eq_some_iff.1 hu).1
  have h1 : X = X.take i ++ x :: X.drop (i + 1) := by rw [← e, ← List.drop_eq_getElem_cons hi, List.take_append_drop]
  have h2 : (filesC (X.take i)).length = i * 6 := by rw [filesC_length, List.length_take]; congr 1; omega
  rw [h1, filesC_append, filesC_cons, List.getElem?_append_right (by omega), h2, Nat.add_sub_cancel_left, List.getElem?_append_left (by show j < 6; omega)]
  exact hu
theorem filesC_set {X : List RFX} {i : Nat} (x : RFX) (h : i < X.length) : filesC (X.set i x) = (filesC X).take (i * 6) ++ fileV x.1 x.2.1 x.2.2 ++ (filesC X).drop (i * 6 + 6) := by
  have h1 : filesC X = filesC (X.take i) ++ (fileV (X[i]).1 (X[i]).2.1 (X[i]).2.2 ++ filesC (X.drop (i + 1))) := by
    rw [← filesC_cons, ← filesC_append, ← List.drop_eq_getElem_cons h, List.take_append_drop]
  have h2 : (filesC (X.take i)).length = i * 6 := by rw [filesC_length, List.length_take]; congr 1; omega
  have t1 : (filesC X).take (i * 6) = filesC (X.take i) := by rw [h1, ← h2, List.take_left]
  have h3 : (filesC (X.take i) ++ fileV (X[i]).1 (X[i]).2.1 (X[i]).2.2).length = i * 6 + 6 := by rw [List.length_append, h2]; rfl
  have t2 : (filesC X).drop (i * 6 + 6) = filesC (X.drop (i + 1)) := by rw [h1, ← List.append_assoc, ← h3, List.drop_left]
  rw [t1, t2, List.set_eq_take_append_cons_drop, if_pos h, filesC_append, filesC_cons, ← List.append_assoc]
theorem filesC_one {X : List RFX} (h : ∀ x ∈ X, x.2.1.oneCell' = true ∧ x.2.2.oneCell' = true) : ∀ u ∈ filesC X, u.oneCell' = true := fun u hu => by
  obtain ⟨x, hx, hu⟩ := List.mem_flatMap.1 hu
  obtain ⟨h1, h2⟩ := h x hx
  simp only [fileV, List.mem_cons, List.not_mem_nil, or_false] at hu
  rcases hu with rfl | rfl | rfl | rfl | rfl | rfl
  · rfl
  · rfl
  · rfl
  · exact h1
  · exact h2
  · rfl
/-- Files in memory: their row, and the rows of their bytes and pages, lie in blocks of I. -/
structure FilesI (w : World) (I : Nat → Prop) (v : Value) (X : List RFX) : Prop where
  own : w.ownsRow 0 254 6 v X.length (filesC X)
  blk : ∀ k, v.ownBlock = some k → I k
  nest : ∀ x ∈ X, SlI w I 5 x.2.1 (bytV x.1.bytes) ∧ SlI w I 3 x.2.2 (natV x.1.data)
theorem row_off {w w' : World} {B k n : Nat} {e : TypeId} {v : Value} {xs : List Value} {M : Nat → Prop} (h : w.ownsRow B e k v n xs) (ho : Off M w w') (hm : ∀ k, v.ownBlock = some k → ¬ M k) : w'.ownsRow B e k v n xs := by
  obtain ⟨h1, h⟩ := id h
  refine ⟨h1, ?_⟩
  rcases h with hn | ⟨g, cap, cur, rfl, hB, hg, hr⟩
  · exact .inl hn
  · refine .inr ⟨g, cap, cur, rfl, hB, ?_, hr⟩
    rw [ho.block g (Array.getElem?_eq_some_iff.1 hg).1 (hm g rfl)]
    exact hg
theorem FilesI.off {w w' : World} {I J : Nat → Prop} {v : Value} {X : List RFX} (h : FilesI w I v X) (ho : Off J w w') (hI : ∀ k, I k → ¬ J k) : FilesI w' I v X :=
  ⟨row_off h.own ho fun k hk => hI k (h.blk k hk), h.blk, fun x hx => ⟨(h.nest x hx).1.off ho hI, (h.nest x hx).2.off ho hI⟩⟩
theorem FilesI.mono {w : World} {I J : Nat → Prop} {v : Value} {X : List RFX} (h : FilesI w I v X) (hI : ∀ k, I k → k < w.heap.size → J k) : FilesI w J v X :=
  ⟨h.own, fun k hk => hI k (h.blk k hk) (World.ownsRow.lt h.own k hk).2, fun x hx => ⟨(h.nest x hx).1.mono hI, (h.nest x hx).2.mono hI⟩⟩
theorem sl_one {w : World} {I : Nat → Prop} {e : TypeId} {v : Value} {vs : List Value} (h : SlI w I e v vs) : v.oneCell' = true := by
  obtain ⟨A, c, rfl⟩ := h.1.shape; rfl
theorem FilesI.one {w : World} {I : Nat → Prop} {v : Value} {X : List RFX} (h : FilesI w I v X) : ∀ u ∈ filesC X, u.oneCell' = true := filesC_one fun x hx => ⟨sl_one (h.nest x hx).1, sl_one (h.nest x hx).2⟩
theorem info_file : (Tryz.prog.info? 254).map (fun i => (i.zero, i.size, i.bytes)) = some (some (.agg #[.int .i64 0, .int .i64 0, .int .i64 0, .slice none 0 0, .slice none 0 0, .int .i64 0]), 6, 80) := by kernel_rfl
theorem setCells_row (g : Nat) (t : TypeId) : ∀ (vs : List Value) (o : Nat) (cur : Array Value) (w : World), w.heap[g]? = some (.cells cur t (0, 0)) → o + vs.length ≤ cur.size → w.setCells g o vs = w.setRow g (cur.toList.take o ++ vs ++ cur.toList.drop (o + vs.length)).toArray
  | [], o, cur, w, hg, _ => by
    simp only [World.setCells, List.append_nil, List.length_nil, Nat.add_zero, List.take_append_drop, Array.toArray_toList]
    exact (setRow_self w g cur hg).symm
  | v :: rest, o, cur, w, hg, hl => by
    have ih := setCells_row g t rest (o + 1) (cur.setIfInBounds o v) (w.setRow g (cur.setIfInBounds o v)) (setRow_heap w g cur _ t _ hg) (by simp at hl ⊢; omega)
    unfold World.setCells
    rw [setCell_eq_setRow w g o cur t (0, 0) v hg, ih, setRow_setRow]
    congr 2
    have e := list_seg_step cur.toList o v rest (by simp at hl ⊢; omega)
    simpa [Array.toList_setIfInBounds, Nat.add_assoc] using e
/-- The six stores of a file. -/
abbrev putF (w : World) (g o : Nat) (f : RF) (bv dv : Value) : World := (((((w.setCell ⟨g, o, none⟩ (.int .i64 f.kind)).setCell ⟨g, o + 1, none⟩ (.int .i64 f.mode)).setCell ⟨g, o + 2, none⟩ (.int .i64 f.links)).setCell ⟨g, o + 3, none⟩ bv).setCell ⟨g, o + 4, none⟩ dv).setCell ⟨g, o + 5, none⟩ (.int .i64 f.ind)
/-- A file is laid into a cloned row. -/
theorem clone_file {w w1 : World} {v' : Value} {X : List RFX} {i : Nat} (f : RF) {bv dv : Value} (h : w1.ownsRow w.heap.size 254 6 v' X.length (filesC X)) (hb : Below w.heap.size w w1) (hi : i < X.length) :
    ∃ g c, v' = .slice (some ⟨g, 0, none⟩) X.length c ∧ w.heap.size ≤ g ∧ (∀ j, j < 6 → ∃ u, w1.cell? ⟨g, i * 6 + j, none⟩ = some u) ∧ (∀ j, w1.frozen? ⟨g, j, none⟩ = false) ∧ (putF w1 g (i * 6) f bv dv).ownsRow w.heap.size 254 6 (.slice (some ⟨g, 0, none⟩) X.length c) (X.set i (f, bv, dv)).length (filesC (X.set i (f, bv, dv))) ∧ Below w.heap.size w (putF w1 g (i * 6) f bv dv) := by
  obtain ⟨hl, h⟩ := h
  rcases h with ⟨_, h0⟩ | ⟨g, cap, cur, rfl, hB, hg, hc, hm, hs, ht⟩
  · omega
  · have hst : putF w1 g (i * 6) f bv dv = _ := setCells_row g 254 [.int .i64 f.kind, .int .i64 f.mode, .int .i64 f.links, bv, dv, .int .i64 f.ind] (i * 6) cur w1 hg (by simp only [List.length_cons, List.length_nil]; omega)
    refine ⟨g, cap, rfl, hB, fun j hj => ?_, fun j => free_of_heap hg j, ?_, ?_⟩
    · exact ⟨_, by rw [cell_of_heap hg]; exact Array.getElem?_eq_getElem (by omega)⟩
    · rw [hst]
      refine ⟨by rw [filesC_length], .inr ⟨g, cap, _, by rw [List.length_set], hB, setRow_heap w1 g cur _ _ _ hg, by rw [List.length_set]; exact hc, hm, ?_, ?_⟩⟩
      · simp only [List.size_toArray, List.length_append, List.length_take, List.length_drop, Array.length_toList, List.length_cons, List.length_nil]; omega
      · have hcl : cur.toList.length = cap * 6 := by rw [Array.length_toList]; exact hs
        rw [List.length_set, filesC_set _ hi]
        show (cur.toList.take (i * 6) ++ fileV f bv dv ++ cur.toList.drop (i * 6 + 6)).take (X.length * 6) = (filesC X).take (i * 6) ++ fileV f bv dv ++ (filesC X).drop (i * 6 + 6)
        rw [← ht, List.take_take, List.drop_take, Nat.min_eq_left (by omega)]
        have hlen : (cur.toList.take (i * 6) ++ fileV f bv dv).length = i * 6 + 6 := by rw [List.length_append, List.length_take, Nat.min_eq_left (by omega)]; rfl
        rw [show X.length * 6 = (i * 6 + 6) + (X.length * 6 - (i * 6 + 6)) from by omega, ← hlen, List.take_length_add_append, hlen, Nat.add_sub_cancel_left]
    · refine hb.trans ?_
      rw [hst]
      exact ⟨rfl, rfl, rfl, by simp [World.setRow], fun k hk => setRow_other w1 g k _ (by omega)⟩
abbrev rstoO (m : Nat) (lv u2 u3 : Value) : Obj := .cells #[.pointer (some ⟨m, 0, none⟩), lv, u2, u3] 230 (0, 0)
def RS.Small (T : RS) : Prop := T.l.length = T.i.length ∧ ∀ f ∈ T.l, f.bytes.length ≤ 70656 ∧ f.data.length ≤ 138
/-- The store as it is now. -/
structure RNow (w : World) (R : Reg) (r m : Nat) (T : RS) (lv u2 u3 pv iv : Value) (X : List RFX) : Prop where
  at_ : w.heap[r]? = some (rstoO m lv u2 u3)
  mr : R.m r
  mm : R.m m
  map : RMap w R.i m T.p T.i pv iv
  files : FilesI w R.i lv X
  eq : X.map (·.1) = T.l
  small : T.Small
  apart : ∀ k, R.m k → ¬ R.i k
  lt : ∀ k, R.has k → k < w.heap.size
/-- The store as it was kept. -/
structure RKept (w : World) (R : Reg) (K : RS) (u2 u3 : Value) (mk : Nat) (pk ik : Value) (Y : List RFX) : Prop where
  e2 : u2 = .pointer (some ⟨mk, 0, none⟩)
  im : R.i mk
  map : RMap w R.i mk K.p K.i pk ik
  files : FilesI w R.i u3 Y
  eq : Y.map (·.1) = K.l
  small : K.Small
/-- The document's store at r stands for T, and keeps K. -/
def RefI (w : World) (r : Nat) (T K : RS) (R : Reg) : Prop := ∃ m lv u2 u3 pv iv X mk pk ik Y, RNow w R r m T lv u2 u3 pv iv X ∧ RKept w R K u2 u3 mk pk ik Y
def RefStep (w : World) (r : Nat) (T K : RS) (R : Reg) (w' : World) : Prop := ∃ R', RefI w' r T K R' ∧ R.To R' w.heap.size ∧ Off R.m w w'
theorem RNow.ne {w : World} {R : Reg} {r m : Nat} {T : RS} {lv u2 u3 pv iv : Value} {X : List RFX} (h : RNow w R r m T lv u2 u3 pv iv X) : r ≠ m := fun e => by
  have h1 := h.at_
  rw [e, h.map.at_] at h1
  cases h1
theorem RNow.off {w w' : World} {R : Reg} {r m : Nat} {T : RS} {lv u2 u3 pv iv : Value} {X : List RFX} {J : Nat → Prop} (h : RNow w R r m T lv u2 u3 pv iv X) (ho : Off J w w') (hd : ∀ k, R.has k → ¬ J k) : RNow w' R r m T lv u2 u3 pv iv X :=
  { h with at_ := (ho.block r (h.lt r (.inl h.mr)) (hd r (.inl h.mr))).trans h.at_, map := h.map.off ho (fun k hk => hd k (.inr hk)) (hd m (.inl h.mm)), files := h.files.off ho (fun k hk => hd k (.inr hk)), lt := fun k hk => Nat.lt_of_lt_of_le (h.lt k hk) ho.size }
theorem RKept.off {w w' : World} {R : Reg} {K : RS} {u2 u3 pk ik : Value} {mk : Nat} {Y : List RFX} {J : Nat → Prop} (h : RKept w R K u2 u3 mk pk ik Y) (ho : Off J w w') (hd : ∀ k, R.i k → ¬ J k) : RKept w' R K u2 u3 mk pk ik Y :=
  { h with map := h.map.off ho hd (hd mk h.im), files := h.files.off ho hd }
theorem RKept.mono {w : World} {R R' : Reg} {K : RS} {u2 u3 pk ik : Value} {mk : Nat} {Y : List RFX} (h : RKept w R K u2 u3 mk pk ik Y) (hi : ∀ k, R.i k → k < w.heap.size → R'.i k) : RKept w R' K u2 u3 mk pk ik Y :=
  { h with im := hi mk h.im h.map.lt, map := h.map.mono hi, files := h.files.mono hi }
theorem RefI.off {w w' : World} {r : Nat} {T K : RS} {R : Reg} {J : Nat → Prop} (h : RefI w r T K R) (ho : Off J w w') (hd : ∀ k, R.has k → ¬ J k) : RefI w' r T K R := by
  obtain ⟨m, lv, u2, u3, pv, iv, X, mk, pk, ik, Y, h1, h2⟩ := h
  exact ⟨m, lv, u2, u3, pv, iv, X, mk, pk, ik, Y, h1.off ho hd, h2.off ho (fun k hk => hd k (.inr hk))⟩
theorem RefI.lt {w : World} {r : Nat} {T K : RS} {R : Reg} (h : RefI w r T K R) : ∀ k, R.has k → k < w.heap.size := by obtain ⟨m, lv, u2, u3, pv, iv, X, mk, pk, ik, Y, h1, h2⟩ := h; exact h1.lt
theorem RefI.below {w w' : World} {r : Nat} {T K : RS} {R : Reg} (h : RefI w r T K R) (hb : Below w.heap.size w w') : RefI w' r T K R := h.off (Off.of_below hb (fun _ => False)) (fun _ _ e => e)
theorem RefI.step0 {w w' : World} {r : Nat} {T K : RS} {R : Reg} (h : RefI w r T K R) (hb : Below w.heap.size w w') : RefStep w r T K R w' := ⟨R, h.below hb, Reg.To.refl _ _, Off.of_below hb _⟩
theorem RefStep.trans {w w1 w2 : World} {r : Nat} {T2 K2 : RS} {R R1 : Reg} (ht : R.To R1 w.heap.size) (ho : Off R.m w w1) (h2 : RefStep w1 r T2 K2 R1 w2) : RefStep w r T2 K2 R w2 := by
  obtain ⟨R2, h3, t2, o2⟩ := h2
  exact ⟨R2, h3, ht.trans t2 ho.size, ho.trans o2 ht.m⟩
theorem RefStep.step {w w1 w2 : World} {r : Nat} {T1 K1 : RS} {R : Reg} (h : RefStep w r T1 K1 R w1) (hb : Below w1.heap.size w1 w2) : RefStep w r T1 K1 R w2 := by
  obtain ⟨R1, h1, t1, o1⟩ := h
  exact ⟨R1, h1.below hb, t1, o1.step hb⟩
/-- A region with new blocks to read. -/
def Reg.plus (R : Reg) (a b : Nat) : Reg := ⟨R.m, fun k => R.i k ∨ (a ≤ k ∧ k < b)⟩
theorem Reg.plus_to (R : Reg) (a b : Nat) : R.To (R.plus a b) a := ⟨fun _ h => .inl h, fun k h => h.imp id fun h => h.1⟩
theorem RNow.file {w : World} {R : Reg} {r m : Nat} {T : RS} {lv u2 u3 pv iv : Value} {X : List RFX} (h : RNow w R r m T lv u2 u3 pv iv X) {j : Nat} (hj : j < T.l.length) : ∃ bv dv, X[j]? = some (T.file j, bv, dv) := by
  have hx : j < X.length := by rw [← h.eq, List.length_map] at hj; exact hj
  have h1 : (X.map (·.1))[j]? = some (X[j]).1 := by rw [List.getElem?_map, List.getElem?_eq_getElem hx]; rfl
  rw [h.eq] at h1
  have h2 : T.file j = (X[j]).1 := by unfold RS.file; rw [List.getD_eq_getElem?_getD, h1]; rfl
  exact ⟨_, _, by rw [h2]; exact List.getElem?_eq_getElem hx⟩
theorem RNow.len {w : World} {R : Reg} {r m : Nat} {T : RS} {lv u2 u3 pv iv : Value} {X : List RFX} (h : RNow w R r m T lv u2 u3 pv iv X) : X.length = T.i.length ∧ X.length ≤ 512 := by
  have h1 : X.length = T.l.length := by rw [← h.eq, List.length_map]
  have h2 := h.small.1
  have h3 := h.map.few.2
  omega
/-- What set leaves: the row of files is a new one. -/
theorem RNow.set {w w1 : World} {R : Reg} {r m j : Nat} {T : RS} {lv u2 u3 pv iv lv' bv dv : Value} {X : List RFX} {f : RF} (h : RNow w R r m T lv u2 u3 pv iv X) (hb : Below w.heap.size w w1) (hrow : w1.ownsRow w.heap.size 254 6 lv' (X.set j (f, bv, dv)).length (filesC (X.set j (f, bv, dv))))
    (hbv : SlI w R.i 5 bv (bytV f.bytes)) (hdv : SlI w R.i 3 dv (natV f.data)) (hs : f.bytes.length ≤ 70656 ∧ f.data.length ≤ 138) :
    RNow (w1.setCell ⟨r, 1, none⟩ lv') (R.plus w.heap.size w1.heap.size) r m (T.set j f) lv' u2 u3 pv iv (X.set j (f, bv, dv)) ∧ Off (fun k => k = r) w (w1.setCell ⟨r, 1, none⟩ lv') ∧ (w1.setCell ⟨r, 1, none⟩ lv').heap.size = w1.heap.size := by
  have hz := hb.size
  have h1 := h.off (Off.of_below hb (fun _ => False)) (fun _ _ e => e)
  have ho : Off (fun k => k = r) w1 (w1.setCell ⟨r, 1, none⟩ lv') := (Off.refl (fun k => k = r) w1).setCell (p := ⟨r, 1, none⟩) (.inl rfl) _
  have hrl := h.lt r (.inl h.mr)
  have hnr : ∀ k, (R.plus w.heap.size w1.heap.size).i k → ¬ k = r := fun k hk e => by
    subst e
    rcases hk with hk | hk
    · exact h.apart k h.mr hk
    · omega
  have hbv' := (hbv.off (Off.of_below hb (fun _ => False)) (fun _ _ e => e)).mono (J := (R.plus w.heap.size w1.heap.size).i) (fun k hk _ => .inl hk)
  have hdv' := (hdv.off (Off.of_below hb (fun _ => False)) (fun _ _ e => e)).mono (J := (R.plus w.heap.size w1.heap.size).i) (fun k hk _ => .inl hk)
  have hF : FilesI w1 (R.plus w.heap.size w1.heap.size).i lv' (X.set j (f, bv, dv)) := ⟨rowB_base hrow (Nat.zero_le _), fun k hk => .inr (World.ownsRow.lt hrow k hk), fun x hx => by
    rcases List.mem_or_eq_of_mem_set hx with hx | rfl
    · exact ⟨(h1.files.nest x hx).1.mono (fun k hk _ => .inl hk), (h1.files.nest x hx).2.mono (fun k hk _ => .inl hk)⟩
    · exact ⟨hbv', hdv'⟩⟩
  refine ⟨⟨?_, h.mr, h.mm, (h1.map.mono (fun k hk _ => .inl hk)).off ho hnr (fun e => h.ne e.symm), hF.off ho hnr, ?_, ?_, ?_, ?_⟩, (Off.of_below hb _).then ho, by simp [World.setCell]⟩
  · have := heap_setCell_at w1 r 1 lv' h1.at_; simpa using this
  · show (X.set j (f, bv, dv)).map (·.1) = T.l.set j f
    rw [List.map_set, h.eq]
  · refine ⟨by show (T.l.set j f).length = T.i.length; rw [List.length_set]; exact h.small.1, fun g hg => ?_⟩
    have hg : g ∈ T.l.set j f := hg
    rcases List.mem_or_eq_of_mem_set hg with hg | rfl
    · exact h.small.2 g hg
    · exact hs
  · intro k hk e
    rcases e with e | e
    · exact h.apart k hk e
    · have := h.lt k (.inl hk); omega
  · intro k hk
    have : (w1.setCell ⟨r, 1, none⟩ lv').heap.size = w1.heap.size := by simp [World.setCell]
    rw [this]
    rcases hk with hk | hk | hk
    · have := h.lt k (.inl hk); omega
    · have := h.lt k (.inr hk); omega
    · exact hk.2
set_option maxRecDepth 100000 in
set_option maxHeartbeats 1000000 in
theorem rset_any (r m j : Nat) (T : RS) (R : Reg) (lv u2 u3 pv iv bv dv : Value) (X : List RFX) (f : RF) (w : World) (h : RNow w R r m T lv u2 u3 pv iv X) (hj : j < T.l.length)
    (hbv : SlI w R.i 5 bv (bytV f.bytes)) (hdv : SlI w R.i 3 dv (natV f.data)) (hs : f.bytes.length ≤ 70656 ∧ f.data.length ≤ 138) :
    Calls Tryz.prog 185 #[.pointer (some ⟨r, 0, none⟩), .int .i64 j, .agg #[.int .i64 f.kind, .int .i64 f.mode, .int .i64 f.links, bv, dv, .int .i64 f.ind]] w fun e w' => e = .returned (.tuple #[]) ∧ ∃ lv', RNow w' (R.plus w.heap.size w'.heap.size) r m (T.set j f) lv' u2 u3 pv iv (X.set j (f, bv, dv)) ∧ Off (fun k => k = r) w w' := by
  obtain ⟨i0, hi0, hz0, hz1, hz2⟩ := info_parts info_file
  obtain ⟨Ab, cb, rfl⟩ := hbv.1.shape
  obtain ⟨Ad, cd, rfl⟩ := hdv.1.shape
  obtain ⟨lb, hlb⟩ : ∃ l, l = (bytV f.bytes).length := ⟨_, rfl⟩
  obtain ⟨ld, hld⟩ : ∃ l, l = (natV f.data).length := ⟨_, rfl⟩
  rw [← hlb] at hbv ⊢
  rw [← hld] at hdv ⊢
  clear hlb hld
  have hjx : j < X.length := by have := h.eq; rw [← this, List.length_map] at hj; exact hj
  have hxl := h.len.2
  have h1b := sl_one hbv
  have h1d := sl_one hdv
  obtain ⟨W1, hW1⟩ : ∃ W1, W1 = w.alloc (.cells #[.int .i64 f.kind, .int .i64 f.mode, .int .i64 f.links, .slice Ab lb cb, .slice Ad ld cd, .int .i64 f.ind] 254) := ⟨_, rfl⟩
  have hb1 : Below w.heap.size w W1 := by rw [hW1]; exact (Below.refl _ _).alloc (Nat.le_refl _) _
  have hnew : W1.heap[w.heap.size]? = some (.cells #[.int .i64 f.kind, .int .i64 f.mode, .int .i64 f.links, .slice Ab lb cb, .slice Ad ld cd, .int .i64 f.ind] 254 (0, 0)) := by rw [hW1]; exact heap_alloc_new _ _
  have c1 : W1.cell? ⟨r, 1, none⟩ = some lv := by
    have h1 := h.off (Off.of_below hb1 (fun _ => False)) (fun _ _ e => e)
    exact cell_of_heap h1.at_ 1
  have hrow : W1.ownsRow 0 254 6 lv X.length (filesC X) := row_off h.files.own (Off.of_below hb1 (fun _ => False)) (fun _ _ e => e)
  have hone := h.files.one
  have hfin : ∀ v' w1, w1.ownsRow W1.heap.size 254 6 v' X.length (filesC X) → Below W1.heap.size W1 w1 → ∃ g c, v' = .slice (some ⟨g, 0, none⟩) X.length c ∧ (w1.cell? ⟨w.heap.size, 0, none⟩ = some (.int .i64 f.kind) ∧ w1.cell? ⟨w.heap.size, 1, none⟩ = some (.int .i64 f.mode) ∧ w1.cell? ⟨w.heap.size, 2, none⟩ = some (.int .i64 f.links) ∧ w1.cell? ⟨w.heap.size, 3, none⟩ = some (.slice Ab lb cb) ∧ w1.cell? ⟨w.heap.size, 4, none⟩ = some (.slice Ad ld cd) ∧ w1.cell? ⟨w.heap.size, 5, none⟩ = some (.int .i64 f.ind)) ∧
      ((∃ u, w1.cell? ⟨g, j * 6, none⟩ = some u) ∧ (∃ u, w1.cell? ⟨g, j * 6 + 1, none⟩ = some u) ∧ (∃ u, w1.cell? ⟨g, j * 6 + 2, none⟩ = some u) ∧ (∃ u, w1.cell? ⟨g, j * 6 + 3, none⟩ = some u) ∧ (∃ u, w1.cell? ⟨g, j * 6 + 4, none⟩ = some u) ∧ (∃ u, w1.cell? ⟨g, j * 6 + 5, none⟩ = some u)) ∧ (∀ k, w1.frozen? ⟨g, k, none⟩ = false) ∧ (w1.cell? ⟨r, 1, none⟩ = some lv ∧ w1.frozen? ⟨r, 1, none⟩ = false ∧ r ≠ g) ∧
      RNow ((putF w1 g (j * 6) f (.slice Ab lb cb) (.slice Ad ld cd)).setCell ⟨r, 1, none⟩ (.slice (some ⟨g, 0, none⟩) X.length c)) (R.plus w.heap.size ((putF w1 g (j * 6) f (.slice Ab lb cb) (.slice Ad ld cd)).setCell ⟨r, 1, none⟩ (.slice (some ⟨g, 0, none⟩) X.length c)).heap.size) r m (T.set j f) (.slice (some ⟨g, 0, none⟩) X.length c) u2 u3 pv iv (X.set j (f, .slice Ab lb cb, .slice Ad ld cd)) ∧ Off (fun k => k = r) w ((putF w1 g (j * 6) f (.slice Ab lb cb) (.slice Ad ld cd)).setCell ⟨r, 1, none⟩ (.slice (some ⟨g, 0, none⟩) X.length c)) := fun v' w1 ho hb => by
    have hz1 := hb1.size
    obtain ⟨g, c, rfl, e0, e1, e2, e3, e4⟩ := clone_file (bv := .slice Ab lb cb) (dv := .slice Ad ld cd) f ho hb hjx
    have hbb : Below w.heap.size w (putF w1 g (j * 6) f (.slice Ab lb cb) (.slice Ad ld cd)) := hb1.trans (e4.mono hz1)
    obtain ⟨a, b, z⟩ := h.set (j := j) hbb (rowB_base e3 hz1) hbv hdv hs
    have h1 := h.off (Off.of_below (hb1.trans (hb.mono hz1)) (fun _ => False)) (fun _ _ e => e)
    have hbx := (hb.block _ (by have := (Array.getElem?_eq_some_iff.1 hnew).1; exact this)).trans hnew
    refine ⟨g, c, rfl, ⟨cell_of_heap hbx 0, cell_of_heap hbx 1, cell_of_heap hbx 2, cell_of_heap hbx 3, cell_of_heap hbx 4, cell_of_heap hbx 5⟩, ⟨e1 0 (by omega), e1 1 (by omega), e1 2 (by omega), e1 3 (by omega), e1 4 (by omega), e1 5 (by omega)⟩, e2, ⟨cell_of_heap h1.at_ 1, free_of_heap h1.at_ 1, fun e => ?_⟩, by rw [z]; exact a, b⟩
    have := h.lt r (.inl h.mr)
    omega
  have HFin := Lib.hid hfin
  have HRow := Lib.hid hrow
  have HOne := Lib.hid hone
  have HLen : (X.length : Int) > (j : Int) := by omega
  clear hfin hrow hone h hbv hdv hb1 hnew
  subst hW1
  go_enter Tryz.func185, Tryz.ntmps185
  go_wp2_with (at_builtin; refine wpList_append_clone rfl _ _ 228 rfl 254 i0 _ 6 80 Tryz.underlying228 hi0 hz0 hz1 hz2 rfl (by decide) _ X.length 0 _ rfl rfl HRow.out HOne.out (by unfold maxLen; omega) (by omega) ?_; intro v' w1 hown1 hb1; obtain ⟨g, c, rfl, ⟨b0, b1, b2, b3, b4, b5⟩, ⟨⟨y0, s0⟩, ⟨y1, s1⟩, ⟨y2, s2⟩, ⟨y3, s3⟩, ⟨y4, s4⟩, ⟨y5, s5⟩⟩, hfz, ⟨hc1, hf1, hrg⟩, hN, hO⟩ := HFin.out v' w1 hown1 hb1; have HS := Lib.hid (⟨hN, hO⟩ : _ ∧ _); have hgr : g ≠ r := fun e => hrg e.symm; have z0 := hfz (j * 6); have z1 := hfz (j * 6 + 1); have z2 := hfz (j * 6 + 2); have z3 := hfz (j * 6 + 3); have z4 := hfz (j * 6 + 4); have z5 := hfz (j * 6 + 5); clear hown1 hb1 hN hO hfz)
  go_end0
  exact ⟨rfl, _, HS.out.1, HS.out.2⟩
end Go.Proofs.YtakmplpfjcddiaaGreatDoor

namespace Go.Proofs.YtakmplpfjcddiaaGreatDoor
open Go.RowKit Go.Shelf Pa
attribute [local go_sem] bs_toList bs_size
/-- What Commit leaves: the map has a copy, the files are kept. -/
theorem RNow.keep {w w' : World} {R : Reg} {r m mk : Nat} {T : RS} {lv u2 u3 pv iv : Value} {X : List RFX} (h : RNow w R r m T lv u2 u3 pv iv X) (h1 : w'.heap[r]? = some (rstoO m lv (.pointer (some ⟨mk, 0, none⟩)) lv)) (h2 : w'.heap[mk]? = some (rmapO T.p.length T.i.length pv iv)) (h3 : w.heap.size ≤ mk) (ho : Off (fun k => k = r) w w') : RefStep w r T T R w' := by
  have hz := ho.size
  have hr := h.lt r (.inl h.mr)
  have hmk : mk < w'.heap.size := (Array.getElem?_eq_some_iff.1 h2).1
  have hnr : ∀ k, R.i k → ¬ k = r := fun k hk e => h.apart k (e ▸ h.mr) hk
  have hi : ∀ k, R.i k → k < w'.heap.size → (R.plus w.heap.size w'.heap.size).i k := fun k hk _ => .inl hk
  have hM := (h.map.off ho hnr (fun e => h.ne e.symm)).mono hi
  have hF := (h.files.off ho hnr).mono hi
  refine ⟨R.plus w.heap.size w'.heap.size, ⟨m, lv, _, _, pv, iv, X, mk, pv, iv, X, ⟨h1, h.mr, h.mm, hM, hF, h.eq, h.small, ?_, ?_⟩, ⟨rfl, .inr ⟨h3, hmk⟩, ⟨h2, hM.rp, hM.ri, hM.few⟩, hF, h.eq, h.small⟩⟩, R.plus_to _ _, ho.mono fun k e => .inl (e ▸ h.mr)⟩
  · intro k hk e
    rcases e with e | e
    · exact h.apart k hk e
    · have := h.lt k (.inl hk); omega
  · intro k hk
    rcases hk with hk | hk | hk
    · have := h.lt k (.inl hk); omega
    · have := h.lt k (.inr hk); omega
    · exact hk.2
theorem RNow.kept_end {w w9 : World} {R : Reg} {r m : Nat} {T : RS} {lv u2 u3 pv iv : Value} {X : List RFX} (h : RNow w R r m T lv u2 u3 pv iv X) (h9 : w9 = w.alloc (rmapO T.p.length T.i.length pv iv) ∨ w9 = w.drew.alloc (rmapO T.p.length T.i.length pv iv)) : RefStep w r T T R ((w9.setCell ⟨r, 2, none⟩ (.pointer (some ⟨w.heap.size, 0, none⟩))).setCell ⟨r, 3, none⟩ lv) := by
  have hrl := h.lt r (.inl h.mr)
  have h9' : Below w.heap.size w w9 ∧ w9.heap[w.heap.size]? = some (rmapO T.p.length T.i.length pv iv) := by
    rcases h9 with rfl | rfl
    · exact ⟨(Below.refl _ _).alloc (Nat.le_refl _) _, heap_alloc_new _ _⟩
    · exact ⟨((Below.refl w.heap.size w).drew).alloc (Nat.le_refl _) _, heap_alloc_new w.drew _⟩
  have h1 := (h9'.1.block r hrl).trans h.at_
  have h2 := heap_setCell_at w9 r 2 (.pointer (some ⟨w.heap.size, 0, none⟩)) h1
  have h3 := heap_setCell_at _ r 3 lv h2
  have ho : Off (fun k => k = r) w9 ((w9.setCell ⟨r, 2, none⟩ (.pointer (some ⟨w.heap.size, 0, none⟩))).setCell ⟨r, 3, none⟩ lv) := ((Off.refl (fun k => k = r) w9).setCell (p := ⟨r, 2, none⟩) (.inl rfl) _).setCell (p := ⟨r, 3, none⟩) (.inl rfl) _
  refine h.keep (mk := w.heap.size) (by simpa using h3) ?_ (Nat.le_refl _) ((Off.of_below h9'.1 _).then ho)
  exact (ho.block _ (Array.getElem?_eq_some_iff.1 h9'.2).1 (by omega)).trans h9'.2
set_option maxRecDepth 100000 in
set_option maxHeartbeats 1000000 in
theorem rcommit_any (r m : Nat) (T : RS) (R : Reg) (lv u2 u3 pv iv : Value) (X : List RFX) (w : World) (h : RNow w R r m T lv u2 u3 pv iv X) :
    Calls Tryz.prog 117 #[.pointer (some ⟨r, 0, none⟩)] w fun e w' => e = .returned (.tuple #[]) ∧ RefStep w r T T R w' := by
  obtain ⟨Al, cl, rfl⟩ : ∃ A c, lv = .slice A X.length c := ownsRow_slice h.files.own
  have hkeep := fun w9 h9 => h.kept_end (w9 := w9) h9
  have c0 : w.cell? ⟨r, 0, none⟩ = some (.pointer (some ⟨m, 0, none⟩)) := cell_of_heap h.at_ 0
  have c1 : w.cell? ⟨r, 1, none⟩ = some (.slice Al X.length cl) := cell_of_heap h.at_ 1
  have c2 : w.cell? ⟨r, 2, none⟩ = some u2 := cell_of_heap h.at_ 2
  have c3 : w.cell? ⟨r, 3, none⟩ = some u3 := cell_of_heap h.at_ 3
  have f2 : w.frozen? ⟨r, 2, none⟩ = false := free_of_heap h.at_ 2
  have f3 : w.frozen? ⟨r, 3, none⟩ = false := free_of_heap h.at_ 3
  have hfk : ∀ W, Off (fun k => k = r) w W → W.cell? ⟨r, 2, none⟩ = some u2 → W.frozen? ⟨r, 2, none⟩ = false → Calls Tryz.prog 165 #[.pointer (some ⟨m, 0, none⟩)] W fun e w9 => e = .returned (.pointer (some ⟨W.heap.size, 0, none⟩)) ∧ (w9.cell? ⟨r, 2, none⟩ = some u2 ∧ w9.frozen? ⟨r, 2, none⟩ = false) ∧ (w9.cell? ⟨r, 1, none⟩ = W.cell? ⟨r, 1, none⟩ ∧ w9.cell? ⟨r, 3, none⟩ = W.cell? ⟨r, 3, none⟩ ∧ w9.frozen? ⟨r, 3, none⟩ = W.frozen? ⟨r, 3, none⟩) ∧ Hid (w9 = W.alloc (rmapO T.p.length T.i.length pv iv)) := fun W ho h2 h3 => by
    have hrw : r < W.heap.size := Nat.lt_of_lt_of_le (h.lt r (.inl h.mr)) ho.size
    refine (rfork_any R.i m T.p T.i pv iv W (h.map.off ho (fun k hk e => h.apart k (e ▸ h.mr) hk) (fun e => h.ne e.symm))).mono ?_
    rintro e w9 ⟨rfl, rfl⟩
    have hb := (Below.refl W.heap.size W).alloc (Nat.le_refl _) (rmapO T.p.length T.i.length pv iv)
    exact ⟨rfl, ⟨(hb.cell (p := ⟨r, 2, none⟩) hrw).trans h2, (hb.frozen (p := ⟨r, 2, none⟩) hrw).trans h3⟩, ⟨hb.cell (p := ⟨r, 1, none⟩) hrw, hb.cell (p := ⟨r, 3, none⟩) hrw, hb.frozen (p := ⟨r, 3, none⟩) hrw⟩, Lib.hid rfl⟩
  have HFk := Lib.hid hfk
  have HK := Lib.hid hkeep
  clear hkeep hfk h
  go_enter Tryz.func117, Tryz.ntmps117
  go_wp2_with fail
  go_region_with (go_at_call 165; refine (HFk.out _ (by repeat' (first | exact Off.refl _ _ | refine Off.drew ?_ | refine Off.drewN ?_ _ | refine Off.setCell ?_ (Or.inl rfl) _)) (by simp [c2]) (by simp [f2])).mono ?_; rintro e w9 ⟨rfl, ⟨d2, g2⟩, ⟨d1, d3, g3⟩, HW⟩; simp [c1, c3, f3] at d1 d3 g3)
  all_goals (go_end0; exact ⟨rfl, HK.out _ (by first | exact Or.inl HW.out | exact Or.inr HW.out)⟩)
end Go.Proofs.YtakmplpfjcddiaaGreatDoor

namespace Go.Proofs.YtakmplpfjcddiaaGreatDoor
open Go.RowKit Go.Shelf Pa
attribute [local go_sem] bs_toList bs_size
/-- A map midway: both rows are one's own. -/
structure MapO (wx : World) (B m bp bi P ino : Nat) (p i : List Bool) : Prop where
  at_ : wx.heap[m]? = some (rmapO P ino (.slice (some ⟨bp, 0, none⟩) P P) (.slice (some ⟨bi, 0, none⟩) ino ino))
  rp : OwnL wx B 4 (.slice (some ⟨bp, 0, none⟩) P P) (boolV p)
  ri : OwnL wx B 4 (.slice (some ⟨bi, 0, none⟩) ino ino) (boolV i)
  lp : p.length = P
  li : i.length = ino
  ne : bp ≠ bi ∧ bp ≠ m ∧ bi ≠ m ∧ B ≤ m
theorem MapO.setP {wx : World} {B m bp bi P ino : Nat} {p i : List Bool} (h : MapO wx B m bp bi P ino p i) (k : Nat) (b : Bool) (hk : k < P) : MapO (wx.setCell ⟨bp, k, none⟩ (.bool b)) B m bp bi P ino (p.set k b) i := by
  have ho : Off (fun j => j = bp) wx (wx.setCell ⟨bp, k, none⟩ (.bool b)) := (Off.refl (fun j => j = bp) wx).setCell (p := ⟨bp, k, none⟩) (.inl rfl) _
  have hm : m < wx.heap.size := (Array.getElem?_eq_some_iff.1 h.at_).1
  refine ⟨(ho.block m hm (fun e => h.ne.2.1 e.symm)).trans h.at_, ?_, h.ri.off ho (fun j hj e => h.ne.1 (by cases hj; exact e.symm)), by rw [List.length_set]; exact h.lp, h.li, h.ne⟩
  have hbl : (boolV p).length = P := by rw [boolV_length]; exact h.lp
  have h1 : OwnL wx B 4 (.slice (some ⟨bp, 0, none⟩) (boolV p).length P) (boolV p) := by rw [hbl]; exact h.rp
  have := h1.set k (.bool b) (by rw [hbl]; exact hk)
  rw [hbl] at this
  rw [boolV_set]; exact this
theorem MapO.setI {wx : World} {B m bp bi P ino : Nat} {p i : List Bool} (h : MapO wx B m bp bi P ino p i) (k : Nat) (b : Bool) (hk : k < ino) : MapO (wx.setCell ⟨bi, k, none⟩ (.bool b)) B m bp bi P ino p (i.set k b) := by
  have ho : Off (fun j => j = bi) wx (wx.setCell ⟨bi, k, none⟩ (.bool b)) := (Off.refl (fun j => j = bi) wx).setCell (p := ⟨bi, k, none⟩) (.inl rfl) _
  have hm : m < wx.heap.size := (Array.getElem?_eq_some_iff.1 h.at_).1
  refine ⟨(ho.block m hm (fun e => h.ne.2.2.1 e.symm)).trans h.at_, h.rp.off ho (fun j hj e => h.ne.1 (by cases hj; exact e)), ?_, h.lp, by rw [List.length_set]; exact h.li, h.ne⟩
  have hbl : (boolV i).length = ino := by rw [boolV_length]; exact h.li
  have h1 : OwnL wx B 4 (.slice (some ⟨bi, 0, none⟩) (boolV i).length ino) (boolV i) := by rw [hbl]; exact h.ri
  have := h1.set k (.bool b) (by rw [hbl]; exact hk)
  rw [hbl] at this
  rw [boolV_set]; exact this
theorem MapO.map {wx : World} {B m bp bi P ino : Nat} {p i : List Bool} (h : MapO wx B m bp bi P ino p i) (hf : P ≤ 4096 ∧ ino ≤ 512) : RMap wx (fun k => B ≤ k ∧ k < wx.heap.size ∧ k ≠ m) m p i (.slice (some ⟨bp, 0, none⟩) P P) (.slice (some ⟨bi, 0, none⟩) ino ino) :=
  ⟨by rw [h.lp, h.li]; exact h.at_, ⟨h.rp.base (Nat.zero_le _), fun k hk => ⟨(h.rp.block hk).1, (h.rp.block hk).2, fun e => by cases hk; exact h.ne.2.1 e⟩⟩, ⟨h.ri.base (Nat.zero_le _), fun k hk => ⟨(h.ri.block hk).1, (h.ri.block hk).2, fun e => by cases hk; exact h.ne.2.2.1 e⟩⟩, by rw [h.lp, h.li]; exact hf⟩
theorem MapO.cellP {wx : World} {B m bp bi P ino : Nat} {p i : List Bool} (h : MapO wx B m bp bi P ino p i) (k : Nat) (hk : k < P) : wx.cell? ⟨m, 2, none⟩ = some (.slice (some ⟨bp, 0, none⟩) P P) ∧ wx.cell? ⟨bp, k, none⟩ = some (.bool (p.getD k false)) ∧ wx.frozen? ⟨bp, k, none⟩ = false := by
  have hbl : (boolV p).length = P := by rw [boolV_length]; exact h.lp
  have h1 : OwnL wx B 4 (.slice (some ⟨bp, 0, none⟩) (boolV p).length P) (boolV p) := by rw [hbl]; exact h.rp
  obtain ⟨g, c, e, _, _, _, h2, h3⟩ := h1.at (fun e => by rw [e] at hbl; simp at hbl; omega)
  injection e with e _ _
  injection e with e
  injection e with e
  subst e
  exact ⟨cell_of_heap h.at_ 2, h2 k _ (boolV_at p k (by rw [h.lp]; exact hk)), h3 k⟩
theorem MapO.cellI {wx : World} {B m bp bi P ino : Nat} {p i : List Bool} (h : MapO wx B m bp bi P ino p i) (k : Nat) (hk : k < ino) : wx.cell? ⟨m, 3, none⟩ = some (.slice (some ⟨bi, 0, none⟩) ino ino) ∧ wx.cell? ⟨bi, k, none⟩ = some (.bool (i.getD k false)) ∧ wx.frozen? ⟨bi, k, none⟩ = false := by
  have hbl : (boolV i).length = ino := by rw [boolV_length]; exact h.li
  have h1 : OwnL wx B 4 (.slice (some ⟨bi, 0, none⟩) (boolV i).length ino) (boolV i) := by rw [hbl]; exact h.ri
  obtain ⟨g, c, e, _, _, _, h2, h3⟩ := h1.at (fun e => by rw [e] at hbl; simp at hbl; omega)
  injection e with e _ _
  injection e with e
  injection e with e
  subst e
  exact ⟨cell_of_heap h.at_ 3, h2 k _ (boolV_at i k (by rw [h.li]; exact hk)), h3 k⟩
theorem three_drew (w : World) (a b c : Obj) : (((w.alloc a).alloc b).alloc c).drew.heap[w.heap.size]? = some a ∧ (((w.alloc a).alloc b).alloc c).drew.heap[w.heap.size + 1]? = some b ∧ (((w.alloc a).alloc b).alloc c).drew.heap[w.heap.size + 1 + 1]? = some c ∧ Below w.heap.size w (((w.alloc a).alloc b).alloc c).drew := by
  refine ⟨?_, ?_, ?_, ((((Below.refl _ _).alloc (Nat.le_refl _) _).alloc (by simp) _).alloc (by simp; omega) _).drew⟩
  · show (((w.alloc a).alloc b).alloc c).heap[w.heap.size]? = some a
    rw [Below.heap_alloc _ _ _ (by simp; omega), Below.heap_alloc _ _ _ (by simp)]; exact heap_alloc_new _ _
  · show (((w.alloc a).alloc b).alloc c).heap[w.heap.size + 1]? = some b
    rw [Below.heap_alloc _ _ _ (by simp)]
    have := heap_alloc_new (w.alloc a) b
    simpa using this
  · show (((w.alloc a).alloc b).alloc c).heap[w.heap.size + 1 + 1]? = some c
    have := heap_alloc_new ((w.alloc a).alloc b) c
    simpa using this
theorem made_bools (n : Nat) : (madeCells #[.bool false] n).toList = boolV (List.replicate n false) := by
  refine List.ext_getElem? fun k => ?_
  unfold boolV
  rw [Array.getElem?_toList, List.getElem?_map, List.getElem?_replicate]
  by_cases hk : k < n
  · simp [madeCells, hk, Nat.mod_one]
  · simp [madeCells, hk]
theorem own_made {w : World} {B b n : Nat} (h : w.heap[b]? = some (.cells (madeCells #[.bool false] n) 4 (0, 0))) (hB : B ≤ b) (hn : n ≤ 10000) : OwnL w B 4 (.slice (some ⟨b, 0, none⟩) n n) (boolV (List.replicate n false)) := by
  have hl : (boolV (List.replicate n false)).length = n := by rw [boolV_length, List.length_replicate]
  refine ⟨by simp, .inr ⟨b, n, _, by rw [hl], hB, h, by rw [hl]; exact Nat.le_refl _, by unfold maxLen; omega, by simp [madeCells], ?_⟩⟩
  rw [made_bools, Nat.mul_one, List.take_length]
theorem set_first (n P : Nat) (h : n < P) : (List.replicate n true ++ List.replicate (P - n) false).set n true = List.replicate (n + 1) true ++ List.replicate (P - (n + 1)) false := by
  rw [List.set_append_right _ _ (by rw [List.length_replicate]; exact Nat.le_refl _), List.length_replicate, Nat.sub_self, show P - n = (P - (n + 1)) + 1 from by omega, List.replicate_succ, List.set_cons_zero, List.replicate_succ', List.append_assoc]; rfl
set_option maxRecDepth 100000 in
set_option maxHeartbeats 2000000 in
theorem rmap_any (P ino : Nat) (w : World) (hm : 8 ≤ ino ∧ ino ≤ 512 ∧ ino % 8 = 0 ∧ P ≤ 4096 ∧ alFirst ino < P) :
    Calls Tryz.prog 114 #[.int .i64 P, .int .i64 ino] w fun e w' => ∃ m pv iv, e = .returned (.tuple #[.pointer (some ⟨m, 0, none⟩), .int .i64 0]) ∧ RMap w' (fun k => w.heap.size ≤ k ∧ k < w'.heap.size ∧ k ≠ m) m (RS.fresh P ino).p (RS.fresh P ino).i pv iv ∧ w.heap.size ≤ m ∧ Below w.heap.size w w' := by
  have h1 : decide ((ino : Int) < 8) = false := by simp; omega
  have h2 : decide (512 < (ino : Int)) = false := by simp; omega
  have h3 : (((ino : Int)).tmod 8 != 0) = false := by rw [show (8 : Int) = ((8 : Nat) : Int) from rfl, tmod_nat, hm.2.2.1]; rfl
  have h4 : decide (4096 < (P : Int)) = false := by simp; omega
  have hq : ((ino : Int)).tdiv 8 = ((ino / 8 : Nat) : Int) := tdiv_nat ino 8
  have h5 : decide ((P : Int) ≤ 3 + ((ino / 8 : Nat) : Int)) = false := by have := hm.2.2.2.2; unfold alFirst at this; simp; omega
  have hw5 : IntKind.i64.wrap (3 + ((ino / 8 : Nat) : Int)) = 3 + ((ino / 8 : Nat) : Int) := IntWalk.i64_in _ (by omega)
  have hmP := run_make_row' (P := Tryz.prog) 249 4 (.bool false) 1 Tryz.underlying249 info_bool rfl .i64 .i64 P (by omega) (by omega)
  have hmI := run_make_row' (P := Tryz.prog) 249 4 (.bool false) 1 Tryz.underlying249 info_bool rfl .i64 .i64 ino (by omega) (by omega)
  have hini : ∀ (wx : World) (m bp bi : Nat), wx.heap[m]? = some (rmapO P ino (.slice (some ⟨bp, 0, none⟩) P P) (.slice (some ⟨bi, 0, none⟩) ino ino)) → wx.heap[bp]? = some (.cells (madeCells #[.bool false] P) 4 (0, 0)) → wx.heap[bi]? = some (.cells (madeCells #[.bool false] ino) 4 (0, 0)) → w.heap.size ≤ bp ∧ w.heap.size ≤ bi ∧ w.heap.size ≤ m ∧ bp ≠ bi ∧ bp ≠ m ∧ bi ≠ m → MapO wx w.heap.size m bp bi P ino (List.replicate 0 true ++ List.replicate (P - 0) false) (List.replicate ino false) := fun wx m bp bi a b c d => by
    rw [List.replicate_zero, List.nil_append, Nat.sub_zero]
    exact ⟨a, own_made b d.1 (by omega), own_made c d.2.1 (by omega), List.length_replicate .., List.length_replicate .., d.2.2.2.1, d.2.2.2.2.1, d.2.2.2.2.2, d.2.2.1⟩
  generalize madeCells #[.bool false] P = Z at hmP hini
  generalize madeCells #[.bool false] ino = Z2 at hmI hini
  have HIni := Lib.hid hini
  clear hini
  have HM := Lib.hid hm
  obtain ⟨m1, m2, m3, m4, m5⟩ := hm
  unfold alFirst at m5
  have hb0 := Below.refl w.heap.size w
  go_enter Tryz.func114, Tryz.ntmps114
  go_wp2_with fail
  go_cut [6] (fun s6 wx => ∃ m bp bi, s6 = .pointer (some ⟨m, 0, none⟩) ∧ MapO wx w.heap.size m bp bi P ino (List.replicate 0 true ++ List.replicate (P - 0) false) (List.replicate ino false) ∧ Below w.heap.size w wx)
  · go_region_held3 (fun w' => Below w.heap.size w w') (first | assumption | exact Below.refl _ _ | exact (Below.refl _ _).drew | (refine Below.drew ?_; assumption) | (refine Below.alloc ?_ (Below.size (by assumption)) _; assumption) | (refine Below.drew (Below.alloc ?_ (Below.size (by assumption)) _); assumption)) (fail)
    · obtain ⟨q0, q1, q2, hb⟩ := three_drew w (.cells Z 4) (.cells Z2 4) (rmapO P ino (.slice (some ⟨w.heap.size, 0, none⟩) P P) (.slice (some ⟨w.heap.size + 1, 0, none⟩) ino ino))
      have hI := HIni.out _ _ _ _ q2 q0 q1 (by omega)
      have HX := Lib.hid (⟨hI, hb⟩ : _ ∧ _)
      clear q0 q1 q2 hI hb
      go_wp2
      go_meet
      exact ⟨_, _, _, rfl, HX.out.1, HX.out.2⟩
    · obtain ⟨q0, q1, q2, hb⟩ := three_drew w (.cells Z2 4) (.cells Z 4) (rmapO P ino (.slice (some ⟨w.heap.size + 1, 0, none⟩) P P) (.slice (some ⟨w.heap.size, 0, none⟩) ino ino))
      have hI := HIni.out _ _ _ _ q2 q1 q0 (by omega)
      have HX := Lib.hid (⟨hI, hb⟩ : _ ∧ _)
      clear q0 q1 q2 hI hb
      go_wp2
      go_meet
      exact ⟨_, _, _, rfl, HX.out.1, HX.out.2⟩
  · obtain ⟨m, bp, bi, rfl, hM, hb⟩ := hcut
    have HB0 := Lib.hid (⟨hM, hb⟩ : _ ∧ _)
    clear hM hb HIni hmP hmI
    obtain ⟨fi, hfi0⟩ : ∃ f, f = alFirst ino := ⟨_, rfl⟩
    have hfl : fi < P := by rw [hfi0]; exact HM.out.2.2.2.2
    have HF0 := Lib.hid hfi0
    clear hfi0
    go_wp2_with fail
    go_loopg [7] fi (fun gg i wx => ∃ k : Nat, i = .int .i64 k ∧ gg = fi - k ∧ k ≤ fi ∧ MapO wx w.heap.size m bp bi P ino (List.replicate k true ++ List.replicate (P - k) false) (List.replicate ino false) ∧ Below w.heap.size w wx)
    case atStart => exact ⟨0, rfl, rfl, Nat.zero_le _, HB0.out.1, HB0.out.2⟩
    case round =>
      obtain ⟨k, rfl, rfl, hk, hM, hb⟩ := hrel
      have hfi := rfirst_any _ m _ _ _ _ wr (hM.map ⟨m4, m2⟩)
      rw [List.length_replicate, ← HF0.out] at hfi
      have hf1 : 1 ≤ ino := by omega
      have HFi := Lib.hid hfi
      clear hfi
      by_cases hlt : k < fi
      · have hlt' : decide ((k : Int) < (fi : Int)) = true := by simp; omega
        obtain ⟨c2, ck, fk⟩ := hM.cellP k (by omega)
        have hset := hM.setP k true (by omega)
        rw [set_first k P (by omega)] at hset
        have hbs : Below w.heap.size w (wr.setCell ⟨bp, k, none⟩ (.bool true)) := hb.setCell (by have := (hM.rp.block (k := bp) rfl).1; exact this) _
        have hkP : k < P := by omega
        have HS := Lib.hid (⟨hset, hbs⟩ : _ ∧ _)
        clear hM hb hset hbs
        go_wp2_with (go_at_call 181; refine HFi.out.mono ?_; rintro e w9 ⟨rfl, rfl⟩)
        go_roundg (fi - (k + 1))
        case measure => omega
        case rel => exact ⟨k + 1, by go_num, rfl, hlt, HS.out.1, HS.out.2⟩
      · have hlt' : decide ((k : Int) < (fi : Int)) = false := by simp; omega
        obtain rfl : k = fi := by omega
        obtain ⟨c3, ck, fk⟩ := hM.cellI 0 (by omega)
        have hset := hM.setI 0 true (by omega)
        have hbs : Below w.heap.size w (wr.setCell ⟨bi, 0, none⟩ (.bool true)) := hb.setCell (by have := (hM.ri.block (k := bi) rfl).1; exact this) _
        have hfin := hset.map ⟨m4, m2⟩
        have hml := hset.ne.2.2.2
        have HS := Lib.hid (⟨hfin, hml, hbs⟩ : _ ∧ _ ∧ _)
        clear hM hb hset hbs hfin hml
        go_wp2_with (go_at_call 181; refine HFi.out.mono ?_; rintro e w9 ⟨rfl, rfl⟩)
        go_ret2
        obtain ⟨a1, a2, a3⟩ := HS.out
        refine ⟨m, .slice (some ⟨bp, 0, none⟩) P P, .slice (some ⟨bi, 0, none⟩) ino ino, rfl, ?_, a2, a3⟩
        have e1 : (RS.fresh P ino).p = List.replicate k true ++ List.replicate (P - k) false := by rw [HF0.out]; rfl
        have e2 : (RS.fresh P ino).i = (List.replicate ino false).set 0 true := by
          show true :: List.replicate (ino - 1) false = _
          rw [show ino = (ino - 1) + 1 from by omega, List.replicate_succ]; rfl
        rw [e1, e2]; exact a1
theorem files_new (n : Nat) : (madeCells #[.int .i64 0, .int .i64 0, .int .i64 0, .slice none 0 0, .slice none 0 0, .int .i64 0] (n * 6)).toList = filesC (List.replicate n (RF.none, .slice none 0 0, .slice none 0 0)) := by
  refine List.ext_getElem? fun k => ?_
  by_cases hk : k < n * 6
  · have h1 : (List.replicate n ((RF.none, .slice none 0 0, .slice none 0 0) : RFX))[k / 6]? = some (RF.none, .slice none 0 0, .slice none 0 0) := by rw [List.getElem?_replicate, if_pos (by omega)]
    have hz : ∀ j, j < 6 → (fileV RF.none (.slice none 0 0) (.slice none 0 0))[j]? = some ((#[.int .i64 0, .int .i64 0, .int .i64 0, .slice none 0 0, .slice none 0 0, .int .i64 0] : Array Value)[j]!) := by
      intro j hj
      match j with
      | 0 => rfl
      | 1 => rfl
      | 2 => rfl
      | 3 => rfl
      | 4 => rfl
      | 5 => rfl
      | j + 6 => omega
    have h2 := filesC_at h1 (hz (k % 6) (by omega))
    rw [show k / 6 * 6 + k % 6 = k from by omega] at h2
    rw [h2, Array.getElem?_toList]
    simp [madeCells, hk]
  · rw [List.getElem?_eq_none (by rw [Array.length_toList, size_madeCells]; omega), List.getElem?_eq_none (by rw [filesC_length, List.length_replicate]; omega)]
theorem own_files {w : World} {B b n : Nat} (h : w.heap[b]? = some (.cells (madeCells #[.int .i64 0, .int .i64 0, .int .i64 0, .slice none 0 0, .slice none 0 0, .int .i64 0] (n * 6)) 254 (0, 0))) (hB : B ≤ b) (hn : n ≤ 512) : w.ownsRow B 254 6 (.slice (some ⟨b, 0, none⟩) n n) n (filesC (List.replicate n (RF.none, .slice none 0 0, .slice none 0 0))) := by
  refine ⟨by rw [filesC_length, List.length_replicate], .inr ⟨b, n, _, rfl, hB, h, Nat.le_refl _, by unfold maxLen; omega, by rw [size_madeCells], ?_⟩⟩
  rw [files_new]
  exact List.take_of_length_le (by rw [filesC_length, List.length_replicate]; exact Nat.le_refl _)
end Go.Proofs.YtakmplpfjcddiaaGreatDoor
