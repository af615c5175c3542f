/-
  The walk over Make of the map, itself.
  Both stores side by side: the given one and the document's; a store that was just made; Commit at a store's cache.
  The cache of a disk of zeros for a file system, and the store that Make and New leave at it.
  The walks over the making of the document's store, and of an inode in it.
  fsys's Make at a new disk; the document's Make.
  opened: a file system on a new disk, and the document's.
  The walk over live of the law package.
-/
import Derived.Test.YtakmplpfjcddiaaGreatDoorG11
set_option linter.unusedVariables false
set_option linter.unusedSimpArgs false
set_option linter.deprecated false
namespace Go.Proofs.YtakmplpfjcddiaaGreatDoor
open Go.RowKit Go.Shelf Pa Go.Maps
attribute [local go_sem] bs_toList bs_size
theorem or_eq_xor (x k : Nat) (h : x.testBit k = false) : x ||| 2 ^ k = x ^^^ 2 ^ k := by
  refine Nat.eq_of_testBit_eq fun i => ?_
  rw [Nat.testBit_or, Nat.testBit_xor, Nat.testBit_two_pow]
  by_cases e : k = i
  · subst e; rw [h]; simp
  · simp [e]
theorem u8_or_bit (y : UInt8) (k : Nat) (hk : k < 8) (h : y.toNat.testBit k = false) : bits .or .u8 ((y.toNat : Nat) : Int) (2 ^ k % 256) = (((UInt8.ofNat (y.toNat ^^^ 2 ^ k)).toNat : Nat) : Int) := by
  have h1 : (2 : Nat) ^ k < 2 ^ 8 := Nat.pow_lt_pow_right (by decide) hk
  have h3 : ((2 : Int) ^ k % 256) = ((2 ^ k : Nat) : Int) := by
    have : ((2 : Int) ^ k) = ((2 ^ k : Nat) : Int) := by simp
    have h2' : (2 : Nat) ^ k < 256 := h1
    rw [this]
    generalize (2 : Nat) ^ k = z at h2'
    omega
  have hx := UInt8.toNat_lt y
  have ho : y.toNat ||| 2 ^ k < 256 := Nat.or_lt_two_pow (n := 8) hx h1
  rw [h3, UInt8.toNat_ofNat', ← or_eq_xor _ _ h, Nat.mod_eq_of_lt ho]
  show IntKind.u8.wrap ((BitVec.ofInt 8 ((y.toNat : Nat) : Int) ||| BitVec.ofInt 8 ((2 ^ k : Nat) : Int)).toNat : Int) = _
  rw [BitVec.toNat_or]
  have e1 : (BitVec.ofInt 8 ((y.toNat : Nat) : Int)).toNat = y.toNat := by rw [BitVec.ofInt_natCast, BitVec.toNat_ofNat, Nat.mod_eq_of_lt hx]
  have e2 : (BitVec.ofInt 8 ((2 ^ k : Nat) : Int)).toNat = 2 ^ k := by
    have : (BitVec.ofInt 8 ((2 ^ k : Nat) : Int)).toNat = 2 ^ k % 2 ^ 8 := by rw [BitVec.ofInt_natCast, BitVec.toNat_ofNat]
    rw [this, Nat.mod_eq_of_lt h1]
  rw [e1, e2]
  show ((y.toNat ||| 2 ^ k : Nat) : Int) % 256 = _
  omega
theorem cell_one_new' (w : World) (v : Value) (t : TypeId) (g : Nat) (hg : g = w.heap.size) : ∀ j u, [v][j]? = some u → (w.alloc (.cells #[v] t)).cell? ((⟨g, 0, none⟩ : Addr).add j) = some u := by
  subst hg; exact cell_one_new w v t
theorem xor_ofNat (y : UInt8) (k : Nat) (hk : k < 8) : (UInt8.ofNat (y.toNat ^^^ 2 ^ k)).toNat = (y.toNat ^^^ 2 ^ k % 256) := by
  have h1 : (2 : Nat) ^ k < 2 ^ 8 := Nat.pow_lt_pow_right (by decide) hk
  rw [UInt8.toNat_ofNat', Nat.mod_eq_of_lt (xor_lt256 (UInt8.toNat_lt y) hk), Nat.mod_eq_of_lt h1]
theorem NatsI.any {w : World} {I : Nat → Prop} {v : Value} {l : List Nat} (h : NatsI w I v l) : NatsI w (fun _ => True) v l := by
  obtain ⟨A, c, e, hc, h⟩ := h
  refine ⟨A, c, e, hc, fun hn => ?_⟩
  obtain ⟨b, o, e1, e2, e3⟩ := h hn
  exact ⟨b, o, e1, ⟨e2.1, trivial⟩, e3⟩
theorem LayI.drew {w0 : World} {B : Nat} {u : Value} {gs : List Nat} {φ : Nat → Str} {wx : World} (h : LayI w0 B u gs φ wx) : LayI w0 B u gs φ wx.drew :=
  h.off (M := fun _ => False) ((Off.refl _ wx).drew) (fun k e => e.elim) h.below.drew
theorem LayI.cellAt {w0 : World} {B gr n c : Nat} {gs : List Nat} {φ : Nat → Str} {wx : World} (h : LayI w0 B (.slice (some ⟨gr, 0, none⟩) n c) gs φ wx) {i b : Nat} (hb : gs[i]? = some b) : wx.cell? ⟨gr, i, none⟩ = some (slB b) := by
  obtain ⟨g, c', e, _, hc⟩ := h.at (by intro e; rw [e] at hb; cases hb)
  injection e with e1 e2 e3
  injection e1 with e1
  injection e1 with e1
  rw [e1]; exact hc i b hb
theorem make512 : ∀ w1, (Instr.makeSlice 37 (.int .i64 512) (.int .i64 512)).run Tryz.prog w1 = .ok (.slice (some ⟨w1.heap.size, 0, none⟩) 512 512) (w1.alloc (.cells (madeCells #[.int .u8 0] 512) 5)) := run_make_row' (P := Tryz.prog) 37 5 (.int .u8 0) 1 Tryz.underlying37 info_u8 rfl .i64 .i64 512 (by omega) (by omega)
set_option maxRecDepth 100000 in
set_option maxHeartbeats 4000000 in
theorem amake_any (c ino : Nat) (C : Ca) (R : Reg) (F : List (Nat × Obj)) (w : World) (h : Held w F c C R) (hm : 8 ≤ ino ∧ ino ≤ 512 ∧ ino % 8 = 0 ∧ C.G.pages ≤ 4096 ∧ alFirst ino < C.G.pages) (hf : C.fits (List.range (alFirst ino)) = true) (hmy : ∀ k, k < alFirst ino → (C.laid C.G.pages ino k).may k = true) :
    Calls Tryz.prog 109 #[.pointer (some ⟨c, 0, none⟩), .int .i64 ino] w fun e w' => ∃ m, e = .returned (.tuple #[.pointer (some ⟨m, 0, none⟩), .int .i64 0]) ∧ (∃ R', Held w' ((m, mapO c ino) :: F) c (C.laid C.G.pages ino (alFirst ino)) R' ∧ R.To R' w.heap.size ∧ Off R.m w w') ∧ w.heap.size ≤ m := by
  obtain ⟨i0, hi0, hz0, hz1, hz2⟩ := info_parts info_row
  obtain ⟨P, hP⟩ : ∃ P, P = C.G.pages := ⟨_, rfl⟩
  obtain ⟨f, hff⟩ : ∃ f, f = alFirst ino := ⟨_, rfl⟩
  rw [← hP] at hm hmy ⊢
  rw [← hff] at hf hmy ⊢
  have hf4 : 4 ≤ f ∧ f ≤ 67 := by unfold alFirst at hff; omega
  have hfP : f < P := by rw [hff]; exact hm.2.2.2.2
  have hms := make512
  obtain ⟨row, p, hrl, hex, hcr⟩ := id h.at_
  have hlog := clog_any c C R row p w hcr
  have hpg := pages_any p.l C.G p.RL w hcr.log
  rw [← hP] at hpg
  have hmay := fun w => amay_any P ino w hm
  have HLog := Lib.hid hlog
  have HPg := Lib.hid hpg
  have HMay := Lib.hid hmay
  have H0 := Lib.hid h
  have HP := Lib.hid hP
  have HFf := Lib.hid hff
  clear hlog hpg hmay h hcr hP hff
  go_enter Tryz.func109, Tryz.ntmps109
  go_wp2_with fail
  refine HLog.out.mono ?_
  rintro e w1 ⟨rfl, rfl⟩
  go_wp2_with fail
  refine HPg.out.mono ?_
  rintro e w1 ⟨rfl, nq, rfl⟩
  go_wp2_with fail
  refine (HMay.out _).mono ?_
  rintro e w1 ⟨rfl, rfl⟩
  go_wp2_with fail
  obtain ⟨W2, hW2⟩ : ∃ W2, W2 = (w.drewN nq).alloc (.cells #[.pointer (some ⟨c, 0, none⟩), .int .i64 ino] 239) := ⟨_, rfl⟩
  rw [← hW2]
  have hb02 : Below w.heap.size w W2 := by rw [hW2]; exact (below_drewN (Below.refl _ _) nq).alloc (Nat.le_refl _) _
  have hz2 : W2.heap.size = w.heap.size + 1 := by rw [hW2]; exact World.size_alloc _ _
  have hmp : W2.heap[w.heap.size]? = some (mapO c ino) := by rw [hW2]; exact heap_alloc_new _ _
  obtain ⟨R2, g2, m2, i2⟩ := (H0.out.below hb02).more hmp (fun e => Nat.lt_irrefl _ (H0.out.lt _ (.inl e)))
  have hR2 : ∀ k, R2.has k → k < W2.heap.size := g2.lt
  have hsup := super_any P ino W2 (by omega) (by omega)
  have HSup := Lib.hid hsup
  have HG2 := Lib.hid (⟨g2, m2, i2, hR2⟩ : Held W2 ((w.heap.size, mapO c ino) :: F) c C R2 ∧ _ ∧ _ ∧ _)
  have HB02 := Lib.hid hb02
  have HZ2 := Lib.hid hz2
  obtain ⟨m, hmE⟩ : ∃ m, m = w.heap.size := ⟨_, rfl⟩
  rw [← hmE] at HG2 hmp ⊢
  have HMp := Lib.hid hmp
  have HME := Lib.hid hmE
  clear hsup g2 m2 i2 hR2 hb02 hz2 hmp hW2 hmE
  refine HSup.out.mono ?_
  rintro e w3 ⟨g0, rfl, hg0, hB0, hb3⟩
  obtain ⟨φ1, hφ1⟩ : ∃ φ : Nat → Str, φ = fun n => if n = 0 then superB P ino else pageZ := ⟨_, rfl⟩
  have hL1 : LayI W2 W2.heap.size (.slice (some ⟨w3.heap.size, 0, none⟩) 1 1) [g0] φ1 (w3.alloc (.cells #[slB g0] 37)) := by
    have hba : Below w3.heap.size w3 (w3.alloc (.cells #[slB g0] 37)) := (Below.refl _ _).alloc (Nat.le_refl _) _
    refine ⟨⟨by simp, .inr ⟨w3.heap.size, 1, #[slB g0], rfl, hb3.size, heap_alloc_new _ _, Nat.le_refl _, by unfold maxLen; omega, rfl, rfl⟩⟩, by simp, fun i g hg => ?_, hb3.trans (hba.mono hb3.size)⟩
    have hi : i = 0 := by
      have := (List.getElem?_eq_some_iff.1 hg).1
      simpa using this
    subst hi
    cases hg
    refine ⟨?_, by rw [hφ1]; exact superB_length _ _, hg0, fun e => ?_⟩
    · have h9 := hB0.below hba hB0.lt
      rw [hφ1]; exact h9
    · have e : w3.heap.size = g0 := by simpa [Value.ownBlock] using e
      have := hB0.lt; omega
  have hmpx : ∀ wx, Below W2.heap.size W2 wx → wx.heap[m]? = some (mapO c ino) := fun wx hb => (hb.block m (by have := HZ2.out; have := HME.out; omega)).trans HMp.out
  have hfst : ∀ wx, Below W2.heap.size W2 wx → Calls Tryz.prog 173 #[.pointer (some ⟨m, 0, none⟩)] wx fun e w' => e = .returned (.int .i64 f) ∧ wx = w' := fun wx hb => by
    rw [HFf.out]; exact first_any m c ino wx (hmpx wx hb) hm.2.1
  have HFst := Lib.hid hfst
  have HL1 := Lib.hid hL1
  obtain ⟨q, hq⟩ : ∃ q, q = f - 1 := ⟨_, rfl⟩
  have hwq : IntKind.i64.wrap ((f : Int) - 1) = (q : Int) := by rw [IntWalk.i64_in _ (by omega)]; omega
  have hq67 : q + 1 = f := by omega
  have HQ := Lib.hid hq67
  have hq66 : q ≤ 66 := by omega
  have HPhi := Lib.hid hφ1
  clear hfst hL1 hq hB0 hg0 hb3 hq67 hφ1 hmpx
  go_wp2_with fail
  refine (HFst.out _ HL1.out.below).mono ?_
  rintro e w1 ⟨rfl, rfl⟩
  go_wp2_with fail
  go_loopg [8, 32] q (fun gg u i wx => ∃ (k : Nat) (gs : List Nat), i = .int .i64 k ∧ gg = q - k ∧ k ≤ q ∧ gs.length = k + 1 ∧ LayI W2 W2.heap.size u gs φ1 wx)
  case atStart => exact ⟨0, [g0], rfl, rfl, Nat.zero_le _, rfl, HL1.out⟩
  case round =>
    obtain ⟨k, gs, rfl, rfl, hk, hgl, hL⟩ := hrel
    have HL := Lib.hid hL
    have HGl := Lib.hid hgl
    clear hL HL1 hgl
    by_cases hlt : k < q
    · have hlt' : decide ((k : Int) < (q : Int)) = true := by simp; omega
      have hown1 := World.ownsRow.alloc (World.ownsRow.alloc HL.out.row (.cells (madeCells #[.int .u8 0] 512) 5)) (.cells #[slB wr.heap.size] 37)
      rw [List.length_map, HGl.out] at hown1
      have hkm : k + 1 + 1 ≤ maxLen := by unfold maxLen; omega
      have hkb : (k + 1 + 1) * 24 ≤ 140737488355328 := by omega
      have hbs := HL.out.below.size
      have hbase : W2.heap.size ≤ ((wr.alloc (.cells (madeCells #[.int .u8 0] 512) 5)).alloc (.cells #[slB wr.heap.size] 37)).heap.size := by simp; omega
      have hstep : ∀ v' w6, w6.ownsRow W2.heap.size 37 1 v' (k + 1 + 1) (gs.map slB ++ [slB wr.heap.size]) → ((wr.alloc (.cells (madeCells #[.int .u8 0] 512) 5)).alloc (.cells #[slB wr.heap.size] 37)).grownBy w6 u8.ownBlock → (v'.ownBlock = u8.ownBlock ∨ v'.ownBlock = some (wr.heap.size + 1 + 1)) → LayI W2 W2.heap.size v' (gs ++ [wr.heap.size]) φ1 w6 := fun v' w6 h1 h2 h3 =>
        HL.out.push (Nat.le_refl _) (by rw [HGl.out, HPhi.out]; exact if_neg (by omega)) (by rw [HGl.out]; exact h1) h2 h3
      have hnl : (gs ++ [wr.heap.size]).length = k + 1 + 1 := by rw [List.length_append, HGl.out]; rfl
      have HNl := Lib.hid hnl
      have HOwn := Lib.hid hown1
      have HStep := Lib.hid hstep
      clear hown1 hstep hnl
      go_wp2_with (at_builtin; refine wpList_append_own_at _ rfl _ _ 141 rfl W2.heap.size 37 i0 (.slice none 0 0) 1 24 Tryz.underlying141 hi0 hz0 hz1 hz2 rfl (by decide) u8 _ _ rfl HOwn.out ⟨wr.heap.size + 1, 0, none⟩ 1 1 [slB wr.heap.size] rfl rfl (cell_one_new' _ _ _ _ (by simp)) (by intro u hu; simp at hu; subst hu; rfl) hkm hkb hbase ?_; intro v' w6 hown' hgrow hnil hloc; simp only [World.size_alloc] at hloc; have hS6 := HStep.out v' w6 hown' hgrow hloc; have HS6 := Lib.hid hS6; clear hown' hgrow hnil hloc hS6)
      go_roundg (q - (k + 1))
      case measure => omega
      case rel => exact ⟨k + 1, gs ++ [wr.heap.size], by go_num, rfl, hlt, HNl.out, HS6.out⟩
    · have hlt' : decide ((k : Int) < (q : Int)) = false := by simp; omega
      obtain rfl : k = q := by omega
      have hgf : gs.length = f := by rw [HGl.out]; exact HQ.out
      obtain ⟨gr, cr, rfl, hcr, hrc⟩ := HL.out.at (by intro e; rw [e] at hgf; simp at hgf; omega)
      rw [hgf] at hcr
      obtain ⟨g1, hg1⟩ : ∃ g, gs[1]? = some g := ⟨_, List.getElem?_eq_getElem (by omega)⟩
      have hc1 := hrc 1 g1 hg1
      have hp1 : φ1 1 = pageZ := by rw [HPhi.out]; rfl
      have hb1 : wr.cell? ⟨g1, 0, none⟩ = some (.int .u8 0) := by
        have h9 := (HL.out.blk 1 g1 hg1).1
        rw [hp1] at h9
        exact h9.cell (i := 0) (y := 0) rfl
      have hf1 : wr.frozen? ⟨g1, 0, none⟩ = false := (HL.out.blk 1 g1 hg1).1.free 0
      have hL2 := HL.out.set hg1 0 1 (by decide) (Nat.le_refl _)
      rw [hp1] at hL2
      obtain ⟨φ2, hφ2⟩ : ∃ φ : Nat → Str, φ = fun n => if n = 1 then turnB pageZ 0 else φ1 n := ⟨_, rfl⟩
      have hL3 : LayI W2 W2.heap.size (.slice (some ⟨gr, 0, none⟩) gs.length cr) gs φ2 (wr.setCell ⟨g1, 0, none⟩ (.int .u8 1)) := by rw [hφ2]; exact hL2
      rw [hgf] at hL3 ⊢
      have HL3 := Lib.hid hL3
      have HRc := Lib.hid hrc
      have HGf := Lib.hid hgf
      have HPhi2 := Lib.hid hφ2
      clear hL2 hL3 hrc hgf hp1 hg1 hφ2
      go_wp2_with fail
      refine (HFst.out _ HL3.out.below).mono ?_
      rintro e w1 ⟨rfl, rfl⟩
      go_wp2_with fail
      obtain ⟨g2, hg2⟩ : ∃ g, gs[2]? = some g := ⟨_, List.getElem?_eq_getElem (by rw [HGf.out]; omega)⟩
      have HG2i := Lib.hid hg2
      have hφ20 : (fun n => if n = 2 then onB 0 else φ2 n) = φ2 := by
        funext n
        by_cases e : n = 2
        · subst e
          rw [if_pos rfl, HPhi2.out]
          show pageZ = (if (2 : Nat) = 1 then turnB pageZ 0 else φ1 2)
          rw [if_neg (by decide), HPhi.out]; rfl
        · rw [if_neg e]
      have H20 := Lib.hid hφ20
      clear hg2 hφ20 hc1 hb1 hf1 hlt' hlt hk
      go_loopg [45] f (fun gg i wx => ∃ j : Nat, i = .int .i64 j ∧ gg = f - j ∧ j ≤ f ∧ LayI W2 W2.heap.size (.slice (some ⟨gr, 0, none⟩) f cr) gs (fun n => if n = 2 then onB j else φ2 n) wx)
      case atStart => exact ⟨0, rfl, rfl, Nat.zero_le _, by rw [H20.out]; exact HL3.out⟩
      case round =>
        obtain ⟨j, rfl, rfl, hj, hL⟩ := hrel
        have HLj := Lib.hid hL
        clear hL HL3 HL
        by_cases hlt : j < f
        · have hlt' : decide ((j : Int) < (f : Int)) = true := by simp; omega
          have hc2 := HLj.out.cellAt HG2i.out
          obtain ⟨b1, _, b3, b4⟩ := HLj.out.blk 2 g2 HG2i.out
          have hb2 : Blk wr g2 512 (onB j) := b1
          have hj8 : j / 8 < 512 := by omega
          obtain ⟨y, hy⟩ : ∃ y, (onB j)[j / 8]? = some y := ⟨_, List.getElem?_eq_getElem (by rw [onB_length]; omega)⟩
          have hby := hb2.cell hy
          have hfz := hb2.free (j / 8)
          have htb : y.toNat.testBit (j % 8) = false := by
            have h9 := bitAt_onB j j (by omega)
            unfold bitAt at h9
            rw [List.getD_eq_getElem?_getD, hy] at h9
            simpa using h9
          have hset := HLj.out.set HG2i.out (j / 8) (UInt8.ofNat (y.toNat ^^^ 2 ^ (j % 8))) hj8 (Nat.le_refl _)
          have he : (fun n => if n = 2 then ((fun n => if n = 2 then onB j else φ2 n) 2).set (j / 8) (UInt8.ofNat (y.toNat ^^^ 2 ^ (j % 8))) else (fun n => if n = 2 then onB j else φ2 n) n) = (fun n => if n = 2 then onB (j + 1) else φ2 n) := by
            funext n
            by_cases e : n = 2
            · subst e
              simp only [if_true]
              show _ = turnB (onB j) j
              unfold turnB
              rw [List.getD_eq_getElem?_getD, hy]; rfl
            · simp only [if_neg e]
          rw [he] at hset
          have horb := u8_or_bit y (j % 8) (Nat.mod_lt _ (by decide)) htb
          have HSet := Lib.hid hset
          have HOrb := Lib.hid horb
          clear hset he horb htb hy hb2 b1 b3 b4
          go_wp2_with fail
          go_region
          all_goals (rw [HOrb.out]; go_wp2_with fail)
          go_roundg (f - (j + 1))
          case measure => omega
          case rel => exact ⟨j + 1, by go_num, rfl, hlt, by have h9 := HSet.out.drew; rw [xor_ofNat y (j % 8) (Nat.mod_lt _ (by decide))] at h9; exact h9⟩
        · have hlt' : decide ((j : Int) < (f : Int)) = false := by simp; omega
          obtain rfl : j = f := by omega
          have he : (fun n => if n = 2 then onB j else φ2 n) = layX P ino := by
            funext n
            unfold layX
            rw [← HFf.out, HPhi2.out, HPhi.out]
          have HL9 := HLj.out
          rw [he] at HL9
          obtain ⟨g2', m2', i2', hR2⟩ := HG2.out
          have hHr : Held wr ((m, mapO c ino) :: F) c C R2 := g2'.below HL9.below
          have hnum := numbers_any j wr (by omega)
          have HNum := Lib.hid hnum
          have HHr := Lib.hid hHr
          have HL := Lib.hid HL9
          clear hnum hHr HL9 HLj he g2' m2' i2' hR2 hlt
          go_wp2_with fail
          refine (HFst.out _ HL.out.below).mono ?_
          rintro e w1 ⟨rfl, rfl⟩
          go_wp2_with fail
          refine HNum.out.mono ?_
          rintro e w4 ⟨v4, rfl, hO4, hb4⟩
          have hfits := fits_any m c ino v4 (List.range j) C R2 _ w4 (HHr.out.below hb4) (List.mem_cons_self ..) hO4.nats.any (by rw [List.length_range]; omega)
          rw [hf] at hfits
          have HFits := Lib.hid hfits
          have HL4 := Lib.hid (HL.out.below.trans (hb4.mono HL.out.below.size))
          have hrows : ∀ wx, Below wr.heap.size wr wx → ∀ i g, gs[i]? = some g → wx.cell? ⟨gr, i, none⟩ = some (slB g) ∧ Blk wx g 512 (layX P ino i) ∧ ¬ R2.has g ∧ gr < wr.heap.size ∧ g < wr.heap.size ∧ ¬ R2.has gr := fun wx hb i g hg => by
            obtain ⟨h1, _, h3, _⟩ := HL.out.blk i g hg
            have h5 := HL.out.cellAt hg
            have h6 : W2.heap.size ≤ gr ∧ gr < wr.heap.size := HL.out.row.block rfl
            refine ⟨(hb.cell (p := ⟨gr, i, none⟩) h6.2).trans h5, h1.below hb h1.lt, fun e => ?_, h6.2, h1.lt, fun e => ?_⟩
            · have := HG2.out.2.2.2 g e; omega
            · have := HG2.out.2.2.2 gr e; omega
          have HRows := Lib.hid hrows
          have HB4 := Lib.hid hb4
          clear hfits hO4 hb4 hrows
          go_wp2_with fail
          refine HFits.out.mono ?_
          rintro e w5 ⟨rfl, hb5⟩
          have hb45 : Below wr.heap.size wr w5 := HB4.out.trans (hb5.mono HB4.out.size)
          have hH5 := HHr.out.below hb45
          have HH5 := Lib.hid hH5
          have HB45 := Lib.hid hb45
          clear hb5 hb45 hH5
          go_wp2_with fail
          go_loopg [69] j (fun gg i wx => ∃ (k2 : Nat) (R4 : Reg), i = .int .i64 k2 ∧ gg = j - k2 ∧ k2 ≤ j ∧ Held wx ((m, mapO c ino) :: F) c (C.laid P ino k2) R4 ∧ R2.To R4 w5.heap.size ∧ Off R2.m w5 wx)
          case atStart => exact ⟨0, R2, rfl, rfl, Nat.zero_le _, HH5.out, Reg.To.refl _ _, Off.refl _ _⟩
          case round =>
            obtain ⟨k2, R4, rfl, rfl, hk2, h4, t4, o4⟩ := hrel
            by_cases hlt : k2 < j
            · have hlt' : decide ((k2 : Int) < (j : Int)) = true := by simp; omega
              obtain ⟨g, hg⟩ : ∃ g, gs[k2]? = some g := ⟨_, List.getElem?_eq_getElem (by rw [HGf.out]; exact hlt)⟩
              obtain ⟨r1, r2, r3, r4, r5, r6⟩ := HRows.out w5 HB45.out k2 g hg
              have hcg := (o4.cell (p := ⟨gr, k2, none⟩) (Nat.lt_of_lt_of_le r4 HB45.out.size) (fun e => r6 (.inl e))).trans r1
              have hbk : Blk wr g 512 (layX P ino k2) := r2.keep (o4.block g r2.lt (fun e => r3 (.inl e)))
              have hby := hbk.bytes (by rw [layX_length]; decide)
              rw [layX_length] at hby
              have hwr := hwrite_any k2 c (C.laid P ino k2) R4 _ (slB g) (layX P ino k2) wr h4 (by rw [Ca.laid_G, ← HP.out]; omega) hby (layX_length _ _ _)
              rw [if_pos (hmy k2 hlt), if_pos (hmy k2 hlt)] at hwr
              have HWr := Lib.hid hwr
              have HT4 := Lib.hid (⟨t4, o4⟩ : _ ∧ _)
              clear hwr h4 t4 o4 r1 r2 r3 r5 r6 hbk hby hg
              go_wp2_with fail
              refine HWr.out.mono ?_
              rintro e w6 ⟨rfl, R6, h6, t6, o6⟩
              have HF6 := Lib.hid (⟨h6, HT4.out.1.trans t6 HT4.out.2.size, HT4.out.2.trans o6 HT4.out.1.m⟩ : Held w6 ((m, mapO c ino) :: F) c (C.laid P ino (k2 + 1)) R6 ∧ R2.To R6 w5.heap.size ∧ Off R2.m w5 w6)
              clear h6 t6 o6
              go_wp2_with fail
              go_roundg (j - (k2 + 1))
              case measure => omega
              case rel => exact ⟨k2 + 1, R6, by go_num, rfl, hlt, HF6.out⟩
            · have hlt' : decide ((k2 : Int) < (j : Int)) = false := by simp; omega
              obtain rfl : k2 = j := by omega
              obtain ⟨_, m2, i2, hR2⟩ := HG2.out
              have hw5 : w.heap.size ≤ w5.heap.size := by
                have := HB45.out.size
                have h9 := HL4.out.size
                have := HZ2.out
                have := HL.out.below.size
                omega
              have hoff : Off R.m w wr := (((Off.of_below HB02.out R.m).step ((HL.out.below.trans (HB45.out.mono HL.out.below.size)))).trans o4 (fun e he => .inl ((m2 e).1 he)))
              have hto : R.To R4 w.heap.size := ⟨fun e he => by
                rcases t4.m e he with h1 | h1
                · exact .inl ((m2 e).1 h1)
                · right; omega, fun e he => by
                rcases t4.i e he with h1 | h1
                · rcases (i2 e).1 h1 with h2 | h2
                  · exact .inl h2
                  · right; rw [h2, HME.out]; exact Nat.le_refl _
                · right; omega⟩
              have HF := Lib.hid (⟨R4, h4, hto, hoff⟩ : ∃ R', Held wr ((m, mapO c ino) :: F) c (C.laid P ino k2) R' ∧ R.To R' w.heap.size ∧ Off R.m w wr)
              clear h4 t4 o4 hto hoff m2 i2 hR2
              go_wp2_with fail
              go_ret2
              exact ⟨m, rfl, HF.out, by rw [HME.out]; exact Nat.le_refl _⟩
end Go.Proofs.YtakmplpfjcddiaaGreatDoor

namespace Go.Proofs.YtakmplpfjcddiaaGreatDoor
open Go.RowKit Go.Shelf Pa
attribute [local go_sem] bs_toList bs_size
/-- The given store at s stands for T, the document's at r for U and keeps K; they share no block, and all lie at or above B. -/
def Pair (B : Nat) (w : World) (s r : Nat) (T U K : RS) (N : Nat) : Prop := ∃ R Q, StI w s T R N ∧ RefI w r U K Q ∧ (∀ k, R.has k → ¬ Q.has k) ∧ (∀ k, R.has k → B ≤ k) ∧ (∀ k, Q.has k → B ≤ k) ∧ B ≤ w.heap.size
theorem Pair.left {B : Nat} {w : World} {s r : Nat} {T U K : RS} {N : Nat} (h : Pair B w s r T U K N) : ∃ R, StI w s T R N ∧ ∀ w' T' N', StStep w s T' R N' w' → Pair B w' s r T' U K N' ∧ Below B w w' := by
  obtain ⟨R, Q, h1, h2, hd, hR, hQ, hB⟩ := h
  refine ⟨R, h1, fun w' T' N' ⟨R', g, t, o⟩ => ⟨⟨R', Q, g, h2.off o (fun k hk e => hd k (.inl e) hk), fun k hk e => ?_, fun k hk => ?_, hQ, Nat.le_trans hB o.size⟩, o.below hB (fun k hk => hR k (.inl hk))⟩⟩
  · rcases t.has hk with hk | hk
    · exact hd k hk e
    · have := h2.lt k e; omega
  · rcases t.has hk with hk | hk
    · exact hR k hk
    · omega
theorem Pair.right {B : Nat} {w : World} {s r : Nat} {T U K : RS} {N : Nat} (h : Pair B w s r T U K N) : ∃ Q, RefI w r U K Q ∧ ∀ w' U' K', RefStep w r U' K' Q w' → Pair B w' s r T U' K' N ∧ Below B w w' := by
  obtain ⟨R, Q, h1, h2, hd, hR, hQ, hB⟩ := h
  refine ⟨Q, h2, fun w' U' K' ⟨Q', g, t, o⟩ => ⟨⟨R, Q', h1.off o (fun k hk e => hd k hk (.inl e)), g, fun k hk e => ?_, hR, fun k hk => ?_, Nat.le_trans hB o.size⟩, o.below hB (fun k hk => hQ k (.inl hk))⟩⟩
  · rcases t.has e with e | e
    · exact hd k hk e
    · have := h1.lt k hk; omega
  · rcases t.has hk with hk | hk
    · exact hQ k hk
    · omega
theorem Pair.below {B : Nat} {w w' : World} {s r : Nat} {T U K : RS} {N : Nat} (h : Pair B w s r T U K N) (hb : Below w.heap.size w w') : Pair B w' s r T U K N := by
  obtain ⟨R, Q, h1, h2, hd, hR, hQ, hB⟩ := h
  exact ⟨R, Q, h1.below hb, h2.below hb, hd, hR, hQ, Nat.le_trans hB hb.size⟩
theorem Pair.base {B B' : Nat} {w : World} {s r : Nat} {T U K : RS} {N : Nat} (h : Pair B w s r T U K N) (hB' : B' ≤ B) : Pair B' w s r T U K N := by
  obtain ⟨R, Q, h1, h2, hd, hR, hQ, hB⟩ := h
  exact ⟨R, Q, h1, h2, hd, fun k hk => Nat.le_trans hB' (hR k hk), fun k hk => Nat.le_trans hB' (hQ k hk), Nat.le_trans hB' hB⟩
/-- The cache of a disk of zeros. -/
def C0 : Ca := ⟨⟨Dk.begun (List.replicate 201 zSec), 100⟩, 16, []⟩
theorem lg_pages (n : Nat) : (⟨Dk.begun (List.replicate n zSec), 100⟩ : Lg).pages = n - 100 - 1 := by
  unfold Lg.pages Dk.begun
  simp only [List.length_replicate]
theorem scommit_at (s m c N : Nat) (T : RS) (R : Reg) (w : World) (h : StI w s T R N) (hs : w.heap[s]? = some (storeO m)) (hm : w.heap[m]? = some (mapO c T.inodes)) (hN : N + 1000 < 1000000000) :
    Calls Tryz.prog 90 #[.pointer (some ⟨c, 0, none⟩)] w fun e w' => e = .returned (.int .i64 0) ∧ StStep w s T R (N + 206) w' := by
  obtain ⟨m', c', C, F, h1, h2, h3, h4, h5, h6, h7⟩ := h
  obtain rfl : m = m' := by
    have := (h1.fix _ h3).1
    rw [hs] at this
    simpa using this
  obtain rfl : c = c' := by
    have := (h1.fix _ h2).1
    rw [hm] at this
    simpa using this
  refine (hcommit_any c C R F w h1 h6 (by omega)).mono ?_
  rintro e w' ⟨rfl, G', hG, R', k1, k2, k3⟩
  have hrd : ∀ n, n < C.G.pages → (⟨G', C.most, []⟩ : Ca).rd n = C.rd n := fun n hn => hG.rd h1.at_.ok h1.at_.nodup h1.at_.safe hn
  have hpg : (⟨G', C.most, []⟩ : Ca).G.pages = C.G.pages := hG.pages
  have hs := h4.small
  have hrel : Rel ⟨G', C.most, []⟩ T (fun _ => False) := by
    have hok : (⟨G', C.most, []⟩ : Ca).Ok := k1.at_.ok
    refine { h4 with rm := ⟨hok, List.nodup_nil, by show G'.pages ≤ G'.cap; rw [hG.pages, hG.cap]; exact h4.rm.cap⟩, np := by rw [hpg]; exact h4.np, npl := by rw [hpg]; exact h4.npl, ino8 := by rw [hpg]; exact h4.ino8, len := fun n hn => ?_, pb := fun n hn => ?_, ib := fun j hj => ?_, files := fun j hl => ⟨(h4.files j hl).1, { (h4.files j hl).2 with own := fun n hn => by rw [hpg]; exact (h4.files j hl).2.own n hn, bytes := fun k hk => ?_ }⟩, rcd := fun j hl he => ⟨?_, fun h0 => ?_⟩ }
    · rw [hpg] at hn; rw [hrd n hn]; exact h4.len n hn
    · rw [hpg] at hn; rw [hrd 2 (by omega)]; exact h4.pb n hn
    · rw [hrd 1 (by omega)]; exact h4.ib j hj
    · rw [hrd _ (h4.table_free hl (pgs_data (getD_mem hk))).2]; exact (h4.files j hl).2.bytes k hk
    · have hlt := RS.live_lt hl
      have h8 := h4.ino8.1
      have : 3 + j / 8 < T.first := by unfold RS.first alFirst; omega
      rw [hrd _ (by omega)]; exact (h4.rcd j hl he).1
    · rw [hrd _ (h4.table_free hl (pgs_ind h0)).2]; exact (h4.rcd j hl he).2 h0
  exact ⟨rfl, R', ⟨m, c, _, F, k1, h2, h3, hrel, h5, hG.wait h6, by have := hG.ops h1.at_.ok; show G'.D.ops.length ≤ _; omega⟩, k2, k3⟩
end Go.Proofs.YtakmplpfjcddiaaGreatDoor

namespace Go.Proofs.YtakmplpfjcddiaaGreatDoor
open Go.RowKit Go.Shelf Pa
attribute [local go_sem] bs_toList bs_size
/-- The cache of a disk of zeros with P pages behind the log. -/
def CP (P : Nat) : Ca := ⟨⟨Dk.begun (List.replicate (P + 101) zSec), 100⟩, 64, []⟩
theorem CP_pages (P : Nat) : (CP P).G.pages = P := (lg_pages (P + 101)).trans (by omega)
theorem CP_zero (P : Nat) : ((Dk.begun (List.replicate (P + 101) zSec)).rd 0).any (fun b => b != 0) = false := by
  show ((List.replicate (P + 101) zSec).getD 0 []).any (fun b => b != 0) = false
  rw [List.getD_eq_getElem?_getD, List.getElem?_replicate, if_pos (by omega)]
  show zSec.any (fun b => b != 0) = false
  rw [List.any_eq_false]
  intro x hx
  rw [List.eq_of_mem_replicate hx]; decide
theorem CP_rm (P : Nat) (hP : P ≤ 100) : (CP P).Rm := ⟨⟨⟨(by show 1 ≤ 64; decide), (by show 64 ≤ 64; decide)⟩, fun p hp => (by cases hp), Nat.zero_le _⟩, List.nodup_nil, by rw [CP_pages]; show P ≤ min 100 100; omega⟩
theorem CP_all (P : Nat) : ∀ n, n < (CP P).G.pages → ((CP P).rd n).length = 512 := fun n hn => by
  rw [CP_pages] at hn
  show ((List.replicate (P + 101) zSec).getD (100 + 1 + n) []).length = 512
  rw [List.getD_eq_getElem?_getD, List.getElem?_replicate, if_pos (by omega)]
  exact List.length_replicate ..
/-- What Make and New leave. -/
theorem freshP_store {w : World} {m c P : Nat} {R : Reg} (hP : 8 ≤ P ∧ P ≤ 100) (h : Held w ((m, mapO c 32) :: []) c ((CP P).laid P 32 (alFirst 32)) R) :
    ∃ R', StI (w.alloc (.cells #[.pointer (some ⟨m, 0, none⟩)] 180)) w.heap.size (RS.fresh P 32) R' 0 ∧ (∀ k, R'.has k → R.has k ∨ k = w.heap.size) ∧ R'.i w.heap.size ∧ R'.i m := by
  have h1 := h.below (w' := w.alloc (.cells #[.pointer (some ⟨m, 0, none⟩)] 180)) ((Below.refl _ _).alloc (Nat.le_refl _) _)
  obtain ⟨R', h2, h3, h4⟩ := h1.more (b := w.heap.size) (o := storeO m) (heap_alloc_new _ _) (fun e => by have := h.lt _ (.inl e); omega)
  have hrf := rel_fresh (ino := 32) (CP_rm P hP.2) (CP_all P) (by rw [CP_pages]; unfold alFirst; omega)
  rw [CP_pages] at hrf
  refine ⟨R', ⟨m, c, _, _, h2, by simp [RS.inodes, fresh_i], by simp, hrf, fresh_tight _ _, by rw [Ca.laid_G]; rfl, by rw [Ca.laid_G]; exact Nat.le_refl _⟩, fun k hk => ?_, (h4 _).2 (.inr rfl), (h4 _).2 (.inl (h.fix (m, mapO c 32) (by simp)).2)⟩
  rcases hk with hk | hk
  · exact .inl (.inl ((h3 k).1 hk))
  · rcases (h4 k).1 hk with hk | hk
    · exact .inl (.inr hk)
    · exact .inr hk
end Go.Proofs.YtakmplpfjcddiaaGreatDoor

namespace Go.Proofs.YtakmplpfjcddiaaGreatDoor
open Go.RowKit Go.Shelf Pa
attribute [local go_sem] bs_toList bs_size
/-- The map turns. -/
theorem RNow.turn {w w1 : World} {R : Reg} {r m : Nat} {T : RS} {lv u2 u3 pv iv pv' iv' : Value} {X : List RFX} {p' i' : List Bool} (h : RNow w R r m T lv u2 u3 pv iv X) (hm : RMap w1 (wid R.i w w1) m p' i' pv' iv') (ho : Off (fun k => k = m) w w1) (hl : i'.length = T.i.length) :
    RNow w1 (R.plus w.heap.size w1.heap.size) r m { T with p := p', i := i' } lv u2 u3 pv' iv' X := by
  have hz := ho.size
  have hnm : ∀ k, R.i k → ¬ k = m := fun k hk e => h.apart k (e ▸ h.mm) hk
  refine ⟨(ho.block r (h.lt r (.inl h.mr)) h.ne).trans h.at_, h.mr, h.mm, hm, (h.files.off ho hnm).mono (fun k hk _ => .inl hk), h.eq, ⟨by show T.l.length = i'.length; rw [hl]; exact h.small.1, h.small.2⟩, ?_, ?_⟩
  · intro k hk e
    rcases e with e | e
    · exact h.apart k hk e
    · have := h.lt k (.inl hk); omega
  · intro k hk
    rcases hk with hk | hk | hk
    · have := h.lt k (.inl hk); omega
    · have := h.lt k (.inr hk); omega
    · exact hk.2
/-- What an act leaves, put together. -/
theorem RKept.step {w w1 : World} {R : Reg} {r m a b : Nat} {T T1 K : RS} {lv lv1 u2 u3 pv iv pv1 iv1 pk ik : Value} {X X1 : List RFX} {mk : Nat} {Y : List RFX} (hN : RNow w R r m T lv u2 u3 pv iv X) (h : RKept w R K u2 u3 mk pk ik Y) (h1 : RNow w1 (R.plus a b) r m T1 lv1 u2 u3 pv1 iv1 X1) (ho : Off R.m w w1) (ha : w.heap.size ≤ a) : RefStep w r T1 K R w1 :=
  ⟨R.plus a b, ⟨m, lv1, u2, u3, pv1, iv1, X1, mk, pk, ik, Y, h1, (h.off ho (fun k hk e => hN.apart k e hk)).mono (fun k hk _ => .inl hk)⟩, ⟨fun _ h => .inl h, fun k h => h.imp id fun h => Nat.le_trans ha h.1⟩, ho⟩
set_option maxRecDepth 100000 in
set_option maxHeartbeats 1000000 in
theorem rmk_any (r j k md : Nat) (T K : RS) (R : Reg) (w : World) (h : RefI w r T K R) (ht : takeB T.i = some j) (hk : 1 ≤ k ∧ k ≤ 3) (hmd : md ≤ 4095) :
    Calls Tryz.prog 116 #[.pointer (some ⟨r, 0, none⟩), .int .i64 k, .int .i64 md] w fun e w' => e = .returned (.tuple #[.int .i64 j, .int .i64 0]) ∧ RefStep w r (T.mkI j k md) K R w' := by
  obtain ⟨m, lv, u2, u3, pv, iv, X, mk, pk, ik, Y, h1, h2⟩ := h
  have c0 : w.cell? ⟨r, 0, none⟩ = some (.pointer (some ⟨m, 0, none⟩)) := cell_of_heap h1.at_ 0
  have hin := rinode_any R.i m T.p T.i pv iv w h1.map (fun e => h1.apart m h1.mm e)
  have hjl : j < T.l.length := by rw [h1.small.1]; exact (takeB_some ht).1
  have hset : ∀ w1 pv' iv', RMap w1 (wid R.i w w1) m T.p (T.i.set j true) pv' iv' → Off (fun k => k = m) w w1 → Calls Tryz.prog 185 #[.pointer (some ⟨r, 0, none⟩), .int .i64 j, .agg #[.int .i64 k, .int .i64 md, .int .i64 1, .slice none 0 0, .slice none 0 0, .int .i64 0]] w1 fun e w' => e = .returned (.tuple #[]) ∧ RefStep w r (T.mkI j k md) K R w' := by
    intro w1 pv' iv' hm ho
    have hz := ho.size
    have ht1 := h1.turn hm ho (List.length_set ..)
    refine (rset_any r m j _ _ lv u2 u3 pv' iv' (.slice none 0 0) (.slice none 0 0) X (RF.new k md) w1 ht1 hjl ⟨OwnL.nil _ _ _, fun k hk => by cases hk⟩ ⟨OwnL.nil _ _ _, fun k hk => by cases hk⟩ ⟨Nat.zero_le _, Nat.zero_le _⟩).mono ?_
    rintro e w' ⟨rfl, lv', hN, ho'⟩
    refine ⟨rfl, ?_⟩
    have hoR : Off R.m w w1 := ho.mono fun k e => .inl (by rw [e]; exact h1.mm)
    have hoR' : Off R.m w w' := hoR.trans ho' fun k e => .inl (by rw [e]; exact h1.mr)
    have hK := (h2.off hoR' (fun k hk e => h1.apart k e hk)).mono (R' := (R.plus w.heap.size w1.heap.size).plus w1.heap.size w'.heap.size) (fun k hk _ => .inl (.inl hk))
    refine ⟨(R.plus w.heap.size w1.heap.size).plus w1.heap.size w'.heap.size, ⟨m, lv', u2, u3, pv', iv', _, mk, pk, ik, Y, hN, hK⟩, ⟨fun _ h => .inl h, fun k h => ?_⟩, hoR'⟩
    rcases h with (h | h) | h
    · exact .inl h
    · exact .inr h.1
    · exact .inr (by omega)
  have hk1 : ((k : Int) != 1 && (k : Int) != 2 && (k : Int) != 3) = false := by
    have : k = 1 ∨ k = 2 ∨ k = 3 := by omega
    rcases this with rfl | rfl | rfl <;> rfl
  have HIn := Lib.hid hin
  have HSet := Lib.hid hset
  have HT := Lib.hid ht
  clear hin hset ht h1 h2 hjl
  have h3 : k = 1 ∨ k = 2 ∨ k = 3 := by omega
  go_enter Tryz.func116, Tryz.ntmps116
  have hm1 : decide ((md : Int) < 0) = false := by simp
  have hm2 : decide (4095 < md) = false := by simp; omega
  rcases h3 with rfl | rfl | rfl
  all_goals (
    go_wp2_with fail
    refine HIn.out.mono ?_
    rintro e w1 hp
    unfold TakenI at hp
    rw [HT.out] at hp
    obtain ⟨rfl, pv', iv', hm, ho⟩ := hp
    have HS := Lib.hid (HSet.out w1 pv' iv' hm ho)
    clear hm ho
    go_wp2_with (go_at_call 185; refine HS.out.mono ?_; rintro e w2 ⟨rfl, hst⟩)
    go_ret2
    exact ⟨rfl, hst⟩)
set_option maxRecDepth 100000 in
set_option maxHeartbeats 1000000 in
theorem rnew_any (I : Nat → Prop) (m : Nat) (p i : List Bool) (pv iv : Value) (w : World) (h : RMap w I m p i pv iv) (ha : ¬ I m) (hI : ∀ k, I k → k < w.heap.size) :
    Calls Tryz.prog 115 #[.pointer (some ⟨m, 0, none⟩)] w fun e w' => ∃ r, e = .returned (.pointer (some ⟨r, 0, none⟩)) ∧ (∃ R, RefI w' r ⟨p, i, List.replicate i.length RF.none⟩ ⟨p, i, List.replicate i.length RF.none⟩ R ∧ ∀ k, R.has k → I k ∨ k = m ∨ w.heap.size ≤ k) ∧ Off (fun k => k = m) w w' := by
  obtain ⟨i0, hi0, hz0, hz1, hz2⟩ := info_parts info_file
  have hf := h.few
  obtain ⟨n, hn⟩ : ∃ n, n = i.length := ⟨_, rfl⟩
  have hin := rinodes_any I m p i pv iv w h
  have hml := h.lt
  have hmk := fun w => run_make (P := Tryz.prog) w 228 254 i0 _ Tryz.underlying228 hi0 hz0 .i64 .i64 n n (by omega) (by omega) (by rw [hz2]; omega) (by omega)
  simp only [hz1, Int.toNat_natCast] at hmk
  have hnow : ∀ W, W = (w.alloc (.cells (madeCells #[.int .i64 0, .int .i64 0, .int .i64 0, .slice none 0 0, .slice none 0 0, .int .i64 0] (n * 6)) 254)).alloc (rstoO m (.slice (some ⟨w.heap.size, 0, none⟩) n n) (.pointer none) (.slice none 0 0)) →
      RNow W ⟨fun k => k = m ∨ k = w.heap.size + 1, fun k => I k ∨ k = w.heap.size⟩ (w.heap.size + 1) m ⟨p, i, List.replicate i.length RF.none⟩ (.slice (some ⟨w.heap.size, 0, none⟩) n n) (.pointer none) (.slice none 0 0) pv iv (List.replicate n (RF.none, .slice none 0 0, .slice none 0 0)) ∧ Below w.heap.size w W := by
    intro W hW
    have hb : Below w.heap.size w W := by rw [hW]; exact ((Below.refl _ _).alloc (Nat.le_refl _) _).alloc (by simp) _
    have hsz : W.heap.size = w.heap.size + 2 := by rw [hW]; simp
    have h0 : W.heap[w.heap.size]? = some (.cells (madeCells #[.int .i64 0, .int .i64 0, .int .i64 0, .slice none 0 0, .slice none 0 0, .int .i64 0] (n * 6)) 254 (0, 0)) := by
      rw [hW, Below.heap_alloc _ _ _ (by simp)]; exact heap_alloc_new _ _
    have h1 : W.heap[w.heap.size + 1]? = some (rstoO m (.slice (some ⟨w.heap.size, 0, none⟩) n n) (.pointer none) (.slice none 0 0)) := by
      rw [hW]
      have := heap_alloc_new (w.alloc (.cells (madeCells #[.int .i64 0, .int .i64 0, .int .i64 0, .slice none 0 0, .slice none 0 0, .int .i64 0] (n * 6)) 254)) (rstoO m (.slice (some ⟨w.heap.size, 0, none⟩) n n) (.pointer none) (.slice none 0 0))
      simpa using this
    refine ⟨⟨h1, .inr rfl, .inl rfl, (h.below hb).mono (fun k hk _ => .inl hk), ⟨?_, fun k hk => by cases hk; exact .inr rfl, fun x hx => ?_⟩, ?_, ⟨?_, fun f hf => ?_⟩, ?_, ?_⟩, hb⟩
    · rw [List.length_replicate]
      exact own_files h0 (Nat.zero_le _) (by omega)
    · rw [List.eq_of_mem_replicate hx]
      exact ⟨⟨OwnL.nil _ _ _, fun k hk => by cases hk⟩, ⟨OwnL.nil _ _ _, fun k hk => by cases hk⟩⟩
    · rw [List.map_replicate, hn]
    · exact List.length_replicate ..
    · rw [List.eq_of_mem_replicate hf]
      exact ⟨Nat.zero_le _, Nat.zero_le _⟩
    · rintro k (rfl | rfl) (e | e)
      · exact ha e
      · omega
      · have := hI _ e; omega
      · omega
    · rintro k ((rfl | rfl) | (e | rfl))
      · omega
      · omega
      · have := hI k e; omega
      · omega
  rw [← hn] at hin hnow
  have hnn : n ≤ 512 := by omega
  generalize hT : (⟨p, i, List.replicate n RF.none⟩ : RS) = T at hnow
  rw [← hn, hT]
  have HNow := Lib.hid hnow
  have HIn := Lib.hid hin
  clear hnow hin h hn hT hf ha hI
  go_enter Tryz.func115, Tryz.ntmps115
  go_wp2_with (go_at_call 182; refine HIn.out.mono ?_; rintro e w1 ⟨rfl, rfl⟩)
  obtain ⟨hN, hb⟩ := HNow.out _ rfl
  have hcm := rcommit_any _ _ _ _ _ _ _ _ _ _ _ hN
  have hz := hb.size
  have HB := Lib.hid hb
  clear hN hb
  refine hcm.mono ?_
  rintro e w2 ⟨rfl, R2, g2, t2, o2⟩
  have hfin : (∃ R, RefI w2 (w1.heap.size + 1) T T R ∧ ∀ k, R.has k → I k ∨ k = m ∨ w1.heap.size ≤ k) ∧ Off (fun k => k = m) w1 w2 := by
    refine ⟨⟨R2, g2, fun k hk => ?_⟩, (Off.of_below HB.out _).trans o2 fun k e => ?_⟩
    · rcases t2.has hk with hk | hk
      · rcases hk with (hk | hk) | (hk | hk)
        · exact .inr (.inl hk)
        · exact .inr (.inr (by omega))
        · exact .inl hk
        · exact .inr (.inr (by omega))
      · exact .inr (.inr (by omega))
    · rcases e with e | e
      · exact .inl e
      · exact .inr (by omega)
  have HFin := Lib.hid hfin
  clear hfin g2 t2 o2 hcm HB HNow
  go_wp2_with fail
  go_ret
  exact ⟨_, rfl, HFin.out⟩
end Go.Proofs.YtakmplpfjcddiaaGreatDoor

namespace Go.Proofs.YtakmplpfjcddiaaGreatDoor
open Go.RowKit Go.Shelf Pa
attribute [local go_sem] bs_toList bs_size
set_option maxRecDepth 100000 in
set_option maxHeartbeats 2000000 in
theorem cached_any (P a : Nat) (hP : 8 ≤ P ∧ P ≤ 100) (R : Reg) (w : World) (h : DiskAt w a (Dk.begun (List.replicate (P + 101) zSec)) R) :
    Calls Tryz.prog 104 #[.pointer (some ⟨a, 0, none⟩), .int .i64 100] w fun e w' => ∃ c, e = .returned (.tuple #[.pointer (some ⟨c, 0, none⟩), .int .i64 0]) ∧ (∃ R', CacheAt w' c (CP P) R' ∧ ∀ k, R'.has k → R.has k ∨ w.heap.size ≤ k) ∧ Below w.heap.size w w' := by
  have hlen : (Dk.begun (List.replicate (P + 101) zSec)).first.length = P + 101 := List.length_replicate ..
  have HO := Lib.hid (open_zero 100 a _ R w h rfl (CP_zero P) (by rw [hlen]; omega))
  clear h
  go_enter Tryz.func104, Tryz.ntmps104
  go_wp2_with fail
  refine HO.out.mono ?_
  rintro e w2 ⟨l, rfl, ⟨R2, hl, hR2⟩, hb2⟩
  have HN := Lib.hid (cnew_any l 64 _ R2 w2 hl (by omega))
  have H2 := Lib.hid (⟨hR2, hb2⟩ : _ ∧ _)
  clear hl hR2 hb2 HO
  go_wp2_with fail
  refine HN.out.mono ?_
  rintro e w3 ⟨c, rfl, ⟨R3, hc, hR3⟩, hb3⟩
  have hz := H2.out.2.size
  have hfin : (∃ R', CacheAt w3 c (CP P) R' ∧ ∀ k, R'.has k → R.has k ∨ w.heap.size ≤ k) ∧ Below w.heap.size w w3 := by
    refine ⟨⟨R3, hc, fun k hk => ?_⟩, H2.out.2.trans (hb3.mono hz)⟩
    rcases hR3 k hk with h | h
    · rcases H2.out.1 k h with h | h
      · exact .inl (.inr h)
      · exact .inr h
    · exact .inr (by omega)
  have HF := Lib.hid hfin
  clear hc hR3 hb3 hz hfin HN H2
  go_wp2_with fail
  go_ret2
  exact ⟨c, rfl, HF.out⟩
set_option maxRecDepth 100000 in
set_option maxHeartbeats 2000000 in
theorem of_any (m c ino : Nat) (w : World) (hm : w.heap[m]? = some (mapO c ino)) :
    Calls Tryz.prog 106 #[.pointer (some ⟨m, 0, none⟩)] w fun e w' => e = .returned (.pointer (some ⟨w.heap.size + 1, 0, none⟩)) ∧ w' = (w.alloc (.cells #[.pointer (some ⟨m, 0, none⟩)] 180)).alloc (.cells #[.pointer (some ⟨w.heap.size, 0, none⟩), .pointer (some ⟨c, 0, none⟩)] 103) := by
  have HN := Lib.hid (inew_any m w)
  have hml := (Array.getElem?_eq_some_iff.1 hm).1
  have hm2 : (w.alloc (.cells #[.pointer (some ⟨m, 0, none⟩)] 180)).heap[m]? = some (mapO c ino) := (heap_alloc_old w _ hml).trans hm
  have HC := Lib.hid (mcache_any m c ino _ hm2)
  have hsz : (w.alloc (.cells #[.pointer (some ⟨m, 0, none⟩)] 180)).heap.size = w.heap.size + 1 := World.size_alloc _ _
  clear hm hm2 hml
  go_enter Tryz.func106, Tryz.ntmps106
  go_wp2_with fail
  refine HN.out.mono ?_
  rintro e w1 ⟨rfl, hw1⟩
  rw [← hw1] at HC hsz
  have HW1 := Lib.hid hw1
  clear hw1
  go_wp2_with fail
  refine HC.out.mono ?_
  rintro e w2 ⟨rfl, hw2⟩
  obtain rfl := hw2
  go_wp2_with fail
  go_ret
  exact ⟨rfl, by rw [HW1.out]⟩
theorem StI.heldF {w : World} {s m : Nat} {T : RS} {R : Reg} {N : Nat} (h : StI w s T R N) (hs : w.heap[s]? = some (storeO m)) : R.i s ∧ R.i m := by
  obtain ⟨m', c', C, F, h1, h2, h3, _⟩ := h
  obtain rfl : m = m' := by
    have := (h1.fix _ h3).1
    rw [hs] at this
    simpa using this
  exact ⟨(h1.fix _ h3).2, (h1.fix _ h2).2⟩
/-- A file system that was just made. -/
def F0 (P : Nat) : RS := (RS.fresh P 32).mkI 1 2 493
theorem F0_ino (P : Nat) : (RS.fresh P 32).inodes = 32 := by simp [RS.inodes, fresh_i]
theorem takeB_fresh (P : Nat) : takeB (RS.fresh P 32).i = some 1 := by show takeB (true :: List.replicate 31 false) = some 1; decide
set_option maxRecDepth 100000 in
set_option maxHeartbeats 2000000 in
theorem fmake_any (B P a : Nat) (hP : 8 ≤ P ∧ P ≤ 100) (R : Reg) (w : World) (h : DiskAt w a (Dk.begun (List.replicate (P + 101) zSec)) R) (hR : ∀ k, R.has k → B ≤ k) (hB : B ≤ w.heap.size) (hmx : MaxOk w) (hmb : 0 < B) :
    Calls Tryz.prog 47 #[.pointer (some ⟨a, 0, none⟩), .int .i64 100, .int .i64 32] w fun e w' => ∃ f s c, e = .returned (.tuple #[.pointer (some ⟨f, 0, none⟩), .int .i64 0]) ∧ FsI B w' f s c (F0 P) 206 (fun k => k = f) ∧ B ≤ f ∧ Below B w w' := by
  have HC := Lib.hid (cached_any P a hP R w h)
  have HH := Lib.hid (⟨hR, hB, hmx, hmb⟩ : _ ∧ _ ∧ _ ∧ _)
  clear h hR hB hmx hmb
  go_enter Tryz.func47, Tryz.ntmps47
  go_wp2_with fail
  refine HC.out.mono ?_
  rintro e w3 ⟨c, rfl, ⟨R3, hc, hR3⟩, hb3⟩
  have H3 : (∀ k, R3.has k → B ≤ k) ∧ Below B w w3 ∧ B ≤ w3.heap.size := ⟨fun k hk => by
    rcases hR3 k hk with h | h
    · exact HH.out.1 k h
    · have := HH.out.2.1; omega, hb3.mono HH.out.2.1, Nat.le_trans HH.out.2.1 hb3.size⟩
  have hmk := amake_any c 32 (CP P) R3 [] w3 ⟨hc, fun p hp => by cases hp⟩ (by rw [CP_pages]; unfold alFirst; omega) ((CP_rm P hP.2).fits fun m hm => by rw [CP_pages]; have := List.mem_range.1 hm; unfold alFirst at this; omega) (fun k hk => (laid_rm (CP_rm P hP.2) _ _ k (by rw [CP_pages]; unfold alFirst at hk; omega)).may (by rw [Ca.laid_G, CP_pages]; unfold alFirst at hk; omega))
  rw [CP_pages] at hmk
  have HMk := Lib.hid hmk
  have H3' := Lib.hid H3
  clear hmk hc hR3 hb3 HC H3
  go_wp2_with fail
  refine HMk.out.mono ?_
  rintro e w4 ⟨m, rfl, ⟨R4, hh, ht4, ho4⟩, hm4⟩
  obtain ⟨g1, g2, g3⟩ := H3'.out
  have hbw4 : Below B w w4 := g2.trans (ho4.below g3 (fun k hk => g1 k (.inl hk)))
  have hR4' : ∀ k, R4.has k → B ≤ k := fun k hk => by
    rcases ht4.has hk with h | h
    · exact g1 k h
    · omega
  obtain ⟨R5, g5, hR5, is5, im5⟩ := freshP_store hP hh
  have hms := (hh.fix (m, mapO c 32) (by simp)).1
  have HO := Lib.hid (of_any m c 32 w4 hms)
  have H4 := Lib.hid (⟨g5, hR5, hms, hR4', hbw4, Nat.le_trans g3 ho4.size⟩ : _ ∧ _ ∧ _ ∧ _ ∧ _ ∧ _)
  clear g5 hR5 is5 im5 hms hR4' hbw4 hh ht4 ho4 hm4 g1 g2 g3 H3' HMk
  go_wp2_with fail
  refine HO.out.mono ?_
  rintro e w5 ⟨rfl, hw5⟩
  have H5 : FsI B w5 (w4.heap.size + 1) w4.heap.size c (RS.fresh P 32) 0 (fun k => k = w4.heap.size + 1) ∧ Below B w w5 ∧ w5.heap[w4.heap.size]? = some (storeO m) ∧ w5.heap[m]? = some (mapO c 32) ∧ B ≤ w4.heap.size := by
    obtain ⟨a1, a2, a3, a4, a5, a6⟩ := H4.out
    have hml := (Array.getElem?_eq_some_iff.1 a3).1
    obtain ⟨W1, hW1⟩ : ∃ W1, W1 = w4.alloc (.cells #[.pointer (some ⟨m, 0, none⟩)] 180) := ⟨_, rfl⟩
    have hz1 : W1.heap.size = w4.heap.size + 1 := by rw [hW1, World.size_alloc]
    rw [← hW1] at a1 hw5
    have hb1 : Below w4.heap.size w4 W1 := by rw [hW1]; exact (Below.refl _ _).alloc (Nat.le_refl _) _
    have hb5 : Below W1.heap.size W1 w5 := by rw [hw5]; exact (Below.refl _ _).alloc (Nat.le_refl _) _
    have hb45 : Below w4.heap.size w4 w5 := hb1.trans (hb5.mono (by omega))
    have hst : W1.heap[w4.heap.size]? = some (storeO m) := by rw [hW1]; exact heap_alloc_new _ _
    have hfs : w5.heap[w4.heap.size + 1]? = some (.cells #[.pointer (some ⟨w4.heap.size, 0, none⟩), .pointer (some ⟨c, 0, none⟩)] 103 (0, 0)) := by rw [hw5, ← hz1]; exact heap_alloc_new _ _
    have hlt := a1.lt
    have hz5 : w5.heap.size = w4.heap.size + 1 + 1 := by rw [hw5, World.size_alloc, hz1]
    have hbB := a5.trans (hb45.mono a6)
    refine ⟨⟨⟨R5, a1.below hb5, fun k hk => ?_, by omega, fun k e => ⟨fun hk => by have := hlt k hk; omega, by omega⟩⟩, rfl, hfs, HH.out.2.2.1.below hbB HH.out.2.2.2, HH.out.2.2.2⟩, hbB, (hb5.block _ (by omega)).trans hst, (hb45.block _ hml).trans a3, a6⟩
    rcases a2 k hk with h | h
    · exact a4 k h
    · omega
  obtain ⟨hF5, hb5, hs5, hm5, hB4⟩ := H5
  obtain ⟨q0, _⟩ := hF5.cells
  obtain ⟨R6, hR6, hst6⟩ := hF5.solo.step
  have hmk := smake_any w4.heap.size 0 1 2 493 (RS.fresh P 32) R6 w5 hR6 (takeB_fresh P) (by omega) (by omega)
  have HM := Lib.hid hmk
  have HX := Lib.hid (⟨hF5, hb5, hs5, hm5, hB4, hR6.heldF hs5, hst6, hR6⟩ : _ ∧ _ ∧ _ ∧ _ ∧ _ ∧ _ ∧ _ ∧ _)
  clear hmk hF5 hb5 hs5 hm5 hB4 hR6 hst6 H4 HO
  have hW5 := Lib.hid hw5
  clear hw5
  go_wp2_with fail
  refine HM.out.mono ?_
  rintro e w6 ⟨rfl, hst⟩
  obtain ⟨hF5, hb5, hs5, hm5, hB4, ⟨is, im⟩, hl, hR6⟩ := HX.out
  obtain ⟨s6, k6⟩ := hl w6 _ _ hst
  have hF6 := hF5.next s6 k6 rfl
  obtain ⟨R7, hR7, t7, o7⟩ := hst
  have hs6 : w6.heap[w4.heap.size]? = some (storeO m) := (o7.block _ (hR6.lt _ (.inr is)) (fun e => hR6.apart _ e is)).trans hs5
  have hm6 : w6.heap[m]? = some (mapO c 32) := (o7.block _ (hR6.lt _ (.inr im)) (fun e => hR6.apart _ e im)).trans hm5
  have hcm : Calls Tryz.prog 90 #[.pointer (some ⟨c, 0, none⟩)] w6 fun e w' => e = .returned (.int .i64 0) ∧ FsI B w' (w4.heap.size + 1) w4.heap.size c (F0 P) 206 (fun k => k = w4.heap.size + 1) ∧ Below B w w' := by
    obtain ⟨R8, hR8, hst8⟩ := hF6.solo.step
    refine (scommit_at w4.heap.size m c 0 _ R8 w6 hR8 hs6 (by rw [show ((RS.fresh P 32).mkI 1 2 493).inodes = 32 from (List.length_set ..).trans (F0_ino P)]; exact hm6) (by omega)).mono ?_
    rintro e w7 ⟨rfl, hst⟩
    obtain ⟨s7, k7⟩ := hst8 w7 _ _ hst
    exact ⟨rfl, hF6.next s7 k7 rfl, hb5.trans (k6.trans k7).below⟩
  have HCm := Lib.hid hcm
  have HB4 := Lib.hid hB4
  clear hcm hF5 hb5 hs5 hm5 hB4 is im hl hR6 s6 k6 hF6 hR7 t7 o7 hs6 hm6 HX HM q0
  go_wp2_with fail
  refine HCm.out.mono ?_
  rintro e w7 ⟨rfl, hF7, hb7⟩
  have H7 := Lib.hid (⟨hF7, hb7⟩ : _ ∧ _)
  clear hF7 hb7 HCm
  go_wp2_with fail
  go_ret2
  exact ⟨_, _, _, rfl, H7.out.1, by have := HB4.out; omega, H7.out.2⟩
end Go.Proofs.YtakmplpfjcddiaaGreatDoor

namespace Go.Proofs.YtakmplpfjcddiaaGreatDoor
open Go.RowKit Go.Shelf Pa
attribute [local go_sem] bs_toList bs_size
set_option maxRecDepth 100000 in
set_option maxHeartbeats 2000000 in
/-- The document's file system: that it is made, and that nothing else turns. -/
theorem ref8make_any (P : Nat) (hP : 8 ≤ P ∧ P ≤ 100) (w : World) :
    Calls Tryz.prog 53 #[.int .i64 P, .int .i64 32] w fun e w' => ∃ r, e = .returned (.tuple #[.pointer (some ⟨r, 0, none⟩), .int .i64 0]) ∧ Below w.heap.size w w' := by
  have HMp := Lib.hid (rmap_any P 32 w (by unfold alFirst; omega))
  go_enter Tryz.func53, Tryz.ntmps53
  go_wp2_with fail
  refine HMp.out.mono ?_
  rintro e w6 ⟨m6, pv6, iv6, rfl, hM6, hm6, hb6⟩
  have HNw := Lib.hid (rnew_any _ m6 _ _ pv6 iv6 w6 hM6 (fun h => h.2.2 rfl) (fun k hk => hk.2.1))
  have H6 := Lib.hid (⟨hm6, hb6⟩ : _ ∧ _)
  clear hM6 hm6 hb6 HMp
  go_wp2_with fail
  refine HNw.out.mono ?_
  rintro e w7 ⟨r, rfl, ⟨Q7, g7, hQ7⟩, ho7⟩
  have hz6 := H6.out.2.size
  have hz7 := ho7.size
  have hb7 : Below w.heap.size w w7 := H6.out.2.trans (ho7.below hz6 fun k e => by have := H6.out.1; omega)
  have hge : ∀ k, Q7.has k → w.heap.size ≤ k := fun k hk => by
    have := H6.out.1
    rcases hQ7 k hk with h | h | h
    · exact h.1
    · omega
    · omega
  obtain ⟨W8, hW8⟩ : ∃ W8, W8 = w7.alloc (.cells #[.pointer (some ⟨r, 0, none⟩)] 132) := ⟨_, rfl⟩
  have hb8 : Below w7.heap.size w7 W8 := by rw [hW8]; exact (Below.refl _ _).alloc (Nat.le_refl _) _
  have hbx : W8.heap[w7.heap.size]? = some (.cells #[.pointer (some ⟨r, 0, none⟩)] 132 (0, 0)) := by rw [hW8]; exact heap_alloc_new _ _
  have g8 := g7.below hb8
  have q0 : W8.cell? ⟨w7.heap.size, 0, none⟩ = some (.pointer (some ⟨r, 0, none⟩)) := cell_of_heap hbx 0
  have hno : ¬ Q7.has w7.heap.size := fun e => by have := g7.lt _ e; omega
  have hzz : w.heap.size ≤ w7.heap.size := by omega
  have HMk := Lib.hid (rmk_any r 1 2 493 _ _ Q7 W8 g8 (takeB_fresh P) (by omega) (by omega))
  have hz8 := hb8.size
  have H8 := Lib.hid (⟨hb7.trans (hb8.mono hzz), hge, hbx, hno, hzz, (Array.getElem?_eq_some_iff.1 hbx).1⟩ : _ ∧ _ ∧ _ ∧ _ ∧ _ ∧ _)
  clear hz6 hz7 hb7 hge g7 hQ7 ho7 hb8 hbx g8 hno hzz hz8 HNw H6
  go_upto_region 5 with fail
  rw [← hW8]
  clear hW8
  go_wp2_with fail
  refine HMk.out.mono ?_
  rintro e w9 ⟨rfl, Q9, g9, t9, o9⟩
  obtain ⟨hb8, hge, hbx, hno, hzz, hlt⟩ := H8.out
  have hz9 := o9.size
  have q0 : w9.cell? ⟨w7.heap.size, 0, none⟩ = some (.pointer (some ⟨r, 0, none⟩)) := cell_of_heap ((o9.block _ hlt (fun e => hno (.inl e))).trans hbx) 0
  have hb9 : Below w.heap.size w w9 := hb8.trans (o9.below hb8.size fun k hk => hge k (.inl hk))
  have hge9 : ∀ k, Q9.has k → w.heap.size ≤ k := fun k hk => by
    rcases t9.has hk with h | h
    · exact hge k h
    · have := hb8.size; omega
  have hcm : Calls Tryz.prog 117 #[.pointer (some ⟨r, 0, none⟩)] w9 fun e w1 => e = .returned (.tuple #[]) ∧ Below w.heap.size w w1 := by
    obtain ⟨m9, lv, u2, u3, pv, iv, X, mk, pk, ik, Y, h1, h2⟩ := g9
    refine (rcommit_any r m9 _ _ lv u2 u3 pv iv X w9 h1).mono ?_
    rintro e w1 ⟨rfl, Q1, g1, t1, o1⟩
    exact ⟨rfl, hb9.trans (o1.below hb9.size fun k hk => hge9 k (.inl hk))⟩
  have HCm := Lib.hid hcm
  clear hcm hb8 hge hbx hno hzz hlt hz9 hb9 hge9 g9 t9 o9 H8 HMk
  go_wp2_with fail
  refine HCm.out.mono ?_
  rintro e w10 ⟨rfl, hb10⟩
  have HB := Lib.hid hb10
  clear hb10 HCm
  go_wp2_with fail
  go_ret2
  exact ⟨_, rfl, HB.out⟩
set_option maxRecDepth 100000 in
set_option maxHeartbeats 2000000 in
theorem opened8_any (P : Nat) (hP : 8 ≤ P ∧ P ≤ 100) (w : World) (hmx : MaxOk w) (hmb : 0 < w.heap.size) :
    Calls Tryz.prog 12 #[.int .i64 P] w fun e w' => ∃ f s c r, e = .returned (.tuple #[.pointer (some ⟨f, 0, none⟩), .pointer (some ⟨r, 0, none⟩), .bool true]) ∧ FsI w.heap.size w' f s c (F0 P) 206 (fun k => k = f) ∧ w.heap.size ≤ f ∧ Below w.heap.size w w' := by
  have HN := Lib.hid (new_any (P + 101) w (by omega) (by omega))
  have hw1 : IntKind.i64.wrap ((P : Int) + 100) = ((P + 100 : Nat) : Int) := by rw [IntWalk.i64_in _ (by omega)]; omega
  have hw2 : IntKind.i64.wrap (((P + 100 : Nat) : Int) + 1) = ((P + 101 : Nat) : Int) := by rw [IntWalk.i64_in _ (by omega)]; omega
  obtain ⟨P1, hP1⟩ : ∃ P1, P1 = P + 100 := ⟨_, rfl⟩
  obtain ⟨P2, hP2⟩ : ∃ P2, P2 = P + 101 := ⟨_, rfl⟩
  rw [← hP1] at hw1 hw2
  rw [← hP2] at hw2 HN
  have HP := Lib.hid (⟨hP1, hP2, hmx, hmb⟩ : _ ∧ _ ∧ _ ∧ _)
  clear hP1 hP2 hmx hmb
  go_enter Tryz.func12, Tryz.ntmps12
  go_wp2_with fail
  refine HN.out.mono ?_
  rintro e w1 ⟨a, rfl, ⟨R1, hd, hR1⟩, hb1⟩
  rw [HP.out.2.1] at hd
  have hmk := fmake_any w.heap.size P a hP R1 w1 hd hR1 hb1.size (HP.out.2.2.1.below hb1 HP.out.2.2.2) HP.out.2.2.2
  have HMk := Lib.hid hmk
  have H1 := Lib.hid hb1
  clear hmk hd hR1 hb1 HN
  go_wp2_with fail
  refine HMk.out.mono ?_
  rintro e w2 ⟨f, s, c, rfl, hF2, hf2, hb2⟩
  have HRm := Lib.hid (ref8make_any P hP w2)
  have H2 := Lib.hid (⟨hF2, hf2, H1.out.trans hb2⟩ : _ ∧ _ ∧ _)
  clear hF2 hf2 hb2 HMk H1
  go_wp2_with fail
  refine HRm.out.mono ?_
  rintro e w3 ⟨r, rfl, hb3⟩
  have hfin : FsI w.heap.size w3 f s c (F0 P) 206 (fun k => k = f) ∧ w.heap.size ≤ f ∧ Below w.heap.size w w3 := by
    obtain ⟨h1, h2, h3⟩ := H2.out
    obtain ⟨s3, k3⟩ := h1.solo.fresh (Z' := fun k => k = f) hb3 (fun k hk => .inl hk)
    exact ⟨h1.next s3 k3 rfl, h2, h3.trans k3.below⟩
  have HF := Lib.hid hfin
  clear hb3 hfin HRm H2
  go_wp2_with fail
  refine bodyPost_ret (results_tmp3 rfl _ _ _) rfl ?_
  exact ⟨f, s, c, r, rfl, HF.out⟩
end Go.Proofs.YtakmplpfjcddiaaGreatDoor

namespace Go.Proofs.YtakmplpfjcddiaaGreatDoor
open Go.RowKit Go.Shelf Pa
attribute [local go_sem] bs_toList bs_size
theorem run_bytes_text8 {w : World} {g o c : Nat} {s : Str} (hc : ∀ j y, s[j]? = some y → w.cell? ⟨g, o + j, none⟩ = some (.int .u8 (UInt8.toNat y))) : (convert 37 9 (.slice (some ⟨g, o, none⟩) s.length c)).run Tryz.prog w = .ok (.string (bs s)) w := run_bytes_text hc
/-- A row of bytes that is laid whole. -/
theorem FsI.row {B f s c N : Nat} {w : World} {T : RS} {Z : Nat → Prop} (h : FsI B w f s c T N Z) (b : Str) (hb : b.length ≤ 1000) : FsI B (w.alloc (.cells (b.map fun x => Value.int .u8 (UInt8.toNat x)).toArray 5)) f s c T N (fun k => Z k ∨ k = w.heap.size) ∧ KeptS B Z w (w.alloc (.cells (b.map fun x => Value.int .u8 (UInt8.toNat x)).toArray 5)) ∧ BytesI (w.alloc (.cells (b.map fun x => Value.int .u8 (UInt8.toNat x)).toArray 5)) (fun k => (Z k ∨ k = w.heap.size) ∨ k < B) (.slice (some ⟨w.heap.size, 0, none⟩) b.length b.length) b := by
  obtain ⟨h1, k1⟩ := h.box (.cells (b.map fun x => Value.int .u8 (UInt8.toNat x)).toArray 5)
  refine ⟨h1, k1, ⟨_, _, rfl, ⟨Nat.le_refl _, by omega⟩, fun _ => ⟨_, _, rfl, ⟨by rw [World.size_alloc]; omega, .inl (.inr rfl)⟩, fun i x hx => ?_⟩⟩⟩
  rw [Nat.zero_add, cell_of_heap (heap_alloc_new w _) i]
  simp [hx]
set_option maxRecDepth 100000 in
set_option maxHeartbeats 4000000 in
theorem live8_any (w : World) (hmx : MaxOk w) (hmb : 0 < w.heap.size) :
    Calls Tryz.prog 13 #[] w fun e w' => e = .returned (.bool true) ∧ Below w.heap.size w w' := by
  have HO := Lib.hid (opened8_any 60 (by omega) w hmx hmb)
  clear hmx hmb
  go_enter Tryz.func13, Tryz.ntmps13
  go_wp2_with fail
  refine HO.out.mono ?_
  rintro e w1 ⟨f, s, c, r, rfl, hF1, hf1, hb1⟩
  have HM := Lib.hid (mkdir_ok w.heap.size f s c 206 493 [47, 97] V0 V1 _ w1 hF1 (V1_ok hF1.len))
  have HB := Lib.hid hb1
  clear hF1 hf1 hb1 HO
  go_wp2_with fail
  refine HM.out.mono ?_
  rintro e w2 ⟨rfl, hF2, k2⟩
  obtain ⟨hF3, k3, hby⟩ := hF2.row [104, 105] (by decide)
  have HW := Lib.hid (write_new w.heap.size f s c 206 420 4 [47, 97, 47, 102] _ [104, 105] _ V1 V2 _ _ hF3 V1_none.1 (by decide) V1_none.2 (by omega) (V2_ok hF3.len) hby)
  have HK2 := Lib.hid (k2.trans k3).below
  clear hF2 k2 hF3 k3 hby HM
  go_wp2_with fail
  refine HW.out.mono ?_
  rintro e w4 ⟨rfl, hF4, k4⟩
  have HL := Lib.hid (link_ok w.heap.size f s c 206 [47, 97, 47, 102] [47, 103] V2 V3 _ w4 hF4 (V3_ok hF4.len))
  have HK4 := Lib.hid (HB.out.trans (HK2.out.trans k4.below))
  clear hF4 k4 HW HB HK2
  go_wp2_with fail
  refine HL.out.mono ?_
  rintro e w5 ⟨rfl, hF5, k5⟩
  have HU := Lib.hid (unlink_ok w.heap.size f s c 206 [47, 97, 47, 102] V3 V4 _ w5 hF5 (V4_ok hF5.len))
  have HK5 := Lib.hid (HK4.out.trans k5.below)
  clear hF5 k5 HL HK4
  go_wp2_with fail
  refine HU.out.mono ?_
  rintro e w6 ⟨rfl, hF6, k6⟩
  obtain ⟨g1, g2, g3, g4, g5, g6, g7⟩ := V4_g
  have HR := Lib.hid (read_ok w.heap.size f s c 206 3 [47, 103] _ _ V4 _ w6 hF6 g1 (by decide) g2 g3 rfl (hF6.len 3) g4 (by omega))
  have HK6 := Lib.hid (HK5.out.trans k6.below)
  clear hF6 k6 HU HK5
  go_wp2_with fail
  refine HR.out.mono ?_
  rintro e w7 ⟨A, n, cc, rfl, hF7, k7, hby⟩
  rw [g7] at hby
  obtain ⟨A', c', hve, _, hcs⟩ := id hby
  injection hve with hve1 hve2 hve3
  subst hve1 hve2 hve3
  obtain ⟨bb, oo, rfl, _, _⟩ := hcs (by simp)
  clear hcs
  have hst := stat_ok w.heap.size f s c 206 3 [47, 103] _ _ V4 _ w7 hF7 g1 (by decide) g2 g3 rfl (hF7.len 3)
  unfold statV at hst
  rw [g6] at hst
  obtain ⟨kd, hkd⟩ : ∃ kd, kd = (getR V4 (3 : Nat)).kind := ⟨_, rfl⟩
  obtain ⟨md, hmd⟩ : ∃ md, md = (getR V4 (3 : Nat)).mode := ⟨_, rfl⟩
  obtain ⟨sz, hsz⟩ : ∃ sz, sz = szT V4 3 := ⟨_, rfl⟩
  rw [← hkd, ← hmd, ← hsz] at hst
  have HS := Lib.hid hst
  have HK7 := Lib.hid (HK6.out.trans k7.below)
  have HBy := Lib.hid hby
  clear hst hF7 k7 hby HR HK6 g1 g2 g3 g4 g5 g6 g7 hkd hmd hsz
  go_wp2_with fail
  refine HS.out.mono ?_
  rintro e w8 ⟨rfl, hF8, k8⟩
  obtain ⟨hF9, k9⟩ := hF8.box (.cells #[.int .i64 kd, .int .i64 md, .int .i64 1, .int .i64 sz] 33)
  have hbx : (w8.alloc (.cells #[.int .i64 kd, .int .i64 md, .int .i64 1, .int .i64 sz] 33)).heap[w8.heap.size]? = some (.cells #[.int .i64 kd, .int .i64 md, .int .i64 1, .int .i64 sz] 33 (0, 0)) := heap_alloc_new _ _
  obtain ⟨W9, hW9⟩ : ∃ W9, W9 = w8.alloc (.cells #[.int .i64 kd, .int .i64 md, .int .i64 1, .int .i64 sz] 33) := ⟨_, rfl⟩
  rw [← hW9] at hF9 k9 hbx
  have c2 : W9.cell? ⟨w8.heap.size, 2, none⟩ = some (.int .i64 1) := cell_of_heap hbx 2
  have hby9 := BytesI.kept ((BytesI.kept (HBy.out.mono (fun k hk _ => .inl (.inr hk))) k8)) k9
  have hcv : (convert 37 9 (.slice (some ⟨bb, oo, none⟩) 2 cc)).run Tryz.prog W9 = .ok (.string (bs [104, 105])) W9 := by
    refine run_bytes_text8 (s := [104, 105]) fun j y hy => ?_
    obtain ⟨_, _, hve, _, hcs⟩ := hby9
    obtain ⟨b', o', e1, _, h2⟩ := hcs (by simp)
    injection hve with hve1
    rw [← hve1] at e1
    injection e1 with e1
    injection e1 with e1 e2
    rw [e1, e2]
    exact h2 j y hy
  have HRn := Lib.hid (rename_busy w.heap.size f s c 206 [47, 103] [47, 103, 47, 104] V4 _ W9 hF9 (V4_busy hF9.len))
  have HK9 := Lib.hid (HK7.out.trans (k8.trans k9).below)
  clear hF8 k8 hF9 k9 hbx hby9 HS HK7 HBy
  go_upto_region 8 with fail
  rw [← hW9]
  clear hW9
  go_wp2_with fail
  refine HRn.out.mono ?_
  rintro e w10 ⟨rfl, hF10, k10⟩
  have HK10 := Lib.hid (HK9.out.trans k10.below)
  clear hF10 k10 HRn HK9
  go_wp2_with fail
  go_ret
  exact ⟨rfl, HK10.out⟩
end Go.Proofs.YtakmplpfjcddiaaGreatDoor
