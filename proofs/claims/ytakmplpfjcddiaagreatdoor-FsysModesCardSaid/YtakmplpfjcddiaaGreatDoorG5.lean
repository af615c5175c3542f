/-
  The walk over save: an inode is written (where there is room).
  The walk over try: something is done; here it does not give up.
  The walks over Make: an inode is made, where there is room.
  The walk over Get: what an inode is.
  The walk over Read: bytes of a file.
  The walk over resize: a file grows or shrinks (where there is room).
-/
import Derived.Test.YtakmplpfjcddiaaGreatDoorG4
import Derived.Tactics
import Derived.Tactics2
import Derived.Defers
import Derived.Recover
import Derived.Laws.Pointers
set_option linter.unusedVariables false
set_option linter.unusedSimpArgs false
set_option linter.deprecated false
namespace Go.Proofs.YtakmplpfjcddiaaGreatDoor
open Go.RowKit Go.Shelf Pa
attribute [local go_sem] bs_toList bs_size
/-- A put into a record under way. -/
theorem put_stage {g cv a : Nat} {page : Str} {W : World} (ha : a + 64 ≤ page.length) (pre : Str) (len n k : Nat) (hB : Blk W g cv (stage page a pre)) (h1 : pre.length + len ≤ 64) (h2 : len ≤ 4) (h3 : len ≤ k) :
    Calls Tryz.prog 193 #[.slice (some ⟨g, a + pre.length, none⟩) len k, .int .i64 n] W fun e w' => e = .returned (.tuple #[]) ∧ Blk w' g cv (stage page a (pre ++ putN len n)) ∧ Off (fun k => k = g) W w' := by
  have := put_any g (a + pre.length) len k cv n _ W hB (by rw [stage_length (by omega) ha]; omega) h2 h3
  rw [stage_put (by rw [putN_length]; exact h1) ha] at this
  exact this
theorem laidAt_app {x p y : Str} {a : Nat} (h : a + p.length + y.length ≤ x.length) : laidAt (laidAt x a p) (a + p.length) y = laidAt x a (p ++ y) := by
  refine List.ext_getElem? fun j => ?_
  rw [laidAt_getElem? _ _ _ _ (by rw [laidAt_length (by omega)]; omega), laidAt_getElem? _ _ _ _ (by omega), laidAt_getElem? _ _ _ _ (by rw [List.length_append]; omega), List.length_append]
  by_cases h1 : a + p.length ≤ j ∧ j < a + p.length + y.length
  · rw [if_pos h1, if_pos (show a ≤ j ∧ j < a + (p.length + y.length) by omega), List.getElem?_append_right (by omega)]
    congr 1; omega
  · rw [if_neg h1]
    by_cases h2 : a ≤ j ∧ j < a + p.length
    · rw [if_pos h2, if_pos (show a ≤ j ∧ j < a + (p.length + y.length) by omega), List.getElem?_append_left (by omega)]
    · rw [if_neg h2, if_neg (by omega)]
theorem laidAt_full {x y : Str} (h : x.length = y.length) : laidAt x 0 y = y := by unfold laidAt; rw [List.take_zero, Nat.zero_add, ← h, List.drop_length]; simp
theorem blk_new (w : World) : Blk (w.alloc (.cells (madeCells #[.int .u8 0] 512) 5)) w.heap.size 512 pageZ := by
  refine ⟨_, heap_alloc_new _ _, by simp [size_madeCells], ⟨by rw [pageZ_length]; exact Nat.le_refl _, by unfold maxLen; omega⟩, fun i y hy => ?_⟩
  have hi : i < 512 := by have := (List.getElem?_eq_some_iff.1 hy).1; rwa [pageZ_length] at this
  unfold pageZ at hy
  rw [List.getElem?_replicate, if_pos hi] at hy
  cases hy
  simp [madeCells, hi, Nat.mod_one]
set_option maxRecDepth 100000 in
set_option maxHeartbeats 4000000 in
theorem save_any (s m c ino : Nat) (o : Opn) (C C' : Ca) (R : Reg) (F : List (Nat × Obj)) (w : World) (h : Held w F c C R) (hm : (m, mapO c ino) ∈ F) (hs : (s, storeO m) ∈ F) (hi : ino ≤ 512) (h8 : ino % 8 = 0) (hp : alFirst ino ≤ C.G.pages) (hl : o.Len) (hoi : o.i < ino) (hin : o.ind < C.G.pages) (hsv : C.save o = some C') :
    Calls Tryz.prog 124 #[.pointer (some ⟨s, 0, none⟩), OpnV o] w fun e w' => e = .returned (.tuple #[]) ∧ Step w F c C' R w' := by
  obtain ⟨n0, hn0⟩ : ∃ n0, n0 = 3 + o.i / 8 := ⟨_, rfl⟩
  have hn0p : n0 < C.G.pages := by unfold alFirst at hp; omega
  have hb0 : Below w.heap.size w (w.alloc (.cells (cellsO o).toArray 171)) := (Below.refl _ _).alloc (Nat.le_refl _) _
  have h0 := h.below hb0
  have hO0 := opn_box w o hl
  have hbR : ¬ R.has w.heap.size := fun e => Nat.lt_irrefl _ (h.lt _ e)
  have k0 : (w.alloc (.cells (cellsO o).toArray 171)).cell? ⟨s, 0, none⟩ = some (.pointer (some ⟨m, 0, none⟩)) := cell_of_heap (h0.fix _ hs).1 0
  have k15 := hO0.num
  have htb : ∀ q, Calls Tryz.prog 186 #[.pointer (some ⟨m, 0, none⟩), .int .i64 o.i] ((w.alloc (.cells (cellsO o).toArray 171)).drewN q) fun e w' => e = .returned (.tuple #[.int .i64 (3 + o.i / 8 : Nat), .int .i64 (64 * (o.i % 8) : Nat), .int .i64 0]) ∧ ∃ i, w' = (w.alloc (.cells (cellsO o).toArray 171)).drewN i := fun q =>
    (table_ok m c ino o.i ((w.alloc (.cells (cellsO o).toArray 171)).drewN q) (h0.fix _ hm).1 hi hoi).mono fun e w' hh => ⟨hh.1, q, hh.2.symm⟩
  have HTb := Lib.hid htb
  have HL := Lib.hid hl
  have HSv := Lib.hid hsv
  have hlen := h.at_.rdlen hn0p
  have HLen := Lib.hid hlen
  have HO0 := Lib.hid hO0
  have H0 := Lib.hid h0
  have HBR := Lib.hid hbR
  have HB0 := Lib.hid hb0
  have HS := Lib.hid hs
  have HM := Lib.hid hm
  have HN0 := Lib.hid hn0
  clear htb hl hsv hlen hO0 h0 hbR hb0 hs hm h
  go_enter Tryz.func124, Tryz.ntmps124
  go_wp2_with fail
  go_quiet ((go_at_call 186; exact HTb.out _))
  -- the page is read
  obtain ⟨W1, hW1⟩ : ∃ W1, W1 = (w.alloc (.cells (cellsO o).toArray 171)).drewN nq := ⟨_, rfl⟩
  rw [← hW1]
  have hb01 : Below (w.alloc (.cells (cellsO o).toArray 171)).heap.size (w.alloc (.cells (cellsO o).toArray 171)) W1 := by rw [hW1]; exact below_drewN (Below.refl _ _) _
  have h1 := H0.out.below hb01
  have hO1 : OpnAt W1 w.heap.size o := HO0.out.keep (hb01.block _ HO0.out.lt)
  have hmc := mcache_any m c ino W1 (h1.fix _ HM.out).1
  have hrd := hread_any n0 c C R F W1 h1 hn0p
  have k1 : W1.cell? ⟨s, 0, none⟩ = some (.pointer (some ⟨m, 0, none⟩)) := cell_of_heap (h1.fix _ HS.out).1 0
  have hBw1 : Below w.heap.size w W1 := HB0.out.trans (hb01.mono (by simp))
  rw [HN0.out] at hrd
  have HMc := Lib.hid hmc
  have HRd := Lib.hid hrd
  have HO1 := Lib.hid hO1
  have H1 := Lib.hid h1
  have HBw1 := Lib.hid hBw1
  clear hmc hrd hO1 h1 hBw1 hb01 hW1 k0 k15
  go_wp2_with fail
  refine HMc.out.mono ?_
  rintro e w1 ⟨rfl, rfl⟩
  go_wp2_with fail
  refine HRd.out.mono ?_
  rintro e w2 ⟨v, rfl, hr⟩
  rw [← HN0.out] at hr
  obtain ⟨page, hpage⟩ : ∃ page, page = C.rd n0 := ⟨_, rfl⟩
  have hpl : page.length = 512 := by rw [hpage]; exact HLen.out
  rw [← hpage] at hr
  obtain ⟨R2, o2, g2, t2, f2, fr2⟩ := id hr
  obtain ⟨g, cv, rfl, hgB, hblk, hcv⟩ := o2.blk (by intro e; rw [e] at hpl; cases hpl)
  rw [hpl] at hcv
  have hbne : w.heap.size ≠ g := by have := HO1.out.lt; omega
  have hO2 : OpnAt w2 w.heap.size o := HO1.out.keep (f2.block _ HO1.out.lt (fun e => HBR.out (.inl e)))
  obtain ⟨a, ha⟩ : ∃ a, a = 64 * (o.i % 8) := ⟨_, rfl⟩
  have ha64 : a + 64 ≤ 512 := by omega
  have hz8 : ∀ w, (zeroValue 5).run Tryz.prog w = .ok (.int .u8 0) w := fun _ => by kernel_rfl
  obtain ⟨hB3, hO3f⟩ := hblk.cells a (List.replicate 64 0) (by rw [List.length_replicate, hpl]; omega)
  have hrep : (List.replicate 64 (0 : UInt8)).map (fun y => Value.int .u8 y.toNat) = List.replicate 64 (.int .u8 0) := by rw [List.map_replicate]; rfl
  rw [hrep] at hB3 hO3f
  have hcl : ∀ ty, (Builtin.clear_ #[37] ty #[.slice (some ⟨g, a, none⟩) 64 (cv - a)]).run Tryz.prog w2 = .ok (.tuple #[]) (w2.setCells g a (List.replicate 64 (.int .u8 0))) := fun ty =>
    Lib.run_clear_slice w2 37 5 ty (.int .u8 0) Tryz.underlying37 hz8 rfl rfl g a 64 _ (by decide)
      (fun j hj => by rw [hblk.cell (i := a + j) (List.getElem?_eq_getElem (by rw [hpl]; omega))]; rfl) (fun j hj => hblk.free _)
  obtain ⟨W3, hW3⟩ : ∃ W3, W3 = w2.setCells g a (List.replicate 64 (.int .u8 0)) := ⟨_, rfl⟩
  rw [← hW3] at hcl hB3 hO3f
  have hst3 : Blk W3 g cv (stage page a []) := by unfold stage; exact hB3
  have hO3 : OpnAt W3 w.heap.size o := hO2.keep (hO3f.block _ hO2.lt hbne)
  have hcl0 := hcl 0
  have hk3 := hO3.kind
  have hslen : (stage page a []).length = 512 := by rw [stage_length (by simp) (by rw [hpl]; omega), hpl]
  obtain ⟨y0, hy0⟩ : ∃ y0, (stage page a [])[a]? = some y0 := ⟨_, List.getElem?_eq_getElem (by rw [hslen]; omega)⟩
  have hc3 := hst3.cell hy0
  have hf3 := hst3.free a
  have hcva : 64 * (o.i % 8) + 64 ≤ cv := by omega
  have HPl := Lib.hid hpl
  have HPage := Lib.hid hpage
  have HSt3 := Lib.hid hst3
  have HO3 := Lib.hid hO3
  have HO3f := Lib.hid hO3f
  have HK2 := Lib.hid (⟨g2, t2, f2, fr2 g rfl⟩ : Held w2 F c C R2 ∧ R.To R2 W1.heap.size ∧ Off R.m W1 w2 ∧ ¬ R2.has g)
  have HA := Lib.hid ha
  clear hr o2 g2 t2 f2 fr2 hblk hO2 hB3 hO3f hst3 hO3 hy0 hslen hrep hW3 hcl hpage
  rw [hpl]
  clear hpl
  rw [ha] at hcl0 hc3 hf3
  clear ha
  go_wp2_with fail
  rw [show 64 * (o.i % 8) + 64 - 64 * (o.i % 8) = 64 from by omega, ← HA.out]
  rw [← HA.out] at hcva
  clear hcl0 hc3 hf3
  obtain ⟨cp, hcp⟩ : ∃ cp, cp = cv - a := ⟨_, rfl⟩
  rw [← hcp]
  have hcp64 : 64 ≤ cp := by omega
  have e8 : ((o.kind : Int) % 256) = (((UInt8.ofNat o.kind).toNat : Nat) : Int) := by rw [UInt8.toNat_ofNat']; omega
  rw [e8]
  obtain ⟨W4, hW4⟩ : ∃ W4, W4 = W3.setCell ⟨g, a, none⟩ (.int .u8 (UInt8.ofNat o.kind).toNat) := ⟨_, rfl⟩
  rw [← hW4]
  have hB4 : Blk W4 g cv (stage page a [UInt8.ofNat o.kind]) := by
    have h9 := (HSt3.out.cells a [UInt8.ofNat o.kind] (by rw [stage_length (by simp) (by rw [HPl.out]; omega), HPl.out]; show a + 1 ≤ 512; omega)).1
    have h10 := stage_put (page := page) (a := a) (pre := []) (y := [UInt8.ofNat o.kind]) (by show 0 + 1 ≤ 64; decide) (by rw [HPl.out]; omega)
    rw [List.length_nil, Nat.add_zero, List.nil_append] at h10
    rw [h10] at h9
    rw [hW4]; exact h9
  have hof4 : Off (fun k => k = g) w2 W4 := by rw [hW4]; exact HO3f.out.setCell (p := ⟨g, a, none⟩) (.inl rfl) _
  have hO4 : OpnAt W4 w.heap.size o := HO3.out.keep (by rw [hW4]; exact Below.heap_setCell _ _ _ _ hbne)
  have hq6 : ∀ q, Calls Tryz.prog 193 #[.slice (some ⟨g, a + 1, none⟩) 2 (cp - 1), .int .i64 o.mode] (W4.drewN q) fun e w' => e = .returned (.tuple #[]) ∧ Blk w' g cv (stage page a ([UInt8.ofNat o.kind] ++ putN 2 o.mode)) ∧ Off (fun k => k = g) W4 w' := fun q => by
    refine (put_stage (by rw [HPl.out]; omega) [UInt8.ofNat o.kind] 2 o.mode (cp - 1) (hB4.keep (w' := W4.drewN q) rfl) (by show 1 + 2 ≤ 64; decide) (by decide) (by omega)).mono ?_
    rintro e w' ⟨rfl, h9, h10⟩
    exact ⟨rfl, h9, ((Off.refl (fun k => k = g) W4).drewN q).then h10⟩
  have k41 := hO4.mode
  have hc3 : 3 ≤ cp := by omega
  have hc5 : 5 ≤ cp := by omega
  have hc9 : 9 ≤ cp := by omega
  have hi3 : (3 : Int) ≤ (cp : Int) := by omega
  have hi5 : (5 : Int) ≤ (cp : Int) := by omega
  have hi9 : (9 : Int) ≤ (cp : Int) := by omega
  have hn1 : ¬ cp = 1 := by omega
  have hn3 : ¬ cp = 3 := by omega
  have hn5 : ¬ cp = 5 := by omega
  have HQ6 := Lib.hid hq6
  have HO4 := Lib.hid hO4
  have HOf4 := Lib.hid hof4
  clear hq6 hB4 hof4 hO4 hW4 e8 hcp hcva hk3
  go_cut [0, 3, 4, 7, 9] (fun s0 s3 s4 s7 s9 wx => s0 = .pointer (some ⟨s, 0, none⟩) ∧ s3 = .pointer (some ⟨w.heap.size, 0, none⟩) ∧ s4 = .int .i64 (3 + (o.i : Int) / 8) ∧ s7 = .slice (some ⟨g, 0, none⟩) 512 cv ∧ s9 = .slice (some ⟨g, a, none⟩) 64 cp ∧ Blk wx g cv (stage page a ([UInt8.ofNat o.kind] ++ putN 2 o.mode)) ∧ Off (fun k => k = g) W4 wx)
  · go_region_with (go_at_call 193; refine (HQ6.out 1).mono ?_; rintro e w9 ⟨rfl, hb9, ho9⟩)
    all_goals (have HB9 := Lib.hid hb9; have HO9 := Lib.hid ho9; clear hb9 ho9; go_wp2_with fail; go_meet; exact ⟨rfl, rfl, rfl, rfl, rfl, HB9.out, HO9.out⟩)
  · obtain ⟨rfl, rfl, rfl, rfl, rfl, hB5, hof5⟩ := hcut
    have hO5 : OpnAt wc w.heap.size o := HO4.out.keep (hof5.block _ HO4.out.lt hbne)
    have k52 := hO5.links
    have hq7 : ∀ q, Calls Tryz.prog 193 #[.slice (some ⟨g, a + 3, none⟩) 2 (cp - 3), .int .i64 o.links] (wc.drewN q) fun e w' => e = .returned (.tuple #[]) ∧ Blk w' g cv (stage page a ([UInt8.ofNat o.kind] ++ putN 2 o.mode ++ putN 2 o.links)) ∧ Off (fun k => k = g) wc w' := fun q => by
      refine (put_stage (by rw [HPl.out]; omega) ([UInt8.ofNat o.kind] ++ putN 2 o.mode) 2 o.links (cp - 3) (hB5.keep (w' := wc.drewN q) rfl) (by show 3 + 2 ≤ 64; decide) (by decide) (by omega)).mono ?_
      rintro e w' ⟨rfl, h9, h10⟩
      exact ⟨rfl, h9, ((Off.refl (fun k => k = g) wc).drewN q).then h10⟩
    obtain ⟨W5, hW5⟩ : ∃ W5, W5 = wc := ⟨_, rfl⟩
    rw [← hW5] at hof5 hO5 k52 hq7 ⊢
    have HQ7 := Lib.hid hq7
    have HO5 := Lib.hid hO5
    have HOf5 := Lib.hid (HOf4.out.then hof5)
    clear hq7 hB5 hof5 hO5 hW5 k41
    go_wp2_with fail
    go_cut [0, 3, 4, 7, 9] (fun s0 s3 s4 s7 s9 wx => s0 = .pointer (some ⟨s, 0, none⟩) ∧ s3 = .pointer (some ⟨w.heap.size, 0, none⟩) ∧ s4 = .int .i64 (3 + (o.i : Int) / 8) ∧ s7 = .slice (some ⟨g, 0, none⟩) 512 cv ∧ s9 = .slice (some ⟨g, a, none⟩) 64 cp ∧ Blk wx g cv (stage page a ([UInt8.ofNat o.kind] ++ putN 2 o.mode ++ putN 2 o.links)) ∧ Off (fun k => k = g) W5 wx)
    · go_region_with (go_at_call 193; refine (HQ7.out 1).mono ?_; rintro e w9 ⟨rfl, hb9, ho9⟩)
      all_goals (have HB9 := Lib.hid hb9; have HO9 := Lib.hid ho9; clear hb9 ho9; go_wp2_with fail; go_meet; exact ⟨rfl, rfl, rfl, rfl, rfl, HB9.out, HO9.out⟩)
    · obtain ⟨rfl, rfl, rfl, rfl, rfl, hB6, hof6⟩ := hcut
      have hO6 : OpnAt wc w.heap.size o := HO5.out.keep (hof6.block _ HO5.out.lt hbne)
      have k63 := hO6.size
      have hq8 : ∀ q, Calls Tryz.prog 193 #[.slice (some ⟨g, a + 5, none⟩) 4 (cp - 5), .int .i64 o.size] (wc.drewN q) fun e w' => e = .returned (.tuple #[]) ∧ Blk w' g cv (stage page a (headI o)) ∧ Off (fun k => k = g) wc w' := fun q => by
        refine (put_stage (by rw [HPl.out]; omega) ([UInt8.ofNat o.kind] ++ putN 2 o.mode ++ putN 2 o.links) 4 o.size (cp - 5) (hB6.keep (w' := wc.drewN q) rfl) (by show 5 + 4 ≤ 64; decide) (by decide) (by omega)).mono ?_
        rintro e w' ⟨rfl, h9, h10⟩
        exact ⟨rfl, h9, ((Off.refl (fun k => k = g) wc).drewN q).then h10⟩
      obtain ⟨W6, hW6⟩ : ∃ W6, W6 = wc := ⟨_, rfl⟩
      rw [← hW6] at hof6 hO6 k63 hq8 ⊢
      have HQ8 := Lib.hid hq8
      have HO6 := Lib.hid hO6
      have HOf6 := Lib.hid (HOf5.out.then hof6)
      clear hq8 hB6 hof6 hO6 hW6 k52
      go_wp2_with fail
      go_cut [0, 3, 4, 7, 9] (fun s0 s3 s4 s7 s9 wx => s0 = .pointer (some ⟨s, 0, none⟩) ∧ s3 = .pointer (some ⟨w.heap.size, 0, none⟩) ∧ s4 = .int .i64 (3 + (o.i : Int) / 8) ∧ s7 = .slice (some ⟨g, 0, none⟩) 512 cv ∧ s9 = .slice (some ⟨g, a, none⟩) 64 cp ∧ Blk wx g cv (stage page a (headI o)) ∧ Off (fun k => k = g) W6 wx)
      · go_region_with (go_at_call 193; refine (HQ8.out 1).mono ?_; rintro e w9 ⟨rfl, hb9, ho9⟩)
        all_goals (have HB9 := Lib.hid hb9; have HO9 := Lib.hid ho9; clear hb9 ho9; go_wp2_with fail; go_meet; exact ⟨rfl, rfl, rfl, rfl, rfl, HB9.out, HO9.out⟩)
      · obtain ⟨rfl, rfl, rfl, rfl, rfl, hB7, hof7⟩ := hcut
        have hO7 : OpnAt wc w.heap.size o := HO6.out.keep (hof7.block _ HO6.out.lt hbne)
        obtain ⟨W7, hW7⟩ : ∃ W7, W7 = wc := ⟨_, rfl⟩
        rw [← hW7] at hof7 hO7 hB7 ⊢
        have HO7 := Lib.hid hO7
        have HB7 := Lib.hid hB7
        have HOf7 := Lib.hid (HOf6.out.then hof7)
        have hidx : ∀ k : Nat, k < 11 → ∀ w, (Instr.index 92 (.agg (ints o.pages).toArray) (.int .i64 k)).run Tryz.prog w = .ok (.int .i64 (o.pages.getD k 0 : Nat)) w := fun k hk w => run_index_ints Tryz.underlying92 o.pages HL.out.pages k hk w
        have HIdx := Lib.hid hidx
        clear hB7 hof7 hO7 hW7 k63 hidx hc3 hc5 hc9 hi3 hi5 hi9 hn1 hn3 hn5
        go_wp2_with (refine wpList_load_mid rfl 92 _ rfl w.heap.size 4 rfl (ints o.pages) _ (rangeAt_pages HO7.out) Tryz.underlying92 rfl (by rw [info_pages]; simp [ints, HL.out.pages]) ?_)
        go_loopg [70] 11 (fun gg i wx => ∃ k : Nat, i = .int .i64 k ∧ gg = 11 - k ∧ k ≤ 11 ∧ Blk wx g cv (stage page a (headI o ++ pagesI o k)) ∧ Off (fun k => k = g) W7 wx)
        case atStart => exact ⟨0, rfl, rfl, Nat.zero_le _, by have := HB7.out; simpa [pagesI] using this, Off.refl _ _⟩
        case round =>
          obtain ⟨k, rfl, rfl, hk, hB, ho⟩ := hrel
          by_cases hlt : k < 11
          · have hlt' : decide ((k : Int) < 11) = true := by simp; omega
            have hix := HIdx.out k hlt
            have hpl9 : (headI o ++ pagesI o k).length = 9 + 4 * k := by rw [List.length_append, headI_length, pagesI_length o k (by rw [HL.out.pages]; omega)]
            have hpt := put_stage (by rw [HPl.out]; omega) (headI o ++ pagesI o k) 4 (o.pages.getD k 0) (cp - (9 + 4 * k)) hB (by rw [hpl9]; omega) (by decide) (by omega)
            rw [hpl9, List.append_assoc, ← pagesI_succ o k (by rw [HL.out.pages]; exact hlt)] at hpt
            have h13 : 13 + 4 * k ≤ cp := by omega
            have h9n : ¬ cp = 9 + 4 * k := by omega
            have HPt := Lib.hid hpt
            have HOo := Lib.hid ho
            clear hpt hB ho hpl9
            go_wp2_with fail
            rw [show 13 + 4 * k - (9 + 4 * k) = 4 from by omega]
            refine HPt.out.mono ?_
            rintro e w9 ⟨rfl, hb9, ho9⟩
            have HB9 := Lib.hid hb9
            have HO9 := Lib.hid (HOo.out.then ho9)
            clear hb9 ho9
            go_wp2_with fail
            go_roundg (11 - (k + 1))
            case measure => omega
            case rel => exact ⟨k + 1, by go_num, rfl, hlt, HB9.out, HO9.out⟩
          · have hlt' : decide ((k : Int) < 11) = false := by simp; omega
            obtain rfl : k = 11 := by omega
            rw [stage_all page a o HL.out.pages] at hB
            obtain ⟨g2, t2, f2, fg2⟩ := HK2.out
            have hofg : Off (fun k => k = g) w2 wr := HOf7.out.then ho
            have hHr : Held wr F c C R2 := g2.off hofg (fun k hk e => fg2 (e ▸ hk))
            have hbR2 : ¬ R2.has w.heap.size := t2.free HBR.out HO1.out.lt
            have toW : R.To R2 w.heap.size := ⟨fun k hk => (t2.m k hk).imp id (by have := HBw1.out.size; omega), fun k hk => (t2.i k hk).imp id (by have := HBw1.out.size; omega)⟩
            have offW : Off R.m w wr := ((Off.of_below HBw1.out _).then f2).trans hofg (fun k e => .inr (by have := HBw1.out.size; omega))
            have henl : (encI o).length = 64 := encI_length HL.out.pages
            have hxl : (laidAt page a (encI o)).length = 512 := by rw [laidAt_length (by rw [henl, HPl.out]; omega), HPl.out]
            have hby := hB.bytes (by rw [hxl]; decide)
            rw [hxl] at hby
            have hsv := HSv.out
            unfold Ca.save at hsv
            have hO8 : OpnAt wr w.heap.size o := HO7.out.keep (ho.block _ HO7.out.lt hbne)
            rw [← HN0.out, ← HPage.out, ← HA.out] at hsv
            cases hc1 : C.w n0 (laidAt page a (encI o)) with
            | none => rw [hc1] at hsv; cases hsv
            | some C1 =>
              rw [hc1] at hsv
              simp only at hsv
              have hwr := iwrite_any s m c ino n0 _ _ C C1 R2 F wr hHr HM.out HS.out hn0p hby hxl hc1
              rw [HN0.out] at hwr
              have hG1 : C1.G = C.G := by
                unfold Ca.w at hc1
                split at hc1
                · rw [← Option.some.inj hc1]; rfl
                · cases hc1
              have hafter : ∀ w9, Step wr F c C1 R2 w9 → OpnAt w9 w.heap.size o ∧ ∃ R9, Held w9 F c C1 R9 ∧ R2.To R9 wr.heap.size ∧ Off R2.m wr w9 := fun w9 ⟨R9, q1, q2, q3⟩ => ⟨hO8.keep (q3.block _ hO8.lt (fun e => hbR2 (.inl e))), R9, q1, q2, q3⟩
              have HWr := Lib.hid hwr
              have HToW := Lib.hid toW
              have HOffW := Lib.hid offW
              have HSv1 := Lib.hid hsv
              have HG1 := Lib.hid hG1
              have HAfter := Lib.hid hafter
              clear hwr toW offW hsv hafter hB ho hHr hofg g2 t2 f2 fg2 hby hxl henl hO8 hc1 hG1
              go_wp2_with fail
              refine HWr.out.mono ?_
              rintro e w9 ⟨rfl, hs9⟩
              obtain ⟨hO9, R9, q1, q2, q3⟩ := HAfter.out w9 hs9
              have hind := hO9.ind
              have HO9 := Lib.hid hO9
              have HS9 := Lib.hid hs9
              have HQ9 := Lib.hid (⟨q1, q2, q3⟩ : Held w9 F c C1 R9 ∧ R2.To R9 wr.heap.size ∧ Off R2.m wr w9)
              clear hO9 hs9 q1 q2 q3
              obtain ⟨nn, hnn⟩ : ∃ nn, nn = o.ind := ⟨_, rfl⟩
              rw [← hnn] at hind
              by_cases hz : nn = 0
              · have hz' : (((nn : Nat) : Int) != 0) = false := by rw [hz]; rfl
                have hCC : C1 = C' := by
                  have h9 := HSv1.out
                  rw [if_pos (hnn.symm.trans hz)] at h9
                  exact Option.some.inj h9
                have hfin : Step w F c C' R w9 := by rw [← hCC]; exact Step.trans HToW.out HOffW.out HS9.out
                have HFin := Lib.hid hfin
                clear hfin hCC hnn
                go_wp2_with fail
                go_end0
                exact ⟨rfl, HFin.out⟩
              · have hz' : (((nn : Nat) : Int) != 0) = true := by simp; exact hz
                have hw2 : C1.w nn (encM o.more) = some C' := by
                  have h9 := HSv1.out
                  rw [if_neg (fun e => hz (hnn.trans e)), ← hnn] at h9
                  exact h9
                have hms : ∀ w1, (Instr.makeSlice 37 (.int .i64 512) (.int .i64 512)).run Tryz.prog w1 = .ok (.slice (some ⟨w1.heap.size, 0, none⟩) 512 512) (w1.alloc (.cells (madeCells #[.int .u8 0] 512) 5)) := run_make_row' (P := Tryz.prog) 37 5 (.int .u8 0) 1 Tryz.underlying37 info_u8 rfl .i64 .i64 512 (by omega) (by omega)
                have hba : Below w9.heap.size w9 (w9.alloc (.cells (madeCells #[.int .u8 0] 512) 5)) := (Below.refl _ _).alloc (Nat.le_refl _) _
                have hOa : OpnAt (w9.alloc (.cells (madeCells #[.int .u8 0] 512) 5)) w.heap.size o := HO9.out.keep (hba.block _ HO9.out.lt)
                have hBa := blk_new w9
                have hidx : ∀ k : Nat, k < 128 → ∀ w, (Instr.index 169 (.agg (ints o.more).toArray) (.int .i64 k)).run Tryz.prog w = .ok (.int .i64 (o.more.getD k 0 : Nat)) w := fun k hk w => run_index_ints Tryz.underlying169 o.more HL.out.more k hk w
                have HIdx2 := Lib.hid hidx
                have HOa := Lib.hid hOa
                have HBa := Lib.hid hBa
                have HBla := Lib.hid hba
                have HW2 := Lib.hid hw2
                have hnnp : nn < C.G.pages := by rw [hnn]; exact hin
                clear hidx hOa hBa hba hw2 hnn
                go_wp2_with (refine wpList_load_mid rfl 169 _ rfl w.heap.size 16 rfl (ints o.more) _ (rangeAt_more HOa.out) Tryz.underlying169 rfl (by rw [info_more]; simp [ints, HL.out.more]) ?_)
                go_loopg [98] 128 (fun gg i wx => ∃ k : Nat, i = .int .i64 k ∧ gg = 128 - k ∧ k ≤ 128 ∧ Blk wx w9.heap.size 512 (laidAt pageZ 0 (moreI o k)) ∧ Off (fun k => k = w9.heap.size) (w9.alloc (.cells (madeCells #[.int .u8 0] 512) 5)) wx)
                case atStart => exact ⟨0, rfl, rfl, Nat.zero_le _, by have := HBa.out; simpa [moreI, laidAt_nil] using this, Off.refl _ _⟩
                case round =>
                  obtain ⟨k, rfl, rfl, hk, hB, ho⟩ := hrel
                  by_cases hlt : k < 128
                  · have hlt' : decide ((k : Int) < 128) = true := by simp; omega
                    have hix := HIdx2.out k hlt
                    have hml := moreI_length o k (by rw [HL.out.more]; omega)
                    have hpt := put_any w9.heap.size (4 * k) 4 (512 - 4 * k) 512 (o.more.getD k 0) _ wr hB (by rw [laidAt_length (by rw [hml, pageZ_length]; omega), pageZ_length]; omega) (by decide) (by omega)
                    have e4 : laidAt (laidAt pageZ 0 (moreI o k)) (4 * k) (putN 4 (o.more.getD k 0)) = laidAt pageZ 0 (moreI o (k + 1)) := by
                      have := laidAt_app (x := pageZ) (p := moreI o k) (y := putN 4 (o.more.getD k 0)) (a := 0) (by rw [hml, putN_length, pageZ_length]; omega)
                      rw [hml, Nat.zero_add] at this
                      rw [this, ← moreI_succ o k (by rw [HL.out.more]; exact hlt)]
                    rw [e4] at hpt
                    have h4k : 4 * k + 4 ≤ 512 := by omega
                    have h4n : ¬ 512 = 4 * k := by omega
                    have HPt := Lib.hid hpt
                    have HOo := Lib.hid ho
                    clear hpt hB ho hml e4
                    go_wp2_with fail
                    refine HPt.out.mono ?_
                    rintro e w11 ⟨rfl, hb11, ho11⟩
                    have HB11 := Lib.hid hb11
                    have HO11 := Lib.hid (HOo.out.then ho11)
                    clear hb11 ho11
                    go_wp2_with fail
                    go_roundg (128 - (k + 1))
                    case measure => omega
                    case rel => exact ⟨k + 1, by go_num, rfl, hlt, HB11.out, HO11.out⟩
                  · have hlt' : decide ((k : Int) < 128) = false := by simp; omega
                    obtain rfl : k = 128 := by omega
                    have hm128 : moreI o 128 = encM o.more := by unfold moreI encM; rw [List.take_of_length_le (by rw [HL.out.more]; exact Nat.le_refl _)]
                    have hel : (encM o.more).length = 512 := by rw [encM_length, HL.out.more]
                    rw [hm128, laidAt_full (by rw [pageZ_length, hel])] at hB
                    have hby := hB.bytes (by rw [hel]; decide)
                    rw [hel] at hby
                    obtain ⟨q1, q2, q3⟩ := HQ9.out
                    have hHr2 : Held wr F c C1 R9 := (q1.below HBla.out).off ho (fun k hk e => by have := q1.lt k hk; omega)
                    have hwr2 := iwrite_any s m c ino nn _ _ C1 C' R9 F wr hHr2 HM.out HS.out (by rw [HG1.out]; exact hnnp) hby hel HW2.out
                    have hoff9 : Off R9.m w9 wr := (Off.of_below HBla.out _).trans ho (fun k e => .inr (Nat.le_of_eq e.symm))
                    have hend : ∀ w12, Step wr F c C' R9 w12 → Step w F c C' R w12 := fun w12 h12 =>
                      Step.trans HToW.out HOffW.out (Step.trans q2 q3 (Step.trans (Reg.To.refl R9 w9.heap.size) hoff9 h12))
                    have HWr2 := Lib.hid hwr2
                    have HEnd := Lib.hid hend
                    clear hwr2 hend hby hB ho q1 q2 q3 hHr2 hoff9 hel hm128
                    go_wp2_with fail
                    refine HWr2.out.mono ?_
                    rintro e w12 ⟨rfl, hs12⟩
                    have HFin := Lib.hid (HEnd.out w12 hs12)
                    clear hs12
                    go_wp2_with fail
                    go_end0
                    exact ⟨rfl, HFin.out⟩
end Go.Proofs.YtakmplpfjcddiaaGreatDoor

namespace Go.Proofs.YtakmplpfjcddiaaGreatDoor
open Go.RowKit Go.Shelf Pa
attribute [local go_sem] bs_toList bs_size
theorem try1_idle (p q : Addr) (w : World) :
    CallsD Tryz.prog 189 #[.pointer (some p), .pointer (some q)] .returning w fun e u' w' => e = .returned (.tuple #[]) ∧ u' = .returning ∧ w' = w := by
  refine callsD_of_wpS Tryz.func189 rfl fun c₀ cs hu => ?_
  apply wpS_seq
  apply wpS_region
  simp [wpOpsS, go_sem, recoverD, hu, Tryz.ntmps189, Exit.thenS]
  refine wpS_of_wp ?_
  rw [show (#[Value.pointer (some p), Value.pointer (some q)] ++ (Array.replicate 15 undef).setIfInBounds 3 Value.nilIface : Array Value) = #[.pointer (some p), .pointer (some q), undef, undef, undef, .nilIface, undef, undef, undef, undef, undef, undef, undef, undef, undef, undef, undef] from rfl]
  go_wp2
  cases c₀
  simp_all [bodyPostS, results, Tryz.results189]
set_option maxHeartbeats 1000000 in
theorem try_any (s f : Nat) (caps : Array Value) (w : World) (P : World → Prop) (he : ∀ args w, (callFunc f args).run Tryz.prog w = .ok (.enter f args) w)
    (hf : Calls Tryz.prog f caps ((w.alloc (.cells #[.pointer (some ⟨s, 0, none⟩)] 52)).alloc (.cells #[.int .i64 0] 27)) fun e w1 => e = .returned (.tuple #[]) ∧ P w1)
    (hP : ∀ w1, P w1 → w1.heap[w.heap.size + 1]? = some (.cells #[.int .i64 0] 27 (0, 0))) :
    Calls Tryz.prog 121 #[.pointer (some ⟨s, 0, none⟩), .func (.func f) #[] caps] w fun e w' => e = .returned (.int .i64 0) ∧ ∃ w1, P w1 ∧ w' = w1.setCell ⟨w.heap.size + 1, 0, none⟩ (.int .i64 0) := by
  have hmf : ∀ (fn : Fn) (first cap : Array Value) (w : World), (Instr.makeFunc fn first cap).run Tryz.prog w = .ok (.func fn first cap) w := fun _ _ _ _ => rfl
  have HF := Lib.hid hf
  have HP := Lib.hid hP
  clear hf hP
  go_enter_defers Tryz.func121, Tryz.ntmps121
  go_wp2_with fail
  refine HF.out.mono ?_
  rintro e w1 ⟨rfl, hp⟩
  have hb := HP.out w1 hp
  have hc : w1.cell? ⟨w.heap.size + 1, 0, none⟩ = some (.int .i64 0) := cell_of_heap hb 0
  have hz : w1.frozen? ⟨w.heap.size + 1, 0, none⟩ = false := free_of_heap hb 0
  have HPp := Lib.hid hp
  clear hp hb
  go_wp2_with fail
  refine leaves_cons (f := 189) (args := #[.pointer (some ⟨w.heap.size, 0, none⟩), .pointer (some ⟨w.heap.size + 1, 0, none⟩)]) (by simp) (by simp [go_sem]) ?_
  refine (try1_idle ⟨w.heap.size, 0, none⟩ ⟨w.heap.size + 1, 0, none⟩ _).mono ?_
  rintro e u' w'' ⟨rfl, rfl, rfl⟩
  simp [Leaves, settle, results, Tryz.results121, go_sem, hc]
  exact ⟨w1, HPp.out, rfl⟩
end Go.Proofs.YtakmplpfjcddiaaGreatDoor

namespace Go.Proofs.YtakmplpfjcddiaaGreatDoor
open Go.RowKit Go.Shelf Pa
attribute [local go_sem] bs_toList bs_size
/-- What an act leaves that also writes blocks of one's own. -/
def StepX (w : World) (F : List (Nat × Obj)) (c : Nat) (C' : Ca) (R : Reg) (X : Nat → Prop) (w' : World) : Prop := ∃ R', Held w' F c C' R' ∧ R.To R' w.heap.size ∧ Off (fun k => R.m k ∨ X k) w w'
theorem Step.x {w w' : World} {F : List (Nat × Obj)} {c : Nat} {C' : Ca} {R : Reg} {X : Nat → Prop} (h : Step w F c C' R w') : StepX w F c C' R X w' := by
  obtain ⟨R', h1, h2, h3⟩ := h
  exact ⟨R', h1, h2, h3.mono fun k e => .inl (.inl e)⟩
theorem StepX.trans {w w1 w2 : World} {F : List (Nat × Obj)} {c : Nat} {C2 : Ca} {R R1 : Reg} {X : Nat → Prop} (ht : R.To R1 w.heap.size) (ho : Off (fun k => R.m k ∨ X k) w w1) (h2 : StepX w1 F c C2 R1 X w2) : StepX w F c C2 R X w2 := by
  obtain ⟨R2, h3, t2, o2⟩ := h2
  exact ⟨R2, h3, ht.trans t2 ho.size, ho.trans o2 fun k e => by
    rcases e with e | e
    · rcases ht.m k e with e | e
      · exact .inl (.inl e)
      · exact .inr e
    · exact .inl (.inr e)⟩
/-- The inode that Make makes. -/
def newO (k m n : Nat) : Opn := { Opn.none with kind := k, mode := m, links := 1, i := n }
theorem newO_len (k m n : Nat) : (newO k m n).Len := ⟨by simp [newO, Opn.none], by simp [newO, Opn.none]⟩
theorem built_new (k m n : Nat) : ((((((((((((((((Tryz.zeroCells171.setIfInBounds 0 (.int .i64 k)).setIfInBounds 1 (.int .i64 m)).setIfInBounds 2 (.int .i64 1)).setIfInBounds 3 (.int .i64 0)).setIfInBounds 4 (.int .i64 0)).setIfInBounds 5 (.int .i64 0)).setIfInBounds 6 (.int .i64 0)).setIfInBounds 7 (.int .i64 0)).setIfInBounds 8 (.int .i64 0)).setIfInBounds 9 (.int .i64 0)).setIfInBounds 10 (.int .i64 0)).setIfInBounds 11 (.int .i64 0)).setIfInBounds 12 (.int .i64 0)).setIfInBounds 13 (.int .i64 0)).setIfInBounds 14 (.int .i64 0)).setIfInBounds 15 (.int .i64 n)) = (cellsO (newO k m n)).toArray := by kernel_rfl
set_option maxRecDepth 100000 in
set_option maxHeartbeats 2000000 in
theorem make1_any (b0 b1 b2 b3 s m c ino k md n : Nat) (C C1 C2 : Ca) (R : Reg) (F : List (Nat × Obj)) (w : World) (h : Held w F c C R) (hm : (m, mapO c ino) ∈ F) (hs : (s, storeO m) ∈ F) (hi : ino ≤ 512) (h8 : ino % 8 = 0) (hp : alFirst ino ≤ C.G.pages)
    (q0 : w.heap[b0]? = some (.cells #[.pointer (some ⟨s, 0, none⟩)] 52 (0, 0))) (q1 : w.heap[b1]? = some (.cells #[.int .i64 0] 3 (0, 0))) (q2 : w.heap[b2]? = some (.cells #[.int .i64 k] 31 (0, 0))) (q3 : w.heap[b3]? = some (.cells #[.int .i64 md] 3 (0, 0)))
    (r0 : ¬ R.has b0) (r1 : ¬ R.has b1) (r2 : ¬ R.has b2) (r3 : ¬ R.has b3) (n01 : b0 ≠ b1) (n21 : b2 ≠ b1) (n31 : b3 ≠ b1)
    (hin : C.inode ino = some (n, C1)) (hni : n < ino) (hsv : C1.save (newO k md n) = some C2) (hG : C1.G = C.G) :
    Calls Tryz.prog 177 #[.pointer (some ⟨b0, 0, none⟩), .pointer (some ⟨b1, 0, none⟩), .pointer (some ⟨b2, 0, none⟩), .pointer (some ⟨b3, 0, none⟩)] w fun e w' => e = .returned (.tuple #[]) ∧ StepX w F c C2 R (fun k => k = b1) w' ∧ w'.heap[b1]? = some (.cells #[.int .i64 n] 3 (0, 0)) := by
  have hR : C.inodeR ino = (n, 0, C1) := by unfold Ca.inodeR; rw [hin]
  have hp1 : 1 < C.G.pages := by unfold alFirst at hp; omega
  have hio := inode_any m c ino C R F w h hm hp1 hi
  rw [hR] at hio
  have k0 : w.cell? ⟨b0, 0, none⟩ = some (.pointer (some ⟨s, 0, none⟩)) := cell_of_heap q0 0
  have ks : w.cell? ⟨s, 0, none⟩ = some (.pointer (some ⟨m, 0, none⟩)) := cell_of_heap (h.fix _ hs).1 0
  have l0 := (Array.getElem?_eq_some_iff.1 q0).1
  have l1 := (Array.getElem?_eq_some_iff.1 q1).1
  have l2 := (Array.getElem?_eq_some_iff.1 q2).1
  have l3 := (Array.getElem?_eq_some_iff.1 q3).1
  have hnext : ∀ w1, Step w F c C1 R w1 → w1.cell? ⟨b1, 0, none⟩ = some (.int .i64 0) ∧ w1.frozen? ⟨b1, 0, none⟩ = false ∧
      (w1.setCell ⟨b1, 0, none⟩ (.int .i64 n)).cell? ⟨b0, 0, none⟩ = some (.pointer (some ⟨s, 0, none⟩)) ∧ (w1.setCell ⟨b1, 0, none⟩ (.int .i64 n)).cell? ⟨b2, 0, none⟩ = some (.int .i64 k) ∧ (w1.setCell ⟨b1, 0, none⟩ (.int .i64 n)).cell? ⟨b3, 0, none⟩ = some (.int .i64 md) ∧ (w1.setCell ⟨b1, 0, none⟩ (.int .i64 n)).cell? ⟨b1, 0, none⟩ = some (.int .i64 n) ∧
      Calls Tryz.prog 124 #[.pointer (some ⟨s, 0, none⟩), OpnV (newO k md n)] (w1.setCell ⟨b1, 0, none⟩ (.int .i64 n)) fun e w' => e = .returned (.tuple #[]) ∧ StepX w F c C2 R (fun k => k = b1) w' ∧ w'.heap[b1]? = some (.cells #[.int .i64 n] 3 (0, 0)) := by
    intro w1 ⟨R1, g1, t1, o1⟩
    have hb : ∀ j, ¬ R.has j → j < w.heap.size → w1.heap[j]? = w.heap[j]? := fun j hj hl => o1.block j hl (fun e => hj (.inl e))
    have e1 : w1.heap[b1]? = _ := (hb b1 r1 l1).trans q1
    have e1' := heap_setCell_at w1 b1 0 (.int .i64 n) e1
    have oX : Off (fun k => k = b1) w1 (w1.setCell ⟨b1, 0, none⟩ (.int .i64 n)) := (Off.refl (fun k => k = b1) w1).setCell (p := ⟨b1, 0, none⟩) (.inl rfl) _
    have f1 : ¬ R1.has b1 := t1.free r1 l1
    have gX : Held (w1.setCell ⟨b1, 0, none⟩ (.int .i64 n)) F c C1 R1 := g1.off oX (fun j hj e => f1 (e ▸ hj))
    have hsz : (w1.setCell ⟨b1, 0, none⟩ (.int .i64 n)).heap.size = w1.heap.size := by simp [World.setCell]
    have l1' : b1 < w1.heap.size := Nat.lt_of_lt_of_le l1 o1.size
    refine ⟨cell_of_heap e1 0, free_of_heap e1 0, ?_, ?_, ?_, cell_of_heap e1' 0, ?_⟩
    · exact cell_of_heap ((Below.heap_setCell _ _ _ _ n01).trans ((hb b0 r0 l0).trans q0)) 0
    · exact cell_of_heap ((Below.heap_setCell _ _ _ _ n21).trans ((hb b2 r2 l2).trans q2)) 0
    · exact cell_of_heap ((Below.heap_setCell _ _ _ _ n31).trans ((hb b3 r3 l3).trans q3)) 0
    · refine (save_any s m c ino (newO k md n) C1 C2 R1 F _ gX hm hs hi h8 (by rw [hG]; exact hp) (newO_len k md n) hni (by show 0 < C1.G.pages; rw [hG]; omega) hsv).mono ?_
      rintro e w' ⟨rfl, R2, g2, t2, o2⟩
      refine ⟨rfl, ⟨R2, g2, t1.trans t2 (by rw [hsz]; exact o1.size), ?_⟩, ?_⟩
      · refine ((o1.mono fun k e => .inl (.inl e)).trans (oX.mono (M' := fun k => R.m k ∨ k = b1) fun k e => .inl (.inr e)) fun k e => .inl e).trans o2 fun k e => ?_
        rcases t1.m k e with e | e
        · exact .inl (.inl e)
        · exact .inr e
      · rw [o2.block b1 (by rw [hsz]; exact l1') (fun e => f1 (.inl e))]; exact e1'
  have HIo := Lib.hid hio
  have HNext := Lib.hid hnext
  clear hio hnext h hm hs hi h8 hp q0 q1 q2 q3 r0 r1 r2 r3 hin hni hsv hG hR
  go_enter Tryz.func177, Tryz.ntmps177
  go_wp2_with fail
  refine HIo.out.mono ?_
  rintro e w1 ⟨rfl, hs1⟩
  obtain ⟨a1, a2, a3, a4, a5, a6, a7⟩ := HNext.out w1 hs1
  have HSv := Lib.hid a7
  clear a7 hs1
  go_wp2_with fail
  rw [built_new]
  refine HSv.out.mono ?_
  rintro e w2 ⟨rfl, h2, h3⟩
  have HF := Lib.hid (⟨h2, h3⟩ : _ ∧ _)
  clear h2 h3
  go_wp2_with fail
  go_end0
  exact ⟨rfl, HF.out⟩
theorem alloc_old (w : World) (o : Obj) (k : Nat) (h : k < w.heap.size) : (w.alloc o).heap[k]? = w.heap[k]? := Below.heap_alloc w o k h
theorem alloc_at (w : World) (o : Obj) (k : Nat) (h : k = w.heap.size) : (w.alloc o).heap[k]? = some o := by subst h; exact heap_alloc_new w o
theorem alloc4 (w : World) (o0 o1 o2 o3 : Obj) : ((((w.alloc o0).alloc o1).alloc o2).alloc o3).heap[w.heap.size]? = some o0 ∧ ((((w.alloc o0).alloc o1).alloc o2).alloc o3).heap[w.heap.size + 1]? = some o1 ∧
    ((((w.alloc o0).alloc o1).alloc o2).alloc o3).heap[w.heap.size + 1 + 1]? = some o2 ∧ ((((w.alloc o0).alloc o1).alloc o2).alloc o3).heap[w.heap.size + 1 + 1 + 1]? = some o3 ∧ ((((w.alloc o0).alloc o1).alloc o2).alloc o3).heap.size = w.heap.size + 1 + 1 + 1 + 1 := by
  have s1 : (w.alloc o0).heap.size = w.heap.size + 1 := World.size_alloc _ _
  have s2 : ((w.alloc o0).alloc o1).heap.size = w.heap.size + 1 + 1 := by rw [World.size_alloc, s1]
  have s3 : (((w.alloc o0).alloc o1).alloc o2).heap.size = w.heap.size + 1 + 1 + 1 := by rw [World.size_alloc, s2]
  refine ⟨?_, ?_, ?_, alloc_at _ _ _ s3.symm, by rw [World.size_alloc, s3]⟩
  · rw [alloc_old _ _ _ (by omega), alloc_old _ _ _ (by omega), alloc_old _ _ _ (by omega)]; exact alloc_at _ _ _ rfl
  · rw [alloc_old _ _ _ (by omega), alloc_old _ _ _ (by omega)]; exact alloc_at _ _ _ s1.symm
  · rw [alloc_old _ _ _ (by omega)]; exact alloc_at _ _ _ s2.symm
set_option maxRecDepth 100000 in
set_option maxHeartbeats 2000000 in
theorem make_any (s m c ino k md n : Nat) (C C1 C2 : Ca) (R : Reg) (F : List (Nat × Obj)) (w : World) (h : Held w F c C R) (hm : (m, mapO c ino) ∈ F) (hs : (s, storeO m) ∈ F) (hi : ino ≤ 512) (h8 : ino % 8 = 0) (hp : alFirst ino ≤ C.G.pages)
    (hk : 1 ≤ k ∧ k ≤ 3) (hmd : md ≤ 4095) (hin : C.inode ino = some (n, C1)) (hni : n < ino) (hsv : C1.save (newO k md n) = some C2) (hG : C1.G = C.G) :
    Calls Tryz.prog 110 #[.pointer (some ⟨s, 0, none⟩), .int .i64 k, .int .i64 md] w fun e w' => e = .returned (.tuple #[.int .i64 n, .int .i64 0]) ∧ Step w F c C2 R w' := by
  have hmf : ∀ (fn : Fn) (first cap : Array Value) (w : World), (Instr.makeFunc fn first cap).run Tryz.prog w = .ok (.func fn first cap) w := fun _ _ _ _ => rfl
  have hk1 : decide ((k : Int) < 1) = false := by simp; omega
  have hk3 : decide ((3 : Int) < (k : Int)) = false := by simp; omega
  have hmode : ∀ W, Calls Tryz.prog 130 #[.int .i64 md] W fun e w' => e = .returned (.bool true) ∧ W = w' := fun W => (mode_any md W).mono fun e w' hh => ⟨hh.1.trans (by rw [decide_eq_true (by omega : (0 : Int) ≤ (md : Int)), decide_eq_true (by omega : (md : Int) ≤ 4095)]; rfl), hh.2⟩
  obtain ⟨W4, hW4⟩ : ∃ W4, W4 = ((((w.alloc (.cells #[.pointer (some ⟨s, 0, none⟩)] 52)).alloc (.cells #[.int .i64 k] 31)).alloc (.cells #[.int .i64 md] 3)).alloc (.cells #[.int .i64 0] 3)) := ⟨_, rfl⟩
  have hb4 : Below w.heap.size w W4 := by
    rw [hW4]
    exact ((((Below.refl _ _).alloc (Nat.le_refl _) _).alloc (by simp) _).alloc (by simp; omega) _).alloc (by simp; omega) _
  have HMode := Lib.hid hmode
  clear hmode
  go_enter Tryz.func110, Tryz.ntmps110
  go_wp2_with fail
  rw [← hW4]
  refine (HMode.out W4).mono ?_
  rintro e w1 ⟨rfl, rfl⟩
  obtain ⟨p0, p1, p2, p3, z4⟩ := alloc4 w (.cells #[.pointer (some ⟨s, 0, none⟩)] 52) (.cells #[.int .i64 k] 31) (.cells #[.int .i64 md] 3) (.cells #[.int .i64 0] 3)
  rw [← hW4] at p0 p1 p2 p3 z4
  obtain ⟨W6, hW6⟩ : ∃ W6, W6 = ((W4.alloc (.cells #[.pointer (some ⟨s, 0, none⟩)] 52)).alloc (.cells #[.int .i64 0] 27)) := ⟨_, rfl⟩
  have z6 : W6.heap.size = w.heap.size + 6 := by rw [hW6, World.size_alloc, World.size_alloc, z4]
  have hb46 : Below W4.heap.size W4 W6 := by rw [hW6]; exact ((Below.refl _ _).alloc (Nat.le_refl _) _).alloc (by simp) _
  have hb06 : Below w.heap.size w W6 := hb4.trans (hb46.mono hb4.size)
  have p6 : W6.heap[W4.heap.size + 1]? = some (.cells #[.int .i64 0] 27 (0, 0)) := by rw [hW6]; exact alloc_at _ _ _ (World.size_alloc _ _).symm
  have hR6 : ∀ k, w.heap.size ≤ k → ¬ R.has k := fun k hk e => by have := h.lt k e; omega
  have h6 := h.below hb06
  have hmk := make1_any w.heap.size (w.heap.size + 1 + 1 + 1) (w.heap.size + 1) (w.heap.size + 1 + 1) s m c ino k md n C C1 C2 R F W6 h6 hm hs hi h8 hp
    ((hb46.block _ (by omega)).trans p0) ((hb46.block _ (by omega)).trans p3) ((hb46.block _ (by omega)).trans p1) ((hb46.block _ (by omega)).trans p2)
    (hR6 _ (by omega)) (hR6 _ (by omega)) (hR6 _ (by omega)) (hR6 _ (by omega)) (by omega) (by omega) (by omega) hin hni hsv hG
  have htr := try_any s 177 #[.pointer (some ⟨w.heap.size, 0, none⟩), .pointer (some ⟨w.heap.size + 1 + 1 + 1, 0, none⟩), .pointer (some ⟨w.heap.size + 1, 0, none⟩), .pointer (some ⟨w.heap.size + 1 + 1, 0, none⟩)] W4
    (fun w1 => StepX W6 F c C2 R (fun k => k = w.heap.size + 1 + 1 + 1) w1 ∧ w1.heap[w.heap.size + 1 + 1 + 1]? = some (.cells #[.int .i64 n] 3 (0, 0)) ∧ w1.heap[W4.heap.size + 1]? = some (.cells #[.int .i64 0] 27 (0, 0)))
    (enters_of Tryz.func177 (by kernel_rfl) rfl)
    (by
      rw [← hW6]
      refine hmk.mono ?_
      rintro e w1 ⟨rfl, hx, h3⟩
      refine ⟨rfl, hx, h3, ?_⟩
      obtain ⟨R', _, _, o⟩ := hx
      exact (o.block _ (by omega) (fun e => by
        rcases e with e | e
        · exact hR6 _ (by omega) (.inl e)
        · omega)).trans p6)
    (fun w1 hh => hh.2.2)
  have hfin : ∀ w1, StepX W6 F c C2 R (fun k => k = w.heap.size + 1 + 1 + 1) w1 → ∀ u1 u2, Step w F c C2 R ((w1.setCell ⟨W4.heap.size + 1, 0, none⟩ u1).setCell ⟨w.heap.size + 1 + 1 + 1, 0, none⟩ u2) := by
    intro w1 ⟨R1, g1, t1, o1⟩ u1 u2
    have oX : Off (fun k => k = W4.heap.size + 1 ∨ k = w.heap.size + 1 + 1 + 1) w1 ((w1.setCell ⟨W4.heap.size + 1, 0, none⟩ u1).setCell ⟨w.heap.size + 1 + 1 + 1, 0, none⟩ u2) := ((Off.refl (fun k => k = W4.heap.size + 1 ∨ k = w.heap.size + 1 + 1 + 1) w1).setCell (p := ⟨W4.heap.size + 1, 0, none⟩) (.inl (.inl rfl)) u1).setCell (p := ⟨w.heap.size + 1 + 1 + 1, 0, none⟩) (.inl (.inr rfl)) u2
    have fr : ∀ k, w.heap.size ≤ k → k < W6.heap.size → ¬ R1.has k := fun k h1 h2 => t1.free (hR6 k h1) h2
    refine ⟨R1, g1.off oX (fun k hk e => ?_), ⟨fun k hk => ?_, fun k hk => ?_⟩, ((Off.of_below hb06 R.m).trans o1 (fun k e => ?_)).trans oX (fun k e => ?_)⟩
    · rcases e with rfl | rfl
      · exact fr _ (by omega) (by omega) hk
      · exact fr _ (by omega) (by omega) hk
    · exact (t1.m k hk).imp id (by omega)
    · exact (t1.i k hk).imp id (by omega)
    · rcases e with e | e
      · exact .inl e
      · right; omega
    · right; rcases e with e | e <;> omega
  have ks4 : W4.cell? ⟨w.heap.size, 0, none⟩ = some (.pointer (some ⟨s, 0, none⟩)) := cell_of_heap p0 0
  have hne43 : W4.heap.size + 1 ≠ w.heap.size + 1 + 1 + 1 := by omega
  have HTr := Lib.hid htr
  have HFin := Lib.hid hfin
  clear htr hfin hmk h6 hR6 p0 p1 p2 p3 p6 hb46 hb06 hW6 z6 hb4 hW4 h hm hs hin hsv
  go_wp2_with fail
  refine HTr.out.mono ?_
  rintro e w2 ⟨rfl, w3, ⟨hx, hn3, he3⟩, hw2⟩
  have k3 : w2.cell? ⟨w.heap.size + 1 + 1 + 1, 0, none⟩ = some (.int .i64 n) := by
    rw [hw2]
    exact (World.cell?_of_block (w := w3) (Below.heap_setCell _ _ _ _ (fun e => hne43 e.symm))).trans (cell_of_heap hn3 0)
  have f3 : w2.frozen? ⟨w.heap.size + 1 + 1 + 1, 0, none⟩ = false := by
    rw [hw2]
    exact (World.frozen?_of_block (w := w3) (Below.heap_setCell _ _ _ _ (fun e => hne43 e.symm))).trans (free_of_heap hn3 0)
  have hend : ∀ u2, Step w F c C2 R (w2.setCell ⟨w.heap.size + 1 + 1 + 1, 0, none⟩ u2) := fun u2 => by rw [hw2]; exact HFin.out w3 hx _ u2
  have HEnd := Lib.hid hend
  clear hend hx hn3 he3 hw2
  go_wp2_with fail
  (try simp only [Exit.inBlock, Exit.then])
  refine bodyPost_ret (v := .tuple #[.int .i64 n, .int .i64 0]) (by simp [results, Tryz.results110, go_sem, k3, f3]) rfl ?_
  exact ⟨rfl, HEnd.out _⟩
end Go.Proofs.YtakmplpfjcddiaaGreatDoor

namespace Go.Proofs.YtakmplpfjcddiaaGreatDoor
open Go.RowKit Go.Shelf Pa
attribute [local go_sem] bs_toList bs_size
/-- The cells of an inode as it is handed out. -/
def cellsI (o : Opn) : List Value := [.int .i64 o.kind, .int .i64 o.mode, .int .i64 o.links, .int .i64 o.size] ++ ints o.pages
theorem cellsI_length {o : Opn} (h : o.Len) : (cellsI o).length = 15 := by unfold cellsI; simp [ints, h.pages]
theorem cellsI_range {w : World} {b : Nat} {o : Opn} (h : OpnAt w b o) : w.rangeAt b 0 (cellsI o) := fun j v hv => by
  rw [Nat.zero_add, h.cell]
  unfold cellsO
  unfold cellsI at hv
  rw [← List.append_assoc]
  rw [List.getElem?_append_left (by have := (List.getElem?_eq_some_iff.1 hv).1; exact this)]
  exact hv
theorem cellsI_one (o : Opn) : (cellsI o).toArray.all (·.oneCell') = true := by
  rw [Array.all_eq_true_iff_forall_mem]
  intro v hv
  have hv : v ∈ cellsI o := by simpa using hv
  unfold cellsI at hv
  rcases List.mem_append.1 hv with hv | hv
  · simp at hv; rcases hv with rfl | rfl | rfl | rfl <;> rfl
  · exact ints_one _ v hv
theorem info_inode : (Tryz.prog.info? 94).map (·.size) = some 15 := by kernel_rfl
theorem results_inode {fn : Func} {p q : Tmp} (h : fn.results = #[.cell p 94, .tmp q]) (tmps : Array Value) (w : World) (b : Nat) (o : Opn) (hl : o.Len) (hp : tmps.getD p undef = .pointer (some ⟨b, 0, none⟩)) (hb : w.heap[b]? = some (.cells (cellsI o).toArray 94 (0, 0))) :
    (results fn tmps).run Tryz.prog w = .ok (.tuple #[.agg (cellsI o).toArray, tmps.getD q undef]) w := by
  have hl := run_loadVar_row (P := Tryz.prog) w b 94 94 (cellsI o).toArray (0, 0) _ hb Tryz.underlying94 rfl (by rw [info_inode, List.size_toArray, cellsI_length hl])
  rw [Array.getD_eq_getD_getElem?] at hp
  simp [results, h, hp, hl, asAddr]
theorem inode_store {w : World} {b : Nat} {old : Array Value} (h : w.heap[b]? = some (.cells old 94 (0, 0))) (ho : old.size = 15) (o : Opn) (hl : o.Len) : (storeCells ⟨b, 0, none⟩ (cellsI o)).run Tryz.prog w = .ok () (w.setRow b (cellsI o).toArray) := by
  have := run_storeCells_from (P := Tryz.prog) b 94 (cellsI o) 0 old w h (by rw [cellsI_length hl, ho]) (fun v hv => (Array.all_eq_true_iff_forall_mem.1 (cellsI_one o)) v (by simpa using hv))
  simpa using this
set_option maxRecDepth 100000 in
set_option maxHeartbeats 2000000 in
theorem get0_any (s m c ino : Nat) (i : Int) (C : Ca) (R : Reg) (F : List (Nat × Obj)) (w : World) (h : Held w F c C R) (hm : (m, mapO c ino) ∈ F) (hs : (s, storeO m) ∈ F) (hi : ino ≤ 512) (hp : alFirst ino < C.G.pages)
    (hv : ∀ j, 1 ≤ j → j < ino → bitAt (C.rd 1) j = true → (C.recd j).ind < C.G.pages) (hlen : (C.loadR ino i).1.Len) :
    Calls Tryz.prog 107 #[.pointer (some ⟨s, 0, none⟩), .int .i64 i] w fun e w' => e = .returned (.tuple #[.agg (cellsI (C.loadR ino i).1).toArray, .int .i64 (C.loadR ino i).2]) ∧ Step w F c C R w' := by
  obtain ⟨o, ho⟩ : ∃ o, o = (C.loadR ino i).1 := ⟨_, rfl⟩
  obtain ⟨ee, hee⟩ : ∃ ee, ee = (C.loadR ino i).2 := ⟨_, rfl⟩
  obtain ⟨W0, hW0⟩ : ∃ W0, W0 = w.alloc (.cells #[.int .i64 0, .int .i64 0, .int .i64 0, .int .i64 0, .int .i64 0, .int .i64 0, .int .i64 0, .int .i64 0, .int .i64 0, .int .i64 0, .int .i64 0, .int .i64 0, .int .i64 0, .int .i64 0, .int .i64 0] 94) := ⟨_, rfl⟩
  have hb0 : Below w.heap.size w W0 := by rw [hW0]; exact (Below.refl _ _).alloc (Nat.le_refl _) _
  have hz0 : W0.heap.size = w.heap.size + 1 := by rw [hW0, World.size_alloc]
  have hc0 := alloc_at w (.cells #[.int .i64 0, .int .i64 0, .int .i64 0, .int .i64 0, .int .i64 0, .int .i64 0, .int .i64 0, .int .i64 0, .int .i64 0, .int .i64 0, .int .i64 0, .int .i64 0, .int .i64 0, .int .i64 0, .int .i64 0] 94) _ rfl
  rw [← hW0] at hc0
  have h0 := h.below hb0
  have hld := load_any s m c ino i C R F W0 h0 hm hs hi hp hv
  rw [← ho, ← hee] at hld
  rw [← ho] at hlen
  have hbR : ¬ R.has w.heap.size := fun e => Nat.lt_irrefl _ (h.lt _ e)
  have hnext : ∀ w1, Step W0 F c C R w1 → w1.heap[w.heap.size]? = W0.heap[w.heap.size]? ∧ w.heap.size < w1.heap.size ∧ ∀ wx, Off (fun k => k = w.heap.size ∨ k = w1.heap.size) w1 wx → Step w F c C R wx := fun w1 ⟨R1, g1, t1, o1⟩ => by
    have hlt : w.heap.size < w1.heap.size := by have := o1.size; omega
    have f0 : ¬ R1.has w.heap.size := t1.free hbR (by omega)
    refine ⟨o1.block _ (by omega) (fun e => hbR (.inl e)), hlt, fun wx ho => ⟨R1, g1.off ho (fun k hk e => ?_), ⟨fun k hk => (t1.m k hk).imp id (by omega), fun k hk => (t1.i k hk).imp id (by omega)⟩, ((Off.of_below hb0 R.m).then o1).trans ho (fun k e => by right; rcases e with e | e <;> omega)⟩⟩
    rcases e with rfl | rfl
    · exact f0 hk
    · have := g1.lt _ hk; omega
  have HLd := Lib.hid hld
  have HNx := Lib.hid hnext
  have HLen := Lib.hid hlen
  have HOo := Lib.hid ho
  have HEe := Lib.hid hee
  have HC0 := Lib.hid hc0
  clear hld hnext hlen ho hee h0 h hb0 hc0 hm hs hp hv hbR
  go_enter Tryz.func107, Tryz.ntmps107
  go_wp2_with fail
  rw [← hW0]
  clear hW0
  refine HLd.out.mono ?_
  rintro e w1 ⟨rfl, hs1⟩
  obtain ⟨a1, a2, a3⟩ := HNx.out w1 hs1
  have hOn : OpnAt (w1.alloc (.cells Tryz.zeroCells171 171)) w1.heap.size Opn.none := opn_new w1
  have hst := opn_store hOn o HLen.out
  obtain ⟨W3, hW3⟩ : ∃ W3, W3 = (w1.alloc (.cells Tryz.zeroCells171 171)).setRow w1.heap.size (cellsO o).toArray := ⟨_, rfl⟩
  rw [← hW3] at hst
  have hO3 : OpnAt W3 w1.heap.size o := by rw [hW3]; exact hOn.row o HLen.out
  have ho3 : Off (fun k => k = w1.heap.size) w1 W3 := by
    rw [hW3]
    exact ((Off.refl (fun k => k = w1.heap.size) w1).alloc _).trans (off_setRow _ _ _) (fun k e => .inl e)
  have hc3 := (ho3.block w.heap.size a2 (by omega)).trans (a1.trans HC0.out)
  have hfin : ∀ cs, Step w F c C R (W3.setRow w.heap.size cs) := fun cs => a3 _ ((ho3.mono fun k e => .inl (.inr e)).trans (off_setRow _ _ _) (fun k e => .inl (.inl e)))
  have hst3 := inode_store hc3 rfl o HLen.out
  have hl15 := cellsI_length HLen.out
  have hl144 := cellsO_length HLen.out
  have HO3 := Lib.hid hO3
  have HC3 := Lib.hid hc3
  have HFin := Lib.hid hfin
  clear hO3 hc3 hfin ho3 hW3 hOn hs1 a1 a3
  go_wp2_with (refine wpList_load_mid rfl 94 _ rfl w1.heap.size 0 rfl (cellsI o) _ (cellsI_range HO3.out) Tryz.underlying94 rfl (by rw [info_inode, cellsI_length HLen.out]) ?_)
  (try simp only [Exit.inBlock, Exit.then])
  refine bodyPost_ret (results_inode rfl _ _ _ o HLen.out rfl (heap_setRow _ _ _ _ HC3.out)) rfl ?_
  exact ⟨by rw [← HOo.out, ← HEe.out]; rfl, HFin.out _⟩
end Go.Proofs.YtakmplpfjcddiaaGreatDoor

namespace Go.Proofs.YtakmplpfjcddiaaGreatDoor
open Go.RowKit Go.Shelf Pa Go.Maps
attribute [local go_sem] bs_toList bs_size
/-- All bytes of a file's pages. -/
def Ca.allP (C : Ca) (o : Opn) : Str := ((List.range (npg o.size)).map fun k => C.rd (o.slot k)).flatten
theorem flat512 (f : Nat → Str) (n : Nat) (h : ∀ k, k < n → (f k).length = 512) : ((List.range n).map f).flatten.length = 512 * n := by
  induction n with
  | zero => rfl
  | succ n ih =>
    rw [List.range_succ, List.map_append, List.flatten_append, List.length_append, ih (fun k hk => h k (by omega))]
    simp [h n (Nat.lt_succ_self n)]; omega
theorem flat512_at (f : Nat → Str) (n k : Nat) (hk : k < n) (h : ∀ k, k < n → (f k).length = 512) : (((List.range n).map f).flatten.drop (512 * k)).take 512 = f k := by
  induction n with
  | zero => omega
  | succ n ih =>
    have hl := flat512 f n (fun k hk => h k (by omega))
    rw [List.range_succ, List.map_append, List.flatten_append]
    by_cases hkn : k < n
    · rw [List.drop_append_of_le_length (by rw [hl]; omega), List.take_append_of_le_length (by rw [List.length_drop, hl]; omega)]
      exact ih hkn (fun k hk => h k (by omega))
    · obtain rfl : k = n := by omega
      rw [show 512 * k = (((List.range k).map f).flatten).length from hl.symm, List.drop_left]
      simp only [List.map_cons, List.map_nil, List.flatten_cons, List.flatten_nil, List.append_nil]
      exact List.take_of_length_le (by rw [h k (Nat.lt_succ_self k)]; exact Nat.le_refl _)
theorem take_step (A : Str) (at_ en k : Nat) (h1 : 512 * k < en) (h2 : at_ < en) (h3 : at_ < 512 * (k + 1)) (h4 : en ≤ A.length) :
    (A.drop at_).take (min (512 * k) en - at_) ++ ((((A.drop (512 * k)).take 512).drop (at_ - 512 * k)).take (min (en - 512 * k) 512 - (at_ - 512 * k))) = (A.drop at_).take (min (512 * (k + 1)) en - at_) := by
  refine List.ext_getElem? fun j => ?_
  rw [List.getElem?_append]
  simp only [List.getElem?_take, List.getElem?_drop, List.length_take, List.length_drop]
  by_cases hj : j < min (min (512 * k) en - at_) (A.length - at_)
  · rw [if_pos hj, if_pos (by omega), if_pos (by omega)]
  · rw [if_neg hj]
    by_cases hj2 : j < min (512 * (k + 1)) en - at_
    · rw [if_pos hj2, if_pos (by omega), if_pos (by omega)]
      congr 1; omega
    · rw [if_neg hj2, if_neg (by omega)]
/-- What stands at a round of Read: the bytes so far lie in a row of one's own; the inode's box lies apart. -/
def RdI (w : World) (F : List (Nat × Obj)) (c : Nat) (C : Ca) (R : Reg) (b : Nat) (o : Opn) (x : Str) (u : Value) (wx : World) : Prop :=
  ∃ R1, OwnB wx w.heap.size u x ∧ Held wx F c C R1 ∧ R.To R1 w.heap.size ∧ Off R.m w wx ∧ (∀ j, u.ownBlock = some j → ¬ R1.has j) ∧ OpnAt wx b o ∧ ¬ R1.has b ∧ u.ownBlock ≠ some b
theorem RdI.hrd {w wx : World} {F : List (Nat × Obj)} {c b : Nat} {C : Ca} {R : Reg} {o : Opn} {x : Str} {u : Value} (h : RdI w F c C R b o x u wx) : HRd w F c C R x u wx := by
  obtain ⟨R1, h1, h2, h3, h4, h5, _⟩ := h
  exact ⟨R1, h1, h2, h3, h4, h5⟩
theorem RdI.read {w wx w2 : World} {F : List (Nat × Obj)} {c b : Nat} {C : Ca} {R R1 : Reg} {o : Opn} {x page : Str} {u v : Value} (o1 : OwnB wx w.heap.size u x) (t1 : R.To R1 w.heap.size) (f1 : Off R.m w wx) (n1 : ∀ j, u.ownBlock = some j → ¬ R1.has j) (q1 : OpnAt wx b o) (b1 : ¬ R1.has b) (c1 : u.ownBlock ≠ some b) (hr : HRd wx F c C R1 page v w2) :
    RdI w F c C R b o x u w2 := by
  obtain ⟨R2, h1, h2, h3, h4, h5⟩ := hr
  have hz := f1.size
  refine ⟨R2, o1.off h4 (fun k hk e => n1 k hk (.inl e)), h2, ⟨fun k hk => ?_, fun k hk => ?_⟩, f1.trans h4 (fun k hk => (t1.m k hk)), fun k hk => h3.free (n1 k hk) (o1.block hk).2, q1.keep (h4.block _ q1.lt (fun e => b1 (.inl e))), h3.free b1 q1.lt, c1⟩
  · rcases h3.m k hk with e | e
    · exact t1.m k e
    · exact .inr (by omega)
  · rcases h3.i k hk with e | e
    · exact t1.i k e
    · exact .inr (by omega)
theorem RdI.grow {w w2 w3 : World} {F : List (Nat × Obj)} {c b : Nat} {C : Ca} {R : Reg} {o : Opn} {x : Str} {u v' : Value} (h : RdI w F c C R b o x u w2) (y : Str) (own : w3.ownsRow w.heap.size 5 1 v' (x.length + y.length) (x.map (fun z => Value.int .u8 (UInt8.toNat z)) ++ y.map (fun z => Value.int .u8 (UInt8.toNat z)))) (gr : w2.grownBy w3 u.ownBlock) (loc : v'.ownBlock = u.ownBlock ∨ v'.ownBlock = some w2.heap.size) :
    RdI w F c C R b o (x ++ y) v' w3 := by
  obtain ⟨R1, h1, h2, h3, h4, h5, h6, h7, h8⟩ := h
  have ho : Off (fun k => u.ownBlock = some k) w2 w3 := (Off.refl _ w2).grown gr (fun k e => .inl e)
  refine ⟨R1, ?_, h2.off ho (fun k hk e => h5 k e hk), h3, h4.trans ho (fun k e => .inr (h1.block e).1), fun k hk => ?_, h6.keep (ho.block _ h6.lt h8), h7, fun e => ?_⟩
  · unfold OwnB
    rw [List.length_append, List.map_append]; exact own
  · rcases loc with e | e
    · exact h5 k (e ▸ hk)
    · rw [e] at hk; injection hk with hk; intro hh; have := h2.lt _ hh; omega
  · rcases loc with e2 | e2
    · exact h8 (e2 ▸ e)
    · rw [e2] at e; injection e with e; have := h6.lt; omega
set_option maxRecDepth 100000 in
set_option maxHeartbeats 4000000 in
theorem iread_any (s m c ino i at_ n : Nat) (o : Opn) (C : Ca) (R : Reg) (F : List (Nat × Obj)) (w : World) (h : Held w F c C R) (hm : (m, mapO c ino) ∈ F) (hs : (s, storeO m) ∈ F) (hi : ino ≤ 512) (hp : alFirst ino < C.G.pages)
    (hv : ∀ j, 1 ≤ j → j < ino → bitAt (C.rd 1) j = true → (C.recd j).ind < C.G.pages) (hlo : C.loadR ino i = (o, 0)) (hlen : o.Len) (hsz : o.size ≤ 70656) (hsl : ∀ k, k < npg o.size → o.slot k < C.G.pages) (hat : at_ < o.size) (hn : n ≤ 1000000) (hn0' : 0 < n) :
    Calls Tryz.prog 133 #[.pointer (some ⟨s, 0, none⟩), .int .i64 i, .int .i64 at_, .int .i64 n] w fun e w' => ∃ v, e = .returned (.tuple #[v, .int .i64 0]) ∧ HRd w F c C R (((C.allP o).drop at_).take (min n (o.size - at_))) v w' := by
  obtain ⟨i0, hi0, hz0, hz1, hz2⟩ := info_parts info_u8
  have hld := load_any s m c ino i C R F w h hm hs hi hp hv
  rw [hlo] at hld
  have ha0 : decide ((at_ : Int) < 0) = false := by simp
  have hn0 : decide ((n : Int) < 0) = false := by simp
  have hge : decide (o.size ≤ at_) = false := by simp; omega
  obtain ⟨N, hN⟩ : ∃ N, N = min n (o.size - at_) := ⟨_, rfl⟩
  have hN0 : 0 < N := by omega
  have hNs : at_ + N ≤ o.size := by omega
  have hw1 : IntKind.i64.wrap ((o.size : Int) - (at_ : Int)) = (o.size : Int) - (at_ : Int) := IntWalk.i64_in _ (by omega)
  have hmin : min (n : Int) ((o.size : Int) - (at_ : Int)) = (N : Int) := by omega
  obtain ⟨A, hA⟩ : ∃ A, A = C.allP o := ⟨_, rfl⟩
  rw [← hN, ← hA]
  have hpl : ∀ k, k < npg o.size → (C.rd (o.slot k)).length = 512 := fun k hk => h.at_.rdlen (hsl k hk)
  have hAl : A.length = 512 * npg o.size := by rw [hA]; unfold Ca.allP; exact flat512 _ _ hpl
  have hAs : o.size ≤ A.length := by rw [hAl]; unfold npg; omega
  have hAk : ∀ k, 512 * k < o.size → k < npg o.size ∧ (A.drop (512 * k)).take 512 = C.rd (o.slot k) := fun k hk => by
    have h1 : k < npg o.size := by unfold npg; omega
    exact ⟨h1, by rw [hA]; unfold Ca.allP; exact flat512_at _ _ _ h1 hpl⟩
  have HLd := Lib.hid hld
  have HLen := Lib.hid hlen
  have HAk := Lib.hid hAk
  have HPl := Lib.hid hpl
  have HSl := Lib.hid hsl
  have HM := Lib.hid hm
  have HS := Lib.hid hs
  have hbR : ¬ R.has w.heap.size := fun e => Nat.lt_irrefl _ (h.lt _ e)
  have hRlt : ∀ k, R.has k → k < w.heap.size := h.lt
  have HRlt := Lib.hid hRlt
  clear hld hAk hpl hsl hm hs hbR hRlt h hv hlo hN hA hAl
  go_enter Tryz.func133, Tryz.ntmps133
  go_wp2_with fail
  refine HLd.out.mono ?_
  rintro e w1 ⟨rfl, R1, g1, t1, o1⟩
  have hst := opn_store (opn_new w1) o HLen.out
  obtain ⟨W3, hW3⟩ : ∃ W3, W3 = (w1.alloc (.cells Tryz.zeroCells171 171)).setRow w1.heap.size (cellsO o).toArray := ⟨_, rfl⟩
  rw [← hW3] at hst
  have hO3 : OpnAt W3 w1.heap.size o := by rw [hW3]; exact (opn_new w1).row o HLen.out
  have ho3 : Off (fun k => k = w1.heap.size) w1 W3 := by
    rw [hW3]
    exact ((Off.refl (fun k => k = w1.heap.size) w1).alloc _).trans (off_setRow _ _ _) (fun k e => .inl e)
  have hl144 := cellsO_length HLen.out
  have hsz3 := hO3.size
  have hI0 : RdI w F c C R w1.heap.size o [] (.slice none 0 0) W3 := by
    have hz := o1.size
    exact ⟨R1, World.ownsRow_nil _ _ _ _, g1.off ho3 (fun k hk e => by have := g1.lt _ hk; omega), t1, o1.trans ho3 (fun k e => .inr (by omega)), (fun j e => by cases e), hO3, (fun e => Nat.lt_irrefl _ (g1.lt _ e)), (fun e => by cases e)⟩
  have HI0 := Lib.hid hI0
  have hbw : w.heap.size ≤ w1.heap.size := o1.size
  clear hW3 hO3 ho3 hI0 g1 t1 o1
  go_wp2_with fail
  obtain ⟨b, hb⟩ : ∃ b, b = w1.heap.size := ⟨_, rfl⟩
  rw [← hb] at HI0 hbw ⊢
  clear hb hst hsz3
  have hx0 : (A.drop at_).take (min (512 * (at_ / 512)) (at_ + N) - at_) = [] := by rw [show min (512 * (at_ / 512)) (at_ + N) - at_ = 0 from by omega]; exact List.take_zero
  go_loopg [12, 14] (200 - at_ / 512) (fun gg u i wx => ∃ k : Nat, i = .int .i64 k ∧ gg = 200 - k ∧ at_ / 512 ≤ k ∧ k ≤ 150 ∧ RdI w F c C R b o ((A.drop at_).take (min (512 * k) (at_ + N) - at_)) u wx)
  case atStart => exact ⟨at_ / 512, by go_num, rfl, Nat.le_refl _, by omega, by rw [hx0]; exact HI0.out⟩
  case round =>
    obtain ⟨k, rfl, rfl, hk1, hk2, hI⟩ := hrel
    by_cases hlt : 512 * k < at_ + N
    · have hlt' : decide ((k : Int) * 512 < (at_ : Int) + (N : Int)) = true := by simp; omega
      obtain ⟨R1, o1, g1, t1, f1, n1, q1, b1, c1⟩ := id hI
      obtain ⟨hkn, hAp⟩ := HAk.out k (by omega)
      have k0 : wr.cell? ⟨s, 0, none⟩ = some (.pointer (some ⟨m, 0, none⟩)) := cell_of_heap (g1.fix _ HS.out).1 0
      have hmc := mcache_any m c ino wr (g1.fix _ HM.out).1
      have hsl := slot_any b k wr (by omega)
      have ksl := q1.slot k (by omega)
      have hrd := hread_any (o.slot k) c C R1 F wr g1 (HSl.out k hkn)
      have HMc := Lib.hid hmc
      have HSlot := Lib.hid hsl
      have HRdd := Lib.hid hrd
      have HN := Lib.hid (fun (v : Value) (w2 : World) (hh : HRd wr F c C R1 (C.rd (o.slot k)) v w2) => And.intro (RdI.read o1 t1 f1 n1 q1 b1 c1 hh) hh)
      have hpk := HPl.out k hkn
      have HPk := Lib.hid hpk
      have HAp := Lib.hid hAp
      clear hmc hsl hrd o1 g1 t1 f1 n1 q1 b1 c1 hI hpk hAp
      go_wp2_with fail
      refine HMc.out.mono ?_
      rintro e w1' ⟨rfl, rfl⟩
      go_wp2_with fail
      refine HSlot.out.mono ?_
      rintro e w1' ⟨rfl, rfl⟩
      go_wp2_with fail
      refine HRdd.out.mono ?_
      rintro e w2 ⟨v, rfl, hr⟩
      obtain ⟨hI2, hr⟩ := HN.out v w2 hr
      obtain ⟨page, hpage⟩ : ∃ page, page = C.rd (o.slot k) := ⟨_, rfl⟩
      rw [← hpage] at hr
      have hpl : page.length = 512 := by rw [hpage]; exact HPk.out
      obtain ⟨g, cv, rfl, hgB, hgl, hgc, hgf, hcv⟩ := hr.where_ (by intro e; rw [e] at hpl; cases hpl)
      obtain ⟨lo, hlo⟩ : ∃ lo, lo = at_ - 512 * k := ⟨_, rfl⟩
      obtain ⟨hh, hhh⟩ : ∃ hh, hh = min (at_ + N - 512 * k) 512 := ⟨_, rfl⟩
      have hlh : lo < hh := by omega
      have hh5 : hh ≤ 512 := by omega
      rw [hpl] at hcv
      have hmx : max ((at_ : Int) - (k : Int) * 512) 0 = (lo : Int) := by omega
      have hmn : min ((at_ : Int) + (N : Int) - (k : Int) * 512) 512 = (hh : Int) := by omega
      have hwa : IntKind.i64.wrap ((at_ : Int) - (k : Int) * 512) = (at_ : Int) - (k : Int) * 512 := IntWalk.i64_in _ (by omega)
      have hwb : IntKind.i64.wrap ((at_ : Int) + (N : Int) - (k : Int) * 512) = (at_ : Int) + (N : Int) - (k : Int) * 512 := IntWalk.i64_in _ (by omega)
      have hll : lo ≤ hh := by omega
      have hhc : hh ≤ cv := by omega
      have hcl : ¬ cv = lo := by omega
      rw [hpl]
      have hown := hI2
      obtain ⟨x, hx⟩ : ∃ x, x = (A.drop at_).take (min (512 * k) (at_ + N) - at_) := ⟨_, rfl⟩
      rw [← hx] at hI2
      have hxl : x.length ≤ 70656 := by rw [hx, List.length_take]; omega
      obtain ⟨y, hy⟩ : ∃ y, y = (page.drop lo).take (hh - lo) := ⟨_, rfl⟩
      have hyl : y.length = hh - lo := by rw [hy, List.length_take, List.length_drop, hpl]; omega
      have hxy : x ++ y = (A.drop at_).take (min (512 * (k + 1)) (at_ + N) - at_) := by
        rw [hx, hy, hpage, ← HAp.out, hlo, hhh]
        exact take_step A at_ (at_ + N) k hlt (by omega) (by omega) (by omega)
      have hnews : ∀ j u, (y.map (fun z => Value.int .u8 (UInt8.toNat z)))[j]? = some u → w2.cell? ((⟨g, lo, none⟩ : Addr).add j) = some u := by
        intro j u hj
        rw [List.getElem?_map] at hj
        obtain ⟨z, hz, rfl⟩ := Option.map_eq_some_iff.1 hj
        rw [hy] at hz
        have hz2 : page[lo + j]? = some z := by
          rw [List.getElem?_take] at hz
          split at hz
          · rwa [List.getElem?_drop] at hz
          · cases hz
        have := hgc _ _ hz2
        by_cases hj0 : j = 0
        · subst hj0; simpa [Addr.add] using this
        · simpa [Addr.add, hj0] using this
      have hone : ∀ u ∈ y.map (fun z => Value.int .u8 (UInt8.toNat z)), u.oneCell' = true := by
        intro u hu
        obtain ⟨z, _, rfl⟩ := List.mem_map.1 hu
        rfl
      have hyL : (y.map (fun z => Value.int .u8 (UInt8.toNat z))).length = (hh - lo) * 1 := by rw [List.length_map, hyl, Nat.mul_one]
      obtain ⟨R3, o3, g3, t3, f3, n3, q3, b3, c3⟩ := id hI2
      have hbase : w.heap.size ≤ w2.heap.size := f3.size
      have hI3 : ∀ v' w3, w3.ownsRow w.heap.size 5 1 v' (x.length + (hh - lo)) (x.map (fun z => Value.int .u8 (UInt8.toNat z)) ++ y.map (fun z => Value.int .u8 (UInt8.toNat z))) → w2.grownBy w3 u12.ownBlock → (v'.ownBlock = u12.ownBlock ∨ v'.ownBlock = some w2.heap.size) → RdI w F c C R b o ((A.drop at_).take (min (512 * (k + 1)) (at_ + N) - at_)) v' w3 := fun v' w3 h1 h2 h3 => by
        rw [← hxy]
        exact hI2.grow y (by rw [hyl]; exact h1) h2 h3
      have hkm : x.length + (hh - lo) ≤ maxLen := by unfold maxLen; omega
      have hkb : (x.length + (hh - lo)) * 1 ≤ 140737488355328 := by omega
      obtain ⟨z0, hz0⟩ : ∃ z, page[lo]? = some z := ⟨_, List.getElem?_eq_getElem (by omega)⟩
      have hck := hgc lo z0 hz0
      have HI3 := Lib.hid hI3
      have HO3 := Lib.hid o3
      have HNews := Lib.hid hnews
      have HOne := Lib.hid hone
      have HYL := Lib.hid hyL
      clear hpage HRdd HN HMc HSlot hr hown hx hy hyl hxy hI2 hI3 hnews hone hyL o3 g3 t3 f3 n3 q3 b3 c3 hlo hhh hgc HAp hz0
      go_wp2_with (at_builtin; refine wpList_append_own_at _ rfl _ _ 37 rfl w.heap.size 5 i0 (.int .u8 0) 1 1 Tryz.underlying37 hi0 hz0 hz1 hz2 rfl (by decide) u12 _ _ rfl HO3.out ⟨g, lo, none⟩ (hh - lo) (cv - lo) _ rfl HYL.out HNews.out HOne.out hkm hkb hbase ?_; intro v' w6 hown' hgrow hnil hloc; have hI6 := HI3.out v' w6 hown' hgrow hloc; have HI6 := Lib.hid hI6; clear hown' hgrow hnil hloc hI6)
      go_roundg (200 - (k + 1))
      case measure => omega
      case rel => exact ⟨k + 1, by go_num, rfl, by omega, by omega, HI6.out⟩
    · have hlt' : decide ((k : Int) * 512 < (at_ : Int) + (N : Int)) = false := by simp; omega
      rw [show min (512 * k) (at_ + N) - at_ = N from by omega] at hI
      have HI := Lib.hid hI.hrd
      clear hI
      go_wp2_with fail
      go_ret2
      exact ⟨_, rfl, HI.out⟩
end Go.Proofs.YtakmplpfjcddiaaGreatDoor

namespace Go.Proofs.YtakmplpfjcddiaaGreatDoor
open Go.RowKit Go.Shelf Pa
attribute [local go_sem] bs_toList bs_size
theorem Ca.w_G {C C' : Ca} {n : Nat} {x : Str} (h : C.w n x = some C') : C'.G = C.G := by
  unfold Ca.w at h
  split at h
  · rw [← Option.some.inj h]; rfl
  · cases h
theorem Ca.page_G {C C' : Ca} {n : Nat} (h : C.page = some (n, C')) : C'.G = C.G := by
  unfold Ca.page at h
  split at h
  · cases h
  · split at h
    · have := Option.some.inj h
      rw [← (Prod.mk.inj this).2]; rfl
    · cases h
theorem Ca.give_G {C C' : Ca} {p n i l e : Nat} (h : C.give p n i l = (e, C')) : C'.G = C.G := by
  unfold Ca.give at h
  split at h
  · rw [← (Prod.mk.inj h).2]
  · split at h
    · rw [← (Prod.mk.inj h).2]
    · split at h
      · rw [← (Prod.mk.inj h).2]
      · rw [← (Prod.mk.inj h).2]; rfl
theorem Ca.giveP_G {C C' : Ca} {ino n : Nat} (h : C.giveP ino n = some C') : C'.G = C.G := by
  unfold Ca.giveP at h
  split at h
  · rename_i C2 h2
    rw [← Option.some.inj h]; exact Ca.give_G h2
  · cases h
theorem setSlot_size (o : Opn) (k n : Nat) : (o.setSlot k n).size = o.size := by unfold Opn.setSlot; split <;> rfl
theorem growN_succ {k j : Nat} {o1 : Opn} {C1 : Ca} {s1 : OC} (h : growN k (j + 1) (o1, C1) = some s1) :
    ∃ oA CA n CB, ((k ≠ 10 ∧ oA = o1 ∧ CA = C1) ∨ (k = 10 ∧ ∃ n0, C1.page = some (n0, CA) ∧ oA = o1.setInd n0)) ∧ CA.page = some (n, CB) ∧ growN (k + 1) j (oA.setSlot k n, CB) = some s1 := by
  unfold growN at h
  split at h
  · cases h
  · rename_i s' hs
    unfold grow1 at hs
    by_cases hk : k = 10
    · rw [if_pos hk] at hs
      cases hp : C1.page with
      | none => rw [hp] at hs; cases hs
      | some q =>
        obtain ⟨n0, CA⟩ := q
        rw [hp] at hs
        simp only at hs
        cases hq : CA.page with
        | none => rw [hq] at hs; cases hs
        | some q =>
          obtain ⟨n, CB⟩ := q
          rw [hq] at hs
          have := Option.some.inj hs
          subst this
          exact ⟨_, CA, n, CB, .inr ⟨hk, n0, rfl, rfl⟩, hq, h⟩
    · rw [if_neg hk] at hs
      simp only at hs
      cases hq : C1.page with
      | none => rw [hq] at hs; cases hs
      | some q =>
        obtain ⟨n, CB⟩ := q
        rw [hq] at hs
        have := Option.some.inj hs
        subst this
        exact ⟨_, C1, n, CB, .inl ⟨hk, rfl, rfl⟩, hq, h⟩
theorem shrinkN_succ {ino a j : Nat} {o1 : Opn} {C1 : Ca} {s2 : OC} (h : shrinkN ino a (j + 1) (o1, C1) = some s2) :
    ∃ CA, C1.giveP ino (o1.slot (a - 1)) = some CA ∧ ((a - 1 ≠ 10 ∧ shrinkN ino (a - 1) j (o1.setSlot (a - 1) 0, CA) = some s2) ∨ (a - 1 = 10 ∧ ∃ CB, CA.giveP ino (o1.setSlot (a - 1) 0).ind = some CB ∧ shrinkN ino (a - 1) j ((o1.setSlot (a - 1) 0).setInd 0, CB) = some s2)) := by
  unfold shrinkN at h
  split at h
  · cases h
  · rename_i s' hs
    unfold shrink1 at hs
    simp only at hs
    cases hp : C1.giveP ino (o1.slot (a - 1)) with
    | none => rw [hp] at hs; cases hs
    | some CA =>
      rw [hp] at hs
      simp only at hs
      by_cases hk : a - 1 = 10
      · rw [if_pos hk] at hs
        cases hq : CA.giveP ino (o1.setSlot (a - 1) 0).ind with
        | none => rw [hq] at hs; cases hs
        | some CB =>
          rw [hq] at hs
          have := Option.some.inj hs
          subst this
          exact ⟨CA, rfl, .inr ⟨hk, CB, hq, h⟩⟩
      · rw [if_neg hk] at hs
        have := Option.some.inj hs
        subst this
        exact ⟨CA, rfl, .inl ⟨hk, h⟩⟩
/-- An inode that is open, and a cache, midway. -/
def OcI (w : World) (F : List (Nat × Obj)) (c : Nat) (R : Reg) (b : Nat) (o1 : Opn) (C1 : Ca) (wx : World) : Prop :=
  ∃ R1, Held wx F c C1 R1 ∧ R.To R1 w.heap.size ∧ Off (fun k => R.m k ∨ k = b) w wx ∧ OpnAt wx b o1 ∧ ¬ R1.has b
theorem OcI.act {w wx w2 : World} {F : List (Nat × Obj)} {c b : Nat} {R R1 : Reg} {o1 : Opn} {C2 : Ca} (t1 : R.To R1 w.heap.size) (f1 : Off (fun k => R.m k ∨ k = b) w wx) (q1 : OpnAt wx b o1) (b1 : ¬ R1.has b) (hs : Step wx F c C2 R1 w2) : OcI w F c R b o1 C2 w2 := by
  obtain ⟨R2, g2, t2, f2⟩ := hs
  refine ⟨R2, g2, t1.trans t2 f1.size, f1.trans f2 (fun k e => ?_), q1.keep (f2.block _ q1.lt (fun e => b1 (.inl e))), t2.free b1 q1.lt⟩
  rcases t1.m k e with e | e
  · exact .inl (.inl e)
  · exact .inr e
theorem OcI.set {w wx : World} {F : List (Nat × Obj)} {c b j : Nat} {R : Reg} {o1 o2 : Opn} {C1 : Ca} {v : Value} (h : OcI w F c R b o1 C1 wx) (hq : ∀ R1, Held wx F c C1 R1 → OpnAt wx b o1 → OpnAt (wx.setCell ⟨b, j, none⟩ v) b o2) : OcI w F c R b o2 C1 (wx.setCell ⟨b, j, none⟩ v) := by
  obtain ⟨R1, g1, t1, f1, q1, b1⟩ := h
  have ho : Off (fun k => k = b) wx (wx.setCell ⟨b, j, none⟩ v) := (Off.refl (fun k => k = b) wx).setCell (p := ⟨b, j, none⟩) (.inl rfl) _
  exact ⟨R1, g1.off ho (fun k hk e => b1 (e ▸ hk)), t1, f1.trans ho (fun k e => .inl (.inr e)), hq R1 g1 q1, b1⟩
theorem OcI.below {w wx w2 : World} {F : List (Nat × Obj)} {c b : Nat} {R : Reg} {o1 : Opn} {C1 : Ca} (h : OcI w F c R b o1 C1 wx) (hb : Below wx.heap.size wx w2) : OcI w F c R b o1 C1 w2 := by
  obtain ⟨R1, g1, t1, f1, q1, b1⟩ := h
  exact ⟨R1, g1.below hb, t1, f1.step hb, q1.keep (hb.block _ q1.lt), b1⟩
theorem OcI.x {w w1 : World} {F : List (Nat × Obj)} {c b : Nat} {R : Reg} {o1 : Opn} {C1 : Ca} (h : OcI w F c R b o1 C1 w1) : StepX w F c C1 R (fun k => k = b) w1 ∧ OpnAt w1 b o1 := by
  obtain ⟨R1, g1, t1, f1, q1, _⟩ := h
  exact ⟨⟨R1, g1, t1, f1⟩, q1⟩
theorem OcI.start {w : World} {F : List (Nat × Obj)} {c b : Nat} {R : Reg} {o : Opn} {C : Ca} (h : Held w F c C R) (hO : OpnAt w b o) (hb : ¬ R.has b) : OcI w F c R b o C w := ⟨R, h, Reg.To.refl _ _, Off.refl _ _, hO, hb⟩
theorem OcI.opn {w wx : World} {F : List (Nat × Obj)} {c b : Nat} {R : Reg} {o1 : Opn} {C1 : Ca} (h : OcI w F c R b o1 C1 wx) : OpnAt wx b o1 := by
  obtain ⟨R1, _, _, _, q1, _⟩ := h
  exact q1
/-- A page is taken, midway. -/
theorem OcI.take {w wx : World} {F : List (Nat × Obj)} {c b s m ino n : Nat} {R : Reg} {o1 : Opn} {C1 C2 : Ca} (h : OcI w F c R b o1 C1 wx) (hm : (m, mapO c ino) ∈ F) (hs : (s, storeO m) ∈ F) (hp : 2 < C1.G.pages) (hw : C1.page = some (n, C2)) :
    Calls Tryz.prog 191 #[.pointer (some ⟨s, 0, none⟩)] wx fun e w' => e = .returned (.int .i64 n) ∧ OcI w F c R b o1 C2 w' := by
  obtain ⟨R1, g1, t1, f1, q1, b1⟩ := h
  refine (take_any s m c ino n C1 C2 R1 F wx g1 hm hs hp hw).mono ?_
  rintro e w' ⟨rfl, hs⟩
  exact ⟨rfl, OcI.act t1 f1 q1 b1 hs⟩
theorem OcI.give {w wx : World} {F : List (Nat × Obj)} {c b s m ino n : Nat} {R : Reg} {o1 : Opn} {C1 C2 : Ca} (h : OcI w F c R b o1 C1 wx) (hm : (m, mapO c ino) ∈ F) (hs : (s, storeO m) ∈ F) (hp : 2 < C1.G.pages) (hi : ino ≤ 512) (hw : C1.giveP ino n = some C2) :
    Calls Tryz.prog 192 #[.pointer (some ⟨s, 0, none⟩), .int .i64 n] wx fun e w' => e = .returned (.tuple #[]) ∧ OcI w F c R b o1 C2 w' := by
  obtain ⟨R1, g1, t1, f1, q1, b1⟩ := h
  refine (igive_any s m c ino n C1 C2 R1 F wx g1 hm hs hp hi hw).mono ?_
  rintro e w' ⟨rfl, hs⟩
  exact ⟨rfl, OcI.act t1 f1 q1 b1 hs⟩
set_option maxRecDepth 100000 in
set_option maxHeartbeats 4000000 in
theorem resize_any (s m c ino b size : Nat) (o o' : Opn) (C C' : Ca) (R : Reg) (F : List (Nat × Obj)) (w : World) (h : Held w F c C R) (hm : (m, mapO c ino) ∈ F) (hs : (s, storeO m) ∈ F) (hi : ino ≤ 512) (hp : 2 < C.G.pages) (hO : OpnAt w b o) (hbR : ¬ R.has b) (hos : o.size ≤ 70656) (hsz : size ≤ 70656)
    (hr : resizeP ino (o, C) size = some (o', C')) (htl : 0 < size → o'.slot (npg size - 1) < C.G.pages) :
    Calls Tryz.prog 123 #[.pointer (some ⟨s, 0, none⟩), .pointer (some ⟨b, 0, none⟩), .int .i64 size] w fun e w' => e = .returned (.tuple #[]) ∧ OcI w F c R b o' C' w' := by
  obtain ⟨s1, hg1, hr1⟩ : ∃ s1, growN (npg o.size) (npg size - npg o.size) (o, C) = some s1 ∧ (match shrinkN ino (npg o.size) (npg o.size - npg size) s1 with
    | none => none
    | some s2 => match tailZ s2 o.size size with
      | none => none
      | some s3 => some ({ s3.1 with size := size }, s3.2)) = some (o', C') := by
    unfold resizeP at hr
    split at hr
    · cases hr
    · rename_i s1 h1; exact ⟨s1, h1, hr⟩
  obtain ⟨s2, hg2, hr2⟩ : ∃ s2, shrinkN ino (npg o.size) (npg o.size - npg size) s1 = some s2 ∧ (match tailZ s2 o.size size with
      | none => none
      | some s3 => some ({ s3.1 with size := size }, s3.2)) = some (o', C') := by
    split at hr1
    · cases hr1
    · rename_i s2 h2; exact ⟨s2, h2, hr1⟩
  obtain ⟨s3, hg3, hr3⟩ : ∃ s3, tailZ s2 o.size size = some s3 ∧ some ({ s3.1 with size := size }, s3.2) = some (o', C') := by
    split at hr2
    · cases hr2
    · rename_i s3 h3; exact ⟨s3, h3, hr2⟩
  have hI0 := OcI.start h hO hbR
  have hsize0 := hO.size
  obtain ⟨np0, hnp0⟩ : ∃ x, x = npg o.size := ⟨_, rfl⟩
  obtain ⟨np1, hnp1⟩ : ∃ x, x = npg size := ⟨_, rfl⟩
  have hn0 : np0 ≤ 138 := by rw [hnp0]; unfold npg; omega
  have hn1 : np1 ≤ 138 := by rw [hnp1]; unfold npg; omega
  have hnp : ∀ (w : World), Calls Tryz.prog 190 #[.int .i64 size] w fun e w' => e = .returned (.int .i64 np1) ∧ w = w' := fun w => by rw [hnp1]; exact npages_any size w (by omega)
  have hno : ∀ (w : World), Calls Tryz.prog 190 #[.int .i64 o.size] w fun e w' => e = .returned (.int .i64 np0) ∧ w = w' := fun w => by rw [hnp0]; exact npages_any o.size w (by omega)
  rw [← hnp0, ← hnp1] at hg1 hg2
  have HM := Lib.hid hm
  have HS := Lib.hid hs
  have HI0 := Lib.hid hI0
  have HG1 := Lib.hid hg1
  have HG2 := Lib.hid hg2
  have HG3 := Lib.hid hg3
  have HR3 := Lib.hid hr3
  have HTl := Lib.hid htl
  have HNp := Lib.hid hnp
  have HNo := Lib.hid hno
  have HNp1 := Lib.hid hnp1
  clear hm hs hI0 hg1 hg2 hg3 hr hr1 hr2 hr3 htl hnp hno hnp0 hnp1 h hO hbR
  go_enter Tryz.func123, Tryz.ntmps123
  go_wp2_with fail
  refine (HNo.out _).mono ?_
  rintro e w1 ⟨rfl, rfl⟩
  go_wp2_with fail
  go_loopg [6] (300 - np0) (fun gg u wx => ∃ (k : Nat) (o1 : Opn) (C1 : Ca), u = .int .i64 k ∧ gg = 300 - k ∧ k ≤ 138 ∧ (k = np0 ∨ k ≤ np1) ∧ np0 ≤ k ∧ growN k (np1 - k) (o1, C1) = some s1 ∧ C1.G = C.G ∧ o1.size = o.size ∧ OcI w F c R b o1 C1 wx)
  case atStart => exact ⟨np0, o, C, rfl, rfl, hn0, .inl rfl, Nat.le_refl _, HG1.out, rfl, rfl, HI0.out⟩
  case round =>
    obtain ⟨k, o1, C1, rfl, rfl, hk1, hk2, hk3, hgr, hG, hso, hI⟩ := hrel
    have HI := Lib.hid hI
    have HGr := Lib.hid hgr
    clear hI hgr hsize0
    by_cases hlt : k < np1
    · have hlt' : decide ((k : Int) < (np1 : Int)) = true := by simp; omega
      obtain ⟨j, hj⟩ : ∃ j, np1 - k = j + 1 := ⟨np1 - k - 1, by omega⟩
      obtain ⟨oA, CA, n, CB, hA, hB, hgr⟩ := growN_succ (by rw [← hj]; exact HGr.out)
      rw [show j = np1 - (k + 1) from by omega] at hgr
      have hGA : CA.G = C.G := by
        rcases hA with ⟨_, _, e⟩ | ⟨_, n0, e, _⟩
        · rw [e]; exact hG
        · rw [Ca.page_G e]; exact hG
      have hGB : CB.G = C.G := by rw [Ca.page_G hB]; exact hGA
      have hsA : oA.size = o.size := by
        rcases hA with ⟨_, e, _⟩ | ⟨_, n0, _, e⟩
        · rw [e]; exact hso
        · rw [e]; exact hso
      have hslot : ∀ w, Calls Tryz.prog 126 #[.pointer (some ⟨b, 0, none⟩), .int .i64 k] w fun e w' => e = .returned (.pointer (some ⟨b, slotOff k, none⟩)) ∧ w = w' := fun w => slot_any b k w (by omega)
      have HSlot := Lib.hid hslot
      have HGr2 := Lib.hid hgr
      have HSA := Lib.hid hsA
      have HGB := Lib.hid hGB
      have htk : ∀ wx, OcI w F c R b oA CA wx → Calls Tryz.prog 191 #[.pointer (some ⟨s, 0, none⟩)] wx fun e w' => e = .returned (.int .i64 n) ∧ OcI w F c R b oA CB w' := fun wx hI => hI.take HM.out HS.out (by rw [hGA]; exact hp) hB
      have HTk := Lib.hid htk
      clear hslot hgr hsA hGB htk hj
      obtain ⟨bq, hbq⟩ : ∃ bq, ((k : Int) == 10) = bq := ⟨_, rfl⟩
      have hbk : bq = true ↔ k = 10 := by rw [← hbq]; simp; omega
      have HBk := Lib.hid hbk
      clear hbk
      go_wp2_with fail
      refine (HNp.out _).mono ?_
      rintro e w1 ⟨rfl, rfl⟩
      go_wp2_with fail
      · have hk10 : k = 10 := HBk.out.1 (by assumption)
        clear hbq
        rcases hA with ⟨e, _⟩ | ⟨_, n0, hpg, rfl⟩
        · exact absurd hk10 e
        have htk0 : ∀ q, Calls Tryz.prog 191 #[.pointer (some ⟨s, 0, none⟩)] (wr.drewN q) fun e w' => e = .returned (.int .i64 n0) ∧ OcI w F c R b o1 CA w' := fun q => (HI.out.below (below_drewN (Below.refl _ _) _)).take HM.out HS.out (by rw [hG]; exact hp) hpg
        have HTk0 := Lib.hid htk0
        subst hk10
        have hs10 : ∀ w, Calls Tryz.prog 126 #[.pointer (some ⟨b, 0, none⟩), .int .i64 10] w fun e w' => e = .returned (.pointer (some ⟨b, slotOff 10, none⟩)) ∧ w = w' := HSlot.out
        have HS10 := Lib.hid hs10
        clear htk0 hpg hB hGA hs10
        go_cut [0, 1, 2, 6] (fun t0 t1 t2 t6 wx => t0 = .pointer (some ⟨s, 0, none⟩) ∧ t1 = .pointer (some ⟨b, 0, none⟩) ∧ t2 = .int .i64 size ∧ t6 = .int .i64 10 ∧ OcI w F c R b (o1.setInd n0) CA wx)
        · go_region_with (go_at_call 191; refine (HTk0.out 1).mono ?_; rintro e w9 ⟨rfl, hI9⟩; have hq9 := hI9.opn; have hc9 := hq9.ind; have hz9 := hq9.free 14; have HI9 := Lib.hid hI9; have HQ9 := Lib.hid hq9; clear hI9 hq9)
          all_goals (go_wp2_with fail; go_meet; exact ⟨rfl, rfl, rfl, rfl, HI9.out.set (j := 14) (v := .int .i64 (n0 : Nat)) (fun _ _ q => q.setInd n0)⟩)
        · obtain ⟨rfl, rfl, rfl, rfl, hI2⟩ := hcut
          clear HTk0
          go_wp2_with fail
          refine (HS10.out _).mono ?_
          rintro e w1 ⟨rfl, rfl⟩
          go_wp2_with fail
          refine (HTk.out _ hI2).mono ?_
          rintro e w2 ⟨rfl, hI3⟩
          have hq2 := hI3.opn
          have hc2 := hq2.slot 10 (by omega)
          have hz2 := hq2.free (slotOff 10)
          have hI4 := hI3.set (j := slotOff 10) (v := .int .i64 (n : Nat)) (fun _ _ q => q.setSlot 10 n)
          have HI4 := Lib.hid hI4
          clear hI2 hI3 hq2 hI4
          go_wp2_with fail
          go_roundg (300 - (10 + 1))
          case measure => omega
          case rel => exact ⟨10 + 1, _, CB, rfl, rfl, by omega, .inr hlt, by omega, HGr2.out, HGB.out, by rw [setSlot_size]; exact HSA.out, HI4.out⟩
      · have hk10 : k ≠ 10 := fun e => by
          have h1 := HBk.out.2 e
          have h2 : bq = false := by assumption
          rw [h1] at h2; cases h2
        obtain ⟨rfl, rfl⟩ : oA = o1 ∧ CA = C1 := by
          rcases hA with ⟨_, e1, e2⟩ | ⟨e, _⟩
          · exact ⟨e1, e2⟩
          · exact absurd e hk10
        clear hk10
        refine (HSlot.out _).mono ?_
        rintro e w1 ⟨rfl, rfl⟩
        go_wp2_with fail
        refine (HTk.out _ HI.out).mono ?_
        rintro e w2 ⟨rfl, hI2⟩
        have hq2 := hI2.opn
        have hc2 := hq2.slot k (by omega)
        have hz2 := hq2.free (slotOff k)
        have hI3 := hI2.set (j := slotOff k) (v := .int .i64 (n : Nat)) (fun _ _ q => q.setSlot k n)
        have HI3 := Lib.hid hI3
        clear hI2 hq2 hI3
        go_wp2_with fail
        go_roundg (300 - (k + 1))
        case measure => omega
        case rel => exact ⟨k + 1, _, CB, by go_num, rfl, by omega, .inr hlt, by omega, HGr2.out, HGB.out, by rw [setSlot_size]; exact HSA.out, HI3.out⟩
    · have hlt' : decide ((k : Int) < (np1 : Int)) = false := by simp; omega
      obtain rfl : s1 = (o1, C1) := by
        have h9 := HGr.out
        rw [show np1 - k = 0 from by omega] at h9
        exact (Option.some.inj h9).symm
      have hsz1 := HI.out.opn.size
      rw [hso] at hsz1
      have hw1 : IntKind.i64.wrap ((np0 : Int) - 1) = (np0 : Int) - 1 := IntWalk.i64_in _ (by omega)
      go_wp2_with fail
      refine (HNp.out _).mono ?_
      rintro e w1 ⟨rfl, rfl⟩
      go_wp2_with fail
      refine (HNo.out _).mono ?_
      rintro e w1 ⟨rfl, rfl⟩
      go_wp2_with fail
      clear hsz1 hw1 hlt'
      go_loopg [7] np0 (fun gg u wx => ∃ (a : Nat) (z : Int) (o2 : Opn) (C2 : Ca), u = .int .i64 z ∧ z = (a : Int) - 1 ∧ gg = a ∧ a ≤ np0 ∧ shrinkN ino a (a - np1) (o2, C2) = some s2 ∧ C2.G = C.G ∧ o2.size = o.size ∧ OcI w F c R b o2 C2 wx)
      case atStart => exact ⟨np0, _, o1, C1, rfl, rfl, rfl, Nat.le_refl _, HG2.out, hG, hso, HI.out⟩
      case round =>
        clear HI HGr hk1 hk2 hk3 hG hso
        obtain ⟨a, z, o2, C2, rfl, hz, hgk, ha, hsh, hG, hso, hI⟩ := hrel
        have HI := Lib.hid hI
        have HSh := Lib.hid hsh
        clear hI hsh
        by_cases hge : np1 < a
        · obtain ⟨k, rfl⟩ : ∃ k, a = k + 1 := ⟨a - 1, by omega⟩
          obtain rfl : z = (k : Int) := by omega
          have hge' : decide ((np1 : Int) ≤ (k : Int)) = true := by simp; omega
          obtain ⟨CA, hA, hB⟩ := shrinkN_succ (a := k + 1) (j := k - np1) (by rw [show k - np1 + 1 = k + 1 - np1 from by omega]; exact HSh.out)
          rw [show k + 1 - 1 = k from by omega] at hA hB
          have hGA : CA.G = C.G := by rw [Ca.giveP_G hA]; exact hG
          have hslot : ∀ w, Calls Tryz.prog 126 #[.pointer (some ⟨b, 0, none⟩), .int .i64 k] w fun e w' => e = .returned (.pointer (some ⟨b, slotOff k, none⟩)) ∧ w = w' := fun w => slot_any b k w (by omega)
          have hgv := HI.out.give HM.out HS.out (by rw [hG]; exact hp) hi hA
          have hc2 := HI.out.opn.slot k (by omega)
          have HSlot := Lib.hid hslot
          have HGv := Lib.hid hgv
          have hw1 : IntKind.i64.wrap ((k : Int) - 1) = (k : Int) - 1 := IntWalk.i64_in _ (by omega)
          clear hslot hgv hA hz
          go_wp2_with fail
          refine (HNp.out _).mono ?_
          rintro e w1 ⟨rfl, rfl⟩
          go_wp2_with fail
          refine (HSlot.out _).mono ?_
          rintro e w1 ⟨rfl, rfl⟩
          go_wp2_with fail
          refine HGv.out.mono ?_
          rintro e w2 ⟨rfl, hI2⟩
          have hc3 := hI2.opn.slot k (by omega)
          have hz3 := hI2.opn.free (slotOff k)
          have hI3 := hI2.set (j := slotOff k) (v := .int .i64 0) (fun _ _ q => q.setSlot k 0)
          have hc4 := hI3.opn.ind
          have HI3 := Lib.hid hI3
          clear hI2 hI3 hc2
          obtain ⟨bq, hbq⟩ : ∃ bq, ((k : Int) == 10) = bq := ⟨_, rfl⟩
          have hbk : bq = true ↔ k = 10 := by rw [← hbq]; simp; omega
          have HBk := Lib.hid hbk
          clear hbk
          go_wp2_with fail
          refine (HSlot.out _).mono ?_
          rintro e w1 ⟨rfl, rfl⟩
          go_wp2_with fail
          · have hk10 : k = 10 := HBk.out.1 (by assumption)
            obtain ⟨CB, hgi, hsh2⟩ : ∃ CB, CA.giveP ino (o2.setSlot k 0).ind = some CB ∧ shrinkN ino k (k - np1) ((o2.setSlot k 0).setInd 0, CB) = some s2 := by
              rcases hB with ⟨e, _⟩ | ⟨_, CB, h1, h2⟩
              · exact absurd hk10 e
              · exact ⟨CB, h1, h2⟩
            have hGB : CB.G = C.G := by rw [Ca.giveP_G hgi]; exact hGA
            have hgv2 := HI3.out.give HM.out HS.out (by rw [hGA]; exact hp) hi hgi
            have HGv2 := Lib.hid hgv2
            have HSh2 := Lib.hid hsh2
            have HGB := Lib.hid hGB
            clear hgv2 hgi hsh2 hGB hk10 hB
            refine HGv2.out.mono ?_
            rintro e w2 ⟨rfl, hI4⟩
            have hc5 := hI4.opn.ind
            have hz5 := hI4.opn.free 14
            have hI5 := hI4.set (j := 14) (v := .int .i64 0) (fun _ _ q => q.setInd 0)
            have HI5 := Lib.hid hI5
            clear hI4 hI5
            go_wp2_with fail
            go_roundg k
            case measure => omega
            case rel => exact ⟨k, _, _, CB, rfl, rfl, rfl, by omega, HSh2.out, HGB.out, by show (o2.setSlot k 0).size = o.size; rw [setSlot_size]; exact hso, HI5.out⟩
          · have hk10 : k ≠ 10 := fun e => by
              have h1 := HBk.out.2 e
              have h2 : bq = false := by assumption
              rw [h1] at h2; cases h2
            obtain hsh2 : shrinkN ino k (k - np1) (o2.setSlot k 0, CA) = some s2 := by
              rcases hB with ⟨_, e⟩ | ⟨e, _⟩
              · exact e
              · exact absurd e hk10
            have HSh2 := Lib.hid hsh2
            clear hsh2 hB hk10
            go_roundg k
            case measure => omega
            case rel => exact ⟨k, _, _, CA, rfl, rfl, rfl, by omega, HSh2.out, hGA, by rw [setSlot_size]; exact hso, HI3.out⟩
        · have hge' : decide ((np1 : Int) ≤ z) = false := by simp; omega
          obtain rfl : s2 = (o2, C2) := by
            have h9 := HSh.out
            rw [show a - np1 = 0 from by omega] at h9
            exact (Option.some.inj h9).symm
          obtain ⟨rest, hrest⟩ : ∃ r, r = size % 512 := ⟨_, rfl⟩
          have hmod : (size : Int).tmod 512 = (rest : Int) := by rw [hrest]; exact tmod_nat size 512
          have hmod2 : (size : Int) % 512 = (rest : Int) := by omega
          have HRest := Lib.hid hrest
          clear hrest
          have hsz1 := HI.out.opn.size
          rw [hso] at hsz1
          clear HSh hz hge HG2 HI0
          have hend : ∀ C3 wx, s3 = (o2, C3) → OcI w F c R b o2 C3 wx → wx.cell? ⟨b, 3, none⟩ = some (.int .i64 o.size) ∧ wx.frozen? ⟨b, 3, none⟩ = false ∧ OcI w F c R b o' C' (wx.setCell ⟨b, 3, none⟩ (.int .i64 size)) := fun C3 wx e hI => by
            have h1 := hI.opn.size
            rw [hso] at h1
            refine ⟨h1, hI.opn.free 3, ?_⟩
            have h2 := Prod.mk.inj (Option.some.inj HR3.out)
            rw [e] at h2
            rw [← h2.1, ← h2.2]
            exact hI.set (j := 3) (v := .int .i64 (size : Nat)) (fun _ _ q => q.setSize size)
          have HEnd := Lib.hid hend
          clear hend
          by_cases ht : size < o.size ∧ 0 < rest
          · obtain ⟨ht1, ht2⟩ := ht
            have ht1' : decide ((size : Int) < (o.size : Int)) = true := by simp; omega
            have ht2' : decide ((0 : Int) < (rest : Int)) = true := by simp; omega
            have ht3' : decide (size < o.size) = true := by simp; omega
            have ht4' : decide (0 < rest) = true := by simp; omega
            obtain ⟨n, hn⟩ : ∃ n, n = o2.slot (np1 - 1) := ⟨_, rfl⟩
            obtain ⟨C3, hw3, hs3⟩ : ∃ C3, C2.w n ((C2.rd n).take rest ++ List.replicate (512 - rest) 0) = some C3 ∧ s3 = (o2, C3) := by
              have h9 := HG3.out
              unfold tailZ at h9
              rw [if_pos ⟨ht1, by rw [← HRest.out]; exact ht2⟩] at h9
              simp only at h9
              rw [← HNp1.out, ← HRest.out, ← hn] at h9
              split at h9
              · cases h9
              · rename_i C3 h3; exact ⟨C3, h3, (Option.some.inj h9).symm⟩
            have hnp : n < C2.G.pages := by
              have h1 := HTl.out (by omega)
              have h2 : o'.slot (npg size - 1) = n := by
                have h3 := (Prod.mk.inj (Option.some.inj HR3.out)).1
                rw [hs3] at h3
                rw [← h3, hn, HNp1.out]; rfl
              rw [hG, ← h2]; exact h1
            have hnp1 : 1 ≤ np1 := by rw [HNp1.out]; unfold npg; omega
            have hr5 : rest < 512 := by rw [HRest.out]; omega
            obtain ⟨np, hnpe⟩ : ∃ k, k = np1 - 1 := ⟨np1 - 1, rfl⟩
            rw [← hnpe] at hn
            have hw1 : IntKind.i64.wrap ((np1 : Int) - 1) = (np : Int) := by rw [IntWalk.i64_in _ (by omega)]; omega
            obtain ⟨R1, g1, t1, f1, q1, b1⟩ := HI.out
            have hslot := slot_any b np wr (by omega)
            have ksl := q1.slot np (by omega)
            rw [← hn] at ksl
            have k0 : wr.cell? ⟨s, 0, none⟩ = some (.pointer (some ⟨m, 0, none⟩)) := cell_of_heap (g1.fix _ HS.out).1 0
            have hmc := mcache_any m c ino wr (g1.fix _ HM.out).1
            have hrd := hread_any n c C2 R1 F wr g1 hnp
            have hpl0 := g1.at_.rdlen hnp
            have HSlot := Lib.hid hslot
            have HMc := Lib.hid hmc
            have HRd := Lib.hid hrd
            have HK := Lib.hid (⟨g1, t1, f1, q1, b1⟩ : Held wr F c C2 R1 ∧ R.To R1 w.heap.size ∧ Off (fun k => R.m k ∨ k = b) w wr ∧ OpnAt wr b o2 ∧ ¬ R1.has b)
            have HPl0 := Lib.hid hpl0
            have HW3 := Lib.hid hw3
            clear hslot hmc hrd g1 t1 f1 q1 b1 hpl0 hw3 ht1 ht2 hn hnpe
            go_wp2_with fail
            refine (HNp.out _).mono ?_
            rintro e w1 ⟨rfl, rfl⟩
            go_wp2_with fail
            refine (HNp.out _).mono ?_
            rintro e w1 ⟨rfl, rfl⟩
            go_wp2_with fail
            refine HSlot.out.mono ?_
            rintro e w1 ⟨rfl, rfl⟩
            go_wp2_with fail
            refine HMc.out.mono ?_
            rintro e w1 ⟨rfl, rfl⟩
            go_wp2_with fail
            refine HRd.out.mono ?_
            rintro e w2 ⟨v, rfl, hr⟩
            obtain ⟨page, hpage⟩ : ∃ page, page = C2.rd n := ⟨_, rfl⟩
            have hpl : page.length = 512 := by rw [hpage]; exact HPl0.out
            rw [← hpage] at hr
            obtain ⟨R2, o3, g2, t2, f2, fr2⟩ := hr
            obtain ⟨g, cv, rfl, hgB, hblk, hcv⟩ := o3.blk (by intro e; rw [e] at hpl; cases hpl)
            obtain ⟨g1, t1, f1, q1, b1⟩ := HK.out
            rw [hpl] at hcv
            have hbg : b ≠ g := by have := q1.lt; omega
            have hwg : w.heap.size ≤ g := by have := f1.size; omega
            obtain ⟨hB3, hO3f⟩ := hblk.cells rest (List.replicate (512 - rest) 0) (by rw [List.length_replicate, hpl]; omega)
            have hlay : laidAt page rest (List.replicate (512 - rest) 0) = page.take rest ++ List.replicate (512 - rest) 0 := by
              unfold laidAt
              rw [List.length_replicate, List.drop_eq_nil_of_le (by rw [hpl]; omega), List.append_nil]
            rw [hlay] at hB3
            have hrep : (List.replicate (512 - rest) (0 : UInt8)).map (fun y => Value.int .u8 y.toNat) = List.replicate (512 - rest) (.int .u8 0) := by rw [List.map_replicate]; rfl
            rw [hrep] at hB3 hO3f
            have hz8 : ∀ w, (zeroValue 5).run Tryz.prog w = .ok (.int .u8 0) w := fun _ => by kernel_rfl
            have hcl : ∀ ty, (Builtin.clear_ #[37] ty #[.slice (some ⟨g, rest, none⟩) (512 - rest) (cv - rest)]).run Tryz.prog w2 = .ok (.tuple #[]) (w2.setCells g rest (List.replicate (512 - rest) (.int .u8 0))) := fun ty =>
              Lib.run_clear_slice w2 37 5 ty (.int .u8 0) Tryz.underlying37 hz8 rfl rfl g rest (512 - rest) _ (by omega)
                (fun j hj => by rw [hblk.cell (i := rest + j) (List.getElem?_eq_getElem (by rw [hpl]; omega))]; rfl) (fun j hj => hblk.free _)
            obtain ⟨W3, hW3⟩ : ∃ W3, W3 = w2.setCells g rest (List.replicate (512 - rest) (.int .u8 0)) := ⟨_, rfl⟩
            rw [← hW3] at hcl hB3 hO3f
            have t12 := t1.trans t2 f1.size
            have f12 : Off (fun k => R.m k ∨ k = b) w w2 := f1.trans f2 (fun k e => by
              rcases t1.m k e with e | e
              · exact .inl (.inl e)
              · exact .inr e)
            have hb2 : ¬ R2.has b := t2.free b1 q1.lt
            have q2 : OpnAt w2 b o2 := q1.keep (f2.block _ q1.lt (fun e => b1 (.inl e)))
            have g3 := g2.off hO3f (fun k hk e => fr2 g rfl (e ▸ hk))
            have f3 : Off (fun k => R.m k ∨ k = b) w W3 := f12.trans hO3f (fun k e => .inr (by omega))
            have q3 : OpnAt W3 b o2 := q2.keep (hO3f.block _ q2.lt hbg)
            have hxl : (page.take rest ++ List.replicate (512 - rest) (0 : UInt8)).length = 512 := by rw [List.length_append, List.length_take, List.length_replicate, hpl]; omega
            have hby := hB3.bytes (by rw [hxl]; decide)
            rw [hxl] at hby
            have hw3' := HW3.out
            rw [← hpage] at hw3'
            have hwr := iwrite_any s m c ino n (.slice (some ⟨g, 0, none⟩) 512 cv) (page.take rest ++ List.replicate (512 - rest) 0) C2 C3 R2 F W3 g3 HM.out HS.out hnp hby hxl hw3'
            have HWr := Lib.hid hwr
            have HFin := Lib.hid (fun w4 (hh : Step W3 F c C3 R2 w4) => HEnd.out C3 w4 hs3 (OcI.act t12 f3 q3 hb2 hh))
            have hcl0 := hcl 0
            have hcvr : rest ≤ cv := by omega
            have hcvn : ¬ cv = rest := by omega
            have hr2 : rest ≤ 512 := by omega
            clear hwr hby hB3 hO3f g1 t1 f1 q1 b1 g2 t2 f2 fr2 o3 hblk t12 f12 hb2 q2 g3 f3 q3 hxl hw3' hcl hlay hrep hW3 hpage hmod hmod2
            rw [hpl]
            clear hpl
            go_wp2_with fail
            refine HWr.out.mono ?_
            rintro e w4 ⟨rfl, hs4⟩
            obtain ⟨e3, e4, e5⟩ := HFin.out w4 hs4
            have HE5 := Lib.hid e5
            clear hs4 e5
            go_wp2_with fail
            go_end0
            exact ⟨rfl, HE5.out⟩
          · have hs3 : s3 = (o2, C2) := by
              have h9 := HG3.out
              unfold tailZ at h9
              rw [if_neg (by rw [← HRest.out]; exact ht)] at h9
              exact (Option.some.inj h9).symm
            obtain ⟨e3, e4, e5⟩ := HEnd.out C2 wr hs3 HI.out
            have HE5 := Lib.hid e5
            clear e5 hs3
            by_cases ht1 : size < o.size
            · have ht1' : decide ((size : Int) < (o.size : Int)) = true := by simp; omega
              have ht3' : decide (size < o.size) = true := by simp; omega
              have ht2' : decide ((0 : Int) < (rest : Int)) = false := by simp; omega
              have ht4' : decide (0 < rest) = false := by simp; omega
              clear ht
              go_wp2_with fail
              refine (HNp.out _).mono ?_
              rintro e w1 ⟨rfl, rfl⟩
              go_wp2_with fail
              go_end0
              exact ⟨rfl, HE5.out⟩
            · have ht1' : decide ((size : Int) < (o.size : Int)) = false := by simp; omega
              have ht3' : decide (size < o.size) = false := by simp; omega
              clear ht
              go_wp2_with fail
              refine (HNp.out _).mono ?_
              rintro e w1 ⟨rfl, rfl⟩
              go_wp2_with fail
              go_end0
              exact ⟨rfl, HE5.out⟩
end Go.Proofs.YtakmplpfjcddiaaGreatDoor
