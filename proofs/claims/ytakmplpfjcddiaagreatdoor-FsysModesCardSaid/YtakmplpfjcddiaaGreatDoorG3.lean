/-
  The walk over Commit of a log.
  The walk over the making of a cache.
  The walks over a cache's Log, Dirty.
  A cache behind a Commit: what is collected of the pages that were written, and what is left.
  The walk over a cache's Commit.
  What the map of free pages and inodes does, in plain Lean: bits of a page, the first that is not set, numbers as bytes, the superblock, whether a group has room
  A cache in memory with objects beside it that are never written; what an act on it leaves. The walks over the map's small functions: First, Cache, Table.
  The walks over the map's bits: at, first; Table, may.
  The cache's Read, Write, Abort, Commit with objects beside it; the walks over the map's read, is, UsedInode.
  The walks over the map's fits and numbers: whether a group has room.
  The walk over the map's turn: a bit is turned, and its page is written.
-/
import Derived.Test.YtakmplpfjcddiaaGreatDoorG2
import Derived.Laws.BitsAllLaws
set_option linter.unusedVariables false
set_option linter.unusedSimpArgs false
set_option linter.deprecated false
namespace Go.Proofs.YtakmplpfjcddiaaGreatDoor
open Go.RowKit Go.Shelf Pa
attribute [local go_sem] bs_toList bs_size
set_option maxRecDepth 100000 in
set_option maxHeartbeats 4000000 in
theorem commit_any (l : Nat) (G : Lg) (R : Reg) (ps : List (Nat × Str)) (v : Value) (w : World) (h : LogAt w l G R) (hv : PgsI w (fun k => ¬ R.m k) v ps) (hne : ps ≠ []) (hcap : ps.length ≤ G.cap) (hn : ∀ p ∈ ps, p.1 < G.pages) (hx : ∀ p ∈ ps, p.2.length = 512) (hnd : (ps.map (·.1)).Nodup) (hw : G.D.wait = []) (hops : G.D.ops.length + 1000 < 1000000000) :
    Calls Tryz.prog 147 #[.pointer (some ⟨l, 0, none⟩), v] w (LogPost w l (G.commit ps) R (.returned (.int .i64 0))) := by
  have H := Lib.hid h
  obtain ⟨a, came, RD, hcells, hd, hm, hi⟩ := h.cells
  have hpg : G.pages ≤ 4096 := by have := hd.ok.few; unfold Lg.pages; omega
  have hfst : G.D.first.length = G.pages + G.size + 1 := by have := h.ok.size; unfold Lg.pages; omega
  have hb0 : Below w.heap.size w (w.alloc (.cells #[.pointer (some ⟨l, 0, none⟩)] 124)) := (Below.refl _ _).alloc (Nat.le_refl _) _
  have hlog : ∀ w', Below w.heap.size w w' → LogAt w' l G R := fun w' hb => h.off (Off.of_below hb (fun _ => False)) (fun _ _ e => e)
  have hcp := fun w' (hb : Below w.heap.size w w') => cap_any l G R w' (hlog w' hb)
  have hct := fun w' (hb : Below w.heap.size w w') (hB : w'.cell? ⟨w.heap.size, 0, none⟩ = some (.pointer (some ⟨l, 0, none⟩))) => containsPages_any ps v w.heap.size l (fun k => ¬ R.m k) G R w' (hv.off (Off.of_below hb (fun _ => False)) (fun _ _ e => e)) hB (hlog w' hb) hn
  obtain ⟨A, c, rfl, ⟨hc, hlb⟩, hf⟩ := hv
  have hpos : 0 < ps.length := List.length_pos_iff.2 hne
  have hz : ((ps.length : Int) == 0) = false := by simp; omega
  have hzN : (ps.length == 0) = false := by simp; omega
  have hcI : decide ((G.cap : Int) < (ps.length : Int)) = false := by simp; omega
  have hcN : decide (G.cap < ps.length) = false := by simp; omega
  obtain ⟨b, o, rfl, ⟨hbl, hbm⟩, hpx⟩ := hf hne
  have HCp := Lib.hid hcp
  have HCt := Lib.hid hct
  have HPx := Lib.hid hpx
  have HX := Lib.hid hx
  have HN := Lib.hid hn
  have HNd := Lib.hid hnd
  have HB0 := Lib.hid hb0
  have hmk : ∀ w, (Instr.makeMap 208 none).run Tryz.prog w = .ok (.map (some w.heap.size)) (w.alloc (.map #[] 0)) := fun _ => rfl
  have hneq : ∀ w, (binOp .neq 37 (.slice none 0 0) (.slice none 0 0)).run Tryz.prog w = .ok (.bool false) w := fun _ => by kernel_rfl
  -- what the second loop asks, from any later world on
  have hR : ∀ k, R.m k → k < w.heap.size := fun k hk => h.lt k (.inl hk)
  have hll := h.lt l (.inr h.li)
  have hlm : ¬ RD.m l := fun e => h.apart l (hm l e) h.li
  have hsec : ∀ w3, Below w.heap.size w w3 → ∀ (k n : Nat) (wx : World) (R1 : Reg) (u : Value) (x : Str), (srtN ps)[k]? = some n → pget ps n = some x → BytesI w (fun j => ¬ R.m j) u x → DiskAt wx a (logD G.D ps (srtN ps) k) R1 → RD.To R1 w3.heap.size → Off RD.m w3 wx → Calls Tryz.prog 213 #[.pointer (some ⟨a, 0, none⟩), .int .i64 (1 + (k : Int)), u] wx.drew fun e w' => ∃ R2, e = .returned (.int .i64 0) ∧ DiskAt w' a (logD G.D ps (srtN ps) (k + 1)) R2 ∧ RD.To R2 w3.heap.size ∧ Off RD.m w3 w' := by
    intro w3 hb3 k n wx R1 u x hk hpx hB h1 h2 h3
    have hkl : k < ps.length := by have := (List.getElem?_eq_some_iff.1 hk).1; rw [srtN_length] at this; exact this
    have hkd : (srtN ps).getD k 0 = n := by rw [List.getD_eq_getElem?_getD, hk]; rfl
    have hxl := hx (n, x) (pget_some hpx).1
    have hph : phas (logD G.D ps (srtN ps) k).wait (1 + k) = false := by
      cases hp : phas (logD G.D ps (srtN ps) k).wait (1 + k) with
      | false => rfl
      | true => rcases logD_has hp with e | e
                · rw [hw] at e; cases e
                · omega
    have hoff : Off RD.m w wx := (Off.of_below hb3 _).then h3
    have hcc : ps.length ≤ G.size ∧ ps.length ≤ 100 := by unfold Lg.cap at hcap; omega
    have := dwrite_any (1 + k) a _ R1 u x wx.drew (h1.off (Off.refl (fun _ => False) wx).drew (fun _ _ e => e)) ((hB.off hoff (fun j hj e => hj (hm j e))).off (Off.refl (fun _ => False) wx).drew (fun _ _ e => e)).at (by rw [logD_first]; omega) hxl hph (by rw [logD_ops]; omega)
    rw [show ((1 + k : Nat) : Int) = 1 + (k : Int) from by omega] at this
    refine this.mono ?_
    rintro e w' ⟨rfl, ⟨R2, h4, h5⟩, h6⟩
    refine ⟨R2, rfl, ?_, h2.trans h5 h3.size, h3.drew.trans h6 h2.m⟩
    show DiskAt w' a ((logD G.D ps (srtN ps) k).wr (1 + k) ((pget ps ((srtN ps).getD k 0)).getD [])) R2
    rw [hkd, hpx]; exact h4
  have hlk : ∀ w3 mb, Below w.heap.size w w3 → w.heap.size ≤ mb → MapB (fun v x => BytesI w (fun j => ¬ R.m j) v x) w3 mb ps → ∀ (k n : Nat) (wx : World), (srtN ps)[k]? = some n → Off RD.m w3 wx → ∃ u x, pget ps n = some x ∧ BytesI w (fun j => ¬ R.m j) u x ∧ (Instr.lookup 208 (.map (some mb)) (.int .i64 n) false).run Tryz.prog wx.drew = .ok u wx.drew := by
    intro w3 mb hb3 hmb hmap k n wx hk ho
    have hmx : MapB (fun v x => BytesI w (fun j => ¬ R.m j) v x) wx.drew mb ps := hmap.mono (ho.block mb hmap.lt (fun e => by have := hR mb (hm mb e); omega)) (fun _ _ h => h)
    rcases hmx.lookup Tryz.underlying208 Tryz.underlying3 bytesZ n with ⟨hp, _, _, _⟩ | ⟨x, u, _, hp, hB, hlo, _⟩
    · have : phas ps n = true := phas_iff.2 (srtN_mem.1 (List.mem_of_getElem? hk))
      rw [hp] at this; cases this
    · exact ⟨u, x, hp, hB, hlo⟩
  have hcl : ∀ w3 wx, Below w.heap.size w w3 → w3.cell? ⟨w.heap.size, 0, none⟩ = some (.pointer (some ⟨l, 0, none⟩)) → w.heap.size < w3.heap.size → Off RD.m w3 wx → wx.cell? ⟨w.heap.size, 0, none⟩ = some (.pointer (some ⟨l, 0, none⟩)) ∧ wx.cell? ⟨l, 0, none⟩ = some (.pointer (some ⟨a, 0, none⟩)) := fun w3 wx hb3 hbx hlt ho =>
    ⟨(ho.cell (p := ⟨w.heap.size, 0, none⟩) hlt (fun e => by have := hR _ (hm _ e); exact Nat.lt_irrefl _ this)).trans hbx, (((Off.of_below hb3 RD.m).then ho).cell (p := ⟨l, 0, none⟩) hll hlm).trans (cell_of_heap hcells 0)⟩
  have htail : ∀ w3 v3 B, Below w.heap.size w w3 → w.heap.size ≤ B → NatsI w3 (fun k => B ≤ k) v3 (srtN ps) → ∀ w4 R1, DiskAt w4 a (logD G.D ps (srtN ps) (srtN ps).length) R1 → RD.To R1 w3.heap.size → Off RD.m w3 w4 → _ := fun w3 v3 B hb3 hB hv3 w4 R1 h1 h2 h3 =>
    commit_tail (w3 := w3) (I := fun k => B ≤ k ∧ k < w3.heap.size) (hlog w3 hb3) ((hb3.block l hll).trans hcells) hm hi (hv3.mono fun k h1 h2 => ⟨h1, h2⟩) (fun k hk => ⟨fun e => by have h8 := hR k e; have h9 : B ≤ k := hk.1; omega, hk.2⟩) hcap hn hnd hpg hops h1 h2 h3
  have hfin : ∀ w3, Below w.heap.size w w3 → ∀ e w7, LogPost w3 l (G.commit ps) R (.returned (.tuple #[])) e w7 → LogPost w l (G.commit ps) R (.returned (.int .i64 0)) (.returned (.int .i64 0)) w7 := fun w3 hb3 e w7 ⟨_, ⟨R', h1, h2⟩, h3⟩ =>
    ⟨rfl, ⟨R', h1, ⟨fun k hk => by rcases h2.m k hk with e | e; exact .inl e; right; have := hb3.size; omega, fun k hk => by rcases h2.i k hk with e | e; exact .inl e; right; have := hb3.size; omega⟩⟩, (Off.of_below hb3 _).then h3⟩
  have hd3 : ∀ w3, Below w.heap.size w w3 → DiskAt w3 a (logD G.D ps (srtN ps) 0) RD := fun w3 hb3 => hd.off (Off.of_below hb3 (fun _ => False)) (fun _ _ e => e)
  have HBx := Lib.hid (fun w3 wx (hbx : w3.cell? ⟨w.heap.size, 0, none⟩ = some (.pointer (some ⟨l, 0, none⟩))) (hlt : w.heap.size < w3.heap.size) (ho : Off R.m w3 wx) => (ho.cell (p := ⟨w.heap.size, 0, none⟩) hlt (fun e => Nat.lt_irrefl _ (hR _ e))).trans hbx : ∀ (w3 wx : World), w3.cell? ⟨w.heap.size, 0, none⟩ = some (.pointer (some ⟨l, 0, none⟩)) → w.heap.size < w3.heap.size → Off R.m w3 wx → wx.cell? ⟨w.heap.size, 0, none⟩ = some (.pointer (some ⟨l, 0, none⟩)))
  have HRm := Lib.hid (fun k hk => hR k (hm k hk) : ∀ k, RD.m k → k < w.heap.size)
  have HSec := Lib.hid hsec
  have HLk := Lib.hid hlk
  have HCl := Lib.hid hcl
  have HTail := Lib.hid htail
  have HFin := Lib.hid hfin
  have HD3 := Lib.hid hd3
  clear hsec hlk hcl htail hfin hd3 hR hlm hcells hd hm hi hw
  clear h hlog hcp hct hf hpx hx hn hnd hb0 hne
  go_enter Tryz.func147, Tryz.ntmps147
  go_wp2_with fail
  refine (HCp.out _ HB0.out).mono ?_
  rintro e w' ⟨rfl, rfl⟩
  go_wp2_with fail
  refine (HCt.out _ HB0.out (cell_of_heap (heap_alloc_new w _) 0)).mono ?_
  rintro e w1 ⟨rfl, hb1⟩
  rw [World.size_alloc] at hb1
  have hb2 : Below w.heap.size w w1 := HB0.out.trans (hb1.mono (Nat.le_succ _))
  have hbox : w1.cell? ⟨w.heap.size, 0, none⟩ = some (.pointer (some ⟨l, 0, none⟩)) := (hb1.cell (p := ⟨w.heap.size, 0, none⟩) (Nat.lt_succ_self _)).trans (cell_of_heap (heap_alloc_new w _) 0)
  have hsz1 := hb1.size
  rw [World.size_alloc] at hsz1
  have hI0 : CmInv w l w1.heap.size R ps 0 (w1.alloc (.map #[] 0)) := ⟨MapB.new w1, hb2.alloc hb2.size _, ((Below.refl w1.heap.size w1).alloc (Nat.le_refl _) _ |>.cell (p := ⟨w.heap.size, 0, none⟩) (show w.heap.size < w1.heap.size by omega)).trans hbox, by omega⟩
  have HI0 := Lib.hid hI0
  clear hI0 hb1 hb2 hbox
  go_wp2_with fail
  go_loopg [31] ps.length (fun g i wx => ∃ k : Nat, i = .int .i64 k ∧ g = ps.length - k ∧ k ≤ ps.length ∧ CmInv w l w1.heap.size R ps k wx)
  case atStart => exact ⟨0, rfl, rfl, Nat.zero_le _, HI0.out⟩
  case round =>
    obtain ⟨k, rfl, rfl, hk, hI⟩ := hrel
    have HI := Lib.hid hI
    clear hI
    by_cases hlt : k < ps.length
    · have hltI : decide ((k : Int) < (ps.length : Int)) = true := by simp; omega
      obtain ⟨⟨n, x⟩, hkp⟩ : ∃ p, ps[k]? = some p := ⟨_, List.getElem?_eq_getElem hlt⟩
      obtain ⟨u, g1, g2, g3⟩ := HPx.out k n x hkp
      have k0 := (HI.out.below.cell (p := ⟨b, o + k * 2, none⟩) hbl).trans g1
      have k1 := (HI.out.below.cell (p := ⟨b, o + k * 2 + 1, none⟩) hbl).trans g2
      obtain ⟨A', c', rfl, _, _⟩ := id g3
      have hxl : (((x.length : Nat) : Int) != 512) = false := by rw [HX.out _ (List.mem_of_getElem? hkp)]; rfl
      obtain ⟨hlo, w8, hup, hI8⟩ := HI.out.step hkp HNd.out g3 (.cells #[.int .i64 n, .slice A' x.length c'] 212)
      have HI8 := Lib.hid hI8
      clear hI8 hkp g1 g2 g3
      go_wp2_with fail
      go_roundg (ps.length - (k + 1))
      case measure => omega
      case rel => exact ⟨k + 1, by go_num, rfl, hlt, HI8.out⟩
    · have hltI : decide ((k : Int) < (ps.length : Int)) = false := by simp; omega
      obtain rfl : k = ps.length := by omega
      have hmap := HI.out.map
      rw [List.take_length] at hmap
      have hky := keysI_any w1.heap.size wr
      have hmlt := hmap.lt
      have hso := sortedI_any ps w1.heap.size wr.heap.size (wr.alloc (.cells #[.map (some w1.heap.size)] 208)) (hmap.mono (((Below.refl wr.heap.size wr).alloc (Nat.le_refl _) _).block _ hmlt) (fun _ _ h => h)) (fun p hp => by have := HN.out p hp; omega) (by unfold Lg.cap at hcap; omega) (by simp) (cell_of_heap (heap_alloc_new wr _) 0)
      have HKy := Lib.hid hky
      have HSo := Lib.hid hso
      have HMap := Lib.hid hmap
      clear hky hso hmap
      go_wp2_with fail
      refine HKy.out.mono ?_
      rintro e w2 ⟨rfl, hw2⟩
      obtain rfl := hw2.symm
      go_wp2_with fail
      refine HSo.out.mono ?_
      rintro e w3 ⟨v3, ss, rfl, hperm, hrow, _, hb3⟩
      rw [World.size_alloc] at hb3
      have hbr := HI.out.below
      have hba : Below wr.heap.size wr (wr.alloc (.cells #[.map (some w1.heap.size)] 208)) := (Below.refl _ _).alloc (Nat.le_refl _) _
      have hbw3 : Below wr.heap.size wr w3 := hba.trans (hb3.mono (Nat.le_succ _))
      have hbo : Below w.heap.size w w3 := hbr.trans (hbw3.mono hbr.size)
      have hnt := nats_of_own hrow hperm
      have hw1l := HI.out.mb
      have hwr := HMap.out.lt
      have hbx3 := (hbw3.cell (p := ⟨w.heap.size, 0, none⟩) (show w.heap.size < wr.heap.size by omega)).trans HI.out.box
      have hsz3 := hbw3.size
      have hmap3 := HMap.out.mono (w' := w3) (hbw3.block _ hwr) (fun _ _ h => h)
      have htl := HTail.out w3 v3 _ hbo (by rw [World.size_alloc]; omega) hnt
      have hlk3 := HLk.out w3 w1.heap.size hbo (by omega) hmap3
      have hsec3 := HSec.out w3 hbo
      have hcl3 := fun wx => HCl.out w3 wx hbo hbx3 (by omega)
      have hfin3 := HFin.out w3 hbo
      have HBx3 := Lib.hid (fun wx => HBx.out w3 wx hbx3 (by omega))
      have hd30 := HD3.out w3 hbo
      obtain ⟨A3, c3, rfl, hc3, hnum⟩ := id hnt
      have hsl := srtN_length ps
      have HTl := Lib.hid htl
      have HLk3 := Lib.hid hlk3
      have HSec3 := Lib.hid hsec3
      have HCl3 := Lib.hid hcl3
      have HFin3 := Lib.hid hfin3
      have HD30 := Lib.hid hd30
      have HNum := Lib.hid hnum
      have HSl := Lib.hid hsl
      have HNR := HN
      clear htl hlk3 hsec3 hcl3 hfin3 hd30 hnum hsl hnt hperm hrow hb3 hbr hba hbw3 hbo hbx3 hmap3 hsz3 hwr
      go_wp2_with fail
      go_loopg [57] (srtN ps).length (fun g i wx => ∃ k : Nat, ∃ R1, i = .int .i64 k ∧ g = (srtN ps).length - k ∧ k ≤ (srtN ps).length ∧ DiskAt wx a (logD G.D ps (srtN ps) k) R1 ∧ RD.To R1 w3.heap.size ∧ Off RD.m w3 wx)
      case atStart => exact ⟨0, RD, rfl, rfl, Nat.zero_le _, HD30.out, .refl _ _, .refl _ _⟩
      case round =>
        obtain ⟨k, R1, rfl, rfl, hk2, h1, h2, h3⟩ := hrel
        obtain ⟨k0, k1⟩ := HCl3.out wr h3
        by_cases hlt2 : k < (srtN ps).length
        · have hltI2 : decide ((k : Int) < ((srtN ps).length : Int)) = true := by simp; omega
          have hsl2 := HSl.out
          obtain ⟨n, hkn⟩ : ∃ n, (srtN ps)[k]? = some n := ⟨_, List.getElem?_eq_getElem (by omega)⟩
          obtain ⟨b3, o3, rfl, ⟨hb3l, hb3B⟩, hnx⟩ := HNum.out (by intro e; rw [e] at hkn; simp at hkn)
          have hcell := (h3.cell (p := ⟨b3, o3 + k, none⟩) hb3l (fun e => by have h8 := HRm.out _ e; rw [World.size_alloc] at hb3B; have h9 := HI.out.mb; have h10 := HMap.out.lt; exact absurd h8 (by show ¬ b3 < w.heap.size; omega))).trans (hnx k n hkn)
          obtain ⟨u, x, hpx, hB, hlo⟩ := HLk3.out k n wr hkn h3
          have hws := HSec3.out k n wr R1 u x hkn hpx hB h1 h2 h3
          obtain ⟨Au, cu, rfl, _, _⟩ := id hB
          have HWs := Lib.hid hws
          have hcc2 : ps.length ≤ 100 := by unfold Lg.cap at hcap; omega
          have hw5 : IntKind.i64.wrap (1 + (k : Int)) = 1 + (k : Int) := IntWalk.i64_in _ (by omega)
          have hk100 : k < 1000 := by omega
          clear hws hpx hB h1 h2 h3 hkn hnx hsl2 hcc2
          go_wp2_with fail
          go_region_with (go_at_call 213; refine HWs.out.mono ?_; rintro e w4 ⟨R2, rfl, h4, h5, h6⟩)
          all_goals (have H4 := Lib.hid h4; have H5 := Lib.hid h5; have H6 := Lib.hid h6; clear h4 h5 h6; go_wp2; go_roundg ((srtN ps).length - (k + 1)))
          all_goals first
            | exact ⟨k + 1, R2, by first | go_num | rfl, rfl, hlt2, H4.out, H5.out, H6.out⟩
            | exact Nat.sub_lt_sub_left hlt2 (Nat.lt_succ_self k)
        · have hltI2 : decide ((k : Int) < ((srtN ps).length : Int)) = false := by simp; omega
          obtain rfl : k = (srtN ps).length := by omega
          have htt := HTl.out wr R1 h1 h2 h3
          have HTt := Lib.hid htt
          clear htt h1 h2
          go_wp2_with fail
          refine HTt.out.mono ?_
          rintro e w5 ⟨rfl, ho5, hset⟩
          have j5 := HBx3.out w5 ho5
          have HSet := Lib.hid hset
          clear hset ho5
          go_wp2_with fail
          refine HSet.out.mono ?_
          rintro e w6 ⟨rfl, ho6, hhome⟩
          have j6 := HBx3.out w6 ho6
          have HHome := Lib.hid hhome
          clear hhome ho6
          go_wp2_with fail
          refine HHome.out.mono ?_
          rintro e w7 hp
          obtain ⟨rfl, _⟩ := id hp
          have HP := Lib.hid (HFin3.out _ _ hp)
          clear hp
          go_wp2_with fail
          go_ret
          exact HP.out
end Go.Proofs.YtakmplpfjcddiaaGreatDoor

namespace Go.Proofs.YtakmplpfjcddiaaGreatDoor
open Go.RowKit Go.Shelf Pa
attribute [local go_sem] bs_toList bs_size
theorem cache_laid {w : World} {l most : Nat} {G : Lg} {RL : Reg} (h : LogAt w l G RL) (hm : 1 ≤ most ∧ most ≤ 64) :
    (∃ R, CacheAt (((w.alloc (.map #[] 0)).alloc (.map #[] 0)).alloc (.cells #[.pointer (some ⟨l, 0, none⟩), .int .i64 most, .map (some w.heap.size), .map (some (w.heap.size + 1)), .slice none 0 0] 210)) (w.heap.size + 2) ⟨G, most, []⟩ R ∧ (∀ k, R.has k → RL.has k ∨ w.heap.size ≤ k)) ∧ Below w.heap.size w (((w.alloc (.map #[] 0)).alloc (.map #[] 0)).alloc (.cells #[.pointer (some ⟨l, 0, none⟩), .int .i64 most, .map (some w.heap.size), .map (some (w.heap.size + 1)), .slice none 0 0] 210)) := by
  have z1 : (w.alloc (.map #[] 0)).heap.size = w.heap.size + 1 := by simp
  have z2 : ((w.alloc (.map #[] 0)).alloc (.map #[] 0)).heap.size = w.heap.size + 2 := by simp
  have b1 : Below w.heap.size w (w.alloc (.map #[] 0)) := (Below.refl _ _).alloc (Nat.le_refl _) _
  have b2 : Below w.heap.size w ((w.alloc (.map #[] 0)).alloc (.map #[] 0)) := b1.alloc (by omega) _
  generalize hC : Obj.cells #[.pointer (some ⟨l, 0, none⟩), .int .i64 most, .map (some w.heap.size), .map (some (w.heap.size + 1)), .slice none 0 0] 210 = C
  have b3 : Below w.heap.size w (((w.alloc (.map #[] 0)).alloc (.map #[] 0)).alloc C) := b2.alloc (by omega) _
  have b23 : Below (w.heap.size + 2) ((w.alloc (.map #[] 0)).alloc (.map #[] 0)) (((w.alloc (.map #[] 0)).alloc (.map #[] 0)).alloc C) := (Below.refl _ _).alloc (by omega) _
  have b12 : Below (w.heap.size + 1) (w.alloc (.map #[] 0)) ((w.alloc (.map #[] 0)).alloc (.map #[] 0)) := (Below.refl _ _).alloc (by omega) _
  have z3 : (((w.alloc (.map #[] 0)).alloc (.map #[] 0)).alloc C).heap.size = w.heap.size + 3 := by simp
  have hdm : MapB (BytesI (((w.alloc (.map #[] 0)).alloc (.map #[] 0)).alloc C) RL.i) (((w.alloc (.map #[] 0)).alloc (.map #[] 0)).alloc C) w.heap.size [] := (MapB.new w).mono ((b23.block _ (by omega)).trans (b12.block _ (by omega))) (fun _ _ h => h)
  have hcm : MapB (BytesI (((w.alloc (.map #[] 0)).alloc (.map #[] 0)).alloc C) RL.i) (((w.alloc (.map #[] 0)).alloc (.map #[] 0)).alloc C) (w.heap.size + 1) [] := by
    rw [← z1]
    exact (MapB.new (w.alloc (.map #[] 0))).mono (b23.block _ (by omega)) (fun _ _ h => h)
  have hcell : (((w.alloc (.map #[] 0)).alloc (.map #[] 0)).alloc C).heap[w.heap.size + 2]? = some C := by
    rw [← z2]; exact heap_alloc_new _ _
  have hlog := h.off (Off.of_below b3 (fun _ => False)) (fun _ _ e => e)
  refine ⟨⟨⟨fun k => RL.m k ∨ (w.heap.size ≤ k ∧ k < w.heap.size + 3), RL.i⟩, ⟨[], ⟨l, w.heap.size, w.heap.size + 1, .slice none 0 0, RL, fun _ => False⟩, Nat.zero_le _, fun _ e => e, ⟨fun k h1 h2 => ?_, fun k hk => ?_, ⟨hm, (fun p hp => by cases hp), Nat.zero_le _⟩, by rw [hcell, ← hC], ⟨.inr ⟨by omega, by omega⟩, .inr ⟨by show w.heap.size ≤ w.heap.size; omega, by show w.heap.size < _; omega⟩, .inr ⟨by show w.heap.size ≤ w.heap.size + 1; omega, by show w.heap.size + 1 < _; omega⟩⟩, ⟨by show w.heap.size + 2 ≠ w.heap.size; omega, by show w.heap.size + 2 ≠ w.heap.size + 1; omega, by show w.heap.size ≠ w.heap.size + 1; omega⟩, World.ownsRow_nil _ _ _ _, (fun k e => by cases e), hlog, fun k hk => ?_, fun k hk => hk, hdm, [], hcm, (fun q hq => by cases hq)⟩⟩, fun k hk => ?_⟩, b3⟩
  · have h3 := h.lt k (.inr h2)
    rcases h1 with h1 | h1
    · exact h.apart k h1 h2
    · omega
  · rw [z3]
    rcases hk with (hk | hk) | hk
    · have := h.lt k (.inl hk); omega
    · omega
    · have := h.lt k (.inr hk); omega
  · have h3 := h.lt k (.inl hk)
    exact ⟨.inl hk, by omega, by show k ≠ w.heap.size; omega, by show k ≠ w.heap.size + 1; omega, by intro e; cases e⟩
  · rcases hk with (hk | hk) | hk
    · exact .inl (.inl hk)
    · exact .inr hk.1
    · exact .inl (.inr hk)
set_option maxHeartbeats 1000000 in
theorem cnew_any (l most : Nat) (G : Lg) (RL : Reg) (w : World) (h : LogAt w l G RL) (hm : 1 ≤ most ∧ most ≤ 64) :
    Calls Tryz.prog 167 #[.pointer (some ⟨l, 0, none⟩), .int .i64 most] w fun e w' => ∃ c, e = .returned (.tuple #[.pointer (some ⟨c, 0, none⟩), .int .i64 0]) ∧ (∃ R, CacheAt w' c ⟨G, most, []⟩ R ∧ (∀ k, R.has k → RL.has k ∨ w.heap.size ≤ k)) ∧ Below w.heap.size w w' := by
  have hl := cache_laid h hm
  have h1 : decide ((most : Int) < 1) = false := by simp; omega
  have h2 : decide (64 < (most : Int)) = false := by simp; omega
  have hmk : ∀ w, (Instr.makeMap 208 none).run Tryz.prog w = .ok (.map (some w.heap.size)) (w.alloc (.map #[] 0)) := fun _ => rfl
  have HL := Lib.hid hl
  clear hl h hm
  go_enter Tryz.func167, Tryz.ntmps167
  go_wp2
  go_ret2
  exact ⟨_, rfl, HL.out⟩
end Go.Proofs.YtakmplpfjcddiaaGreatDoor

namespace Go.Proofs.YtakmplpfjcddiaaGreatDoor
open Go.RowKit Go.Shelf Pa
attribute [local go_sem] bs_toList bs_size
theorem clog_any (c : Nat) (C : Ca) (R : Reg) (row : List Nat) (p : CaPl) (w : World) (h : CacheR w c C R row p) :
    Calls Tryz.prog 92 #[.pointer (some ⟨c, 0, none⟩)] w fun e w' => e = .returned (.pointer (some ⟨p.l, 0, none⟩)) ∧ w = w' := by
  have c0 : w.cell? ⟨c, 0, none⟩ = some (.pointer (some ⟨p.l, 0, none⟩)) := cell_of_heap h.cells 0
  clear h
  go_enter Tryz.func92, Tryz.ntmps92
  go_wp2
  go_ret
  exact ⟨rfl, rfl⟩
set_option maxHeartbeats 1000000 in
theorem cdirty_any (c : Nat) (C : Ca) (R : Reg) (row : List Nat) (p : CaPl) (w : World) (h : CacheR w c C R row p) (hpg : C.G.pages ≤ 4096) :
    Calls Tryz.prog 234 #[.pointer (some ⟨c, 0, none⟩)] w fun e w' => ∃ v, e = .returned v ∧ NatsI w' (fun k => w.heap.size ≤ k) v (srtN C.dirty) ∧ Below w.heap.size w w' := by
  have c2 : w.cell? ⟨c, 2, none⟩ = some (.map (some p.dm)) := cell_of_heap h.cells 2
  have hky := keysI_any p.dm w
  have hlt := h.dirty.lt
  have hcap : C.dirty.length ≤ 100 := by have := h.ok.few; unfold Lg.cap at this; omega
  have hba : Below w.heap.size w (w.alloc (.cells #[.map (some p.dm)] 208)) := (Below.refl _ _).alloc (Nat.le_refl _) _
  have hso := sortedI_any C.dirty p.dm w.heap.size (w.alloc (.cells #[.map (some p.dm)] 208)) (h.dirty.mono (hba.block _ hlt) (fun _ _ h => h)) (fun q hq => by have := (h.ok.dirty q hq).1; omega) (by omega) (by simp) (cell_of_heap (heap_alloc_new w _) 0)
  have HKy := Lib.hid hky
  have HSo := Lib.hid hso
  have HBa := Lib.hid hba
  clear hky hso hba h
  go_enter Tryz.func234, Tryz.ntmps234
  go_wp2_with fail
  refine HKy.out.mono ?_
  rintro e w2 ⟨rfl, hw2⟩
  obtain rfl := hw2.symm
  go_wp2_with fail
  refine HSo.out.mono ?_
  rintro e w3 ⟨v, ss, rfl, hperm, hrow, _, hb3⟩
  rw [World.size_alloc] at hb3
  have hfin : NatsI w3 (fun k => w.heap.size ≤ k) v (srtN C.dirty) ∧ Below w.heap.size w w3 := ⟨(nats_of_own hrow hperm).mono fun k hk _ => by have h9 : (w.alloc (.cells #[.map (some p.dm)] 208)).heap.size ≤ k := hk; rw [World.size_alloc] at h9; show w.heap.size ≤ k; omega, HBa.out.trans (hb3.mono (Nat.le_succ _))⟩
  have HFin := Lib.hid hfin
  clear hfin hperm hrow hb3
  go_wp2_with fail
  go_ret
  exact ⟨_, rfl, HFin.out⟩
end Go.Proofs.YtakmplpfjcddiaaGreatDoor

namespace Go.Proofs.YtakmplpfjcddiaaGreatDoor
open Go.RowKit Go.Shelf Pa
open Go.MapKept
/-- The pages of a group, in a row of the call's own. -/
def PgRow (w0 w : World) (B : Nat) (I : Nat → Prop) (v : Value) (qs : List (Nat × Str)) : Prop :=
  ∃ us : List Value, us.length = qs.length ∧ w.ownsRow B 212 2 v qs.length ((List.zip qs us).flatMap fun p => [Value.int .i64 (p.1.1 : Nat), p.2]) ∧ ∀ (i : Nat) (u : Value) (q : Nat × Str), us[i]? = some u → qs[i]? = some q → BytesI w0 I u q.2
theorem flat2_getElem? {α : Type} (f g : α → Value) (l : List α) (i : Nat) (a : α) (h : l[i]? = some a) : (l.flatMap fun p => [f p, g p])[2 * i]? = some (f a) ∧ (l.flatMap fun p => [f p, g p])[2 * i + 1]? = some (g a) := by
  induction l generalizing i with
  | nil => simp at h
  | cons x l ih =>
    cases i with
    | zero => simp at h; subst h; simp
    | succ i =>
      have := ih i (by simpa using h)
      rw [List.flatMap_cons, show 2 * (i + 1) = 2 * i + 2 from by omega]
      exact ⟨this.1, this.2⟩
theorem PgRow.pgs {w0 w : World} {B : Nat} {I : Nat → Prop} {v : Value} {qs : List (Nat × Str)} (h : PgRow w0 w B I v qs) (hb : Below w0.heap.size w0 w) (hl : qs.length ≤ 1000000000) : PgsI w (fun k => B ≤ k ∨ I k) v qs := by
  obtain ⟨us, hu, ⟨h1, h⟩, hB⟩ := h
  rcases h with ⟨rfl, h0⟩ | ⟨g, cap, cur, rfl, hBg, hg, hc, hm, hs, ht⟩
  · have : qs = [] := List.length_eq_zero_iff.1 h0
    subst this
    exact ⟨none, 0, rfl, ⟨Nat.le_refl _, by simp⟩, fun h => absurd rfl h⟩
  · refine ⟨_, cap, rfl, ⟨hc, hl⟩, fun _ => ⟨g, 0, rfl, ⟨(Array.getElem?_eq_some_iff.1 hg).1, .inl hBg⟩, fun i n x hx => ?_⟩⟩
    have hi : i < qs.length := (List.getElem?_eq_some_iff.1 hx).1
    have hui : us[i]? = some us[i] := List.getElem?_eq_getElem (by omega)
    have hz : (List.zip qs us)[i]? = some ((n, x), us[i]) := by
      rw [List.getElem?_zip_eq_some]; exact ⟨hx, hui⟩
    obtain ⟨e1, e2⟩ := flat2_getElem? (fun p : (Nat × Str) × Value => Value.int .i64 (p.1.1 : Nat)) (fun p => p.2) _ i _ hz
    refine ⟨us[i], ?_, ?_, ((hB i _ _ hui hx).off (Off.of_below hb (fun _ => False)) (fun _ _ e => e)).mono fun k hk _ => .inr hk⟩
    · rw [cell_of_heap hg, ← Array.getElem?_toList, ← List.getElem?_take_of_lt (show 0 + i * 2 < qs.length * 2 by omega), ht, show 0 + i * 2 = 2 * i from by omega]
      exact e1
    · rw [cell_of_heap hg, ← Array.getElem?_toList, ← List.getElem?_take_of_lt (show 0 + i * 2 + 1 < qs.length * 2 by omega), ht, show 0 + i * 2 + 1 = 2 * i + 1 from by omega]
      exact e2
/-- What stands at a round of Commit's loop: the pages that have come. -/
structure CcInv (w : World) (R : Reg) (dm r : Nat) (es : Array MapEntry) (c : Nat) (dirty : List (Nat × Str)) (seen : Array Nat) (v : Value) (wx : World) : Prop where
  iter : wx.heap[r]? = some (.mapIter (some dm) c seen c)
  below : Below w.heap.size w wx
  rows : ∃ qs, PgRow w wx w.heap.size R.i v qs ∧ (∀ q ∈ qs, q ∈ dirty) ∧ (qs.map (·.1)).Nodup ∧ (∀ q ∈ qs, ∃ e ∈ es.toList, e.key = .int .i64 (q.1 : Nat) ∧ seen.contains e.born = true) ∧ (∀ e ∈ es.toList, seen.contains e.born = true → ∃ q ∈ qs, e.key = .int .i64 (q.1 : Nat))
/-- The log behind a Commit of the pages of the cache, in some order. -/
def Committed (C : Ca) (G' : Lg) : Prop := ∃ qs : List (Nat × Str), qs.Perm C.dirty ∧ (qs = [] ∧ G' = C.G ∨ qs ≠ [] ∧ G' = C.G.commit qs)
theorem Lg.commit_first (G : Lg) (ps : List (Nat × Str)) : (G.commit ps).D.first = G.D.first := by
  unfold Lg.commit
  show (homeD (headed G ps) G.size (srtN ps) (srtN ps).length).first = _
  have h1 : ∀ (D : Dk) (sz : Nat) (ns : List Nat) (k : Nat), (homeD D sz ns k).first = D.first := fun D sz ns k => by
    induction k with
    | zero => rfl
    | succ k ih => exact ih
  rw [h1]
  show (logD G.D ps (srtN ps) (srtN ps).length).first = _
  exact logD_first _ _ _ _
theorem Lg.commit_pages (G : Lg) (ps : List (Nat × Str)) : (G.commit ps).pages = G.pages := by unfold Lg.pages; rw [Lg.commit_first]; rfl
theorem Lg.commit_cap (G : Lg) (ps : List (Nat × Str)) : (G.commit ps).cap = G.cap := rfl
theorem Lg.commit_wait (G : Lg) (ps : List (Nat × Str)) : (G.commit ps).D.wait = [] := rfl
theorem Lg.commit_ops (G : Lg) (ps : List (Nat × Str)) : (G.commit ps).D.ops.length = G.D.ops.length + 2 * ps.length + 6 := by
  have h1 : ∀ (D : Dk) (sz : Nat) (ns : List Nat) (k : Nat), (homeD D sz ns k).ops.length = D.ops.length + k := fun D sz ns k => by
    induction k with
    | zero => rfl
    | succ k ih => show ((homeD D sz ns k).ops ++ [_]).length = _; rw [List.length_append, ih]; rfl
  unfold Lg.commit
  show ((((homeD (headed G ps) G.size (srtN ps) (srtN ps).length).ops ++ [_]) ++ [_]) ++ [_]).length = _
  simp only [List.length_append, List.length_singleton]
  rw [h1]
  show ((((logD G.D ps (srtN ps) (srtN ps).length).ops ++ [_]) ++ [_]) ++ [_]).length + _ + _ + _ + _ = _
  simp only [List.length_append, List.length_singleton]
  rw [logD_ops, srtN_length]
  omega
theorem pget_perm {ps qs : List (Nat × Str)} (h : qs.Perm ps) (hn : (ps.map (·.1)).Nodup) (n : Nat) : pget qs n = pget ps n := by
  have hq : (qs.map (·.1)).Nodup := (h.map _).nodup_iff.2 hn
  cases hp : pget ps n with
  | some x => exact pget_mem hq (h.mem_iff.2 (pget_some hp).1)
  | none =>
    cases hg : pget qs n with
    | none => rfl
    | some x =>
      have := pget_mem hn (h.mem_iff.1 (pget_some hg).1)
      rw [hp] at this; cases this
theorem Committed.rd {C : Ca} {G' : Lg} (h : Committed C G') (hok : C.Ok) (hn : (C.dirty.map (·.1)).Nodup) (hs : C.G.D.safe.length = C.G.D.first.length) {n : Nat} (hp : n < C.G.pages) : G'.rd n = C.rd n := by
  obtain ⟨qs, hq, ⟨h0, rfl⟩ | ⟨h0, rfl⟩⟩ := h
  · subst h0
    have hd : C.dirty = [] := List.nil_perm.1 hq
    unfold Ca.rd; rw [hd]; rfl
  · have hle : qs.length ≤ C.G.size := by have := hok.few; rw [hq.length_eq]; unfold Lg.cap at this; omega
    rw [Lg.commit_rd hp hs hle ((hq.map _).nodup_iff.2 hn), pget_perm hq hn]
    rfl
theorem Committed.pages {C : Ca} {G' : Lg} (h : Committed C G') : G'.pages = C.G.pages := by
  obtain ⟨qs, hq, ⟨h0, rfl⟩ | ⟨h0, rfl⟩⟩ := h
  · rfl
  · exact Lg.commit_pages _ _
theorem Committed.cap {C : Ca} {G' : Lg} (h : Committed C G') : G'.cap = C.G.cap := by
  obtain ⟨qs, hq, ⟨h0, rfl⟩ | ⟨h0, rfl⟩⟩ := h
  · rfl
  · exact Lg.commit_cap _ _
theorem Committed.wait {C : Ca} {G' : Lg} (h : Committed C G') (h0 : C.G.D.wait = []) : G'.D.wait = [] := by
  obtain ⟨qs, hq, ⟨_, rfl⟩ | ⟨_, rfl⟩⟩ := h
  · exact h0
  · exact Lg.commit_wait _ _
theorem Committed.ops {C : Ca} {G' : Lg} (h : Committed C G') (hok : C.Ok) : G'.D.ops.length ≤ C.G.D.ops.length + 206 := by
  obtain ⟨qs, hq, ⟨_, rfl⟩ | ⟨_, rfl⟩⟩ := h
  · omega
  · rw [Lg.commit_ops, hq.length_eq]
    have := hok.few
    unfold Lg.cap at this
    omega
/-- The cache behind the log's Commit and the clearing of what was written. -/
theorem CacheR.committed {w w3 w4 : World} {c : Nat} {C : Ca} {R RL' : Reg} {row : List Nat} {p : CaPl} {G' : Lg} (h : CacheR w c C R row p) (hex : ∀ k, ¬ p.ex k) (hl : LogAt w3 p.l G' RL') (ht : p.RL.To RL' w.heap.size) (ho : Off p.RL.m w w3)
    (hd : MapB (α := Str) (fun _ _ => True) w4 p.dm []) (hg : w3.grownBy w4 (some p.dm)) (hpg : G'.pages = C.G.pages) (hrd : ∀ n, n < C.G.pages → phas C.dirty n = false → G'.rd n = C.G.rd n) :
    CacheR w4 c ⟨G', C.most, []⟩ ⟨fun k => R.m k ∨ RL'.m k, fun k => R.i k ∨ RL'.i k⟩ row { p with RL := RL' } ∧ R.To ⟨fun k => R.m k ∨ RL'.m k, fun k => R.i k ∨ RL'.i k⟩ w.heap.size ∧ Off R.m w w4 := by
  have hm : ∀ k, RL'.m k → p.RL.m k ∨ w.heap.size ≤ k := ht.m
  have hi : ∀ k, RL'.i k → p.RL.i k ∨ w.heap.size ≤ k := ht.i
  have o4 : Off (fun k => k = p.dm) w3 w4 := (Off.refl _ w3).grown hg (fun k e => by cases e; exact .inl rfl)
  have hcl : c < w.heap.size := h.lt c (.inl h.mine.1)
  have hdl : p.dm < w.heap.size := h.lt _ (.inl h.mine.2.1)
  have hml : p.cm < w.heap.size := h.lt _ (.inl h.mine.2.2)
  have hs3 := ho.size
  have hs4 := o4.size
  have hnL : ∀ k, k = c ∨ k = p.dm ∨ k = p.cm ∨ p.rv.ownBlock = some k → ¬ p.RL.m k := fun k hk e => by
    obtain ⟨_, h1, h2, h3, h4⟩ := h.logM k e
    rcases hk with hk | hk | hk | hk
    · exact h1 hk
    · exact h2 hk
    · exact h3 hk
    · exact h4 hk
  have hblk : ∀ k, k < w.heap.size → ¬ p.RL.m k → k ≠ p.dm → w4.heap[k]? = w.heap[k]? := fun k hk h1 h2 => (o4.block k (by omega) h2).trans (ho.block k hk h1)
  have o34 : Off (fun k => p.RL.m k ∨ k = p.dm) w w4 := (ho.mono (fun k e => .inl (.inl e))).trans o4 (fun k e => .inl (.inr e))
  have hRi : ∀ k, R.i k → ¬ (p.RL.m k ∨ k = p.dm) := fun k hk e => by
    rcases e with e | e
    · exact h.apart k (h.logM k e).1 hk
    · exact h.apart k (e ▸ h.mine.2.1) hk
  refine ⟨⟨fun k h1 h2 => ?_, fun k hk => ?_, ⟨h.ok.most, (fun q hq => by cases hq), Nat.zero_le _⟩, (hblk c hcl (hnL c (.inl rfl)) h.unlike.1).trans h.cells, ⟨.inl h.mine.1, .inl h.mine.2.1, .inl h.mine.2.2⟩, h.unlike, ?_, fun k hk => ⟨.inl (h.rowB k hk).1, (h.rowB k hk).2⟩, hl.off o4 (fun k hk e => ?_), fun k hk => ?_, fun k hk => .inr hk, ?_, ?_⟩, ⟨fun k hk => ?_, fun k hk => ?_⟩, o34.mono fun k e => .inl ?_⟩
  · rcases h1 with h1 | h1
    · rcases h2 with h2 | h2
      · exact h.apart k h1 h2
      · rcases hi k h2 with e | e
        · exact h.apart k h1 (h.logI k e)
        · have := h.lt k (.inl h1); omega
    · rcases h2 with h2 | h2
      · rcases hm k h1 with e | e
        · exact h.apart k (h.logM k e).1 h2
        · have := h.lt k (.inr h2); omega
      · exact hl.apart k h1 h2
  · rcases hk with (hk | hk) | (hk | hk)
    · have := h.lt k (.inl hk); omega
    · have := hl.lt k (.inl hk); omega
    · have := h.lt k (.inr hk); omega
    · have := hl.lt k (.inr hk); omega
  · obtain ⟨h1, h2⟩ := h.row
    refine ⟨h1, ?_⟩
    rcases h2 with h2 | ⟨g, cap, cur, e, hB, hg', hr⟩
    · exact .inl h2
    · have hgo := h.rowB g (by rw [e]; rfl)
      exact .inr ⟨g, cap, cur, e, hB, (hblk g (h.lt g (.inl hgo.1)) (hnL g (.inr (.inr (.inr (by rw [e]; rfl))))) hgo.2.2.1).trans hg', hr⟩
  · rcases hk with hk | hk
    · rcases hm k hk with e2 | e2
      · exact (h.logM k e2).2.2.1 e
      · omega
    · rcases hi k hk with e2 | e2
      · exact h.apart k (e ▸ h.mine.2.1) (h.logI k e2)
      · omega
  · refine ⟨.inr hk, ?_⟩
    rcases hm k hk with e2 | e2
    · exact (h.logM k e2).2
    · exact ⟨by omega, by show k ≠ p.dm; omega, by show k ≠ p.cm; omega, fun e => by have := h.lt k (.inl (h.rowB k e).1); omega⟩
  · obtain ⟨L9, hL9, hl9, _⟩ := hd
    exact ⟨L9, hL9, hl9, fun i n x h => by simp at h⟩
  · obtain ⟨cl, h1, h2⟩ := h.clean
    refine ⟨cl, h1.mono (hblk _ hml (hnL _ (.inr (.inr (.inl rfl)))) (fun e => h.unlike.2.2 e.symm)) (fun _ _ hB => (hB.off o34 hRi).mono fun k hk _ => .inl hk), fun q hq => ?_⟩
    obtain ⟨q1, q2, q3⟩ := h2 q hq
    refine ⟨by show q.1 < G'.pages; rw [hpg]; exact q1, ?_, fun e => by cases e⟩
    show q.2 = G'.rd q.1
    rw [q2, hrd q.1 q1]
    cases hp : phas C.dirty q.1 with
    | false => rfl
    | true => exact absurd (q3 hp) (hex _)
  · rcases hk with hk | hk
    · exact .inl hk
    · rcases hm k hk with e | e
      · exact .inl (h.logM k e).1
      · exact .inr e
  · rcases hk with hk | hk
    · exact .inl hk
    · rcases hi k hk with e | e
      · exact .inl (h.logI k e)
      · exact .inr e
  · rcases e with e | e
    · exact (h.logM k e).1
    · exact e ▸ h.mine.2.1
end Go.Proofs.YtakmplpfjcddiaaGreatDoor

namespace Go.Proofs.YtakmplpfjcddiaaGreatDoor
open Go.RowKit Go.Shelf Pa Go.Maps
open Go.MapKept
attribute [local go_sem] bs_toList bs_size
theorem info_page : (Tryz.prog.info? 212).map (fun i => (i.zero, i.size, i.bytes)) = some (some (.agg #[.int .i64 0, .slice none 0 0]), 2, 32) := by kernel_rfl
set_option maxHeartbeats 1000000 in
/-- Commit of a log, of no pages. -/
theorem commit_none (A : Option Addr) (l cp : Nat) (w : World) : Calls Tryz.prog 147 #[.pointer (some ⟨l, 0, none⟩), .slice A 0 cp] w fun e w' => e = .returned (.int .i64 0) ∧ Below w.heap.size w w' := by
  go_enter Tryz.func147, Tryz.ntmps147
  go_wp2_with fail
  go_ret
  exact ⟨rfl, (Below.refl _ _).alloc (Nat.le_refl _) _⟩
theorem ownsRow_keep {w w' : World} {B n s : Nat} {e : TypeId} {v : Value} {xs : List Value} (h : w.ownsRow B e s v n xs) (hk : ∀ k, v.ownBlock = some k → w'.heap[k]? = w.heap[k]?) : w'.ownsRow B e s v n xs := by
  obtain ⟨h1, h2⟩ := h
  refine ⟨h1, ?_⟩
  rcases h2 with h2 | ⟨g, cap, cur, e, hB, hg, hr⟩
  · exact .inl h2
  · exact .inr ⟨g, cap, cur, e, hB, (hk g (by rw [e]; rfl)).trans hg, hr⟩
theorem nodup_of_map {α β : Type} {f : α → β} {l : List α} (h : (l.map f).Nodup) : l.Nodup := (List.pairwise_map.1 h).imp fun h e => h (by rw [e])
theorem CcInv.step {w w6 : World} {R : Reg} {dm r c n : Nat} {es : Array MapEntry} {dirty : List (Nat × Str)} {seen : Array Nat} {u v' : Value} {x : Str} {e : MapEntry} {qs : List (Nat × Str)} {us : List Value}
    (hq1 : ∀ q ∈ qs, q ∈ dirty) (hq2 : (qs.map (·.1)).Nodup) (hq3 : ∀ q ∈ qs, ∃ e ∈ es.toList, e.key = .int .i64 (q.1 : Nat) ∧ seen.contains e.born = true) (hq4 : ∀ e ∈ es.toList, seen.contains e.born = true → ∃ q ∈ qs, e.key = .int .i64 (q.1 : Nat))
    (hus : us.length = qs.length) (hub : ∀ (i : Nat) (u : Value) (q : Nat × Str), us[i]? = some u → qs[i]? = some q → BytesI w R.i u q.2)
    (hb : Below w.heap.size w w6) (hit : w6.heap[r]? = some (.mapIter (some dm) c (seen.push e.born) c)) (he : e ∈ es.toList) (hns : seen.contains e.born = false) (hst : (es.toList.map (·.born)).Nodup) (hkeys : ∀ a ∈ es.toList, ∀ b ∈ es.toList, a.key = b.key → a = b)
    (hek : e.key = .int .i64 (n : Nat)) (hd : (n, x) ∈ dirty) (hu : BytesI w R.i u x)
    (hrow : w6.ownsRow w.heap.size 212 2 v' (qs.length + 1) (((List.zip qs us).flatMap fun p => [Value.int .i64 (p.1.1 : Nat), p.2]) ++ [.int .i64 (n : Nat), u])) : CcInv w R dm r es c dirty (seen.push e.born) v' w6 := by
  refine ⟨hit, hb, qs ++ [(n, x)], ⟨us ++ [u], by simp [hus], ?_, fun i u' q h1 h2 => ?_⟩, fun q hq => ?_, ?_, fun q hq => ?_, fun e' he' hs => ?_⟩
  · rw [List.zip_append hus.symm, List.flatMap_append, List.length_append]
    simpa using hrow
  · by_cases hi : i < qs.length
    · rw [List.getElem?_append_left (by omega)] at h1
      rw [List.getElem?_append_left hi] at h2
      exact hub i u' q h1 h2
    · rw [List.getElem?_append_right (by omega)] at h1
      rw [List.getElem?_append_right (by omega)] at h2
      have hi2 : i - qs.length = 0 := by
        have := (List.getElem?_eq_some_iff.1 h2).1
        simp at this; omega
      rw [hus, hi2] at h1
      rw [hi2] at h2
      simp at h1 h2
      subst h1 h2
      exact hu
  · rcases List.mem_append.1 hq with hq | hq
    · exact hq1 q hq
    · have : q = (n, x) := by simpa using hq
      rw [this]; exact hd
  · rw [List.map_append, List.nodup_append]
    refine ⟨hq2, by simp, fun a ha b hb e2 => ?_⟩
    have hb : b = n := by simpa using hb
    subst hb
    obtain ⟨q, hq, rfl⟩ := List.mem_map.1 ha
    obtain ⟨e', he', hk', hs'⟩ := hq3 q hq
    have := hkeys e' he' e he (by rw [hk', hek, e2])
    subst this
    rw [hs'] at hns; cases hns
  · rcases List.mem_append.1 hq with hq | hq
    · obtain ⟨e', he', hk', hs'⟩ := hq3 q hq
      exact ⟨e', he', hk', by rw [Array.contains_push, hs']; rfl⟩
    · have : q = (n, x) := by simpa using hq
      subst this
      exact ⟨e, he, hek, by rw [Array.contains_push]; simp⟩
  · rw [Array.contains_push, Bool.or_eq_true] at hs
    rcases hs with hs | hs
    · obtain ⟨q, hq, hk⟩ := hq4 e' he' hs
      exact ⟨q, List.mem_append_left _ hq, hk⟩
    · have : e' = e := born_inj hst he' he (by simpa using hs)
      subst this
      exact ⟨(n, x), by simp, hek⟩
/-- What Commit of a cache hands back. -/
def CCommitPost (w : World) (c : Nat) (C : Ca) (R : Reg) (e : Ending) (w' : World) : Prop :=
  e = .returned (.int .i64 0) ∧ ∃ G' R', Committed C G' ∧ CacheAt w' c ⟨G', C.most, []⟩ R' ∧ R.To R' w.heap.size ∧ Off R.m w w'
set_option maxRecDepth 100000 in
set_option maxHeartbeats 4000000 in
theorem ccommit_any (c : Nat) (C : Ca) (R : Reg) (w : World) (h : CacheAt w c C R) (hw : C.G.D.wait = []) (hops : C.G.D.ops.length + 1000 < 1000000000) :
    Calls Tryz.prog 90 #[.pointer (some ⟨c, 0, none⟩)] w (CCommitPost w c C R) := by
  obtain ⟨i0, hi0, hz0, hz1, hz2⟩ := info_parts info_page
  obtain ⟨row, p, hrl, hex, h⟩ := h
  obtain ⟨L, ⟨es, ck, hb, hst, hp⟩, hll, hL⟩ := id h.dirty
  have hmn := h.dirty.nodup
  have hdl : p.dm < w.heap.size := h.lt _ (.inl h.mine.2.1)
  have hcl : c < w.heap.size := h.lt _ (.inl h.mine.1)
  have hcap : C.dirty.length ≤ 100 := by have := h.ok.few; unfold Lg.cap at this; omega
  have hesl : es.toList.length = C.dirty.length := by
    have h1 : es.toList.length = L.length := by simpa using congrArg List.length hp
    rw [h1, hll]
  have hent : ∀ e ∈ es.toList, ∃ (n : Nat) (x : Str) (A : Option Addr) (cp : Nat), e.key = .int .i64 n ∧ e.val = .slice A x.length cp ∧ (n, x) ∈ C.dirty ∧ BytesI w R.i (.slice A x.length cp) x := by
    intro e he
    obtain ⟨j, hj⟩ := List.getElem?_of_mem he
    obtain ⟨q, hpL, hk, hv⟩ := imap_at hp j e hj
    have hjl : j < C.dirty.length := by rw [← hll]; exact (List.getElem?_eq_some_iff.1 hpL).1
    obtain ⟨v, hv2, hB⟩ := hL j C.dirty[j].1 C.dirty[j].2 (List.getElem?_eq_getElem hjl)
    rw [hpL] at hv2
    have hpe := Option.some.inj hv2
    obtain ⟨A, cp, hve, _, _⟩ := id hB
    exact ⟨C.dirty[j].1, C.dirty[j].2, A, cp, by rw [hk, hpe], by rw [hv, hpe, hve], List.getElem_mem hjl, hve ▸ hB⟩
  have hkeys : ∀ a ∈ es.toList, ∀ b ∈ es.toList, a.key = b.key → a = b := by
    intro a ha b hb e
    have hk := ((stamped_iff es ck).1 hst).2.2
    obtain ⟨i, hi⟩ := List.getElem?_of_mem ha
    obtain ⟨j, hj⟩ := List.getElem?_of_mem hb
    obtain ⟨hi1, hi2⟩ := List.getElem?_eq_some_iff.1 hi
    obtain ⟨hj1, hj2⟩ := List.getElem?_eq_some_iff.1 hj
    rcases Nat.lt_trichotomy i j with hij | hij | hij
    · exact absurd (by rw [hi2, hj2]; exact e) (List.pairwise_iff_getElem.1 hk i j hi1 hj1 hij)
    · subst hij; exact hi2.symm.trans hj2
    · exact absurd (by rw [hi2, hj2]; exact e.symm) (List.pairwise_iff_getElem.1 hk j i hj1 hi1 hij)
  have hall : ∀ q ∈ C.dirty, ∃ e ∈ es.toList, e.key = .int .i64 (q.1 : Nat) := by
    intro q hq
    obtain ⟨i, hi⟩ := List.getElem?_of_mem hq
    obtain ⟨v, hv, _⟩ := hL i q.1 q.2 hi
    have hil : i < es.toList.length := by rw [hesl]; exact (List.getElem?_eq_some_iff.1 hi).1
    obtain ⟨q', hpL, hk, _⟩ := imap_at hp i _ (List.getElem?_eq_getElem hil)
    rw [hv] at hpL
    exact ⟨_, List.getElem_mem hil, by rw [hk, ← Option.some.inj hpL]⟩
  have hrange := run_range_map (P := Tryz.prog) w 208 3 37 p.dm es ck Tryz.underlying208 hb
  have hb2 : Below w.heap.size w (w.alloc (.mapIter (some p.dm) ck #[] ck)) := (Below.refl _ _).alloc (Nat.le_refl _) _
  have H0 : CcInv w R p.dm w.heap.size es ck C.dirty #[] (.slice none 0 0) (w.alloc (.mapIter (some p.dm) ck #[] ck)) :=
    ⟨heap_alloc_new _ _, hb2, [], ⟨[], rfl, World.ownsRow_nil _ _ _ _, fun i u q h => by simp at h⟩, (fun q hq => by cases hq), List.nodup_nil, (fun q hq => by cases hq), (fun e he hs => by simp at hs)⟩
  -- what follows the loop
  have hfin : ∀ wr v seen, CcInv w R p.dm w.heap.size es ck C.dirty seen v wr → (∀ x ∈ es.toList, seen.contains x.born = true) →
      wr.cell? ⟨c, 0, none⟩ = some (.pointer (some ⟨p.l, 0, none⟩)) ∧ Calls Tryz.prog 147 #[.pointer (some ⟨p.l, 0, none⟩), v] wr fun e w3 => e = .returned (.int .i64 0) ∧ w3.cell? ⟨c, 2, none⟩ = some (.map (some p.dm)) ∧ ∃ w4, (Builtin.clear_ #[208] 0 #[.map (some p.dm)]).run Tryz.prog w3 = .ok (.tuple #[]) w4 ∧ CCommitPost w c C R (.returned (.int .i64 0)) w4 := by
    intro wr v seen hI hseen
    obtain ⟨qs, hrow, q1, q2, q3, q4⟩ := hI.rows
    have hperm : qs.Perm C.dirty := by
      refine (List.perm_ext_iff_of_nodup (nodup_of_map q2) (nodup_of_map hmn)).2 fun q => ⟨q1 q, fun hq => ?_⟩
      obtain ⟨e, he, hk⟩ := hall q hq
      obtain ⟨q', hq', hk'⟩ := q4 e he (hseen e he)
      rw [hk] at hk'
      injection hk' with _ hk'
      have e1 := pget_mem hmn hq
      have e2 := pget_mem hmn (q1 q' hq')
      rw [show q'.1 = q.1 from by omega, e1] at e2
      have : q = q' := Prod.ext (by omega) (by simpa using e2)
      rw [this]; exact hq'
    have hr := h.below hI.below
    have hsz := hI.below.size
    refine ⟨cell_of_heap hr.cells 0, ?_⟩
    have htail : ∀ (G' : Lg) (RL' : Reg) (w3 : World), Committed C G' → LogAt w3 p.l G' RL' → p.RL.To RL' wr.heap.size → Off p.RL.m wr w3 → w3.cell? ⟨c, 2, none⟩ = some (.map (some p.dm)) ∧ ∃ w4, (Builtin.clear_ #[208] 0 #[.map (some p.dm)]).run Tryz.prog w3 = .ok (.tuple #[]) w4 ∧ CCommitPost w c C R (.returned (.int .i64 0)) w4 := by
      intro G' RL' w3 hC hl ht ho
      have hnc : ¬ p.RL.m c := fun e => (hr.logM c e).2.1 rfl
      have hnd : ¬ p.RL.m p.dm := fun e => (hr.logM _ e).2.2.1 rfl
      have hm3 : MapB (α := Str) (fun _ _ => True) w3 p.dm C.dirty := hr.dirty.mono (ho.block _ (by omega) hnd) (fun _ _ _ => trivial)
      obtain ⟨w4, hr4, hm4, hg4, hz4⟩ := hm3.clear (Pr := Tryz.prog) Tryz.underlying208 0
      have hs : C.G.D.safe.length = C.G.D.first.length := by
        obtain ⟨a, came, RD, _, hD, _, _⟩ := h.log.cells
        exact hD.ok.len
      obtain ⟨k1, k2, k3⟩ := hr.committed hex hl ht ho hm4 hg4 hC.pages (fun n hn hp => by rw [hC.rd h.ok hmn hs hn]; unfold Ca.rd; rw [pget_none hp])
      refine ⟨(ho.cell (p := ⟨c, 2, none⟩) (show c < _ by omega) hnc).trans (cell_of_heap hr.cells 2), w4, hr4, rfl, G', _, hC, ⟨row, { p with RL := RL' }, hrl, hex, k1⟩, ⟨fun k hk => ?_, fun k hk => ?_⟩, (Off.of_below hI.below _).then k3⟩
      · rcases k2.m k hk with e | e
        · exact .inl e
        · right; omega
      · rcases k2.i k hk with e | e
        · exact .inl e
        · right; omega
    by_cases hq0 : qs = []
    · subst hq0
      obtain ⟨us, _, hrow, _⟩ := hrow
      obtain ⟨A, cp, rfl⟩ := ownsRow_slice hrow
      refine (commit_none A p.l cp wr).mono ?_
      rintro e w3 ⟨rfl, hb3⟩
      exact ⟨rfl, htail C.G p.RL w3 ⟨[], hperm, .inl ⟨rfl, rfl⟩⟩ (hr.log.off (Off.of_below hb3 (fun _ => False)) (fun _ _ e => e)) (Reg.To.refl _ _) (Off.of_below hb3 _)⟩
    · have hlq := hperm.length_eq
      have hpg := (hrow.pgs hI.below (by omega))
      have hv : PgsI wr (fun k => ¬ p.RL.m k) v qs := by
        obtain ⟨A, cp, e, hc, hf⟩ := hpg
        refine ⟨A, cp, e, hc, fun hn => ?_⟩
        obtain ⟨b, o, e1, ⟨hb1, hbI⟩, hx⟩ := hf hn
        refine ⟨b, o, e1, ⟨hb1, fun e2 => ?_⟩, fun i n x hi => ?_⟩
        · have h9 := (h.logM b e2).1
          have h10 := h.lt b (.inl h9)
          rcases hbI with h8 | h8
          · omega
          · exact h.apart b h9 h8
        · obtain ⟨u, u1, u2, u3⟩ := hx i n x hi
          refine ⟨u, u1, u2, u3.mono fun k hk _ e2 => ?_⟩
          have h9 := (h.logM k e2).1
          have h10 := h.lt k (.inl h9)
          rcases hk with h8 | h8
          · omega
          · exact h.apart k h9 h8
      refine (commit_any p.l C.G p.RL qs v wr hr.log hv hq0 (by rw [hlq]; exact h.ok.few) (fun q hq => (h.ok.dirty q (q1 q hq)).1) (fun q hq => (h.ok.dirty q (q1 q hq)).2) q2 hw hops).mono ?_
      rintro e w3 ⟨rfl, ⟨RL', hl, ht⟩, ho⟩
      exact ⟨rfl, htail (C.G.commit qs) RL' w3 ⟨qs, hperm, .inr ⟨hq0, rfl⟩⟩ hl ht ho⟩
  have c2 : w.cell? ⟨c, 2, none⟩ = some (.map (some p.dm)) := cell_of_heap h.cells 2
  have HFin := Lib.hid hfin
  have HEnt := Lib.hid hent
  have HKeys := Lib.hid hkeys
  have HSt := Lib.hid hst
  have HB := Lib.hid hb
  have HH := Lib.hid h
  clear hfin hent hkeys hst hll hL hp hall hmn hb2 hb h hw hops hex hesl
  go_enter Tryz.func90, Tryz.ntmps90
  go_wp2_with fail
  go_loopg [3] (leftOf es #[]).size (fun g v wx => ∃ seen, (leftOf es seen).size = g ∧ CcInv w R p.dm w.heap.size es ck C.dirty seen v wx)
  case atStart => exact ⟨_, rfl, H0⟩
  case round =>
    obtain ⟨seen, hg, hI⟩ := hrel
    obtain ⟨wx, rfl⟩ : ∃ wx, wx = wr := ⟨_, rfl⟩
    have hstep := fun ty => iter_step (P := Tryz.prog) wx p.dm w.heap.size es ck seen hI.iter ((hI.below.block _ hdl).trans HB.out) HSt.out (by omega) ty
    have HI := Lib.hid hI
    clear hI H0 hrange
    rcases hstep 0 with ⟨hall, hnx⟩ | ⟨e, hm, hns, hsh, W2, hnx, hen, hr2, hz2, ho2, e1, e2, e3⟩
    · obtain ⟨k0, hf9⟩ := HFin.out wx _ seen HI.out hall
      have HF := Lib.hid hf9
      clear hf9 hstep
      go_wp2_with fail
      refine HF.out.mono ?_
      rintro e w3 ⟨rfl, k2, w4, hcl4, hf4⟩
      have HF4 := Lib.hid hf4
      clear hf4
      go_wp2_with fail
      go_ret
      exact HF4.out
    · obtain ⟨n, x, Ax, cx, hek, hev, hdm, hB⟩ := HEnt.out e hm
      rw [hek, hev] at hnx hen
      obtain ⟨qs, ⟨us, hus, hrow, hub⟩, q1, q2, q3, q4⟩ := HI.out.rows
      have hlq : qs.length ≤ 100 := Nat.le_trans ((nodup_of_map q2).length_le_of_subset (fun q hq => q1 q hq)) hcap
      have hrn : u3.ownBlock ≠ some w.heap.size := fun e9 => by
        rcases hrow.2 with ⟨e8, _⟩ | ⟨g, cap, cur, e8, _, hg8, _⟩
        · rw [e8] at e9; cases e9
        · rw [e8] at e9
          have : g = w.heap.size := by injection e9
          rw [this, HI.out.iter] at hg8; cases hg8
      have hown1 := (ownsRow_keep hrow (fun k hk => ho2 k (fun e9 => hrn (e9 ▸ hk)))).alloc (.cells #[.int .i64 n, .slice Ax x.length cx] 212)
      have hbW : Below w.heap.size w W2 := ⟨e1.trans HI.out.below.os, e2.trans HI.out.below.tape, e3.trans HI.out.below.output, by rw [hz2]; exact HI.out.below.size, fun k hk => (ho2 k (by omega)).trans (HI.out.below.block k hk)⟩
      have hbW3 : Below w.heap.size w (W2.alloc (.cells #[.int .i64 n, .slice Ax x.length cx] 212)) := hbW.alloc hbW.size _
      have hr3 : (W2.alloc (.cells #[.int .i64 n, .slice Ax x.length cx] 212)).heap[w.heap.size]? = some (.mapIter (some p.dm) ck (seen.push e.born) ck) := (Below.heap_alloc W2 _ _ (Array.getElem?_eq_some_iff.1 hr2).1).trans hr2
      have hrl3 : w.heap.size < (W2.alloc (.cells #[.int .i64 n, .slice Ax x.length cx] 212)).heap.size := (Array.getElem?_eq_some_iff.1 hr3).1
      have hkm : qs.length + 1 ≤ maxLen := by unfold maxLen; omega
      have hkb : (qs.length + 1) * 32 ≤ 140737488355328 := by omega
      have hbase : w.heap.size ≤ (W2.alloc (.cells #[.int .i64 n, .slice Ax x.length cx] 212)).heap.size := by omega
      have hnext : ∀ v' w6, w6.ownsRow w.heap.size 212 2 v' (qs.length + 1) (((List.zip qs us).flatMap fun p => [Value.int .i64 (p.1.1 : Nat), p.2]) ++ [.int .i64 (n : Nat), .slice Ax x.length cx]) → (W2.alloc (.cells #[.int .i64 n, .slice Ax x.length cx] 212)).grownBy w6 u3.ownBlock → CcInv w R p.dm w.heap.size es ck C.dirty (seen.push e.born) v' w6 := fun v' w6 h1 h2 =>
        CcInv.step q1 q2 q3 q4 hus hub (hbW3.grown h2 hbW3.size (fun k e9 => by
          rcases hrow.2 with ⟨e8, _⟩ | ⟨g, cap, cur, e8, hB8, _, _⟩
          · rw [e8] at e9; cases e9
          · rw [e8] at e9; have : g = k := by injection e9
            omega)) ((h2.block _ hrl3 (fun e9 => hrn (by rw [e9]))).trans hr3) hm hns HSt.out.2.1 HKeys.out hek hdm hB h1
      have HNext := Lib.hid hnext
      have HOwn := Lib.hid hown1
      have HSh := Lib.hid hsh
      clear hnext hown1 hrow hub q1 q2 q3 q4 hbW hbW3 hr3 hrl3 hr2 ho2 hz2 e1 e2 e3 hstep hek hev hB hdm hsh hrn
      go_wp2_with (at_builtin; refine wpList_append_own_at _ rfl _ _ 207 rfl w.heap.size 212 i0 (.agg #[.int .i64 0, .slice none 0 0]) 2 32 Tryz.underlying207 hi0 hz0 hz1 hz2 rfl (by decide) u3 _ _ rfl HOwn.out ⟨W2.heap.size, 0, none⟩ 1 1 [.int .i64 n, .slice Ax x.length cx] rfl rfl (World.news_of_block (heap_alloc_new _ _)) (by intro u hu; simp at hu; rcases hu with rfl | rfl <;> rfl) hkm hkb hbase ?_; intro v' w6 hown' hgrow hnil hloc; have hI6 := HNext.out v' w6 hown' hgrow; have HI6 := Lib.hid hI6; clear hown' hgrow hnil hloc hI6)
      go_roundg (leftOf es (seen.push e.born)).size
      case measure => rw [← hg]; exact HSh.out
      case rel => exact ⟨_, rfl, HI6.out⟩
end Go.Proofs.YtakmplpfjcddiaaGreatDoor

namespace Go.Proofs.YtakmplpfjcddiaaGreatDoor
open Go.RowKit Go.Shelf Pa
/-- A bit of a page. -/
def bitAt (b : Str) (i : Nat) : Bool := (b.getD (i / 8) 0).toNat.testBit (i % 8)
/-- A page with one bit turned. -/
def turnB (b : Str) (i : Nat) : Str := b.set (i / 8) (UInt8.ofNat ((b.getD (i / 8) 0).toNat ^^^ 2 ^ (i % 8)))
theorem turnB_length (b : Str) (i : Nat) : (turnB b i).length = b.length := by unfold turnB; simp
theorem xor_lt256 {x k : Nat} (hx : x < 256) (hk : k < 8) : x ^^^ 2 ^ k < 256 :=
  Nat.xor_lt_two_pow (n := 8) hx (Nat.pow_lt_pow_right (by decide) hk)
theorem bitAt_turnB {b : Str} {i j : Nat} (hi : i / 8 < b.length) : bitAt (turnB b i) j = if j = i then !bitAt b i else bitAt b j := by
  unfold bitAt turnB
  have hk : i % 8 < 8 := Nat.mod_lt _ (by decide)
  have hx : (b.getD (i / 8) 0).toNat < 256 := UInt8.toNat_lt _
  by_cases h : j / 8 = i / 8
  · rw [List.getD_eq_getElem?_getD, h, List.getElem?_set_self hi, Option.getD_some, UInt8.toNat_ofNat', Nat.mod_eq_of_lt (xor_lt256 hx hk), Nat.testBit_xor, Nat.testBit_two_pow]
    by_cases h2 : j = i
    · subst h2; rw [if_pos rfl]; simp
    · rw [if_neg h2]
      have : i % 8 ≠ j % 8 := by omega
      simp [this]
  · have h2 : j ≠ i := fun e => h (by rw [e])
    rw [if_neg h2, List.getD_eq_getElem?_getD, List.getElem?_set_ne (fun e => h e.symm), ← List.getD_eq_getElem?_getD]
/-- The first bit that is not set. -/
def firstB (b : Str) (n : Nat) : Option Nat := (List.range n).find? (fun i => !bitAt b i)
theorem firstB_some {b : Str} {n i : Nat} (h : firstB b n = some i) : i < n ∧ bitAt b i = false ∧ ∀ j, j < i → bitAt b j = true := by
  unfold firstB at h
  rw [List.find?_range_eq_some] at h
  obtain ⟨h1, h2, h3⟩ := h
  exact ⟨by simpa using h2, by simpa using h1, fun j hj => by simpa using h3 j hj⟩
theorem firstB_intro {b : Str} {n i : Nat} (h1 : i < n) (h2 : bitAt b i = false) (h3 : ∀ j, j < i → bitAt b j = true) : firstB b n = some i := by
  unfold firstB
  rw [List.find?_range_eq_some]
  exact ⟨by simpa using h2, by simpa using h1, fun j hj => by simpa using h3 j hj⟩
theorem firstB_intro0 {b : Str} {n : Nat} (h : ∀ j, j < n → bitAt b j = true) : firstB b n = none := by
  unfold firstB
  rw [List.find?_eq_none]
  intro j hj
  simpa using h j (by simpa using hj)
/-- A number in so many bytes, the highest first; and back. -/
def putN (k n : Nat) : Str := (List.range k).map fun j => UInt8.ofNat (n / 2 ^ (8 * (k - 1 - j)))
def getN (b : Str) : Nat := b.foldl (fun n x => n * 256 + x.toNat) 0
theorem putN_length (k n : Nat) : (putN k n).length = k := by simp [putN]
theorem putN_succ (k n : Nat) : putN (k + 1) n = UInt8.ofNat (n / 2 ^ (8 * k)) :: putN k n := by
  unfold putN
  rw [List.range_succ_eq_map, List.map_cons, List.map_map]
  congr 1
  refine List.map_congr_left fun j hj => ?_
  simp only [Function.comp]
  have : j < k := by simpa using hj
  rw [show k + 1 - 1 - (j + 1) = k - 1 - j from by omega]
theorem getN_from (b : Str) (a : Nat) : b.foldl (fun n x => n * 256 + x.toNat) a = a * 256 ^ b.length + getN b := by
  induction b generalizing a with
  | nil => simp [getN]
  | cons x b ih =>
    unfold getN
    rw [List.foldl_cons, List.foldl_cons, ih, ih (0 * 256 + x.toNat), List.length_cons, Nat.pow_succ]
    rw [Nat.add_mul]
    simp only [Nat.zero_mul, Nat.zero_add]
    rw [Nat.mul_assoc, Nat.mul_comm 256]
    omega
theorem getN_cons (x : UInt8) (b : Str) : getN (x :: b) = x.toNat * 256 ^ b.length + getN b := by
  show b.foldl (fun n x => n * 256 + x.toNat) (0 * 256 + x.toNat) = _
  rw [getN_from]; simp
theorem getN_lt (b : Str) : getN b < 256 ^ b.length := by
  induction b with
  | nil => simp [getN]
  | cons x b ih =>
    rw [getN_cons, List.length_cons, Nat.pow_succ]
    have := UInt8.toNat_lt x
    have h2 : x.toNat * 256 ^ b.length ≤ 255 * 256 ^ b.length := Nat.mul_le_mul_right _ (by omega)
    omega
theorem getN_putN (k n : Nat) : getN (putN k n) = n % 256 ^ k := by
  induction k with
  | zero => simp [putN, getN, Nat.mod_one]
  | succ k ih =>
    rw [putN_succ, getN_cons, putN_length, ih, UInt8.toNat_ofNat']
    rw [show (2 : Nat) ^ (8 * k) = 256 ^ k from by rw [Nat.pow_mul]]
    rw [show (2 : Nat) ^ 8 = 256 from rfl, Nat.pow_succ, Nat.mod_mul]
    rw [Nat.mul_comm]
    omega
/-- The first page that files may have. -/
def alFirst (inodes : Nat) : Nat := 3 + inodes / 8
/-- The superblock. -/
def superB (pages inodes : Nat) : Str := [68, 85, 78, 49] ++ putN 4 pages ++ putN 4 inodes ++ List.replicate 500 0
theorem superB_length (p i : Nat) : (superB p i).length = 512 := by simp only [superB, List.length_append, putN_length, List.length_replicate, List.length_cons, List.length_nil]
/-- Numbers, with those that are not there yet. -/
def newN (s l : List Nat) : List Nat := l.foldl (fun s n => if n ∈ s then s else s ++ [n]) s
theorem newN_nodup {s l : List Nat} (h : s.Nodup) : (newN s l).Nodup := by
  induction l generalizing s with
  | nil => exact h
  | cons n l ih =>
    refine ih ?_
    show (if n ∈ s then s else s ++ [n]).Nodup
    split
    · exact h
    · rename_i hn
      rw [List.nodup_append]
      refine ⟨h, by simp, fun a ha b hb e => hn ?_⟩
      have hb : b = n := by simpa using hb
      rw [← hb, ← e]; exact ha
theorem newN_mem {s l : List Nat} {n : Nat} : n ∈ newN s l ↔ n ∈ s ∨ n ∈ l := by
  induction l generalizing s with
  | nil => simp [newN]
  | cons m l ih =>
    show n ∈ newN (if m ∈ s then s else s ++ [m]) l ↔ _
    rw [ih]
    split
    · rename_i hm
      constructor
      · rintro (h | h)
        · exact .inl h
        · exact .inr (by simp [h])
      · rintro (h | h)
        · exact .inl h
        · rcases List.mem_cons.1 h with rfl | h
          · exact .inl hm
          · exact .inr h
    · simp [or_assoc]
theorem newN_le {s l : List Nat} : s.length ≤ (newN s l).length := by
  induction l generalizing s with
  | nil => exact Nat.le_refl _
  | cons m l ih =>
    refine Nat.le_trans ?_ ih
    show s.length ≤ (if m ∈ s then s else s ++ [m]).length
    split
    · exact Nat.le_refl _
    · simp
/-- Whether a group has room for pages besides. -/
def Ca.fits (C : Ca) (l : List Nat) : Bool := decide ((newN (srtN C.dirty) l).length ≤ C.G.cap)
theorem nodup_bound {l : List Nat} (h : l.Nodup) {n : Nat} (hl : ∀ x ∈ l, x < n) : l.length ≤ n := by
  have h1 : l ⊆ List.range n := fun x hx => List.mem_range.2 (hl x hx)
  have := h.length_le_of_subset h1
  simpa using this
theorem Ca.fits_of {C : Ca} {l : List Nat} (hok : C.Ok) (hnd : (C.dirty.map (·.1)).Nodup) (hc : C.G.pages ≤ C.G.cap) (hl : ∀ n ∈ l, n < C.G.pages) : C.fits l = true := by
  unfold Ca.fits
  simp only [decide_eq_true_eq]
  refine Nat.le_trans (nodup_bound (newN_nodup (srtN_nodup hnd)) fun x hx => ?_) hc
  rcases newN_mem.1 hx with h | h
  · obtain ⟨p, hp, rfl⟩ := List.mem_map.1 (srtN_mem.1 h)
    exact (hok.dirty p hp).1
  · exact hl x h
end Go.Proofs.YtakmplpfjcddiaaGreatDoor

namespace Go.Proofs.YtakmplpfjcddiaaGreatDoor
open Go.RowKit Go.Shelf Pa
attribute [local go_sem] bs_toList bs_size
theorem CacheR.widen {w : World} {c : Nat} {C : Ca} {R R' : Reg} {row : List Nat} {p : CaPl} (h : CacheR w c C R row p) (hm : ∀ k, R.m k → R'.m k) (hi : ∀ k, R.i k → R'.i k) (ha : ∀ k, R'.m k → ¬ R'.i k) (hl : ∀ k, R'.has k → k < w.heap.size) : CacheR w c C R' row p := by
  refine { h with apart := ha, lt := hl, mine := ⟨hm _ h.mine.1, hm _ h.mine.2.1, hm _ h.mine.2.2⟩, rowB := fun k hk => ⟨hm _ (h.rowB k hk).1, (h.rowB k hk).2⟩, logM := fun k hk => ⟨hm _ (h.logM k hk).1, (h.logM k hk).2⟩, logI := fun k hk => hi _ (h.logI k hk), dirty := h.dirty.mono rfl (fun _ _ e => e.mono fun k hk _ => hi k hk), clean := ?_ }
  obtain ⟨cl, h1, h2⟩ := h.clean
  exact ⟨cl, h1.mono rfl (fun _ _ e => e.mono fun k hk _ => hi k hk), h2⟩
theorem CacheAt.widen {w : World} {c : Nat} {C : Ca} {R R' : Reg} (h : CacheAt w c C R) (hm : ∀ k, R.m k → R'.m k) (hi : ∀ k, R.i k → R'.i k) (ha : ∀ k, R'.m k → ¬ R'.i k) (hl : ∀ k, R'.has k → k < w.heap.size) : CacheAt w c C R' := by
  obtain ⟨row, p, h1, h2, h3⟩ := h
  exact ⟨row, p, h1, h2, h3.widen hm hi ha hl⟩
theorem CacheAt.apart {w : World} {c : Nat} {C : Ca} {R : Reg} (h : CacheAt w c C R) : ∀ k, R.m k → ¬ R.i k := by obtain ⟨_, _, _, _, h⟩ := h; exact h.apart
theorem CacheAt.lt {w : World} {c : Nat} {C : Ca} {R : Reg} (h : CacheAt w c C R) : ∀ k, R.has k → k < w.heap.size := by obtain ⟨_, _, _, _, h⟩ := h; exact h.lt
theorem CacheAt.ok {w : World} {c : Nat} {C : Ca} {R : Reg} (h : CacheAt w c C R) : C.Ok := by obtain ⟨_, _, _, _, h⟩ := h; exact h.ok
theorem CacheAt.nodup {w : World} {c : Nat} {C : Ca} {R : Reg} (h : CacheAt w c C R) : (C.dirty.map (·.1)).Nodup := by obtain ⟨_, _, _, _, h⟩ := h; exact h.dirty.nodup
theorem CacheAt.rdlen {w : World} {c : Nat} {C : Ca} {R : Reg} (h : CacheAt w c C R) {n : Nat} (hn : n < C.G.pages) : (C.rd n).length = 512 := by obtain ⟨_, _, _, _, h⟩ := h; exact h.cdlen hn
theorem CacheAt.pages {w : World} {c : Nat} {C : Ca} {R : Reg} (h : CacheAt w c C R) : 1 ≤ C.G.pages ∧ C.G.pages ≤ 4096 := by
  obtain ⟨_, p, _, _, h⟩ := h
  obtain ⟨a, came, RD, _, hD, _, _⟩ := h.log.cells
  have h1 := hD.ok.few
  have h2 := h.log.ok.size
  unfold Lg.pages
  omega
/-- A cache, and objects beside it that are never written. -/
structure Held (w : World) (F : List (Nat × Obj)) (c : Nat) (C : Ca) (R : Reg) : Prop where
  at_ : CacheAt w c C R
  fix : ∀ p ∈ F, w.heap[p.1]? = some p.2 ∧ R.i p.1
/-- What an act leaves. -/
def Step (w : World) (F : List (Nat × Obj)) (c : Nat) (C' : Ca) (R : Reg) (w' : World) : Prop := ∃ R', Held w' F c C' R' ∧ R.To R' w.heap.size ∧ Off R.m w w'
theorem Held.apart {w : World} {F : List (Nat × Obj)} {c : Nat} {C : Ca} {R : Reg} (h : Held w F c C R) : ∀ k, R.m k → ¬ R.i k := h.at_.apart
theorem Held.lt {w : World} {F : List (Nat × Obj)} {c : Nat} {C : Ca} {R : Reg} (h : Held w F c C R) : ∀ k, R.has k → k < w.heap.size := h.at_.lt
theorem Held.off {w w' : World} {F : List (Nat × Obj)} {c : Nat} {C : Ca} {R : Reg} {J : Nat → Prop} (h : Held w F c C R) (ho : Off J w w') (hd : ∀ k, R.has k → ¬ J k) : Held w' F c C R :=
  ⟨h.at_.off ho hd, fun p hp => ⟨(ho.block _ (h.lt _ (.inr (h.fix p hp).2)) (hd _ (.inr (h.fix p hp).2))).trans (h.fix p hp).1, (h.fix p hp).2⟩⟩
theorem Held.below {w w' : World} {F : List (Nat × Obj)} {c : Nat} {C : Ca} {R : Reg} (h : Held w F c C R) (hb : Below w.heap.size w w') : Held w' F c C R := h.off (Off.of_below hb (fun _ => False)) (fun _ _ e => e)
theorem Held.step0 {w w' : World} {F : List (Nat × Obj)} {c : Nat} {C : Ca} {R : Reg} (h : Held w F c C R) (hb : Below w.heap.size w w') : Step w F c C R w' := ⟨R, h.below hb, Reg.To.refl _ _, Off.of_below hb _⟩
theorem Held.step {w w' : World} {F : List (Nat × Obj)} {c : Nat} {C C' : Ca} {R R' : Reg} (h : Held w F c C R) (hc : CacheAt w' c C' R') (ht : R.To R' w.heap.size) (ho : Off R.m w w') : Step w F c C' R w' := by
  have hn : ∀ p ∈ F, ¬ R'.m p.1 := fun p hp e => by
    rcases ht.m _ e with e | e
    · exact h.apart _ e (h.fix p hp).2
    · have := h.lt _ (.inr (h.fix p hp).2); omega
  refine ⟨⟨R'.m, fun k => R'.i k ∨ ∃ p ∈ F, p.1 = k⟩, ⟨hc.widen (fun _ e => e) (fun _ e => .inl e) (fun k h1 h2 => ?_) (fun k hk => ?_), fun p hp => ⟨(ho.block _ (h.lt _ (.inr (h.fix p hp).2)) (fun e => h.apart _ e (h.fix p hp).2)).trans (h.fix p hp).1, .inr ⟨p, hp, rfl⟩⟩⟩, ⟨ht.m, fun k hk => ?_⟩, ho⟩
  · rcases h2 with h2 | ⟨p, hp, rfl⟩
    · exact hc.apart k h1 h2
    · exact hn p hp h1
  · rcases hk with hk | hk | ⟨p, hp, rfl⟩
    · exact hc.lt k (.inl hk)
    · exact hc.lt k (.inr hk)
    · exact Nat.lt_of_lt_of_le (h.lt _ (.inr (h.fix p hp).2)) ho.size
  · rcases hk with hk | ⟨p, hp, rfl⟩
    · exact ht.i k hk
    · exact .inl (h.fix p hp).2
/-- One object more beside it. -/
theorem Held.more {w : World} {F : List (Nat × Obj)} {c : Nat} {C : Ca} {R : Reg} (h : Held w F c C R) {b : Nat} {o : Obj} (hb : w.heap[b]? = some o) (hn : ¬ R.m b) : ∃ R', Held w ((b, o) :: F) c C R' ∧ (∀ k, R'.m k ↔ R.m k) ∧ (∀ k, R'.i k ↔ R.i k ∨ k = b) := by
  refine ⟨⟨R.m, fun k => R.i k ∨ k = b⟩, ⟨h.at_.widen (fun _ e => e) (fun _ e => .inl e) (fun k h1 h2 => ?_) (fun k hk => ?_), fun p hp => ?_⟩, fun _ => Iff.rfl, fun _ => Iff.rfl⟩
  · rcases h2 with h2 | rfl
    · exact h.apart k h1 h2
    · exact hn h1
  · rcases hk with hk | hk | rfl
    · exact h.lt k (.inl hk)
    · exact h.lt k (.inr hk)
    · exact (Array.getElem?_eq_some_iff.1 hb).1
  · rcases List.mem_cons.1 hp with rfl | hp
    · exact ⟨hb, .inr rfl⟩
    · exact ⟨(h.fix p hp).1, .inl (h.fix p hp).2⟩
theorem Step.trans {w w1 w2 : World} {F : List (Nat × Obj)} {c : Nat} {C2 : Ca} {R R1 : Reg} (ht : R.To R1 w.heap.size) (ho : Off R.m w w1) (h2 : Step w1 F c C2 R1 w2) : Step w F c C2 R w2 := by
  obtain ⟨R2, h3, t2, o2⟩ := h2
  exact ⟨R2, h3, ht.trans t2 ho.size, ho.trans o2 ht.m⟩
/-- A block of one's own is no part of it, and stays so. -/
theorem Reg.To.free {R R' : Reg} {n k : Nat} (h : R.To R' n) (hn : ¬ R.has k) (hk : k < n) : ¬ R'.has k := fun e => by
  rcases h.has e with e | e
  · exact hn e
  · omega
abbrev mapO (c ino : Nat) : Obj := .cells #[.pointer (some ⟨c, 0, none⟩), .int .i64 ino] 239 (0, 0)
theorem tdiv_nat (a b : Nat) : ((a : Int)).tdiv (b : Int) = ((a / b : Nat) : Int) := by rw [Int.tdiv_eq_ediv_of_nonneg (Int.natCast_nonneg _)]; rfl
theorem tmod_nat (a b : Nat) : ((a : Int)).tmod (b : Int) = ((a % b : Nat) : Int) := by rw [Int.tmod_eq_emod_of_nonneg (Int.natCast_nonneg _)]; rfl
theorem first_any (m c ino : Nat) (w : World) (h : w.heap[m]? = some (mapO c ino)) (hi : ino ≤ 512) :
    Calls Tryz.prog 173 #[.pointer (some ⟨m, 0, none⟩)] w fun e w' => e = .returned (.int .i64 (alFirst ino)) ∧ w = w' := by
  have c1 : w.cell? ⟨m, 1, none⟩ = some (.int .i64 ino) := cell_of_heap h 1
  have hq : ((ino : Int)).tdiv 8 = ((ino / 8 : Nat) : Int) := tdiv_nat ino 8
  go_enter Tryz.func173, Tryz.ntmps173
  go_wp2
  go_ret
  exact ⟨ret_int (by unfold alFirst; omega), rfl⟩
theorem mcache_any (m c ino : Nat) (w : World) (h : w.heap[m]? = some (mapO c ino)) :
    Calls Tryz.prog 127 #[.pointer (some ⟨m, 0, none⟩)] w fun e w' => e = .returned (.pointer (some ⟨c, 0, none⟩)) ∧ w = w' := by
  have c0 : w.cell? ⟨m, 0, none⟩ = some (.pointer (some ⟨c, 0, none⟩)) := cell_of_heap h 0
  go_enter Tryz.func127, Tryz.ntmps127
  go_wp2
  go_ret
  exact ⟨rfl, rfl⟩
end Go.Proofs.YtakmplpfjcddiaaGreatDoor

namespace Go.Proofs.YtakmplpfjcddiaaGreatDoor
open Go.RowKit Go.Shelf Pa
attribute [local go_sem] bs_toList bs_size
theorem div_cast (x k : Nat) : ((x : Nat) : Int) / 2 ^ k = ((x / 2 ^ k : Nat) : Int) := by rw [Int.natCast_ediv]; simp
theorem and1_nat (x k : Nat) (h : x < 256) : bits .and .u8 (((x : Nat) : Int) / 2 ^ k) 1 = ((x / 2 ^ k % 2 : Nat) : Int) := by
  have h1 : x / 2 ^ k < 256 := Nat.lt_of_le_of_lt (Nat.div_le_self _ _) h
  rw [div_cast, show (1 : Int) = ((1 : Nat) : Int) from rfl, u8_and_nat _ 1 h1 (by decide), Nat.and_one_is_mod]
theorem and1_bit (x : UInt8) (k : Nat) : (bits .and .u8 (((x.toNat : Nat) : Int) / 2 ^ k) 1 == 1) = x.toNat.testBit k := by
  rw [and1_nat _ _ (UInt8.toNat_lt x), Nat.testBit_eq_decide_div_mod_eq]
  rw [Bool.eq_iff_iff]
  simp only [beq_iff_eq, decide_eq_true_eq]
  omega
theorem and1_bit0 (x : UInt8) (k : Nat) : (bits .and .u8 (((x.toNat : Nat) : Int) / 2 ^ k) 1 == 0) = !x.toNat.testBit k := by
  rw [and1_nat _ _ (UInt8.toNat_lt x), Nat.testBit_eq_decide_div_mod_eq]
  rw [Bool.eq_iff_iff]
  simp only [beq_iff_eq, Bool.not_eq_true', decide_eq_false_iff_not]
  omega
theorem bitAt_at {b : Str} {i : Nat} (hi : i / 8 < b.length) : bitAt b i = b[i / 8].toNat.testBit (i % 8) := by
  unfold bitAt
  rw [List.getD_eq_getElem?_getD, List.getElem?_eq_getElem hi]; rfl
theorem table_ok (m c ino j : Nat) (w : World) (h : w.heap[m]? = some (mapO c ino)) (hi : ino ≤ 512) (hj : j < ino) :
    Calls Tryz.prog 186 #[.pointer (some ⟨m, 0, none⟩), .int .i64 j] w fun e w' => e = .returned (.tuple #[.int .i64 (3 + j / 8 : Nat), .int .i64 (64 * (j % 8) : Nat), .int .i64 0]) ∧ w = w' := by
  have c1 : w.cell? ⟨m, 1, none⟩ = some (.int .i64 ino) := cell_of_heap h 1
  have h1 : decide ((j : Int) < 0) = false := by simp
  have h2 : decide ((ino : Int) ≤ (j : Int)) = false := by simp; omega
  go_enter Tryz.func186, Tryz.ntmps186
  go_wp2
  go_ret3
  have e1 : ((3 : Int) + (j : Int) / 8) = ((3 + j / 8 : Nat) : Int) := by omega
  have e2 : (((j : Int) % 8 * 512) / 8) = ((64 * (j % 8) : Nat) : Int) := by omega
  exact ⟨by show Ending.returned (.tuple #[.int .i64 (3 + (j : Int) / 8), .int .i64 ((j : Int) % 8 * 512 / 8), .int .i64 0]) = _; rw [e1, e2], rfl⟩
theorem table_bad (m c ino : Nat) (i : Int) (w : World) (h : w.heap[m]? = some (mapO c ino)) (hi : i < 0 ∨ (ino : Int) ≤ i) :
    Calls Tryz.prog 186 #[.pointer (some ⟨m, 0, none⟩), .int .i64 i] w fun e w' => e = .returned (.tuple #[.int .i64 0, .int .i64 0, .int .i64 2]) ∧ w = w' := by
  have c1 : w.cell? ⟨m, 1, none⟩ = some (.int .i64 ino) := cell_of_heap h 1
  by_cases h1 : i < 0
  · have h1' : decide (i < 0) = true := by simpa using h1
    go_enter Tryz.func186, Tryz.ntmps186
    go_wp2
    go_ret3
    exact ⟨rfl, rfl⟩
  · have h1' : decide (i < 0) = false := by simpa using h1
    have h2' : decide ((ino : Int) ≤ i) = true := by simp; omega
    go_enter Tryz.func186, Tryz.ntmps186
    go_wp2
    go_ret3
    exact ⟨rfl, rfl⟩
theorem at_any (i n : Nat) (v : Value) (b : Str) (w : World) (h : BytesAt w w.heap.size v b) (hi : i / 8 < b.length) :
    Calls Tryz.prog 202 #[.agg #[v, .int .i64 n], .int .i64 i] w fun e w' => e = .returned (.bool (bitAt b i)) ∧ Below w.heap.size w w' := by
  obtain ⟨A, c, rfl, ⟨hc, hl⟩, hf⟩ := h
  obtain ⟨g, o, rfl, hg, hx⟩ := hf (by rintro rfl; simp at hi)
  have hx1 := hx (i / 8) _ (List.getElem?_eq_getElem hi)
  have hb1 : Below w.heap.size w (w.alloc (.cells #[.slice (some ⟨g, o, none⟩) b.length c, .int .i64 n] 266)) := (Below.refl _ _).alloc (Nat.le_refl _) _
  have hx2 := (hb1.cell (p := ⟨g, o + i / 8, none⟩) hg).trans hx1
  rw [bitAt_at hi]
  go_enter Tryz.func202, Tryz.ntmps202
  go_wp2
  go_ret
  exact ⟨ret_bool (and1_bit _ _), hb1⟩
/-- The first bit that is not set, as first hands it back. -/
def firstI (b : Str) (n : Nat) : Int := match firstB b n with | some i => i | none => -1
theorem firstI_at {b : Str} {n i : Nat} (h1 : i < n) (h2 : bitAt b i = false) (h3 : ∀ j, j < i → bitAt b j = true) : firstI b n = i := by unfold firstI; rw [firstB_intro h1 h2 h3]
theorem firstI_none {b : Str} {n : Nat} (h : ∀ j, j < n → bitAt b j = true) : firstI b n = -1 := by unfold firstI; rw [firstB_intro0 h]
set_option maxHeartbeats 1000000 in
theorem firstb_any (n : Nat) (v : Value) (b : Str) (w : World) (h : BytesAt w w.heap.size v b) (hn : n ≤ 8 * b.length) (hb : b.length ≤ 512) :
    Calls Tryz.prog 236 #[.agg #[v, .int .i64 n]] w fun e w' => e = .returned (.int .i64 (firstI b n)) ∧ Below w.heap.size w w' := by
  obtain ⟨A, c, rfl, ⟨hc, hl⟩, hf⟩ := h
  have hb1 : Below w.heap.size w (w.alloc (.cells #[.slice A b.length c, .int .i64 n] 266)) := (Below.refl _ _).alloc (Nat.le_refl _) _
  have HF := Lib.hid hf
  have HB := Lib.hid hb1
  clear hf hb1
  go_enter Tryz.func236, Tryz.ntmps236
  go_wp2_with fail
  go_step3
  go_wp2_with fail
  go_step3
  go_wp2_with fail
  go_loopg [3, 11] b.length (fun g s3 i wx => ∃ k : Nat, s3 = .int .i64 (-1) ∧ i = .int .i64 k ∧ g = b.length - k ∧ k ≤ b.length ∧ wx = w.alloc (.cells #[.slice A b.length c, .int .i64 n] 266) ∧ (∀ j, j < n → j < 8 * k → bitAt b j = true))
  case atStart => exact ⟨0, rfl, rfl, rfl, Nat.zero_le _, rfl, fun j _ h => absurd h (by omega)⟩
  case round =>
    obtain ⟨k, rfl, rfl, rfl, hk, rfl, hall⟩ := hrel
    by_cases hlt : k < b.length
    · have hlt' : decide ((k : Int) < (b.length : Int)) = true := by simp; omega
      obtain ⟨x, o, rfl, hg, hx⟩ := HF.out (by rintro rfl; simp at hlt)
      have hx1 := (HB.out.cell (p := ⟨x, o + k, none⟩) hg).trans (hx k _ (List.getElem?_eq_getElem hlt))
      have hx8 : ∀ q, q < 8 → bitAt b (8 * k + q) = b[k].toNat.testBit q := fun q hq => by
        have h8 : (8 * k + q) / 8 = k := by omega
        unfold bitAt
        rw [h8, show (8 * k + q) % 8 = q from by omega, List.getD_eq_getElem?_getD, List.getElem?_eq_getElem hlt]; rfl
      generalize b[k] = y at hx1 hx8
      have HX8 := Lib.hid hx8
      have HAll := Lib.hid hall
      clear hx8 hall hx
      go_wp2_with fail
      go_loopg [3, 16] 8 (fun g s3 i wx => ∃ q : Nat, s3 = .int .i64 (-1) ∧ i = .int .i64 q ∧ g = 8 - q ∧ q ≤ 8 ∧ wx = w.alloc (.cells #[.slice (some ⟨x, o, none⟩) b.length c, .int .i64 n] 266) ∧ (∀ j, j < n → j < 8 * k + q → bitAt b j = true))
      case atStart => exact ⟨0, rfl, rfl, rfl, Nat.zero_le _, rfl, fun j h1 h2 => HAll.out j h1 (by omega)⟩
      case round =>
        obtain ⟨q, rfl, rfl, rfl, hq, rfl, hall⟩ := hrel
        by_cases hq8 : q < 8
        · have hq8' : decide ((q : Int) < 8) = true := by simp; omega
          by_cases hn8 : n ≤ 8 * k + q
          · have hn8' : decide ((n : Int) ≤ 8 * (k : Int) + (q : Int)) = true := by simp; omega
            have hr := firstI_none (b := b) (n := n) (fun j hj => hall j hj (by omega))
            have HR := Lib.hid hr
            clear hall hr
            go_wp2_with fail
            rw [Exit.noGoto_ret]
            go_ret
            exact ⟨ret_int HR.out.symm, HB.out⟩
          · have hn8' : decide ((n : Int) ≤ 8 * (k : Int) + (q : Int)) = false := by simp; omega
            have h8 := HX8.out q hq8
            cases hbt : y.toNat.testBit q with
            | false =>
              have hb0 : (bits .and .u8 (((y.toNat : Nat) : Int) / 2 ^ q) 1 == 0) = true := by rw [and1_bit0, hbt]; rfl
              have hr := firstI_at (b := b) (n := n) (i := 8 * k + q) (by omega) (by rw [h8, hbt]) (fun j hj => hall j (by omega) hj)
              have HR := Lib.hid hr
              clear hall hr h8
              go_wp2_with fail
              rw [Exit.noGoto_ret]
              go_ret
              exact ⟨ret_int (by rw [HR.out]; omega), HB.out⟩
            | true =>
              have hb0 : (bits .and .u8 (((y.toNat : Nat) : Int) / 2 ^ q) 1 == 0) = false := by rw [and1_bit0, hbt]; rfl
              have hnext : ∀ j, j < n → j < 8 * k + (q + 1) → bitAt b j = true := fun j h1 h2 => by
                by_cases e : j = 8 * k + q
                · rw [e, h8, hbt]
                · exact hall j h1 (by omega)
              have HN := Lib.hid hnext
              clear hall hnext h8
              go_wp2_with fail
              go_roundg (8 - (q + 1))
              case measure => omega
              case rel => exact ⟨q + 1, rfl, by go_num, rfl, hq8, rfl, HN.out⟩
        · have hq8' : decide ((q : Int) < 8) = false := by simp; omega
          have hnext : ∀ j, j < n → j < 8 * (k + 1) → bitAt b j = true := fun j h1 h2 => hall j h1 (by omega)
          have HN := Lib.hid hnext
          clear hall hnext
          go_wp2_with fail
          go_roundg (b.length - (k + 1))
          case measure => omega
          case rel => exact ⟨k + 1, rfl, by go_num, rfl, hlt, rfl, HN.out⟩
    · have hlt' : decide ((k : Int) < (b.length : Int)) = false := by simp; omega
      have hr := firstI_none (b := b) (n := n) (fun j hj => hall j hj (by omega))
      have HR := Lib.hid hr
      clear hall hr
      go_wp2_with fail
      rw [Exit.noGoto_ret]
      go_ret
      exact ⟨ret_int HR.out.symm, HB.out⟩
end Go.Proofs.YtakmplpfjcddiaaGreatDoor

namespace Go.Proofs.YtakmplpfjcddiaaGreatDoor
open Go.RowKit Go.Shelf Pa
attribute [local go_sem] bs_toList bs_size
theorem Held.step' {w w' : World} {F : List (Nat × Obj)} {c : Nat} {C C' : Ca} {R R' : Reg} (h : Held w F c C R) (hc : CacheAt w' c C' R') (ht : R.To R' w.heap.size) (ho : Off R.m w w') :
    ∃ R'', Held w' F c C' R'' ∧ R.To R'' w.heap.size ∧ Off R.m w w' ∧ ∀ k, R''.has k → R'.has k ∨ k < w.heap.size := by
  have hn : ∀ p ∈ F, ¬ R'.m p.1 := fun p hp e => by
    rcases ht.m _ e with e | e
    · exact h.apart _ e (h.fix p hp).2
    · have := h.lt _ (.inr (h.fix p hp).2); omega
  refine ⟨⟨R'.m, fun k => R'.i k ∨ ∃ p ∈ F, p.1 = k⟩, ⟨hc.widen (fun _ e => e) (fun _ e => .inl e) (fun k h1 h2 => ?_) (fun k hk => ?_), fun p hp => ⟨(ho.block _ (h.lt _ (.inr (h.fix p hp).2)) (fun e => h.apart _ e (h.fix p hp).2)).trans (h.fix p hp).1, .inr ⟨p, hp, rfl⟩⟩⟩, ⟨ht.m, fun k hk => ?_⟩, ho, fun k hk => ?_⟩
  · rcases h2 with h2 | ⟨p, hp, rfl⟩
    · exact hc.apart k h1 h2
    · exact hn p hp h1
  · rcases hk with hk | hk | ⟨p, hp, rfl⟩
    · exact hc.lt k (.inl hk)
    · exact hc.lt k (.inr hk)
    · exact Nat.lt_of_lt_of_le (h.lt _ (.inr (h.fix p hp).2)) ho.size
  · rcases hk with hk | ⟨p, hp, rfl⟩
    · exact ht.i k hk
    · exact .inl (h.fix p hp).2
  · rcases hk with hk | hk | ⟨p, hp, rfl⟩
    · exact .inl (.inl hk)
    · exact .inl (.inr hk)
    · exact .inr (h.lt _ (.inr (h.fix p hp).2))
/-- Bytes of one's own are handed back; nothing turns. -/
def HRd (w : World) (F : List (Nat × Obj)) (c : Nat) (C : Ca) (R : Reg) (x : Str) (v : Value) (w' : World) : Prop :=
  ∃ R', OwnB w' w.heap.size v x ∧ Held w' F c C R' ∧ R.To R' w.heap.size ∧ Off R.m w w' ∧ ∀ k, v.ownBlock = some k → ¬ R'.has k
theorem hread_any (n c : Nat) (C : Ca) (R : Reg) (F : List (Nat × Obj)) (w : World) (h : Held w F c C R) (hn : n < C.G.pages) :
    Calls Tryz.prog 128 #[.pointer (some ⟨c, 0, none⟩), .int .i64 n] w fun e w' => ∃ v, e = .returned (.tuple #[v, .int .i64 0]) ∧ HRd w F c C R (C.rd n) v w' := by
  refine (cread_any n c C R w h.at_ hn).mono ?_
  rintro e w' ⟨v, R', rfl, h1, h2, h3, h4, h5⟩
  obtain ⟨R2, k1, k2, k3, k4⟩ := h.step' h2 h3 h4
  refine ⟨v, rfl, R2, h1, k1, k2, k3, fun k hk e => ?_⟩
  rcases k4 k e with e | e
  · exact h5 k hk e
  · have := (h1.block hk).1; omega
theorem hwrite_any (n c : Nat) (C : Ca) (R : Reg) (F : List (Nat × Obj)) (v : Value) (x : Str) (w : World) (h : Held w F c C R) (hn : n < C.G.pages) (hv : BytesAt w w.heap.size v x) (hx : x.length = 512) :
    Calls Tryz.prog 176 #[.pointer (some ⟨c, 0, none⟩), .int .i64 n, v] w fun e w' => e = .returned (.int .i64 (if C.may n = true then 0 else 7)) ∧ Step w F c (if C.may n = true then C.set n x else C) R w' := by
  refine (cwrite_any n c C R v x w h.at_ hn hv hx).mono ?_
  rintro e w' ⟨R', rfl, h2, h3, h4⟩
  exact ⟨rfl, h.step h2 h3 h4⟩
theorem hcommit_any (c : Nat) (C : Ca) (R : Reg) (F : List (Nat × Obj)) (w : World) (h : Held w F c C R) (hw : C.G.D.wait = []) (hops : C.G.D.ops.length + 1000 < 1000000000) :
    Calls Tryz.prog 90 #[.pointer (some ⟨c, 0, none⟩)] w fun e w' => e = .returned (.int .i64 0) ∧ ∃ G', Committed C G' ∧ Step w F c ⟨G', C.most, []⟩ R w' := by
  refine (ccommit_any c C R w h.at_ hw hops).mono ?_
  rintro e w' ⟨rfl, G', R', h1, h2, h3, h4⟩
  exact ⟨rfl, G', h1, h.step h2 h3 h4⟩
theorem HRd.bytes {w w' : World} {F : List (Nat × Obj)} {c : Nat} {C : Ca} {R : Reg} {x : Str} {v : Value} (h : HRd w F c C R x v w') (hl : x.length ≤ 512) : BytesAt w' w'.heap.size v x := by
  obtain ⟨R', h1, _⟩ := h
  exact (h1.bytes (by omega)).at
/-- How many bits of a page count. -/
def cntB (C : Ca) (ino page : Nat) : Nat := if page = 2 then C.G.pages else ino
theorem HRd.store {w w2 w3 : World} {F : List (Nat × Obj)} {c : Nat} {C : Ca} {R : Reg} {x : Str} {v : Value} {o : Obj} (hR : ∀ k, R.has k → k < w.heap.size) (h : HRd (w.alloc o) F c C R x v w2) (ho : Off (fun k => k = w.heap.size) w2 w3) : HRd w F c C R x v w3 := by
  obtain ⟨R', h1, h2, h3, h4, h5⟩ := h
  rw [World.size_alloc] at h1 h3
  have hb : Below w.heap.size w (w.alloc o) := (Below.refl _ _).alloc (Nat.le_refl _) _
  have hn : ∀ k, R'.has k → ¬ k = w.heap.size := fun k hk e => by
    rcases h3.has hk with e2 | e2
    · have := hR k e2; omega
    · omega
  refine ⟨R', ?_, h2.off ho hn, ⟨fun k hk => ?_, fun k hk => ?_⟩, ((Off.of_below hb _).trans h4 (fun k e => .inl e)).trans ho (fun k e => .inr (Nat.le_of_eq e.symm)), h5⟩
  · obtain ⟨q1, q2⟩ := h1
    refine ⟨q1, q2.imp id fun ⟨g, cap, cur, e1, e2, e3, e4⟩ => ⟨g, cap, cur, e1, by omega, ?_, e4⟩⟩
    rw [ho.block g (Array.getElem?_eq_some_iff.1 e3).1 (by omega)]; exact e3
  · rcases h3.m k hk with e | e
    · exact .inl e
    · right; omega
  · rcases h3.i k hk with e | e
    · exact .inl e
    · right; omega
set_option maxHeartbeats 1000000 in
theorem mread_any (page m c ino : Nat) (C : Ca) (R : Reg) (F : List (Nat × Obj)) (w : World) (h : Held w F c C R) (hm : (m, mapO c ino) ∈ F) (hp : page < C.G.pages) :
    Calls Tryz.prog 201 #[.pointer (some ⟨m, 0, none⟩), .int .i64 page] w fun e w' => ∃ v, e = .returned (.agg #[v, .int .i64 (cntB C ino page)]) ∧ HRd w F c C R (C.rd page) v w' := by
  have hlt := h.lt
  have hap := h.apart
  obtain ⟨hm0, hmi⟩ := h.fix _ hm
  have hml : m < w.heap.size := hlt m (.inr hmi)
  have hb : Below w.heap.size w (w.alloc (.cells #[.slice none 0 0, .int .i64 0] 266)) := (Below.refl _ _).alloc (Nat.le_refl _) _
  have h1 := h.below hb
  have hrd := hread_any page c C R F _ h1 hp
  have c0 : (w.alloc (.cells #[.slice none 0 0, .int .i64 0] 266)).cell? ⟨m, 0, none⟩ = some (.pointer (some ⟨c, 0, none⟩)) := (hb.cell (p := ⟨m, 0, none⟩) hml).trans (cell_of_heap hm0 0)
  have hnew : (w.alloc (.cells #[.slice none 0 0, .int .i64 0] 266)).heap[w.heap.size]? = some (.cells #[.slice none 0 0, .int .i64 0] 266 (0, 0)) := heap_alloc_new w _
  have hafter : ∀ v w2, HRd (w.alloc (.cells #[.slice none 0 0, .int .i64 0] 266)) F c C R (C.rd page) v w2 → w2.heap[w.heap.size]? = some (.cells #[.slice none 0 0, .int .i64 0] 266 (0, 0)) ∧ w2.heap[m]? = some (mapO c ino) ∧ ∃ R2, Held w2 F c C R2 := fun v w2 hr => by
    obtain ⟨R', k1, k2, k3, k4, k5⟩ := hr
    refine ⟨(k4.block _ (by simp) (fun e => by have := hlt _ (.inl e); omega)).trans hnew, (k2.fix _ hm).1, R', k2⟩
  have HRd0 := Lib.hid hrd
  have HAf := Lib.hid hafter
  have HLt := Lib.hid hlt
  have HM := Lib.hid hm
  clear hrd hafter hlt hap h1 hb hnew h hm0 hmi hm
  by_cases hp2 : page = 2
  · subst hp2
    have hcnt : cntB C ino 2 = C.G.pages := rfl
    go_enter Tryz.func201, Tryz.ntmps201
    go_wp2_with fail
    refine HRd0.out.mono ?_
    rintro e w2 ⟨v, rfl, hr⟩
    obtain ⟨a1, a2, R2, a3⟩ := HAf.out v w2 hr
    obtain ⟨row, p, _, _, hcr⟩ := a3.at_
    have hlog := clog_any c C R2 row p w2 hcr
    have hpg := pages_any p.l C.G p.RL w2 hcr.log
    have d0 : w2.cell? ⟨m, 0, none⟩ = some (.pointer (some ⟨c, 0, none⟩)) := cell_of_heap a2 0
    have b0 : w2.cell? ⟨w.heap.size, 0, none⟩ = some (.slice none 0 0) := cell_of_heap a1 0
    have b1 : w2.cell? ⟨w.heap.size, 1, none⟩ = some (.int .i64 0) := cell_of_heap a1 1
    have f0 : w2.frozen? ⟨w.heap.size, 0, none⟩ = false := free_of_heap a1 0
    have f1 : w2.frozen? ⟨w.heap.size, 1, none⟩ = false := free_of_heap a1 1
    obtain ⟨A, cv, rfl⟩ : ∃ A cv, v = .slice A (C.rd 2).length cv := by obtain ⟨_, k1, _⟩ := id hr; exact ownsRow_slice k1
    have HR2 := Lib.hid hr
    have HLog := Lib.hid hlog
    have HPg := Lib.hid hpg
    have HA1 := Lib.hid a1
    clear hr hlog hpg a1 a2 a3 hcr
    go_wp2_with fail
    refine HLog.out.mono ?_
    rintro e w3 ⟨rfl, rfl⟩
    go_wp2_with fail
    refine HPg.out.mono ?_
    rintro e w3 ⟨rfl, nq, hw3⟩
    have hfin : ∀ u1 u2, HRd w F c C R (C.rd 2) (.slice A (C.rd 2).length cv) ((w3.setCell ⟨w.heap.size, 0, none⟩ u1).setCell ⟨w.heap.size, 1, none⟩ u2) := fun u1 u2 => HRd.store HLt.out HR2.out (by rw [hw3]; exact (((Off.refl (fun k => k = w.heap.size) w2).drewN nq).setCell (p := ⟨w.heap.size, 0, none⟩) (.inl rfl) u1).setCell (p := ⟨w.heap.size, 1, none⟩) (.inl rfl) u2)
    have b0' : w3.cell? ⟨w.heap.size, 0, none⟩ = some (.slice none 0 0) := by rw [hw3]; exact b0
    have b1' : w3.cell? ⟨w.heap.size, 1, none⟩ = some (.int .i64 0) := by rw [hw3]; exact b1
    have f0' : w3.frozen? ⟨w.heap.size, 0, none⟩ = false := by rw [hw3]; exact f0
    have f1' : w3.frozen? ⟨w.heap.size, 1, none⟩ = false := by rw [hw3]; exact f1
    have HFin := Lib.hid hfin
    clear hfin hw3 b0 b1 f0 f1
    go_wp2_with fail
    refine bodyPost_ret (v := .agg #[.slice A (C.rd 2).length cv, .int .i64 C.G.pages]) (by simp [results, Tryz.results201, go_sem, b0', b1', f0', f1']) rfl ?_
    exact ⟨_, by rw [hcnt], HFin.out _ _⟩
  · have hcnt : cntB C ino page = ino := if_neg hp2
    have hne : ((page : Int) == 2) = false := by simp; omega
    go_enter Tryz.func201, Tryz.ntmps201
    go_wp2_with fail
    refine HRd0.out.mono ?_
    rintro e w2 ⟨v, rfl, hr⟩
    obtain ⟨a1, a2, R2, a3⟩ := HAf.out v w2 hr
    have d1 : w2.cell? ⟨m, 1, none⟩ = some (.int .i64 ino) := cell_of_heap a2 1
    have b0 : w2.cell? ⟨w.heap.size, 0, none⟩ = some (.slice none 0 0) := cell_of_heap a1 0
    have b1 : w2.cell? ⟨w.heap.size, 1, none⟩ = some (.int .i64 0) := cell_of_heap a1 1
    have f0 : w2.frozen? ⟨w.heap.size, 0, none⟩ = false := free_of_heap a1 0
    have f1 : w2.frozen? ⟨w.heap.size, 1, none⟩ = false := free_of_heap a1 1
    obtain ⟨A, cv, rfl⟩ : ∃ A cv, v = .slice A (C.rd page).length cv := by obtain ⟨_, k1, _⟩ := id hr; exact ownsRow_slice k1
    have hfin : ∀ u1 u2, HRd w F c C R (C.rd page) (.slice A (C.rd page).length cv) ((w2.setCell ⟨w.heap.size, 0, none⟩ u1).setCell ⟨w.heap.size, 1, none⟩ u2) := fun u1 u2 => HRd.store HLt.out hr (((Off.refl (fun k => k = w.heap.size) w2).setCell (p := ⟨w.heap.size, 0, none⟩) (.inl rfl) u1).setCell (p := ⟨w.heap.size, 1, none⟩) (.inl rfl) u2)
    have HFin := Lib.hid hfin
    clear hfin hr a1 a2 a3
    go_wp2_with fail
    refine bodyPost_ret (v := .agg #[.slice A (C.rd page).length cv, .int .i64 ino]) (by simp [results, Tryz.results201, go_sem, b0, b1, f0, f1]) rfl ?_
    exact ⟨_, by rw [hcnt], HFin.out _ _⟩
/-- Whether a bit is set, of those that count. -/
def isB (C : Ca) (ino page : Nat) (i : Int) : Bool := decide (0 ≤ i) && decide (i < (cntB C ino page : Int)) && bitAt (C.rd page) i.toNat
set_option maxHeartbeats 1000000 in
theorem is_any (page m c ino : Nat) (i : Int) (C : Ca) (R : Reg) (F : List (Nat × Obj)) (w : World) (h : Held w F c C R) (hm : (m, mapO c ino) ∈ F) (hp : page < C.G.pages) (hi : ino ≤ 512) :
    Calls Tryz.prog 250 #[.pointer (some ⟨m, 0, none⟩), .int .i64 page, .int .i64 i] w fun e w' => e = .returned (.bool (isB C ino page i)) ∧ Step w F c C R w' := by
  have hlen := h.at_.rdlen hp
  have hpgs := h.at_.pages
  by_cases h0 : i < 0
  · have h0' : decide (i < 0) = true := by simpa using h0
    have hr : isB C ino page i = false := by unfold isB; rw [decide_eq_false (by omega : ¬ 0 ≤ i)]; rfl
    have HS := Lib.hid (h.step0 (Below.refl w.heap.size w))
    clear h
    go_enter Tryz.func250, Tryz.ntmps250
    go_wp2_with fail
    go_ret
    exact ⟨ret_bool hr.symm, HS.out⟩
  · have h0' : decide (i < 0) = false := by simpa using h0
    have hrd := mread_any page m c ino C R F w h hm hp
    obtain ⟨j, rfl⟩ : ∃ j : Nat, i = j := ⟨i.toNat, by omega⟩
    have hcn : cntB C ino page ≤ 4096 := by unfold cntB; split <;> omega
    have HRd1 := Lib.hid hrd
    have HLen := Lib.hid hlen
    clear hrd h hlen
    go_enter Tryz.func250, Tryz.ntmps250
    go_wp2_with fail
    refine HRd1.out.mono ?_
    rintro e w2 ⟨v, rfl, hr⟩
    obtain ⟨A, cv, rfl⟩ : ∃ A cv, v = .slice A (C.rd page).length cv := by obtain ⟨_, k1, _⟩ := id hr; exact ownsRow_slice k1
    have hba : Below w2.heap.size w2 (w2.alloc (.cells #[.slice A (C.rd page).length cv, .int .i64 (cntB C ino page)] 266)) := (Below.refl _ _).alloc (Nat.le_refl _) _
    have hfin : ∀ w3, Below w2.heap.size w2 w3 → Step w F c C R w3 := fun w3 hb => by
      obtain ⟨R', _, k2, k3, k4, _⟩ := hr
      exact Step.trans k3 k4 (k2.step0 hb)
    have hby := (hr.bytes (by have := HLen.out; omega)).below hba
    have HBa := Lib.hid hba
    have HFin := Lib.hid hfin
    by_cases hj : j < cntB C ino page
    · have hj' : decide ((j : Int) < (cntB C ino page : Int)) = true := by simp; omega
      have hat := at_any j (cntB C ino page) _ (C.rd page) _ (hby.more (by simp)) (by have := HLen.out; omega)
      have hres : isB C ino page j = bitAt (C.rd page) j := by unfold isB; rw [hj', decide_eq_true (by omega)]; rfl
      have HAt := Lib.hid hat
      have HRes := Lib.hid hres
      clear hat hby hba hfin hr hres
      go_wp2_with fail
      refine HAt.out.mono ?_
      rintro e w3 ⟨rfl, hb3⟩
      rw [World.size_alloc] at hb3
      have HF2 := Lib.hid (HFin.out w3 (HBa.out.trans (hb3.mono (Nat.le_succ _))))
      clear hb3
      go_wp2_with fail
      go_ret
      exact ⟨ret_bool HRes.out.symm, HF2.out⟩
    · have hj' : decide ((j : Int) < (cntB C ino page : Int)) = false := by simp; omega
      have hres : isB C ino page j = false := by unfold isB; rw [hj']; simp
      clear hby hba hfin hr
      have HRes := Lib.hid hres
      clear hres
      go_wp2_with fail
      go_ret
      exact ⟨ret_bool HRes.out.symm, HFin.out _ HBa.out⟩
theorem usedInode_any (m c ino : Nat) (i : Int) (C : Ca) (R : Reg) (F : List (Nat × Obj)) (w : World) (h : Held w F c C R) (hm : (m, mapO c ino) ∈ F) (hp : 1 < C.G.pages) (hi : ino ≤ 512) :
    Calls Tryz.prog 187 #[.pointer (some ⟨m, 0, none⟩), .int .i64 i] w fun e w' => e = .returned (.bool (isB C ino 1 i)) ∧ Step w F c C R w' := by
  have hs := is_any 1 m c ino i C R F w h hm hp hi
  have HS := Lib.hid hs
  clear hs h
  go_enter Tryz.func187, Tryz.ntmps187
  go_wp2_with fail
  refine HS.out.mono ?_
  rintro e w2 ⟨rfl, hst⟩
  have HSt := Lib.hid hst
  clear hst
  go_wp2_with fail
  go_ret
  exact ⟨rfl, HSt.out⟩
end Go.Proofs.YtakmplpfjcddiaaGreatDoor

namespace Go.Proofs.YtakmplpfjcddiaaGreatDoor
open Go.RowKit Go.Shelf Pa
attribute [local go_sem] bs_toList bs_size
theorem newN_snoc (s l : List Nat) (n : Nat) : newN s (l ++ [n]) = if n ∈ newN s l then newN s l else newN s l ++ [n] := by unfold newN; rw [List.foldl_append]; rfl
theorem newN_self {l : List Nat} (h : l.Nodup) : newN [] l = l := by
  have key : ∀ (l s : List Nat), (s ++ l).Nodup → newN s l = s ++ l := by
    intro l
    induction l with
    | nil => intro s _; simp [newN]
    | cons n l ih =>
      intro s h
      have h1 : n ∉ s := fun e => by
        rw [List.nodup_append] at h
        exact h.2.2 n e n (by simp) rfl
      show newN (if n ∈ s then s else s ++ [n]) l = _
      rw [if_neg h1, ih (s ++ [n]) (by simpa using h)]
      simp
  simpa using key l [] (by simpa using h)
theorem take_succ_at {α : Type} (l : List α) (k : Nat) (x : α) (h : l[k]? = some x) : l.take (k + 1) = l.take k ++ [x] := by rw [List.take_add_one, h]; rfl
/-- Block mb is a map that has just these numbers. -/
def SeenB (w : World) (mb : Nat) (s : List Nat) : Prop := ∃ L : List (Nat × Bool), MapB (fun v x => v = .bool x) w mb L ∧ L.map (·.1) = s
theorem SeenB.lt {w : World} {mb : Nat} {s : List Nat} (h : SeenB w mb s) : mb < w.heap.size := by obtain ⟨L, h, _⟩ := h; exact h.lt
theorem SeenB.keep {w w' : World} {mb : Nat} {s : List Nat} (h : SeenB w mb s) (hb : w'.heap[mb]? = w.heap[mb]?) : SeenB w' mb s := by
  obtain ⟨L, h1, h2⟩ := h
  exact ⟨L, h1.mono hb (fun _ _ e => e), h2⟩
theorem SeenB.len {w : World} {mb : Nat} {s : List Nat} (h : SeenB w mb s) (ty : TypeId) : (Builtin.len_ #[291] ty #[.map (some mb)]).run Tryz.prog w = .ok (.int .i64 (s.length : Nat)) w := by
  obtain ⟨L, h1, h2⟩ := h
  have := h1.len Tryz.underlying291 Tryz.underlying3 ty
  rw [← h2, List.length_map]; exact this
theorem SeenB.put {w : World} {mb : Nat} {s : List Nat} (h : SeenB w mb s) (n : Nat) : ∃ w', (Instr.mapUpdate 291 (.map (some mb)) (.int .i64 n) (.bool true)).run Tryz.prog w = .ok () w' ∧ SeenB w' mb (if n ∈ s then s else s ++ [n]) ∧ w.grownBy w' (some mb) ∧ w'.heap.size = w.heap.size := by
  obtain ⟨L, h1, h2⟩ := h
  obtain ⟨w', e1, e2, e3, e4⟩ := h1.update Tryz.underlying291 Tryz.underlying3 n (.bool true) true rfl
  refine ⟨w', e1, ⟨_, e2, ?_⟩, e3, e4⟩
  rw [pset_keys, h2]
  by_cases hn : n ∈ s
  · rw [if_pos hn, if_pos (phas_iff.2 (by rw [h2]; exact hn))]
  · rw [if_neg hn, if_neg (fun e => hn (by rw [← h2]; exact phas_iff.1 e))]
set_option maxRecDepth 100000 in
set_option maxHeartbeats 2000000 in
theorem fits_any (m c ino : Nat) (v : Value) (l : List Nat) (C : Ca) (R : Reg) (F : List (Nat × Obj)) (w : World) (h : Held w F c C R) (hm : (m, mapO c ino) ∈ F) (hv : NatsI w (fun _ => True) v l) (hl : l.length ≤ 1000) :
    Calls Tryz.prog 174 #[.pointer (some ⟨m, 0, none⟩), v] w fun e w' => e = .returned (.bool (C.fits l)) ∧ Below w.heap.size w w' := by
  have hcap : C.dirty.length ≤ 100 := by have := h.at_.ok.few; unfold Lg.cap at this; omega
  have hcapG : C.G.cap ≤ 100 := by unfold Lg.cap; omega
  have hnd := srtN_nodup h.at_.nodup
  have hsl := srtN_length C.dirty
  have hpg := h.at_.pages
  have hb0 : Below w.heap.size w (w.alloc (.map #[] 0)) := (Below.refl _ _).alloc (Nat.le_refl _) _
  have hmk : ∀ w, (Instr.makeMap 291 none).run Tryz.prog w = .ok (.map (some w.heap.size)) (w.alloc (.map #[] 0)) := fun _ => rfl
  have h1 := h.below hb0
  obtain ⟨hm0, hmi⟩ := h.fix _ hm
  have hml : m < w.heap.size := h.lt m (.inr hmi)
  have c0 : (w.alloc (.map #[] 0)).cell? ⟨m, 0, none⟩ = some (.pointer (some ⟨c, 0, none⟩)) := cell_of_heap (h1.fix _ hm).1 0
  obtain ⟨row, p, _, _, hcr⟩ := h1.at_
  have hdi := cdirty_any c C R row p _ hcr hpg.2
  have hroom : ∀ w', Below w.heap.size w w' → w'.cell? ⟨m, 0, none⟩ = some (.pointer (some ⟨c, 0, none⟩)) ∧ ∀ q, Calls Tryz.prog 235 #[.pointer (some ⟨c, 0, none⟩)] (w'.drewN q) fun e w2 => e = .returned (.int .i64 C.room) ∧ ∃ q, w2 = w'.drewN q := fun w' hb => by
    have h2 := h.below hb
    refine ⟨cell_of_heap (h2.fix _ hm).1 0, fun q => ?_⟩
    obtain ⟨row, p, _, _, hcr⟩ := (h2.below (below_drewN (Below.refl _ _) q)).at_
    refine (room_any c C R row p _ hcr).mono ?_
    rintro e w2 ⟨he, q2, hw⟩
    exact ⟨he, q + q2, by rw [hw, World.drewN_drewN]⟩
  obtain ⟨A, cp, rfl, hc, hx⟩ := hv
  have HX := Lib.hid hx
  have HDi := Lib.hid hdi
  have HRoom := Lib.hid hroom
  have HB0 := Lib.hid hb0
  have HSl := Lib.hid hsl
  have HNd := Lib.hid hnd
  clear hx hdi hroom hb0 hsl hnd h h1 hm0 hmi hcr
  go_enter Tryz.func174, Tryz.ntmps174
  go_wp2_with fail
  refine HDi.out.mono ?_
  rintro e w2 ⟨dv, rfl, hnt, hb2⟩
  rw [World.size_alloc] at hb2
  have hb02 : Below w.heap.size w w2 := HB0.out.trans (hb2.mono (Nat.le_succ _))
  have hs0 : SeenB w2 w.heap.size [] := ⟨[], ((MapB.new (P := fun v (x : Bool) => v = .bool x) w).mono (hb2.block _ (Nat.lt_succ_self _)) (fun _ _ e => e)), rfl⟩
  obtain ⟨Ad, cd, rfl, hcd, hnx⟩ := hnt
  have HNx := Lib.hid hnx
  have HS0 := Lib.hid hs0
  have HB02 := Lib.hid hb02
  have hdl : (srtN C.dirty).length ≤ 100 := by rw [HSl.out]; exact hcap
  clear hnx hs0 hb02 hb2
  go_wp2_with fail
  go_loopg [18] (srtN C.dirty).length (fun g i wx => ∃ k : Nat, i = .int .i64 k ∧ g = (srtN C.dirty).length - k ∧ k ≤ (srtN C.dirty).length ∧ SeenB wx w.heap.size (newN [] ((srtN C.dirty).take k)) ∧ Off (fun k => k = w.heap.size) w2 wx)
  case atStart => exact ⟨0, rfl, rfl, Nat.zero_le _, HS0.out, Off.refl _ _⟩
  case round =>
    obtain ⟨k, rfl, rfl, hk, hs, ho⟩ := hrel
    by_cases hlt : k < (srtN C.dirty).length
    · have hltI : decide ((k : Int) < ((srtN C.dirty).length : Int)) = true := by simp; omega
      obtain ⟨n, hkn⟩ : ∃ n, (srtN C.dirty)[k]? = some n := ⟨_, List.getElem?_eq_getElem hlt⟩
      obtain ⟨b, o, rfl, ⟨hbl, hbB⟩, hcx⟩ := HNx.out (by intro e; rw [e] at hkn; simp at hkn)
      have hcell := (ho.cell (p := ⟨b, o + k, none⟩) hbl (fun e => by rw [World.size_alloc] at hbB; have : b = w.heap.size := e; omega)).trans (hcx k n hkn)
      obtain ⟨w8, hup, hs8, hg8, hz8⟩ := hs.put n
      have hnext : SeenB w8 w.heap.size (newN [] ((srtN C.dirty).take (k + 1))) ∧ Off (fun k => k = w.heap.size) w2 w8 := ⟨by rw [take_succ_at _ _ _ hkn, newN_snoc]; exact hs8, ho.grown hg8 (fun j e => by cases e; exact .inl rfl)⟩
      have HN := Lib.hid hnext
      clear hnext hs8 hg8 hz8 hs ho hkn hcx
      go_wp2_with fail
      go_roundg ((srtN C.dirty).length - (k + 1))
      case measure => omega
      case rel => exact ⟨k + 1, by go_num, rfl, hlt, HN.out.1, HN.out.2⟩
    · have hltI : decide ((k : Int) < ((srtN C.dirty).length : Int)) = false := by simp; omega
      obtain rfl : k = (srtN C.dirty).length := by omega
      rw [List.take_length, newN_self HNd.out] at hs
      have hlen := fun ty => hs.len ty
      have hbr : Below w.heap.size w wr := ((Off.of_below HB02.out (fun k => k = w.heap.size)).then ho).below (Nat.le_refl _) (fun k e => Nat.le_of_eq e.symm)
      have HS := Lib.hid hs
      have HBr := Lib.hid hbr
      have hlen3 := hlen 3
      clear hs hbr ho hlen
      go_wp2_with fail
      go_loopg [29] l.length (fun g i wx => ∃ k : Nat, i = .int .i64 k ∧ g = l.length - k ∧ k ≤ l.length ∧ SeenB wx w.heap.size (newN (srtN C.dirty) (l.take k)) ∧ Below w.heap.size w wx)
      case atStart => exact ⟨0, rfl, rfl, Nat.zero_le _, HS.out, HBr.out⟩
      case round =>
        obtain ⟨j, rfl, rfl, hj, hs, hb⟩ := hrel
        by_cases hlt2 : j < l.length
        · have hltI2 : decide ((j : Int) < (l.length : Int)) = true := by simp; omega
          obtain ⟨n, hjn⟩ : ∃ n, l[j]? = some n := ⟨_, List.getElem?_eq_getElem hlt2⟩
          obtain ⟨b, o, rfl, ⟨hbl, _⟩, hcx⟩ := HX.out (by intro e; rw [e] at hjn; simp at hjn)
          have hcell := (hb.cell (p := ⟨b, o + j, none⟩) hbl).trans (hcx j n hjn)
          obtain ⟨w8, hup, hs8, hg8, hz8⟩ := hs.put n
          have hnext : SeenB w8 w.heap.size (newN (srtN C.dirty) (l.take (j + 1))) ∧ Below w.heap.size w w8 := ⟨by rw [take_succ_at _ _ _ hjn, newN_snoc]; exact hs8, hb.grown hg8 hb.size (fun j e => by cases e; exact Nat.le_refl _)⟩
          have HN := Lib.hid hnext
          clear hnext hs8 hg8 hz8 hs hb hjn hcx
          go_wp2_with fail
          go_roundg (l.length - (j + 1))
          case measure => omega
          case rel => exact ⟨j + 1, by go_num, rfl, hlt2, HN.out.1, HN.out.2⟩
        · have hltI2 : decide ((j : Int) < (l.length : Int)) = false := by simp; omega
          obtain rfl : j = l.length := by omega
          rw [List.take_length] at hs
          have hlenq : ∀ (ty : TypeId) (q : Nat), (Builtin.len_ #[291] ty #[.map (some w.heap.size)]).run Tryz.prog (wr.drewN q) = .ok (.int .i64 ((newN (srtN C.dirty) l).length : Nat)) (wr.drewN q) := fun ty q => (hs.keep (w' := wr.drewN q) rfl).len ty
          have hlen0 : (Builtin.len_ #[291] 3 #[.map (some w.heap.size)]).run Tryz.prog wr = .ok (.int .i64 ((newN (srtN C.dirty) l).length : Nat)) wr := hs.len _
          obtain ⟨d0, hrm⟩ := HRoom.out wr hb
          have hnl : (newN (srtN C.dirty) l).length ≤ 1100 := by
            have : ∀ (l s : List Nat), (newN s l).length ≤ s.length + l.length := by
              intro l
              induction l with
              | nil => intro s; exact Nat.le_refl _
              | cons n l ih =>
                intro s
                have h8 := ih (if n ∈ s then s else s ++ [n])
                have h9 : (if n ∈ s then s else s ++ [n]).length ≤ s.length + 1 := by split <;> simp
                show (newN (if n ∈ s then s else s ++ [n]) l).length ≤ s.length + (l.length + 1)
                omega
            have h7 := this l (srtN C.dirty)
            omega
          have hnge : (srtN C.dirty).length ≤ (newN (srtN C.dirty) l).length := newN_le
          have hw1 : IntKind.i64.wrap (((newN (srtN C.dirty) l).length : Int) - ((srtN C.dirty).length : Int)) = ((newN (srtN C.dirty) l).length : Int) - ((srtN C.dirty).length : Int) := IntWalk.i64_in _ (by omega)
          have hres : C.fits l = decide (((newN (srtN C.dirty) l).length : Int) - ((srtN C.dirty).length : Int) ≤ C.room) := by
            unfold Ca.fits Ca.room
            rw [HSl.out]
            exact decide_eq_decide.2 (by omega)
          have HRm := Lib.hid hrm
          have HRes := Lib.hid hres
          have HB2 := Lib.hid hb
          clear hs hb hrm hres hnl hnge
          go_wp2_with fail
          go_quiet ((go_at_call 235; exact HRm.out _))
          go_wp2_with fail
          go_ret
          exact ⟨ret_bool HRes.out.symm, below_drewN HB2.out _⟩
end Go.Proofs.YtakmplpfjcddiaaGreatDoor

namespace Go.Proofs.YtakmplpfjcddiaaGreatDoor
open Go.RowKit Go.Shelf Pa
attribute [local go_sem] bs_toList bs_size
/-- Where bytes of one's own lie. -/
theorem OwnB.where_ {w : World} {B : Nat} {v : Value} {x : Str} (h : OwnB w B v x) (hx : x ≠ []) : ∃ g c, v = .slice (some ⟨g, 0, none⟩) x.length c ∧ B ≤ g ∧ g < w.heap.size ∧ (∀ (i : Nat) (y : UInt8), x[i]? = some y → w.cell? ⟨g, i, none⟩ = some (.int .u8 y.toNat)) ∧ (∀ i, w.frozen? ⟨g, i, none⟩ = false) ∧ x.length ≤ c := by
  obtain ⟨h1, h2⟩ := h
  rcases h2 with ⟨rfl, h0⟩ | ⟨g, cap, cur, rfl, hB, hg, hc, hm, hs, ht⟩
  · exact absurd (List.length_eq_zero_iff.1 h0) hx
  · refine ⟨g, cap, rfl, hB, (Array.getElem?_eq_some_iff.1 hg).1, fun i y hy => ?_, fun i => free_of_heap hg i, hc⟩
    have hi : i < x.length := (List.getElem?_eq_some_iff.1 hy).1
    rw [cell_of_heap hg, ← Array.getElem?_toList, ← List.getElem?_take_of_lt (show i < x.length * 1 by omega), ht, List.getElem?_map, hy]
    rfl
theorem OwnB.set {w : World} {B g c : Nat} {x : Str} (h : OwnB w B (.slice (some ⟨g, 0, none⟩) x.length c) x) (i : Nat) (y : UInt8) (hi : i < x.length) : OwnB (w.setCell ⟨g, i, none⟩ (.int .u8 y.toNat)) B (.slice (some ⟨g, 0, none⟩) x.length c) (x.set i y) := by
  obtain ⟨h1, h2⟩ := h
  rcases h2 with ⟨h0, _⟩ | ⟨g', cap, cur, e, hB, hg, hc, hm, hs, ht⟩
  · cases h0
  · injection e with e1 e2 e3
    injection e1 with e1
    injection e1 with e1
    subst e1 e3
    refine ⟨by simp, .inr ⟨g, c, cur.setIfInBounds i (.int .u8 y.toNat), by simp, hB, heap_setCell_at w g i _ hg, by simpa using hc, hm, by simpa using hs, ?_⟩⟩
    have hs' : cur.toList.length = c * 1 := by rw [Array.length_toList]; exact hs
    refine List.ext_getElem? fun j => ?_
    have hj := congrArg (fun l => l[j]?) ht
    rw [List.length_set, Array.toList_setIfInBounds, List.take_set, List.map_set, List.getElem?_set, List.getElem?_set, hj, List.length_take, List.length_map, hs']
    by_cases e2 : i = j
    · rw [if_pos e2, if_pos e2, if_pos (by omega), if_pos hi]
    · rw [if_neg e2, if_neg e2]
theorem HRd.where_ {w w' : World} {F : List (Nat × Obj)} {c : Nat} {C : Ca} {R : Reg} {x : Str} {v : Value} (h : HRd w F c C R x v w') (hx : x ≠ []) : ∃ g cv, v = .slice (some ⟨g, 0, none⟩) x.length cv ∧ w.heap.size ≤ g ∧ g < w'.heap.size ∧ (∀ (i : Nat) (y : UInt8), x[i]? = some y → w'.cell? ⟨g, i, none⟩ = some (.int .u8 y.toNat)) ∧ (∀ i, w'.frozen? ⟨g, i, none⟩ = false) ∧ x.length ≤ cv := by
  obtain ⟨R', h1, _⟩ := h
  exact h1.where_ hx
theorem HRd.set {w w' : World} {F : List (Nat × Obj)} {c g cv : Nat} {C : Ca} {R : Reg} {x : Str} (h : HRd w F c C R x (.slice (some ⟨g, 0, none⟩) x.length cv) w') (i : Nat) (y : UInt8) (hi : i < x.length) : HRd w F c C R (x.set i y) (.slice (some ⟨g, 0, none⟩) x.length cv) (w'.setCell ⟨g, i, none⟩ (.int .u8 y.toNat)) := by
  obtain ⟨R', h1, h2, h3, h4, h5⟩ := h
  have hg : w.heap.size ≤ g := (h1.block rfl).1
  have ho : Off (fun k => k = g) w' (w'.setCell ⟨g, i, none⟩ (.int .u8 y.toNat)) := (Off.refl (fun k => k = g) w').setCell (p := ⟨g, i, none⟩) (.inl rfl) _
  exact ⟨R', h1.set i y hi, h2.off ho (fun k hk e => h5 g rfl (e ▸ hk)), h3, h4.trans ho (fun k e => .inr (by rw [e]; exact hg)), h5⟩
theorem HRd.below {w w' w2 : World} {F : List (Nat × Obj)} {c : Nat} {C : Ca} {R : Reg} {x : Str} {v : Value} (h : HRd w F c C R x v w') (hb : Below w'.heap.size w' w2) : HRd w F c C R x v w2 := by
  obtain ⟨R', h1, h2, h3, h4, h5⟩ := h
  exact ⟨R', h1.off (Off.of_below hb (fun _ => False)) (fun _ _ e => e), h2.below hb, h3, h4.step hb, h5⟩
/-- What was read is written to the cache. -/
theorem HRd.write {w w' : World} {F : List (Nat × Obj)} {c : Nat} {C : Ca} {R : Reg} {x : Str} {v : Value} (h : HRd w F c C R x v w') (n : Nat) (hn : n < C.G.pages) (hx : x.length = 512) :
    Calls Tryz.prog 176 #[.pointer (some ⟨c, 0, none⟩), .int .i64 n, v] w' fun e w2 => e = .returned (.int .i64 (if C.may n = true then 0 else 7)) ∧ Step w F c (if C.may n = true then C.set n x else C) R w2 := by
  have hb := h.bytes (by omega)
  obtain ⟨R', h1, h2, h3, h4, h5⟩ := h
  refine (hwrite_any n c C R' F v x w' h2 hn hb hx).mono ?_
  rintro e w2 ⟨rfl, hs⟩
  exact ⟨rfl, Step.trans h3 h4 hs⟩
theorem xor_byte (x : UInt8) (k : Nat) (hk : k < 8) : bits .xor .u8 ((x.toNat : Nat) : Int) ((2 ^ k : Nat) : Int) = (((UInt8.ofNat (x.toNat ^^^ 2 ^ k)).toNat : Nat) : Int) := by
  have h1 : (2 : Nat) ^ k < 2 ^ 8 := Nat.pow_lt_pow_right (by decide) hk
  rw [u8_xor_nat _ _ (UInt8.toNat_lt x) h1, UInt8.toNat_ofNat', Nat.mod_eq_of_lt (xor_lt256 (UInt8.toNat_lt x) hk)]
set_option maxRecDepth 100000 in
set_option maxHeartbeats 2000000 in
theorem turn_any (page i m c ino : Nat) (C : Ca) (R : Reg) (F : List (Nat × Obj)) (w : World) (h : Held w F c C R) (hm : (m, mapO c ino) ∈ F) (hp : page < C.G.pages) (hi : i < 4096) :
    Calls Tryz.prog 237 #[.pointer (some ⟨m, 0, none⟩), .int .i64 page, .int .i64 i] w fun e w' => e = .returned (.tuple #[]) ∧ Step w F c (if C.may page = true then C.set page (turnB (C.rd page) i) else C) R w' := by
  have hrd := mread_any page m c ino C R F w h hm hp
  have HLen := Lib.hid (h.at_.rdlen hp)
  have HRd1 := Lib.hid hrd
  have hml : m < w.heap.size := h.lt m (.inr (h.fix _ hm).2)
  clear hrd h
  go_enter Tryz.func237, Tryz.ntmps237
  go_wp2_with fail
  refine HRd1.out.mono ?_
  rintro e w2 ⟨v, rfl, hr⟩
  obtain ⟨g, cv, rfl, hg1, hg2, hcx, hfz, hcc⟩ := hr.where_ (by intro e; have := HLen.out; rw [e] at this; cases this)
  have hi8 : i / 8 < (C.rd page).length := by have := HLen.out; omega
  have hby := hcx (i / 8) _ (List.getElem?_eq_getElem hi8)
  obtain ⟨y, hy⟩ : ∃ y, y = (C.rd page)[i / 8] := ⟨_, rfl⟩
  rw [← hy] at hby
  have hba : Below w2.heap.size w2 (w2.alloc (.cells #[.slice (some ⟨g, 0, none⟩) (C.rd page).length cv, .int .i64 (cntB C ino page)] 266)) := (Below.refl _ _).alloc (Nat.le_refl _) _
  have hby2 := (hba.cell (p := ⟨g, i / 8, none⟩) hg2).trans hby
  have hfz2 := (hba.frozen (p := ⟨g, i / 8, none⟩) hg2).trans (hfz (i / 8))
  have HR := Lib.hid hr
  have HBa := Lib.hid hba
  have HY := Lib.hid hy
  clear hr hcx hfz hby hba hy
  go_wp2_with fail
  go_region
  have e1 : bits .xor .u8 ((y.toNat : Nat) : Int) (2 ^ (i % 8) % 256) = (((UInt8.ofNat (y.toNat ^^^ 2 ^ (i % 8))).toNat : Nat) : Int) := by
    have hk : i % 8 < 8 := Nat.mod_lt _ (by decide)
    have h2 : (2 : Nat) ^ (i % 8) < 2 ^ 8 := Nat.pow_lt_pow_right (by decide) hk
    have h3 : ((2 : Int) ^ (i % 8) % 256) = ((2 ^ (i % 8) : Nat) : Int) := by
      have : ((2 : Int) ^ (i % 8)) = ((2 ^ (i % 8) : Nat) : Int) := by simp
      have h2' : (2 : Nat) ^ (i % 8) < 256 := h2
      rw [this]
      generalize (2 : Nat) ^ (i % 8) = z at h2'
      omega
    rw [h3]; exact xor_byte y _ hk
  have e2 : (C.rd page).set (i / 8) (UInt8.ofNat (y.toNat ^^^ 2 ^ (i % 8))) = turnB (C.rd page) i := by
    unfold turnB
    rw [List.getD_eq_getElem?_getD, List.getElem?_eq_getElem hi8, HY.out]; rfl
  rw [e1]
  obtain ⟨W3, hW3⟩ : ∃ W3, W3 = ((w2.setCell ⟨g, i / 8, none⟩ (.int .u8 (UInt8.ofNat (y.toNat ^^^ 2 ^ (i % 8))).toNat)).alloc (.cells #[.slice (some ⟨g, 0, none⟩) (C.rd page).length cv, .int .i64 (cntB C ino page)] 266)).drew := ⟨_, rfl⟩
  rw [← hW3]
  have hr3 : HRd w F c C R (turnB (C.rd page) i) (.slice (some ⟨g, 0, none⟩) (C.rd page).length cv) W3 := by
    rw [← e2, hW3]
    exact (HR.out.set _ _ hi8).below (((Below.refl _ _).alloc (Nat.le_refl _) _).drew)
  have hz : (w2.setCell ⟨g, i / 8, none⟩ (.int .u8 (UInt8.ofNat (y.toNat ^^^ 2 ^ (i % 8))).toNat)).heap.size = w2.heap.size := by simp [World.setCell]
  have hnew : W3.heap[w2.heap.size]? = some (.cells #[.slice (some ⟨g, 0, none⟩) (C.rd page).length cv, .int .i64 (cntB C ino page)] 266 (0, 0)) := by
    rw [hW3, ← hz]; exact heap_alloc_new _ _
  have k0 : W3.cell? ⟨w2.heap.size, 0, none⟩ = some (.slice (some ⟨g, 0, none⟩) (C.rd page).length cv) := cell_of_heap hnew 0
  have k1 : W3.cell? ⟨m, 0, none⟩ = some (.pointer (some ⟨c, 0, none⟩)) := by
    obtain ⟨R', _, q2, _⟩ := id hr3
    exact cell_of_heap (q2.fix _ hm).1 0
  have hq : ∀ q, Calls Tryz.prog 176 #[.pointer (some ⟨c, 0, none⟩), .int .i64 page, .slice (some ⟨g, 0, none⟩) (C.rd page).length cv] (W3.drewN q) fun e w2 => ∃ z, e = .returned (.int .i64 z) ∧ Step w F c (if C.may page = true then C.set page (turnB (C.rd page) i) else C) R w2 := fun q =>
    ((hr3.below (below_drewN (Below.refl _ _) q)).write page hp (by rw [turnB_length]; exact HLen.out)).mono fun e w2 hh => ⟨_, hh⟩
  have HQ := Lib.hid hq
  clear hq hr3 hnew hz hW3 e1 e2 hby2 hfz2 HR HBa HY
  go_wp2_with fail
  go_region_with (go_at_call 176; refine (HQ.out 1).mono ?_; rintro e w9 ⟨z9, rfl, hs9⟩)
  all_goals (have HS9 := Lib.hid hs9; clear hs9; go_end0; exact ⟨rfl, HS9.out⟩)
end Go.Proofs.YtakmplpfjcddiaaGreatDoor
