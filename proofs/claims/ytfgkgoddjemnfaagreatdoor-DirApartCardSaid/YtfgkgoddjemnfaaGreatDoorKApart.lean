/-
  The walk over the law DirApart: it answers true of all deeds and names.
  What all rows of this seat need: a world in which the listed tables lie, and the library's bound on lengths.
  The row of the law DirApart, proved: every input.
  The tied card of the law DirApart: it returns true for every input.
-/
import Derived.Test.YtfgkgoddjemnfaaGreatDoorG10
import Derived.Test.YtfgkgoddjemnfaaGreatDoorRows
import Derived.Deep.DeepHandedRow
import Derived.Deep.DeepWitnessRowRef
import Derived.Lib.LaidU8
import Derived.SizedLaws
import Derived.Shelf.Vars
import Derived.JoinedCond
import Derived.Test.YtfgkgoddjemnfaaGreatDoorCards
import Derived.Test.YtfgkgoddjemnfaaGreatDoorTie
import Derived.SevenTiedAt
set_option linter.unusedVariables false
set_option linter.unusedSimpArgs false
set_option linter.deprecated false
namespace Go.Proofs.YtfgkgoddjemnfaaGreatDoor
open Go.RowKit Go.Shelf Pa
attribute [local go_sem] bs_toList bs_size
/-- What stands while names are added to 3, in both. -/
def Ap (B s r k : Nat) (wx : World) : Prop := ∃ T u, PairZ B wx s r T T T0 206 (fun _ => False) ∧ DirU T u k
theorem Ap.step {B s r k : Nat} {wx : World} {nm : Str} (h : Ap B s r k wx) (hk : k < 40) (hnl : nm.length ≤ 140737488355328) : Calls Tryz.prog 13 #[.pointer (some ⟨s, 0, none⟩), .int .i64 3, .string (bs nm), .int .i64 5] wx fun e w' => (∃ v, e = .returned v) ∧ Below B wx w' ∧ Hid (Calls Tryz.prog 20 #[.pointer (some ⟨r, 0, none⟩), .int .i64 3, .string (bs nm), .int .i64 5] w' fun e w2 => (∃ v, e = .returned v) ∧ Ap B s r (k + 1) w2 ∧ Below B wx w2) := by
  obtain ⟨T, u, h1, h2⟩ := h
  have hs := h1.sound
  refine (paddZ_any B s r 206 k 3 5 nm T T T0 u _ wx h1 h2 (by omega)).mono ?_
  rintro e w' ⟨rfl, p1, p2⟩
  refine ⟨⟨_, rfl⟩, p2.below, Lib.hid ((raddZ_any B s r 206 k 3 5 nm _ T T0 u _ w' p1 h2 (by omega) hs hnl).mono ?_)⟩
  rintro e w2 ⟨rfl, q1, q2⟩
  exact ⟨⟨_, rfl⟩, ⟨_, _, q1, h1.dir h2 (by omega)⟩, p2.below.trans q2.below⟩
def ofw (v : Value) : Nat → Prop := fun k => v.ownBlock = some k
/-- What stands while deeds are done on 1: the names of 3 lie in v. -/
def Apd (B s r : Nat) (v : Value) (ns : List Str) (k : Nat) (wx : World) : Prop := ∃ T K u, PairZ B wx s r T T K (412 + 206 * k) (ofw v) ∧ DirU T u (10 + k) ∧ (((u 3).map (·.1)).mergeSort fun x y => decide (x ≤ y)) = ns ∧ OwnS wx B v ns
theorem Apd.step {B s r k : Nat} {v : Value} {ns : List Str} {wx W : World} {x : Dd} (h : Apd B s r v ns k wx) (hk : k < 40) (hd : x.dir = 1) (hnl : x.name.length ≤ 140737488355328) (hb : Below wx.heap.size wx W) : Calls Tryz.prog 19 #[.pointer (some ⟨s, 0, none⟩), .pointer (some ⟨r, 0, none⟩), ddV x] W fun e w' => e = .returned (.bool true) ∧ Apd B s r v ns (k + 1) w' ∧ Below B wx w' := by
  obtain ⟨T, K, u, h1, h2, h3, h4⟩ := h
  obtain ⟨p1, p2⟩ := h1.below hb
  refine (lawDo_any B s r _ (10 + k) x T K u _ W p1 h2 (by omega) (by omega) hnl).mono ?_
  rintro e w' ⟨rfl, T', u', g1, g2, g3, g4⟩
  have hk' := p2.trans g4
  exact ⟨rfl, ⟨T', T', u', by rw [show 412 + 206 * (k + 1) = 412 + 206 * k + 206 from by omega]; exact g1, by rw [show 10 + (k + 1) = 10 + k + 1 from by omega]; exact g2, by rw [g3 3 (by rw [hd]; decide)]; exact h3, row_kept h4 hk'.z (fun k hk => hk)⟩, hk'.below⟩
set_option maxRecDepth 100000 in
set_option maxHeartbeats 4000000 in
theorem dirApart_any (ds : List Dd) (ls : List Str) (v v2 : Value) (w : World) (hm : MaxOk w) (h : DeedsIn w v ds) (h2 : TextsInL w v2 ls) :
    Calls Tryz.prog 6 #[v, v2] w fun e w' => e = .returned (.bool true) ∧ Below w.heap.size w w' := by
  obtain ⟨A, c, rfl, hc, hf⟩ := h
  obtain ⟨⟨⟨A2, c2, rfl, hc2, hf2⟩, hn2⟩, hl2⟩ := h2
  have HF := Lib.hid hf
  have HF2 := Lib.hid hf2
  have HL2 := Lib.hid hl2
  have HM := Lib.hid hm
  clear hf hf2 hl2 hm
  go_enter Tryz.func6, Tryz.ntmps6
  go_wp2_with fail
  refine (opened_any w).mono ?_
  rintro e w1 ⟨s, r, rfl, hP, hb⟩
  have HP := Lib.hid hP
  have HB := Lib.hid hb
  have hlive := live_any w1 (HM.out.grow HB.out)
  have HLive := Lib.hid hlive
  clear hP hb hlive
  go_wp2_with fail
  refine HLive.out.mono ?_
  rintro e w2 ⟨rfl, hb2⟩
  have h1 : Ap w.heap.size s r 0 w2 := ⟨T0, fun _ => [], (HP.out.below hb2).z, DirU.zero⟩
  have hbw : Below w.heap.size w w2 := HB.out.trans (hb2.mono HB.out.size)
  have H2 := Lib.hid (⟨h1, hbw⟩ : _ ∧ _)
  clear h1 hbw hb2 HLive HP HB
  go_upto_block 0 with fail
  go_cut [8] (fun s8 wx => (∃ k, k ≤ 10 ∧ Ap w.heap.size s r k wx) ∧ Below w.heap.size w wx)
  case first =>
    go_wp2_with fail
    go_loopg [8] 10 (fun gg i wx => ∃ k : Nat, i = .int .i64 k ∧ gg = 10 - k ∧ k ≤ 10 ∧ k ≤ ls.length ∧ Ap w.heap.size s r k wx ∧ Below w.heap.size w wx)
    case atStart => exact ⟨0, rfl, rfl, Nat.zero_le _, Nat.zero_le _, H2.out.1, H2.out.2⟩
    case round =>
      obtain ⟨k, rfl, rfl, hk, hkl, hO, hb⟩ := hrel
      by_cases hlt : k < ls.length
      · have hlt' : decide ((k : Int) < (ls.length : Int)) = true := by simp; omega
        by_cases h10 : k < 10
        · have h10' : decide ((k : Int) < 10) = true := by simp; omega
          obtain ⟨b, o, rfl, hbl, hcs⟩ := HF2.out (by rintro rfl; simp at hlt)
          obtain ⟨nm, hnm⟩ : ∃ nm, ls[k]? = some nm := ⟨_, List.getElem?_eq_getElem hlt⟩
          have hcell := (hb.cell (p := ⟨b, o + k, none⟩) hbl).trans (hcs k _ hnm)
          have hst := hO.step (nm := nm) (by omega) (HL2.out _ (List.mem_of_getElem? hnm))
          have HCs := Lib.hid (hcs k _ hnm)
          have HSt := Lib.hid hst
          have HBw := Lib.hid hb
          clear hst hO hb hcs hnm
          go_wp2_with fail
          refine HSt.out.mono ?_
          rintro e w3 ⟨⟨x3, rfl⟩, hb3, HSt2⟩
          have hcell3 := ((HBw.out.trans hb3).cell (p := ⟨b, o + k, none⟩) hbl).trans HCs.out
          clear hb3 HSt
          go_wp2_with fail
          refine HSt2.out.mono ?_
          rintro e w4 ⟨⟨x4, rfl⟩, hO4, hb4⟩
          have HO := Lib.hid (⟨hO4, HBw.out.trans hb4⟩ : _ ∧ _)
          clear hO4 hb4 HSt2 HBw HCs
          go_wp2_with fail
          go_roundg (10 - (k + 1))
          case measure => omega
          case rel => exact ⟨k + 1, by go_num, rfl, h10, hlt, HO.out.1, HO.out.2⟩
        · obtain rfl : k = 10 := by omega
          have h10' : decide (((10 : Nat) : Int) < 10) = false := by decide
          have HO := Lib.hid (⟨hO, hb⟩ : _ ∧ _)
          clear hO hb
          go_wp2_with fail
          go_meet
          exact ⟨⟨10, Nat.le_refl _, HO.out.1⟩, HO.out.2⟩
      · have hlt' : decide ((k : Int) < (ls.length : Int)) = false := by simp; omega
        have HO := Lib.hid (⟨hO, hb⟩ : _ ∧ _)
        clear hO hb
        go_wp2_with fail
        go_meet
        exact ⟨⟨k, hk, HO.out.1⟩, HO.out.2⟩
  case rest =>
    obtain ⟨⟨k0, hk0, T, u, hP, hU⟩, hb⟩ := hcut
    have l3 : lookE T 3 = 0 := (hU.look0 3).2 (.inr rfl)
    have hli := plistZ_any w.heap.size s r 206 3 T T T0 _ wc hP
    rw [l3, hU.list l3, show (3 : Int).toNat = 3 from rfl] at hli
    obtain ⟨ns, hns⟩ : ∃ ns, ns = (((u 3).map (·.1)).mergeSort fun x y => decide (x ≤ y)) := ⟨_, rfl⟩
    rw [← hns] at hli
    have hnl : ns.length ≤ 60 := by
      rw [hns, List.length_mergeSort, List.length_map]
      have := hU.len 3
      omega
    have HLi := Lib.hid hli
    have HB := Lib.hid hb
    have HU := Lib.hid (⟨hU.more (by omega : k0 ≤ 10 + 0), hns.symm⟩ : _ ∧ _)
    clear hli hP hU hb hns H2 HF2 HL2 l3
    go_wp2_with fail
    refine HLi.out.mono ?_
    rintro e w3 ⟨v9, rfl, ho9, hP3, hk3⟩
    obtain ⟨A9, c9, rfl⟩ := ownsRow_slice ho9
    obtain ⟨m, cc, cm1, cm2, cm3⟩ := pcommitZ_any w.heap.size s r 206 T T T0 _ w3 hP3 (by omega)
    have H1 := Lib.hid cm1
    have H2 := Lib.hid cm2
    have H3 := Lib.hid cm3
    have HO9 := Lib.hid ho9
    have HB3 := Lib.hid (HB.out.trans hk3.below)
    have hz3 : w.heap.size ≤ wc.heap.size := HB.out.size
    clear cm1 cm2 cm3 ho9 hP3 hk3 HLi HB
    go_upto_block 2 with (first | (go_at_call 21; refine H1.out.mono ?_; rintro e w4 ⟨rfl, rfl⟩) | (go_at_call 22; refine H2.out.mono ?_; rintro e w4 ⟨rfl, rfl⟩) | (go_at_call 23; refine H3.out.mono ?_; rintro e w5 ⟨rfl, hP5, hk5⟩; have HP5 := Lib.hid (⟨hP5, hk5⟩ : _ ∧ _); clear hP5 hk5))
    have h0 : Apd w.heap.size s r (.slice A9 ns.length c9) ns 0 w5 := by
      refine ⟨T, T0, u, HP5.out.1.weak (fun k hk => .inr hk), HU.out.1, HU.out.2, ?_⟩
      exact row_kept (rowB_base HO9.out hz3) HP5.out.2.z (fun k hk => .inr hk)
    have HI := Lib.hid (⟨h0, HB3.out.trans HP5.out.2.below⟩ : _ ∧ _)
    clear h0 HB3 HP5 HO9 HU H1 H2 H3
    go_cut [11] (fun s11 wx => (∃ k, k ≤ 25 ∧ Apd w.heap.size s r (.slice A9 ns.length c9) ns k wx) ∧ Below w.heap.size w wx)
    case first =>
      go_wp2_with fail
      go_loopg [11] 25 (fun gg i wx => ∃ k : Nat, i = .int .i64 k ∧ gg = 25 - k ∧ k ≤ 25 ∧ k ≤ ds.length ∧ Apd w.heap.size s r (.slice A9 ns.length c9) ns k wx ∧ Below w.heap.size w wx)
      case atStart => exact ⟨0, rfl, rfl, Nat.zero_le _, Nat.zero_le _, HI.out.1, HI.out.2⟩
      case round =>
        obtain ⟨k, rfl, rfl, hk, hkl, hO, hb⟩ := hrel
        by_cases hlt : k < ds.length
        · have hlt' : decide ((k : Int) < (ds.length : Int)) = true := by simp; omega
          by_cases h25 : k < 25
          · have h25' : decide ((k : Int) < 25) = true := by simp; omega
            obtain ⟨b, o, rfl, hbl, hcs⟩ := HF.out (by rintro rfl; simp at hlt)
            obtain ⟨x, hx⟩ : ∃ x, ds[k]? = some x := ⟨_, List.getElem?_eq_getElem hlt⟩
            obtain ⟨xk, xd, xi, xn⟩ := x
            obtain ⟨hnl2, d0, d1, d2, d3⟩ := hcs k _ hx
            dsimp only at hnl2 d0 d1 d2 d3
            have c0 := (hb.cell (p := ⟨b, o + k * 4, none⟩) hbl).trans d0
            have c1 := (hb.cell (p := ⟨b, o + k * 4 + 1, none⟩) hbl).trans d1
            have c2 := (hb.cell (p := ⟨b, o + k * 4 + 2, none⟩) hbl).trans d2
            have c3 := (hb.cell (p := ⟨b, o + k * 4 + 3, none⟩) hbl).trans d3
            have HOB := Lib.hid (⟨hO, hb⟩ : _ ∧ _)
            clear hO hb hcs d0 d1 d2 d3 hx
            have hdo := HOB.out.1.step (W := wr.alloc (.cells #[.int .i64 xk, .int .i64 1, .int .i64 xi, .string (bs xn)] 42)) (x := ⟨xk, 1, xi, xn⟩) (by omega) rfl hnl2 ((Below.refl _ _).alloc (Nat.le_refl _) _)
            have HDo := Lib.hid hdo
            clear hdo
            go_wp2_with fail
            refine HDo.out.mono ?_
            rintro e w6 ⟨rfl, hO6, hb6⟩
            have HO := Lib.hid (⟨hO6, HOB.out.2.trans hb6⟩ : _ ∧ _)
            clear hO6 hb6 HDo HOB
            go_wp2_with fail
            go_roundg (25 - (k + 1))
            case measure => omega
            case rel => exact ⟨k + 1, by go_num, rfl, h25, hlt, HO.out.1, HO.out.2⟩
          · obtain rfl : k = 25 := by omega
            have h25' : decide (((25 : Nat) : Int) < 25) = false := by decide
            have HO := Lib.hid (⟨hO, hb⟩ : _ ∧ _)
            clear hO hb
            go_wp2_with fail
            go_meet
            exact ⟨⟨25, Nat.le_refl _, HO.out.1⟩, HO.out.2⟩
        · have hlt' : decide ((k : Int) < (ds.length : Int)) = false := by simp; omega
          have HO := Lib.hid (⟨hO, hb⟩ : _ ∧ _)
          clear hO hb
          go_wp2_with fail
          go_meet
          exact ⟨⟨k, hk, HO.out.1⟩, HO.out.2⟩
    case rest =>
      obtain ⟨⟨k, hk, T2, K2, u2, hP2, hU2, hns2, hrow⟩, hb⟩ := hcut
      have l3 : lookE T2 3 = 0 := (hU2.look0 3).2 (.inr rfl)
      have hli := plistZ_any w.heap.size s r _ 3 T2 T2 K2 _ wc hP2
      rw [l3, hU2.list l3, show (3 : Int).toNat = 3 from rfl, hns2] at hli
      have HLi := Lib.hid hli
      have HB := Lib.hid hb
      have HRow := Lib.hid hrow
      clear hli hP2 hU2 hns2 hrow hb HI l3 HF
      go_wp2_with fail
      refine HLi.out.mono ?_
      rintro e w6 ⟨v13, rfl, ho13, hP6, hk6⟩
      have hs1 : StrsAt w6 w6.heap.size (.slice A9 ns.length c9) ns := OwnS.strs (row_kept HRow.out hk6.z (fun k hk => hk))
      have hs2 : StrsAt w6 w6.heap.size v13 ns := ho13.strs
      obtain ⟨A13, c13, rfl⟩ := ownsRow_slice ho13
      have hst := sameTexts_any ns ns _ _ _ _ w6 hs1 hs2 (by omega)
      have HSt := Lib.hid hst
      have HB6 := Lib.hid (HB.out.trans hk6.below)
      clear hst hs1 hs2 ho13 hP6 hk6 HLi HB HRow
      go_wp2_with (go_at_call 15; refine HSt.out.mono ?_; rintro e w7 ⟨rfl, q2, rfl⟩)
      go_ret
      exact ⟨ret_bool (by simp), HB6.out.trans ⟨rfl, rfl, rfl, Nat.le_refl _, fun _ _ => rfl⟩⟩
end Go.Proofs.YtfgkgoddjemnfaaGreatDoor

namespace Go.Proofs.YtfgkgoddjemnfaaGreatDoor
open Go.ChangeShapes Go.WideShapes Go.ChangeAt Go.RowKit
theorem own : ownKnob Tryz.prog.godebug = none := by kernel_rfl
theorem laidOut : laidOutB Tryz.prog = true := by kernel_rfl
/-- A world in which the two tables hold what they are laid with. -/
noncomputable def laidWorld (os : Os) : World :=
  let w0 := World.holding Tryz.prog os ⟨#[], #[], []⟩
  let put (h : Array Obj) (g : Nat) (cs : Array Value) : Array Obj := h.modify g fun
    | .cells _ t frozen => .cells cs t frozen
    | o => o
  let h1 := put w0.heap 1 (Lib.firstTab.map fun z => Value.int .u8 z).toArray
  let h2 := put h1 2 ((List.range 16).flatMap fun i => [Value.int .u8 (Lib.accLo i), Value.int .u8 (Lib.accHi i)]).toArray
  { w0 with heap := h2 }
theorem maxOk {W : World} (hsh : W.ShapedOpen Tryz.prog) : MaxOk W :=
  cell_of_shapedOpen_int (P := Tryz.prog) (g := 0) (t := 3) (zero := #[.int .i64 0]) hsh (of_decide_eq_true (by kernel_rfl)) (by kernel_rfl) rfl (by kernel_rfl) (by kernel_rfl) Tryz.underlying3
end Go.Proofs.YtfgkgoddjemnfaaGreatDoor

namespace Go.Proofs.YtfgkgoddjemnfaaGreatDoor
open Go.ChangeShapes Go.WideShapes Go.ChangeAt Go.RowKit
theorem da_laid_met (os : Os) (args : Array Value) : laidMetH Tryz.prog Rows.dirApartRow.laid ((laidWorld os).forCall (fun _ _ => 0) ⟨#[], args, []⟩).memory := by
  have h : laidMet Tryz.prog Rows.dirApartRow.laid ((laidWorld os).forCall (fun _ _ => 0) ⟨#[], args, []⟩).memory := laidMet_of_run' 8 (by kernel_rfl) (by kernel_rfl)
  exact h
theorem da_witness (os : Os) {H : Type} (enc : TypeId × Value → H) :
    (OpenSpec.ofChange Rows.dirApartSpec).preRow enc Tryz.prog Tryz.f6 Rows.dirApartRow.domain false Rows.dirApartRow.laid ((laidWorld os).forCall (fun _ _ => 0) ⟨#[], #[.slice none 0 0, .slice none 0 0], []⟩).memory #[.slice none 0 0, .slice none 0 0] := by
  have hw : (DataW.whole enc Tryz.prog ((laidWorld os).forCall (fun _ _ => 0) ⟨#[], #[.slice none 0 0, .slice none 0 0], []⟩).memory Tryz.f6.params.toList (OpenSpec.ofChange Rows.dirApartSpec).vars false (#[.slice none 0 0, .slice none 0 0] : Array Value).toList 8).map (fun x => (x.1, x.2.1)) = some ([.nil, .nil], []) := by kernel_rfl
  obtain ⟨⟨x1, x2, x3⟩, hx, hx1⟩ := Option.map_eq_some_iff.1 hw
  simp only [Prod.mk.injEq] at hx1
  obtain ⟨rfl, rfl⟩ := hx1
  exact OpenSpec.preRow_of_cond 8 hx (by kernel_rfl) (fun k hk => by cases hk) (by kernel_rfl) (da_laid_met os _)
set_option maxRecDepth 100000 in
set_option maxHeartbeats 2000000 in
theorem da_lifted (os : Os) (started : os.Started) (H : Type) (enc : TypeId × Value → H) (F : Stop.Interp) :
    ReturnsInHanded {} Tryz.checked os 6 .any ((OpenSpec.ofChange Rows.dirApartSpec).preRow enc Tryz.prog Tryz.f6 Rows.dirApartRow.domain false Rows.dirApartRow.laid) (((OpenSpec.ofChange Rows.dirApartSpec).at F).post enc Tryz.prog Tryz.f6 false true false false) := by
  refine returnsInHanded_of_row (C := Tryz.checked) (s := OpenSpec.ofChange Rows.dirApartSpec) own started (by kernel_rfl) Tryz.func6
    (witness_row_atRef (enc := enc) (C := Tryz.checked) false (laidWorld os) #[.slice none 0 0, .slice none 0 0] rfl (by kernel_rfl) (by kernel_rfl) (by kernel_rfl) (da_witness os enc)) ?_
  intro W base args ds gs before hval0 hW _ hcond hsz0 hL hsh _
  have hsz : (DataW.weightsEach Tryz.prog (Tryz.f6.params.toList ++ (OpenSpec.ofChange Rows.dirApartSpec).bare.plain.varTypes Tryz.prog) (ds ++ gs)).all (· ≤ reachBytes) = true := hsz0
  clear hsz0
  have hval : ∀ (j : Nat) t v, Tryz.f6.params[j]? = some t → args[j]? = some v → Value.okWide Tryz.prog W .any base t v := hval0
  have hW' := hW
  obtain ⟨p, q, hA0, hV0, rfl, _, _⟩ := hW
  have hA : DataW.TrodAll enc Tryz.prog W 0 (fun _ => true) true Tryz.f6.params.toList args.toList ds p := hA0
  rw [Tryz.params6] at hA hval hsz
  obtain ⟨v0, v1, d0, d1, p0, p1, rfl, rfl, rfl, h0, h1⟩ := trodAll_two hA
  obtain ⟨rfl, rfl⟩ := trodVars_none hV0
  obtain ⟨a0, l0, c0, rfl⟩ := okWide_slice Tryz.underlying39 (hval 0 39 v0 rfl rfl)
  obtain ⟨a1, l1, c1, rfl⟩ := okWide_slice Tryz.underlying22 (hval 1 22 v1 rfl rfl)
  have h0k := h0
  obtain ⟨fuel0, hf0⟩ := h0
  have h1k := h1
  obtain ⟨fuel1, hf1⟩ := h1
  clear hA0 hV0 hval0
  simp only [List.append_nil] at hW' hsz
  have hlt0 : ∀ x ∈ p0, x.block < W.heap.size := fun x hx => by simpa using hW'.lt x (by simp [hx])
  have hlt1 : ∀ x ∈ p1, x.block < W.heap.size := fun x hx => by simpa using hW'.lt x (by simp [hx])
  have hsm0 : Small 39 d0 := fun n hn => by
    have := List.all_eq_true.1 hsz n (DataW.weights_mem_each (j := 0) (t := 39) (d := d0) rfl rfl n hn)
    simpa using this
  obtain ⟨ls0, hls0⟩ := deeds_open hf0 hsm0
  have hsm1 : Small 22 d1 := fun n hn => by
    have := List.all_eq_true.1 hsz n (DataW.weights_mem_each (j := 1) (t := 22) (d := d1) rfl rfl n hn)
    simpa using this
  obtain ⟨ls1, hls1⟩ := texts_openL hf1 hsm1
  have hwalk := dirApart_any ls0 ls1 _ _ W (maxOk hsh) hls0 hls1
  refine hwalk.mono ?_
  rintro e W' ⟨rfl, bel⟩
  have e1 : ((OpenSpec.ofChange Rows.dirApartSpec).at F).fn H ([d0, d1] ++ []) = { results := [.lit (.bool true)], args := [d0, d1] } := rfl
  refine ⟨_, rfl, _, _, _, [], (p0 ++ p1), [], hW', ?_, ?_, ?_, bel.frame _, fun h => by cases h⟩
  · rw [e1]; exact trodAll_mk1 (shut_bool Tryz.underlying4 true)
  · rw [e1]; exact trodAll_mk2 (Below.trod laidOut (by kernel_rfl) (of_decide_eq_true (by kernel_rfl)) h0k bel hlt0) (Below.trod laidOut (by kernel_rfl) (of_decide_eq_true (by kernel_rfl)) h1k bel hlt1)
  · rw [e1]; rfl
theorem da_holds : Rows.DirApartSaid :=
  OpenClaim.holds_of_cond 6 Tryz.f6 rfl rfl rfl rfl rfl rfl rfl ⟨rfl, rfl, rfl, rfl, rfl⟩ rfl rfl rfl rfl rfl (by kernel_rfl) Tryz.func6 (by kernel_rfl)
    (of_decide_eq_true (by kernel_rfl)) (by unfold Func.isWrapper; rw [if_neg (of_decide_eq_false (by kernel_rfl))]; exact ⟨rfl, rfl⟩)
    (fun os started H enc _ F0 => by rw [OpenClaim.pre_eq_preRow]; exact da_lifted os started H enc F0)
end Go.Proofs.YtfgkgoddjemnfaaGreatDoor

namespace Go.Proofs.YtfgkgoddjemnfaaGreatDoor
open Go
theorem da_card : Rows.DirApartCardSaid :=
  Claim7.holds_tied_plain_at .later [] [.data, .pinned] true (true, "9ca2ba82e18c91e88278b03ef67c559af467a93126dc4a6881f8e292fa24a423") true
    da_holds (fun _ h => by cases h) (by kernel_rfl) (fun _ h => by cases h) dirApart_row_tie rfl ⟨rfl, rfl⟩ (by kernel_rfl) rfl
    (fun f fn hf hfn => by
      obtain rfl : f = 6 := Option.some.inj ((show Tryz.prog.funcNamed "dunnage/dunnagelaw07.DirApart" = some 6 by kernel_rfl).symm.trans hf) |>.symm
      obtain rfl : fn = Tryz.f6 := (Option.some.inj (Tryz.func6.symm.trans hfn)).symm
      exact ⟨by kernel_rfl, fun j t ht => by
        rw [Tryz.params6] at ht
        have h3 : t = 39 ∨ t = 22 := by
          rcases j with _ | _ | j
          · have h := ht.symm; simp at h; simp [h]
          · have h := ht.symm; simp at h; simp [h]
          · simp at ht
        rcases h3 with rfl | rfl
        · exact (show Tryz.prog.wantsStandIn 39 = false by kernel_rfl)
        · exact (show Tryz.prog.wantsStandIn 22 = false by kernel_rfl)⟩)
    (by kernel_rfl)
end Go.Proofs.YtfgkgoddjemnfaaGreatDoor
