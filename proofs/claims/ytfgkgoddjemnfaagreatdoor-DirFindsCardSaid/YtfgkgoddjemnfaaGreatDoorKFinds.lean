/-
  The walk over the law DirFinds: it answers true of all deeds and names.
  What all rows of this seat need: a world in which the listed tables lie, and the library's bound on lengths.
  The row of the law DirFinds, proved: every input.
  The tied card of the law DirFinds: it returns true for every input.
-/
import Derived.Test.YtfgkgoddjemnfaaGreatDoorG10
import Derived.Test.YtfgkgoddjemnfaaGreatDoorRows
import Derived.Deep.DeepHandedRow
import Derived.Deep.DeepWitnessRowRef
import Derived.Lib.LaidU8
import Derived.SizedLaws
import Derived.Shelf.Vars
import Derived.JoinedCond
import Derived.Test.YtfgkgoddjemnfaaGreatDoorCards
import Derived.Test.YtfgkgoddjemnfaaGreatDoorTie
import Derived.SevenTiedAt
set_option linter.unusedVariables false
set_option linter.unusedSimpArgs false
set_option linter.deprecated false
namespace Go.Proofs.YtfgkgoddjemnfaaGreatDoor
open Go.RowKit Go.Shelf Pa
attribute [local go_sem] bs_toList bs_size
/-- What stands while deeds are done. -/
def Dds (B s r k : Nat) (wx : World) : Prop := ∃ T K u, PairZ B wx s r T T K (206 * (k + 1)) (fun _ => False) ∧ DirU T u k
theorem Dds.step {B s r k : Nat} {wx : World} (h : Dds B s r k wx) (hk : k < 40) (x : Dd) (hnl : x.name.length ≤ 140737488355328) : Calls Tryz.prog 19 #[.pointer (some ⟨s, 0, none⟩), .pointer (some ⟨r, 0, none⟩), ddV x] wx fun e w' => e = .returned (.bool true) ∧ Dds B s r (k + 1) w' ∧ Below B wx w' := by
  obtain ⟨T, K, u, h1, h2⟩ := h
  refine (lawDo_any B s r (206 * (k + 1)) k x T K u _ wx h1 h2 (by omega) (by omega) hnl).mono ?_
  rintro e w' ⟨rfl, T', u', g1, g2, _, g4⟩
  exact ⟨rfl, ⟨T', T', u', by rw [show 206 * (k + 1 + 1) = 206 * (k + 1) + 206 from by omega]; exact g1, g2⟩, g4.below⟩
theorem finds_plain {T T2 T3 : RS} {u u2 u3 : Nat → List Ent} {L L2 L3 : Nat} {nm ot : Str} (h : DirU T u L) (h2 : DirU T2 u2 L2) (h3 : DirU T3 u3 L3) (he : addE T 1 nm 7 = 0) (e2 : u2 1 = (nm, 7) :: u 1) (e3 : u3 1 = u 1) :
    (ot ≠ nm → (findR T2 1 ot).1.i = (findR T 1 ot).1.i ∧ (findR T2 1 ot).2.2 = (findR T 1 ot).2.2) ∧ (findR T3 1 nm).2.2 = 4 ∧ (findR T3 1 ot).1.i = (findR T 1 ot).1.i ∧ (findR T3 1 ot).2.2 = (findR T 1 ot).2.2 := by
  have l1 := (h.look0 1).2 (.inl rfl)
  have l2 := (h2.look0 1).2 (.inl rfl)
  have l3 := (h3.look0 1).2 (.inl rfl)
  have f : ∀ x, ((findR T 1 x).1.i, (findR T 1 x).2.2) = if nameOk x = false then (0, 8) else fnd (u 1) x := fun x => by
    have := h.findR 1 x; rw [if_neg (fun e => e l1)] at this; exact this
  have f2 : ∀ x, ((findR T2 1 x).1.i, (findR T2 1 x).2.2) = if nameOk x = false then (0, 8) else fnd (u2 1) x := fun x => by
    have := h2.findR 1 x; rw [if_neg (fun e => e l2)] at this; exact this
  have f3 : ∀ x, ((findR T3 1 x).1.i, (findR T3 1 x).2.2) = if nameOk x = false then (0, 8) else fnd (u3 1) x := fun x => by
    have := h3.findR 1 x; rw [if_neg (fun e => e l3)] at this; exact this
  have ha := h.addE 1 7 nm
  rw [he, if_neg (fun e => e l1)] at ha
  have hok : nameOk nm = true := by
    by_cases e : nameOk nm = true
    · exact e
    · rw [if_pos (by simpa using e)] at ha; cases ha
  rw [if_neg (by rw [hok]; decide), if_neg (by omega)] at ha
  refine ⟨fun hne => ?_, ?_, ?_⟩
  · have g := f2 ot
    rw [e2, fnd_cons, if_neg (c := (nm, 7).1 = ot) (fun e => hne e.symm), ← f ot] at g
    exact ⟨(Prod.mk.inj g).1, (Prod.mk.inj g).2⟩
  · have g := f3 nm
    rw [e3, if_neg (by rw [hok]; decide)] at g
    have g2 := congrArg Prod.snd g
    dsimp only at g2
    rw [g2]
    rcases fnd_two (u 1) nm with ⟨i, _, e⟩ | ⟨_, e⟩
    · rw [show (1 : Int).toNat = 1 from rfl, e, if_pos rfl] at ha; cases ha
    · rw [e]
  · have g := f3 ot
    rw [e3, ← f ot] at g
    exact ⟨(Prod.mk.inj g).1, (Prod.mk.inj g).2⟩
theorem finds_got {T2 : RS} {u2 : Nat → List Ent} {L2 : Nat} {nm : Str} {r : List Ent} (h2 : DirU T2 u2 L2) (e2 : u2 1 = (nm, 7) :: r) : (findR T2 1 nm).1.i = 7 ∧ (findR T2 1 nm).2.2 = 0 := by
  have l2 := (h2.look0 1).2 (.inl rfl)
  have hm : (nm, 7) ∈ u2 1 := by rw [e2]; simp
  have g := h2.findR 1 nm
  rw [if_neg (fun e => e l2), if_neg (by rw [h2.nm 1 _ hm]; decide), show (1 : Int).toNat = 1 from rfl, fnd_mem (h2.nodup 1) hm] at g
  exact ⟨congrArg Prod.fst g, congrArg Prod.snd g⟩
set_option maxRecDepth 100000 in
set_option maxHeartbeats 4000000 in
theorem dirFinds_any (ds : List Dd) (nm ot : Str) (v : Value) (w : World) (hm : MaxOk w) (h : DeedsIn w v ds) :
    Calls Tryz.prog 5 #[v, .string (bs nm), .string (bs ot)] w fun e w' => e = .returned (.bool true) ∧ Below w.heap.size w w' := by
  obtain ⟨A, c, rfl, hc, hf⟩ := h
  have HF := Lib.hid hf
  have HM := Lib.hid hm
  clear hf hm
  go_enter Tryz.func5, Tryz.ntmps5
  go_wp2_with fail
  refine (opened_any w).mono ?_
  rintro e w1 ⟨s, r, rfl, hP, hb⟩
  have HP := Lib.hid hP
  have HB := Lib.hid hb
  have hlive := live_any w1 (HM.out.grow HB.out)
  have HLive := Lib.hid hlive
  clear hP hb hlive
  go_wp2_with fail
  refine HLive.out.mono ?_
  rintro e w2 ⟨rfl, hb2⟩
  have h1 : Dds w.heap.size s r 0 w2 := ⟨T0, T0, fun _ => [], (HP.out.below hb2).z, DirU.zero⟩
  have hbw : Below w.heap.size w w2 := HB.out.trans (hb2.mono HB.out.size)
  have H2 := Lib.hid (⟨h1, hbw⟩ : _ ∧ _)
  clear h1 hbw hb2 HLive HP HB
  go_upto_block 0 with fail
  go_cut [10] (fun s10 wx => (∃ k, k ≤ 30 ∧ Dds w.heap.size s r k wx) ∧ Below w.heap.size w wx)
  case first =>
    go_wp2_with fail
    go_loopg [10] 30 (fun gg i wx => ∃ k : Nat, i = .int .i64 k ∧ gg = 30 - k ∧ k ≤ 30 ∧ k ≤ ds.length ∧ Dds w.heap.size s r k wx ∧ Below w.heap.size w wx)
    case atStart => exact ⟨0, rfl, rfl, Nat.zero_le _, Nat.zero_le _, H2.out.1, H2.out.2⟩
    case round =>
      obtain ⟨k, rfl, rfl, hk, hkl, hO, hb⟩ := hrel
      by_cases hlt : k < ds.length
      · have hlt' : decide ((k : Int) < (ds.length : Int)) = true := by simp; omega
        by_cases h30 : k < 30
        · have h30' : decide ((k : Int) < 30) = true := by simp; omega
          obtain ⟨b, o, rfl, hbl, hcs⟩ := HF.out (by rintro rfl; simp at hlt)
          obtain ⟨x, hx⟩ : ∃ x, ds[k]? = some x := ⟨_, List.getElem?_eq_getElem hlt⟩
          obtain ⟨hnl, d0, d1, d2, d3⟩ := hcs k x hx
          have c0 := (hb.cell (p := ⟨b, o + k * 4, none⟩) hbl).trans d0
          have c1 := (hb.cell (p := ⟨b, o + k * 4 + 1, none⟩) hbl).trans d1
          have c2 := (hb.cell (p := ⟨b, o + k * 4 + 2, none⟩) hbl).trans d2
          have c3 := (hb.cell (p := ⟨b, o + k * 4 + 3, none⟩) hbl).trans d3
          have hst := hO.step (by omega) x hnl
          have HSt := Lib.hid hst
          have HBw := Lib.hid hb
          clear hst hO hb hcs d0 d1 d2 d3 hx hnl
          go_wp2_with fail
          refine HSt.out.mono ?_
          rintro e w3 ⟨rfl, hO3, hb3⟩
          have HO := Lib.hid (⟨hO3, HBw.out.trans hb3⟩ : _ ∧ _)
          clear hO3 hb3 HSt HBw
          go_wp2_with fail
          go_roundg (30 - (k + 1))
          case measure => omega
          case rel => exact ⟨k + 1, by go_num, rfl, h30, hlt, HO.out.1, HO.out.2⟩
        · obtain rfl : k = 30 := by omega
          have h30' : decide (((30 : Nat) : Int) < 30) = false := by decide
          have HO := Lib.hid (⟨hO, hb⟩ : _ ∧ _)
          clear hO hb
          go_wp2_with fail
          go_meet
          exact ⟨⟨30, Nat.le_refl _, HO.out.1⟩, HO.out.2⟩
      · have hlt' : decide ((k : Int) < (ds.length : Int)) = false := by simp; omega
        have HO := Lib.hid (⟨hO, hb⟩ : _ ∧ _)
        clear hO hb
        go_wp2_with fail
        go_meet
        exact ⟨⟨k, hk, HO.out.1⟩, HO.out.2⟩
  case rest =>
    obtain ⟨⟨k, hk, T, K, u, hP, hU⟩, hb⟩ := hcut
    have hfi := pfindZ_any w.heap.size s r (206 * (k + 1)) 1 ot T T K _ wc hP
    have HFi := Lib.hid hfi
    have HB := Lib.hid hb
    have HU := Lib.hid hU
    obtain ⟨ai, hai⟩ : ∃ a, a = (findR T 1 ot).1.i := ⟨_, rfl⟩
    obtain ⟨ae, hae⟩ : ∃ a, a = (findR T 1 ot).2.2 := ⟨_, rfl⟩
    rw [← hai, ← hae] at HFi
    have HA := Lib.hid (⟨hai, hae⟩ : _ ∧ _)
    clear hfi hP hU hb hai hae H2
    go_wp2_with fail
    refine HFi.out.mono ?_
    rintro e w3 ⟨rfl, hP3, hk3⟩
    have had := paddZ_any w.heap.size s r (206 * (k + 1)) k 1 7 nm T T K u _ w3 hP3 HU.out (by omega)
    have hU2 := hP3.dir (d := 1) (i := 7) (nm := nm) HU.out (by omega)
    have HB3 := Lib.hid (HB.out.trans hk3.below)
    have HAd := Lib.hid had
    have HU2 := Lib.hid hU2
    obtain ⟨ad, had2⟩ : ∃ a, a = addE T 1 nm 7 := ⟨_, rfl⟩
    rw [← had2] at HAd
    have HAe := Lib.hid had2
    clear had hU2 hP3 hk3 had2 HFi HB
    go_wp2_with fail
    refine HAd.out.mono ?_
    rintro e w4 ⟨rfl, hP4, hk4⟩
    have HB4 := Lib.hid (HB3.out.trans hk4.below)
    by_cases h0 : ad = 0
    · subst h0
      have he := HAe.out.symm
      have e2 : addU T u 1 nm 7 1 = (nm, 7) :: u 1 := by unfold addU; rw [if_pos he]; rfl
      obtain ⟨T2, hT2⟩ : ∃ T2, T2 = addT T 1 nm 7 := ⟨_, rfl⟩
      obtain ⟨u2, hu2⟩ : ∃ u2, u2 = addU T u 1 nm 7 := ⟨_, rfl⟩
      have hU2 := HU2.out
      rw [← hT2] at hP4 hU2
      rw [← hu2] at hU2 e2
      obtain ⟨g1, g2⟩ := finds_got hU2 e2
      obtain ⟨hU3, _⟩ := hP4.dirDrop (d := 1) (nm := nm) hU2 (by omega)
      have e3 : drpU T2 u2 1 nm 1 = u 1 := by
        unfold drpU
        rw [if_pos g2]
        show (if 1 = (1 : Int).toNat then (u2 1).erase (nm, (findR T2 1 nm).1.i) else u2 1) = u 1
        rw [if_pos (by decide), g1, e2, List.erase_cons_head]
      have hpl := finds_plain (ot := ot) HU.out hU2 hU3 he e2 e3
      rw [← HA.out.1, ← HA.out.2] at hpl
      have hf1 := pfindZ_any w.heap.size s r (206 * (k + 1)) 1 nm T2 T K _ w4 hP4
      rw [g1, g2, show (((7 : Nat) : Nat) : Int) = 7 from rfl] at hf1
      have HF1 := Lib.hid hf1
      have HPl := Lib.hid hpl
      have HU22 := Lib.hid (⟨hU2, g1, g2⟩ : _ ∧ _ ∧ _)
      clear hf1 hpl hU2 hU3 e2 e3 g1 g2 hT2 hu2 he hP4 hk4 HAd HU2 HAe HU HA
      go_wp2_with fail
      refine HF1.out.mono ?_
      rintro e w5 ⟨rfl, hP5, hk5⟩
      have hf2 := pfindZ_any w.heap.size s r (206 * (k + 1)) 1 ot T2 T K _ w5 hP5
      have HB5 := Lib.hid (HB4.out.trans hk5.below)
      obtain ⟨bi, hbi⟩ : ∃ a, a = (findR T2 1 ot).1.i := ⟨_, rfl⟩
      obtain ⟨be, hbe⟩ : ∃ a, a = (findR T2 1 ot).2.2 := ⟨_, rfl⟩
      rw [← hbi, ← hbe] at hf2
      have hot : ot ≠ nm → bi = ai ∧ be = ae := fun e => by rw [hbi, hbe]; exact HPl.out.1 e
      have HF2 := Lib.hid hf2
      have HOt := Lib.hid hot
      clear hf2 hot hbi hbe hP5 hk5 HF1
      go_wp2_with fail
      refine HF2.out.mono ?_
      rintro e w6 ⟨rfl, hP6, hk6⟩
      have hdr := pdropZ_any w.heap.size s r (206 * (k + 1)) (k + 1) 1 nm T2 T K u2 _ w6 hP6 HU22.out.1 (by omega)
      rw [HU22.out.2.2, if_pos rfl, HU22.out.2.1, show (((7 : Nat) : Nat) : Int) = 7 from rfl] at hdr
      have HB6 := Lib.hid (HB5.out.trans hk6.below)
      have HDr := Lib.hid hdr
      obtain ⟨T3, hT3⟩ : ∃ T3, T3 = drpT T2 1 nm := ⟨_, rfl⟩
      have HP3 := Lib.hid HPl.out.2
      rw [← hT3] at HDr HP3
      clear hdr hP6 hk6 HF2 HU22 HPl hT3
      by_cases hon : ot = nm
      · subst hon
        clear HOt
        go_wp2_with fail
        refine HDr.out.mono ?_
        rintro e w7 ⟨rfl, hP7, hk7⟩
        have hf3 := pfindZ_any w.heap.size s r (206 * (k + 1)) 1 ot T3 T K _ w7 hP7
        rw [HP3.out.1] at hf3
        have HB7 := Lib.hid (HB6.out.trans hk7.below)
        obtain ⟨ci, hci⟩ : ∃ a, a = (findR T3 1 ot).1.i := ⟨_, rfl⟩
        rw [← hci] at hf3
        have HF3 := Lib.hid hf3
        clear hf3 hP7 hk7 HDr hci
        go_wp2_with fail
        refine HF3.out.mono ?_
        rintro e w8 ⟨rfl, hP8, hk8⟩
        have hf4 := pfindZ_any w.heap.size s r (206 * (k + 1)) 1 ot T3 T K _ w8 hP8
        rw [HP3.out.2.1, HP3.out.2.2] at hf4
        have HB8 := Lib.hid (HB7.out.trans hk8.below)
        have HF4 := Lib.hid hf4
        clear hf4 hP8 hk8 HF3
        go_wp2_with fail
        refine HF4.out.mono ?_
        rintro e w9 ⟨rfl, hP9, hk9⟩
        have HB9 := Lib.hid (HB8.out.trans hk9.below)
        clear hP9 hk9 HF4
        go_wp2_with fail
        go_ret
        exact ⟨rfl, HB9.out⟩
      · obtain ⟨rfl, rfl⟩ := HOt.out hon
        have hne : (ot != nm) = true := by simpa using hon
        have hne2 : (ot == nm) = false := by simpa using hon
        clear HOt hon
        go_wp2_with fail
        refine HDr.out.mono ?_
        rintro e w7 ⟨rfl, hP7, hk7⟩
        have hf3 := pfindZ_any w.heap.size s r (206 * (k + 1)) 1 nm T3 T K _ w7 hP7
        rw [HP3.out.1] at hf3
        have HB7 := Lib.hid (HB6.out.trans hk7.below)
        obtain ⟨ci, hci⟩ : ∃ a, a = (findR T3 1 nm).1.i := ⟨_, rfl⟩
        rw [← hci] at hf3
        have HF3 := Lib.hid hf3
        clear hf3 hP7 hk7 HDr hci
        go_wp2_with fail
        refine HF3.out.mono ?_
        rintro e w8 ⟨rfl, hP8, hk8⟩
        have hf4 := pfindZ_any w.heap.size s r (206 * (k + 1)) 1 ot T3 T K _ w8 hP8
        rw [HP3.out.2.1, HP3.out.2.2] at hf4
        have HB8 := Lib.hid (HB7.out.trans hk8.below)
        have HF4 := Lib.hid hf4
        clear hf4 hP8 hk8 HF3
        go_wp2_with fail
        refine HF4.out.mono ?_
        rintro e w9 ⟨rfl, hP9, hk9⟩
        have HB9 := Lib.hid (HB8.out.trans hk9.below)
        clear hP9 hk9 HF4
        go_wp2_with fail
        go_ret
        exact ⟨rfl, HB9.out⟩
    · have h0' : ((ad : Int) != 0) = true := by rw [bne_iff_ne]; omega
      clear h0 hP4 hk4 HAd HU2 HAe HU HA
      go_wp2_with fail
      go_ret
      exact ⟨rfl, HB4.out⟩
end Go.Proofs.YtfgkgoddjemnfaaGreatDoor

namespace Go.Proofs.YtfgkgoddjemnfaaGreatDoor
open Go.ChangeShapes Go.WideShapes Go.ChangeAt Go.RowKit
theorem own : ownKnob Tryz.prog.godebug = none := by kernel_rfl
theorem laidOut : laidOutB Tryz.prog = true := by kernel_rfl
/-- A world in which the two tables hold what they are laid with. -/
noncomputable def laidWorld (os : Os) : World :=
  let w0 := World.holding Tryz.prog os ⟨#[], #[], []⟩
  let put (h : Array Obj) (g : Nat) (cs : Array Value) : Array Obj := h.modify g fun
    | .cells _ t frozen => .cells cs t frozen
    | o => o
  let h1 := put w0.heap 1 (Lib.firstTab.map fun z => Value.int .u8 z).toArray
  let h2 := put h1 2 ((List.range 16).flatMap fun i => [Value.int .u8 (Lib.accLo i), Value.int .u8 (Lib.accHi i)]).toArray
  { w0 with heap := h2 }
theorem maxOk {W : World} (hsh : W.ShapedOpen Tryz.prog) : MaxOk W :=
  cell_of_shapedOpen_int (P := Tryz.prog) (g := 0) (t := 3) (zero := #[.int .i64 0]) hsh (of_decide_eq_true (by kernel_rfl)) (by kernel_rfl) rfl (by kernel_rfl) (by kernel_rfl) Tryz.underlying3
end Go.Proofs.YtfgkgoddjemnfaaGreatDoor

namespace Go.Proofs.YtfgkgoddjemnfaaGreatDoor
open Go.ChangeShapes Go.WideShapes Go.ChangeAt Go.RowKit
theorem df_laid_met (os : Os) (args : Array Value) : laidMetH Tryz.prog Rows.dirFindsRow.laid ((laidWorld os).forCall (fun _ _ => 0) ⟨#[], args, []⟩).memory := by
  have h : laidMet Tryz.prog Rows.dirFindsRow.laid ((laidWorld os).forCall (fun _ _ => 0) ⟨#[], args, []⟩).memory := laidMet_of_run' 8 (by kernel_rfl) (by kernel_rfl)
  exact h
theorem df_witness (os : Os) {H : Type} (enc : TypeId × Value → H) :
    (OpenSpec.ofChange Rows.dirFindsSpec).preRow enc Tryz.prog Tryz.f5 Rows.dirFindsRow.domain false Rows.dirFindsRow.laid ((laidWorld os).forCall (fun _ _ => 0) ⟨#[], #[.slice none 0 0, .string ⟨#[]⟩, .string ⟨#[]⟩], []⟩).memory #[.slice none 0 0, .string ⟨#[]⟩, .string ⟨#[]⟩] := by
  have hw : (DataW.whole enc Tryz.prog ((laidWorld os).forCall (fun _ _ => 0) ⟨#[], #[.slice none 0 0, .string ⟨#[]⟩, .string ⟨#[]⟩], []⟩).memory Tryz.f5.params.toList (OpenSpec.ofChange Rows.dirFindsSpec).vars false (#[.slice none 0 0, .string ⟨#[]⟩, .string ⟨#[]⟩] : Array Value).toList 8).map (fun x => (x.1, x.2.1)) = some ([.nil, .lit (.string []), .lit (.string [])], []) := by kernel_rfl
  obtain ⟨⟨x1, x2, x3⟩, hx, hx1⟩ := Option.map_eq_some_iff.1 hw
  simp only [Prod.mk.injEq] at hx1
  obtain ⟨rfl, rfl⟩ := hx1
  exact OpenSpec.preRow_of_cond 8 hx (by kernel_rfl) (fun k hk => by cases hk) (by kernel_rfl) (df_laid_met os _)
set_option maxRecDepth 100000 in
set_option maxHeartbeats 2000000 in
theorem df_lifted (os : Os) (started : os.Started) (H : Type) (enc : TypeId × Value → H) (F : Stop.Interp) :
    ReturnsInHanded {} Tryz.checked os 5 .any ((OpenSpec.ofChange Rows.dirFindsSpec).preRow enc Tryz.prog Tryz.f5 Rows.dirFindsRow.domain false Rows.dirFindsRow.laid) (((OpenSpec.ofChange Rows.dirFindsSpec).at F).post enc Tryz.prog Tryz.f5 false true false false) := by
  refine returnsInHanded_of_row (C := Tryz.checked) (s := OpenSpec.ofChange Rows.dirFindsSpec) own started (by kernel_rfl) Tryz.func5
    (witness_row_atRef (enc := enc) (C := Tryz.checked) false (laidWorld os) #[.slice none 0 0, .string ⟨#[]⟩, .string ⟨#[]⟩] rfl (by kernel_rfl) (by kernel_rfl) (by kernel_rfl) (df_witness os enc)) ?_
  intro W base args ds gs before hval0 hW _ hcond hsz0 hL hsh _
  have hsz : (DataW.weightsEach Tryz.prog (Tryz.f5.params.toList ++ (OpenSpec.ofChange Rows.dirFindsSpec).bare.plain.varTypes Tryz.prog) (ds ++ gs)).all (· ≤ reachBytes) = true := hsz0
  clear hsz0
  have hval : ∀ (j : Nat) t v, Tryz.f5.params[j]? = some t → args[j]? = some v → Value.okWide Tryz.prog W .any base t v := hval0
  have hW' := hW
  obtain ⟨p, q, hA0, hV0, rfl, _, _⟩ := hW
  have hA : DataW.TrodAll enc Tryz.prog W 0 (fun _ => true) true Tryz.f5.params.toList args.toList ds p := hA0
  rw [Tryz.params5] at hA hval hsz
  obtain ⟨v0, v1, v2, d0, d1, d2, p0, p1, p2, rfl, rfl, rfl, h0, h1, h2⟩ := trodAll_three hA
  obtain ⟨rfl, rfl⟩ := trodVars_none hV0
  obtain ⟨a0, l0, c0, rfl⟩ := okWide_slice Tryz.underlying39 (hval 0 39 v0 rfl rfl)
  obtain ⟨s1, rfl⟩ := okWide_string Tryz.underlying9 (hval 1 9 v1 rfl rfl)
  obtain ⟨s2, rfl⟩ := okWide_string Tryz.underlying9 (hval 2 9 v2 rfl rfl)
  have h0k := h0
  obtain ⟨fuel0, hf0⟩ := h0
  have h1k := h1
  have h2k := h2
  clear hA0 hV0 hval0
  simp only [List.append_nil] at hW' hsz
  have hlt0 : ∀ x ∈ p0, x.block < W.heap.size := fun x hx => by simpa using hW'.lt x (by simp [hx])
  have hlt1 : ∀ x ∈ p1, x.block < W.heap.size := fun x hx => by simpa using hW'.lt x (by simp [hx])
  have hlt2 : ∀ x ∈ p2, x.block < W.heap.size := fun x hx => by simpa using hW'.lt x (by simp [hx])
  have hsm0 : Small 39 d0 := fun n hn => by
    have := List.all_eq_true.1 hsz n (DataW.weights_mem_each (j := 0) (t := 39) (d := d0) rfl rfl n hn)
    simpa using this
  obtain ⟨ls0, hls0⟩ := deeds_open hf0 hsm0
  have hwalk := dirFinds_any ls0 s1.data.toList s2.data.toList _ W (maxOk hsh) hls0
  simp only [bs_of] at hwalk
  refine hwalk.mono ?_
  rintro e W' ⟨rfl, bel⟩
  have e1 : ((OpenSpec.ofChange Rows.dirFindsSpec).at F).fn H ([d0, d1, d2] ++ []) = { results := [.lit (.bool true)], args := [d0, d1, d2] } := rfl
  refine ⟨_, rfl, _, _, _, [], (p0 ++ (p1 ++ p2)), [], hW', ?_, ?_, ?_, bel.frame _, fun h => by cases h⟩
  · rw [e1]; exact trodAll_mk1 (shut_bool Tryz.underlying4 true)
  · rw [e1]; exact trodAll_mk3 (Below.trod laidOut (by kernel_rfl) (of_decide_eq_true (by kernel_rfl)) h0k bel hlt0) (Below.trod laidOut (by kernel_rfl) (of_decide_eq_true (by kernel_rfl)) h1k bel hlt1) (Below.trod laidOut (by kernel_rfl) (of_decide_eq_true (by kernel_rfl)) h2k bel hlt2)
  · rw [e1]; rfl
theorem df_holds : Rows.DirFindsSaid :=
  OpenClaim.holds_of_cond 5 Tryz.f5 rfl rfl rfl rfl rfl rfl rfl ⟨rfl, rfl, rfl, rfl, rfl⟩ rfl rfl rfl rfl rfl (by kernel_rfl) Tryz.func5 (by kernel_rfl)
    (of_decide_eq_true (by kernel_rfl)) (by unfold Func.isWrapper; rw [if_neg (of_decide_eq_false (by kernel_rfl))]; exact ⟨rfl, rfl⟩)
    (fun os started H enc _ F0 => by rw [OpenClaim.pre_eq_preRow]; exact df_lifted os started H enc F0)
end Go.Proofs.YtfgkgoddjemnfaaGreatDoor

namespace Go.Proofs.YtfgkgoddjemnfaaGreatDoor
open Go
theorem df_card : Rows.DirFindsCardSaid :=
  Claim7.holds_tied_plain_at .later [] [.data, .pinned] true (true, "9ca2ba82e18c91e88278b03ef67c559af467a93126dc4a6881f8e292fa24a423") true
    df_holds (fun _ h => by cases h) (by kernel_rfl) (fun _ h => by cases h) dirFinds_row_tie rfl ⟨rfl, rfl⟩ (by kernel_rfl) rfl
    (fun f fn hf hfn => by
      obtain rfl : f = 5 := Option.some.inj ((show Tryz.prog.funcNamed "dunnage/dunnagelaw07.DirFinds" = some 5 by kernel_rfl).symm.trans hf) |>.symm
      obtain rfl : fn = Tryz.f5 := (Option.some.inj (Tryz.func5.symm.trans hfn)).symm
      exact ⟨by kernel_rfl, fun j t ht => by
        rw [Tryz.params5] at ht
        have h3 : t = 39 ∨ t = 9 := by
          rcases j with _ | _ | _ | j
          · have h := ht.symm; simp at h; simp [h]
          · have h := ht.symm; simp at h; simp [h]
          · have h := ht.symm; simp at h; simp [h]
          · simp at ht
        rcases h3 with rfl | rfl
        · exact (show Tryz.prog.wantsStandIn 39 = false by kernel_rfl)
        · exact (show Tryz.prog.wantsStandIn 9 = false by kernel_rfl)⟩)
    (by kernel_rfl)
end Go.Proofs.YtfgkgoddjemnfaaGreatDoor
