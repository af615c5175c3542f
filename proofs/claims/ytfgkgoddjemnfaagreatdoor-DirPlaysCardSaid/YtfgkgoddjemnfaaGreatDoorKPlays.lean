/-
  The walk over the law DirPlays: it answers true of all deeds.
  What all rows of this seat need: a world in which the listed tables lie, and the library's bound on lengths.
  The row of the law DirPlays, proved: every input.
  The tied card of the law DirPlays: it returns true for every input.
-/
import Derived.Test.YtfgkgoddjemnfaaGreatDoorG10
import Derived.Test.YtfgkgoddjemnfaaGreatDoorRows
import Derived.Deep.DeepHandedRow
import Derived.Deep.DeepWitnessRowRef
import Derived.Lib.LaidU8
import Derived.SizedLaws
import Derived.Shelf.Vars
import Derived.JoinedCond
import Derived.Test.YtfgkgoddjemnfaaGreatDoorCards
import Derived.Test.YtfgkgoddjemnfaaGreatDoorTie
import Derived.SevenTiedAt
set_option linter.unusedVariables false
set_option linter.unusedSimpArgs false
set_option linter.deprecated false
namespace Go.Proofs.YtfgkgoddjemnfaaGreatDoor
open Go.RowKit Go.Shelf Pa
attribute [local go_sem] bs_toList bs_size
/-- What stands while deeds are done. -/
def Dys (B s r k : Nat) (wx : World) : Prop := ∃ T K u, PairZ B wx s r T T K (206 * (k + 1)) (fun _ => False) ∧ DirU T u k
theorem Dys.step {B s r k : Nat} {wx : World} (h : Dys B s r k wx) (hk : k < 50) (x : Dd) (hnl : x.name.length ≤ 140737488355328) : Calls Tryz.prog 19 #[.pointer (some ⟨s, 0, none⟩), .pointer (some ⟨r, 0, none⟩), ddV x] wx fun e w' => e = .returned (.bool true) ∧ Dys B s r (k + 1) w' ∧ Below B wx w' := by
  obtain ⟨T, K, u, h1, h2⟩ := h
  refine (lawDo_any B s r (206 * (k + 1)) k x T K u _ wx h1 h2 (by omega) (by omega) hnl).mono ?_
  rintro e w' ⟨rfl, T', u', g1, g2, _, g4⟩
  exact ⟨rfl, ⟨T', T', u', by rw [show 206 * (k + 1 + 1) = 206 * (k + 1) + 206 from by omega]; exact g1, g2⟩, g4.below⟩
/-- Both stores at the end. -/
def Dye (B s r : Nat) (T : RS) (wx : World) : Prop := ∃ K N, PairZ B wx s r T T K N (fun _ => False)
def orw (Z : Nat → Prop) (v : Value) : Nat → Prop := fun k => Z k ∨ v.ownBlock = some k
theorem Dye.below {B s r : Nat} {T : RS} {wx w' : World} (h : Dye B s r T wx) (hb : Below wx.heap.size wx w') : Dye B s r T w' := by
  obtain ⟨K, N, h⟩ := h
  exact ⟨K, N, (h.below hb).1⟩
theorem drewN_same (w : World) (q : Nat) (B : Nat) : Below B w (w.drewN q) := ⟨rfl, rfl, rfl, Nat.le_refl _, fun _ _ => rfl⟩
/-- What the six calls at a directory give. -/
theorem dye_calls {B s r : Nat} {T : RS} {wx : World} (i : Int) (h : Dye B s r T wx) :
    Calls Tryz.prog 14 #[.pointer (some ⟨s, 0, none⟩), .int .i64 i] wx fun e w1 => ∃ A1 c1, e = .returned (.tuple #[.slice A1 (listP (lookB T i)).length c1, .int .i64 (lookE T i : Nat)]) ∧
    Hid (Calls Tryz.prog 24 #[.pointer (some ⟨r, 0, none⟩), .int .i64 i] w1 fun e w2 => ∃ A2 c2, e = .returned (.tuple #[.slice A2 (listP (lookB T i)).length c2, .int .i64 (lookE T i : Nat)]) ∧
    Hid (Calls Tryz.prog 18 #[.pointer (some ⟨s, 0, none⟩), .int .i64 i] w2 fun e w3 => e = .returned (.tuple #[.bool (decide (lookE T i = 0) && (listP (lookB T i)).isEmpty), .int .i64 (lookE T i : Nat)]) ∧
    Hid (Calls Tryz.prog 25 #[.pointer (some ⟨r, 0, none⟩), .int .i64 i] w3 fun e w4 => e = .returned (.tuple #[.bool (decide (lookE T i = 0) && (listP (lookB T i)).isEmpty), .int .i64 (lookE T i : Nat)]) ∧
    Hid (Calls Tryz.prog 26 #[.pointer (some ⟨s, 0, none⟩), .int .i64 i, .int .i64 0, .int .i64 70656] w4 fun e w5 => ∃ A5 c5, e = .returned (.tuple #[.slice A5 (wholeB T i).length c5, .int .i64 (T.look i : Nat)]) ∧
    Hid (Calls Tryz.prog 27 #[.pointer (some ⟨r, 0, none⟩), .int .i64 i, .int .i64 0, .int .i64 70656] w5 fun e w6 => ∃ A6 c6, e = .returned (.tuple #[.slice A6 (wholeB T i).length c6, .int .i64 (T.look i : Nat)]) ∧
    Hid (Dye B s r T w6 ∧ Below B wx w6 ∧ StrsAt w6 w6.heap.size (.slice A1 (listP (lookB T i)).length c1) (listP (lookB T i)) ∧ StrsAt w6 w6.heap.size (.slice A2 (listP (lookB T i)).length c2) (listP (lookB T i)) ∧ BytesAt w6 w6.heap.size (.slice A5 (wholeB T i).length c5) (wholeB T i) ∧ BytesAt w6 w6.heap.size (.slice A6 (wholeB T i).length c6) (wholeB T i) ∧ (listP (lookB T i)).length ≤ 1000000)))))) := by
  obtain ⟨K, N, hP⟩ := h
  have hs := hP.sound
  have hll : (listP (lookB T i)).length ≤ 1000000 := by
    obtain ⟨Q, g, _⟩ := hP.right
    have := lookB_len g i
    rw [listP_length]
    have h2 := usedP_le (slotsP (lookB T i))
    rw [slotsP_length] at h2
    omega
  have hwl : (wholeB T i).length ≤ 70656 := by
    unfold wholeB
    split
    · rename_i h0
      obtain ⟨C, hr, _⟩ := hs
      exact (hr.files _ (look_live h0).1).2.size
    · exact Nat.zero_le _
  refine (plistZ_any B s r N i T T K _ wx hP).mono ?_
  rintro e w1 ⟨v1, rfl, o1, P1, k1⟩
  obtain ⟨A1, c1, rfl⟩ := ownsRow_slice o1
  refine ⟨A1, c1, rfl, Lib.hid ((rlistZ_any B s r N i T T K _ w1 P1 hs).mono ?_)⟩
  rintro e w2 ⟨v2, rfl, o2, P2, k2⟩
  obtain ⟨A2, c2, rfl⟩ := ownsRow_slice o2
  refine ⟨A2, c2, rfl, Lib.hid ((pemptyZ_any B s r N i T T K _ w2 P2).mono ?_)⟩
  rintro e w3 ⟨rfl, P3, k3⟩
  refine ⟨rfl, Lib.hid ((remptyZ_any B s r N i T T K _ w3 P3 hs).mono ?_)⟩
  rintro e w4 ⟨rfl, P4, k4⟩
  refine ⟨rfl, Lib.hid ((preadZ_any B s r N i T T K _ w4 P4).mono ?_)⟩
  rintro e w5 ⟨v5, rfl, o5, P5, k5⟩
  obtain ⟨A5, c5, rfl⟩ := o5.shape
  rw [bytV_length] at o5 P5 ⊢
  refine ⟨A5, c5, rfl, Lib.hid ((rreadZ_any B s r N i T T K _ w5 P5 hs).mono ?_)⟩
  rintro e w6 ⟨v6, rfl, o6, P6, k6⟩
  obtain ⟨A6, c6, rfl⟩ := o6.shape
  rw [bytV_length] at o6 ⊢
  have z1 := (OwnS.strs (row_kept (row_kept (row_kept (row_kept (row_kept o1 k2.z (fun k hk => .inr hk)) k3.z (fun k hk => .inl (.inr hk))) k4.z (fun k hk => .inl (.inr hk))) k5.z (fun k hk => .inl (.inr hk))) k6.z (fun k hk => .inl (.inl (.inr hk)))))
  have z2 := (OwnS.strs (row_kept (row_kept (row_kept (row_kept o2 k3.z (fun k hk => .inr hk)) k4.z (fun k hk => .inr hk)) k5.z (fun k hk => .inr hk)) k6.z (fun k hk => .inl (.inr hk))))
  have z5 : OwnL w6 w4.heap.size 5 (.slice A5 (wholeB T i).length c5) (bytV (wholeB T i)) := row_kept o5 k6.z (fun k hk => .inr hk)
  exact ⟨A6, c6, rfl, Lib.hid ⟨⟨K, N, P6.weak (fun k hk => hk.elim)⟩, ((((k1.below.trans k2.below).trans k3.below).trans k4.below).trans k5.below).trans k6.below, z1, z2, ownL_bytesAt z5 (by omega), ownL_bytesAt o6 (by omega), hll⟩⟩
set_option maxRecDepth 100000 in
set_option maxHeartbeats 4000000 in
theorem dirPlays_any (ds : List Dd) (v : Value) (w : World) (hm : MaxOk w) (h : DeedsIn w v ds) :
    Calls Tryz.prog 7 #[v] w fun e w' => e = .returned (.bool true) ∧ Below w.heap.size w w' := by
  obtain ⟨A, c, rfl, hc, hf⟩ := h
  have HF := Lib.hid hf
  have HM := Lib.hid hm
  clear hf hm
  go_enter Tryz.func7, Tryz.ntmps7
  go_wp2_with fail
  refine (opened_any w).mono ?_
  rintro e w1 ⟨s, r, rfl, hP, hb⟩
  have HP := Lib.hid hP
  have HB := Lib.hid hb
  have hlive := live_any w1 (HM.out.grow HB.out)
  have HLive := Lib.hid hlive
  clear hP hb hlive
  go_wp2_with fail
  refine HLive.out.mono ?_
  rintro e w2 ⟨rfl, hb2⟩
  have h1 : Dys w.heap.size s r 0 w2 := ⟨T0, T0, fun _ => [], (HP.out.below hb2).z, DirU.zero⟩
  have hbw : Below w.heap.size w w2 := HB.out.trans (hb2.mono HB.out.size)
  have H2 := Lib.hid (⟨h1, hbw⟩ : _ ∧ _)
  clear h1 hbw hb2 HLive HP HB
  go_upto_block 0 with fail
  go_cut [6] (fun s6 wx => (∃ T, Dye w.heap.size s r T wx) ∧ Below w.heap.size w wx)
  case first =>
    go_wp2_with fail
    go_loopg [6] 40 (fun gg i wx => ∃ k : Nat, i = .int .i64 k ∧ gg = 40 - k ∧ k ≤ 40 ∧ k ≤ ds.length ∧ Dys w.heap.size s r k wx ∧ Below w.heap.size w wx)
    case atStart => exact ⟨0, rfl, rfl, Nat.zero_le _, Nat.zero_le _, H2.out.1, H2.out.2⟩
    case round =>
      obtain ⟨k, rfl, rfl, hk, hkl, hO, hb⟩ := hrel
      have hfin : (∃ T, Dye w.heap.size s r T wr) ∧ Below w.heap.size w wr := by
        obtain ⟨T, K, u, g1, _⟩ := hO
        exact ⟨⟨T, K, _, g1⟩, hb⟩
      by_cases hlt : k < ds.length
      · have hlt' : decide ((k : Int) < (ds.length : Int)) = true := by simp; omega
        by_cases h40 : k < 40
        · have h40' : decide ((k : Int) < 40) = true := by simp; omega
          obtain ⟨b, o, rfl, hbl, hcs⟩ := HF.out (by rintro rfl; simp at hlt)
          obtain ⟨x, hx⟩ : ∃ x, ds[k]? = some x := ⟨_, List.getElem?_eq_getElem hlt⟩
          obtain ⟨hnl, d0, d1, d2, d3⟩ := hcs k x hx
          have c0 := (hb.cell (p := ⟨b, o + k * 4, none⟩) hbl).trans d0
          have c1 := (hb.cell (p := ⟨b, o + k * 4 + 1, none⟩) hbl).trans d1
          have c2 := (hb.cell (p := ⟨b, o + k * 4 + 2, none⟩) hbl).trans d2
          have c3 := (hb.cell (p := ⟨b, o + k * 4 + 3, none⟩) hbl).trans d3
          have hst := hO.step (by omega) x hnl
          have HSt := Lib.hid hst
          have HBw := Lib.hid hb
          clear hst hO hb hcs d0 d1 d2 d3 hx hnl hfin
          go_wp2_with fail
          refine HSt.out.mono ?_
          rintro e w3 ⟨rfl, hO3, hb3⟩
          have HO := Lib.hid (⟨hO3, HBw.out.trans hb3⟩ : _ ∧ _)
          clear hO3 hb3 HSt HBw
          go_wp2_with fail
          go_roundg (40 - (k + 1))
          case measure => omega
          case rel => exact ⟨k + 1, by go_num, rfl, h40, hlt, HO.out.1, HO.out.2⟩
        · obtain rfl : k = 40 := by omega
          have h40' : decide (((40 : Nat) : Int) < 40) = false := by decide
          have HO := Lib.hid hfin
          clear hO hb hfin
          go_wp2_with fail
          go_meet
          exact HO.out
      · have hlt' : decide ((k : Int) < (ds.length : Int)) = false := by simp; omega
        have HO := Lib.hid hfin
        clear hO hb hfin
        go_wp2_with fail
        go_meet
        exact HO.out
  case rest =>
    obtain ⟨⟨T, hP⟩, hb⟩ := hcut
    have H3 := Lib.hid (⟨hP, hb⟩ : _ ∧ _)
    clear hP hb H2 HF
    go_wp2_with fail
    go_loopg [7] 5 (fun gg i wx => ∃ k : Nat, i = .int .i64 k ∧ gg = 5 - k ∧ k ≤ 5 ∧ Dye w.heap.size s r T wx ∧ Below w.heap.size w wx)
    case atStart => exact ⟨0, rfl, rfl, Nat.zero_le _, H3.out.1, H3.out.2⟩
    case round =>
      obtain ⟨k, rfl, rfl, hk, hO, hb⟩ := hrel
      by_cases hlt : k < 5
      · have hlt' : decide ((k : Int) < 5) = true := by simp; omega
        have hcalls := dye_calls (k : Int) hO
        obtain ⟨lk, hlk⟩ : ∃ x, x = lookE T (k : Int) := ⟨_, rfl⟩
        obtain ⟨ll, hll⟩ : ∃ x, x = listP (lookB T (k : Int)) := ⟨_, rfl⟩
        obtain ⟨eb, heb⟩ : ∃ x, x = (decide (lk = 0) && ll.isEmpty) := ⟨_, rfl⟩
        obtain ⟨wb, hwb⟩ : ∃ x, x = wholeB T (k : Int) := ⟨_, rfl⟩
        obtain ⟨lo, hlo⟩ : ∃ x, x = T.look (k : Int) := ⟨_, rfl⟩
        rw [← hlk, ← hll, ← heb, ← hwb, ← hlo] at hcalls
        have HC1 := Lib.hid hcalls
        have HBw := Lib.hid hb
        clear hcalls hlk hll heb hwb hlo hO hb
        go_wp2_with fail
        refine HC1.out.mono ?_
        rintro e w3 ⟨A1, c1, rfl, HC2⟩
        clear HC1
        go_wp2_with fail
        refine HC2.out.mono ?_
        rintro e w4 ⟨A2, c2, rfl, HC3⟩
        clear HC2
        go_wp2_with fail
        refine HC3.out.mono ?_
        rintro e w5 ⟨rfl, HC4⟩
        clear HC3
        go_wp2_with fail
        refine HC4.out.mono ?_
        rintro e w6 ⟨rfl, HC5⟩
        clear HC4
        go_wp2_with fail
        refine HC5.out.mono ?_
        rintro e w7 ⟨A5, c5, rfl, HC6⟩
        clear HC5
        go_wp2_with fail
        refine HC6.out.mono ?_
        rintro e w8 ⟨A6, c6, rfl, HC7⟩
        clear HC6
        obtain ⟨g1, g2, s1, s2, b1, b2, g3⟩ := HC7.out
        have hst := sameTexts_any ll ll _ _ _ _ w8 s1 s2 g3
        have hsb := fun q => sameBytes_any wb wb _ _ _ (w8.drewN q) b1 b2
        have HSt := Lib.hid hst
        have HSb := Lib.hid hsb
        have HN := Lib.hid (⟨g1, HBw.out.trans g2⟩ : _ ∧ _)
        clear hst hsb g1 g2 s1 s2 b1 b2 g3 HC7 HBw
        go_wp2_with (first | (go_at_call 15; refine HSt.out.mono ?_; rintro e w9 ⟨rfl, q9, rfl⟩) | (go_at_call 28; refine (HSb.out _).mono ?_; rintro e w10 ⟨rfl, q10, rfl⟩))
        go_roundg (5 - (k + 1))
        case measure => omega
        case rel => exact ⟨k + 1, by go_num, rfl, hlt, HN.out.1.below (drewN_same _ _ _), HN.out.2.trans (drewN_same _ _ _)⟩
      · obtain rfl : k = 5 := by omega
        have hlt' : decide (((5 : Nat) : Int) < 5) = false := by decide
        have HN := Lib.hid hb
        clear hO hb
        go_wp2_with fail
        go_ret
        exact ⟨rfl, HN.out⟩
end Go.Proofs.YtfgkgoddjemnfaaGreatDoor

namespace Go.Proofs.YtfgkgoddjemnfaaGreatDoor
open Go.ChangeShapes Go.WideShapes Go.ChangeAt Go.RowKit
theorem own : ownKnob Tryz.prog.godebug = none := by kernel_rfl
theorem laidOut : laidOutB Tryz.prog = true := by kernel_rfl
/-- A world in which the two tables hold what they are laid with. -/
noncomputable def laidWorld (os : Os) : World :=
  let w0 := World.holding Tryz.prog os ⟨#[], #[], []⟩
  let put (h : Array Obj) (g : Nat) (cs : Array Value) : Array Obj := h.modify g fun
    | .cells _ t frozen => .cells cs t frozen
    | o => o
  let h1 := put w0.heap 1 (Lib.firstTab.map fun z => Value.int .u8 z).toArray
  let h2 := put h1 2 ((List.range 16).flatMap fun i => [Value.int .u8 (Lib.accLo i), Value.int .u8 (Lib.accHi i)]).toArray
  { w0 with heap := h2 }
theorem maxOk {W : World} (hsh : W.ShapedOpen Tryz.prog) : MaxOk W :=
  cell_of_shapedOpen_int (P := Tryz.prog) (g := 0) (t := 3) (zero := #[.int .i64 0]) hsh (of_decide_eq_true (by kernel_rfl)) (by kernel_rfl) rfl (by kernel_rfl) (by kernel_rfl) Tryz.underlying3
end Go.Proofs.YtfgkgoddjemnfaaGreatDoor

namespace Go.Proofs.YtfgkgoddjemnfaaGreatDoor
open Go.ChangeShapes Go.WideShapes Go.ChangeAt Go.RowKit
theorem dy_laid_met (os : Os) (args : Array Value) : laidMetH Tryz.prog Rows.dirPlaysRow.laid ((laidWorld os).forCall (fun _ _ => 0) ⟨#[], args, []⟩).memory := by
  have h : laidMet Tryz.prog Rows.dirPlaysRow.laid ((laidWorld os).forCall (fun _ _ => 0) ⟨#[], args, []⟩).memory := laidMet_of_run' 8 (by kernel_rfl) (by kernel_rfl)
  exact h
theorem dy_witness (os : Os) {H : Type} (enc : TypeId × Value → H) :
    (OpenSpec.ofChange Rows.dirPlaysSpec).preRow enc Tryz.prog Tryz.f7 Rows.dirPlaysRow.domain false Rows.dirPlaysRow.laid ((laidWorld os).forCall (fun _ _ => 0) ⟨#[], #[.slice none 0 0], []⟩).memory #[.slice none 0 0] := by
  have hw : (DataW.whole enc Tryz.prog ((laidWorld os).forCall (fun _ _ => 0) ⟨#[], #[.slice none 0 0], []⟩).memory Tryz.f7.params.toList (OpenSpec.ofChange Rows.dirPlaysSpec).vars false (#[.slice none 0 0] : Array Value).toList 8).map (fun x => (x.1, x.2.1)) = some ([.nil], []) := by kernel_rfl
  obtain ⟨⟨x1, x2, x3⟩, hx, hx1⟩ := Option.map_eq_some_iff.1 hw
  simp only [Prod.mk.injEq] at hx1
  obtain ⟨rfl, rfl⟩ := hx1
  exact OpenSpec.preRow_of_cond 8 hx (by kernel_rfl) (fun k hk => by cases hk) (by kernel_rfl) (dy_laid_met os _)
set_option maxRecDepth 100000 in
set_option maxHeartbeats 2000000 in
theorem dy_lifted (os : Os) (started : os.Started) (H : Type) (enc : TypeId × Value → H) (F : Stop.Interp) :
    ReturnsInHanded {} Tryz.checked os 7 .any ((OpenSpec.ofChange Rows.dirPlaysSpec).preRow enc Tryz.prog Tryz.f7 Rows.dirPlaysRow.domain false Rows.dirPlaysRow.laid) (((OpenSpec.ofChange Rows.dirPlaysSpec).at F).post enc Tryz.prog Tryz.f7 false true false false) := by
  refine returnsInHanded_of_row (C := Tryz.checked) (s := OpenSpec.ofChange Rows.dirPlaysSpec) own started (by kernel_rfl) Tryz.func7
    (witness_row_atRef (enc := enc) (C := Tryz.checked) false (laidWorld os) #[.slice none 0 0] rfl (by kernel_rfl) (by kernel_rfl) (by kernel_rfl) (dy_witness os enc)) ?_
  intro W base args ds gs before hval0 hW _ hcond hsz0 hL hsh _
  have hsz : (DataW.weightsEach Tryz.prog (Tryz.f7.params.toList ++ (OpenSpec.ofChange Rows.dirPlaysSpec).bare.plain.varTypes Tryz.prog) (ds ++ gs)).all (· ≤ reachBytes) = true := hsz0
  clear hsz0
  have hval : ∀ (j : Nat) t v, Tryz.f7.params[j]? = some t → args[j]? = some v → Value.okWide Tryz.prog W .any base t v := hval0
  have hW' := hW
  obtain ⟨p, q, hA0, hV0, rfl, _, _⟩ := hW
  have hA : DataW.TrodAll enc Tryz.prog W 0 (fun _ => true) true Tryz.f7.params.toList args.toList ds p := hA0
  rw [Tryz.params7] at hA hval hsz
  obtain ⟨v0, d0, rfl, rfl, h0⟩ := trodAll_one hA
  obtain ⟨rfl, rfl⟩ := trodVars_none hV0
  obtain ⟨a0, l0, c0, rfl⟩ := okWide_slice Tryz.underlying39 (hval 0 39 v0 rfl rfl)
  have h0k := h0
  obtain ⟨fuel0, hf0⟩ := h0
  clear hA0 hV0 hval0
  simp only [List.append_nil] at hW' hsz
  have hlt : ∀ x ∈ p, x.block < W.heap.size := fun x hx => by simpa using hW'.lt x hx
  have hsm0 : Small 39 d0 := fun n hn => by
    have := List.all_eq_true.1 hsz n (DataW.weights_mem_each (j := 0) (t := 39) (d := d0) rfl rfl n hn)
    simpa using this
  obtain ⟨ls0, hls0⟩ := deeds_open hf0 hsm0
  have hwalk := dirPlays_any ls0 _ W (maxOk hsh) hls0
  refine hwalk.mono ?_
  rintro e W' ⟨rfl, bel⟩
  have e1 : ((OpenSpec.ofChange Rows.dirPlaysSpec).at F).fn H ([d0] ++ []) = { results := [.lit (.bool true)], args := [d0] } := rfl
  refine ⟨_, rfl, _, _, _, [], p, [], hW', ?_, ?_, ?_, bel.frame _, fun h => by cases h⟩
  · rw [e1]; exact trodAll_mk1 (shut_bool Tryz.underlying4 true)
  · rw [e1]; exact trodAll_mk1 (Below.trod laidOut (by kernel_rfl) (of_decide_eq_true (by kernel_rfl)) h0k bel hlt)
  · rw [e1]; rfl
theorem dy_holds : Rows.DirPlaysSaid :=
  OpenClaim.holds_of_cond 7 Tryz.f7 rfl rfl rfl rfl rfl rfl rfl ⟨rfl, rfl, rfl, rfl, rfl⟩ rfl rfl rfl rfl rfl (by kernel_rfl) Tryz.func7 (by kernel_rfl)
    (of_decide_eq_true (by kernel_rfl)) (by unfold Func.isWrapper; rw [if_neg (of_decide_eq_false (by kernel_rfl))]; exact ⟨rfl, rfl⟩)
    (fun os started H enc _ F0 => by rw [OpenClaim.pre_eq_preRow]; exact dy_lifted os started H enc F0)
end Go.Proofs.YtfgkgoddjemnfaaGreatDoor

namespace Go.Proofs.YtfgkgoddjemnfaaGreatDoor
open Go
theorem dy_card : Rows.DirPlaysCardSaid :=
  Claim7.holds_tied_plain_at .later [] [.data, .pinned] true (true, "9ca2ba82e18c91e88278b03ef67c559af467a93126dc4a6881f8e292fa24a423") true
    dy_holds (fun _ h => by cases h) (by kernel_rfl) (fun _ h => by cases h) dirPlays_row_tie rfl ⟨rfl, rfl⟩ (by kernel_rfl) rfl
    (fun f fn hf hfn => by
      obtain rfl : f = 7 := Option.some.inj ((show Tryz.prog.funcNamed "dunnage/dunnagelaw07.DirPlays" = some 7 by kernel_rfl).symm.trans hf) |>.symm
      obtain rfl : fn = Tryz.f7 := (Option.some.inj (Tryz.func7.symm.trans hfn)).symm
      exact ⟨by kernel_rfl, fun j t ht => by
        rw [Tryz.params7] at ht
        have h3 : t = 39 := by
          rcases j with _ | j
          · simpa using ht.symm
          · simp at ht
        subst h3
        exact (show Tryz.prog.wantsStandIn 39 = false by kernel_rfl)⟩)
    (by kernel_rfl)
end Go.Proofs.YtfgkgoddjemnfaaGreatDoor
