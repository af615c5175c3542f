/-
  FsysModes: the states.
  The walk over FsysModes.
  What all rows of this seat need: a world in which the listed tables lie, and the library's bound on lengths.
  The row of the law FsysModes, proved: every input.
  The tied card of the law FsysModes: it returns true for every input.
-/
import Derived.Test.YtakmplpfjcddiaaGreatDoorG12
import Derived.Test.YtakmplpfjcddiaaGreatDoorRows
import Derived.Deep.DeepHandedRow
import Derived.Deep.DeepWitnessRowRef
import Derived.Lib.LaidU8
import Derived.SizedLaws
import Derived.Shelf.Vars
import Derived.JoinedCond
import Derived.Test.YtakmplpfjcddiaaGreatDoorCards
import Derived.Test.YtakmplpfjcddiaaGreatDoorTie
import Derived.SevenTiedAt
set_option linter.unusedVariables false
set_option linter.unusedSimpArgs false
set_option linter.deprecated false
namespace Go.Proofs.YtakmplpfjcddiaaGreatDoor
open Go.RowKit Go.Shelf Pa
def M0 : RS := (RS.fresh 100 32).mkI 1 2 493
def M1 (m : Nat) : RS := addT2 (M0.mkI 2 2 m) 1 [100] 2
def M2a (m : Nat) : RS := (((M1 m).mkI 3 1 m).write 3 0 [1, 2]).getD rs0
def M2 (m : Nat) : RS := addT2 (M2a m) 1 [102] 3
def M3a (m : Nat) : RS := (((M2 m).mkI 4 3 511).write 4 0 [120]).getD rs0
def M3 (m : Nat) : RS := addT2 (M3a m) 1 [108] 4
def N3a : RS := ((M0.mkI 2 3 511).write 2 0 [120]).getD rs0
def N3 : RS := addT2 N3a 1 [108] 2
theorem M1_ok (m : Nat) (hm : m ≤ 4095) (hl : ∀ j, (getR M0 j).Len) : MadeOk M0 [47, 100] 2 m [] (M1 m) where
  ex := ⟨[], [100], 1, 2, M0.mkI 2 2 m, by kernel_rfl, by decide, by kernel_rfl, by kernel_rfl, by kernel_rfl, by rw [show (M0.file 1).bytes.length = 0 by kernel_rfl]; omega, by kernel_rfl, ⟨by decide, by kernel_rfl⟩, by kernel_rfl, by kernel_rfl, by rw [show addAt (lookB (M0.mkI 2 2 m) (1 : Nat)) = 0 by kernel_rfl]; omega, by kernel_rfl⟩
  len := hl
  kd := by decide
  mode := hm
  sz := by decide
theorem M2_ok (m : Nat) (hm : m ≤ 4095) (hl : ∀ j, (getR (M1 m) j).Len) : MadeOk (M1 m) [47, 102] 1 m [1, 2] (M2 m) where
  ex := ⟨[], [102], 1, 3, M2a m, by kernel_rfl, by decide, by kernel_rfl, by kernel_rfl, by kernel_rfl, by rw [show ((M1 m).file 1).bytes.length = 64 by kernel_rfl]; omega, by kernel_rfl, ⟨by decide, by kernel_rfl⟩, by kernel_rfl, by kernel_rfl, by rw [show addAt (lookB (M2a m) (1 : Nat)) = 64 by kernel_rfl]; omega, by kernel_rfl⟩
  len := hl
  kd := by decide
  mode := hm
  sz := by decide
theorem M1_none (m : Nat) : splitP [47, 102] = some [[102]] ∧ (thr (M1 m) [[102]]).2 = 4 := ⟨by kernel_rfl, by kernel_rfl⟩
theorem M3_ok (m : Nat) (hl : ∀ j, (getR (M2 m) j).Len) : MadeOk (M2 m) [47, 108] 3 511 [120] (M3 m) where
  ex := ⟨[], [108], 1, 4, M3a m, by kernel_rfl, by decide, by kernel_rfl, by kernel_rfl, by kernel_rfl, by rw [show ((M2 m).file 1).bytes.length = 128 by kernel_rfl]; omega, by kernel_rfl, ⟨by decide, by kernel_rfl⟩, by kernel_rfl, by kernel_rfl, by rw [show addAt (lookB (M3a m) (1 : Nat)) = 128 by kernel_rfl]; omega, by kernel_rfl⟩
  len := hl
  kd := by decide
  mode := by decide
  sz := by decide
theorem N3_ok (hl : ∀ j, (getR M0 j).Len) : MadeOk M0 [47, 108] 3 511 [120] N3 where
  ex := ⟨[], [108], 1, 2, N3a, by kernel_rfl, by decide, by kernel_rfl, by kernel_rfl, by kernel_rfl, by rw [show (M0.file 1).bytes.length = 0 by kernel_rfl]; omega, by kernel_rfl, ⟨by decide, by kernel_rfl⟩, by kernel_rfl, by kernel_rfl, by rw [show addAt (lookB N3a (1 : Nat)) = 0 by kernel_rfl]; omega, by kernel_rfl⟩
  len := hl
  kd := by decide
  mode := by decide
  sz := by decide
/-- What is told of the three. -/
theorem M3_d (m : Nat) : splitP [47, 100] = some [[100]] ∧ thr (M3 m) [[100]] = (2, 0) ∧ (M3 m).look (2 : Nat) = 0 ∧ (getR (M3 m) (2 : Nat)).kind = 2 ∧ (getR (M3 m) (2 : Nat)).mode = m :=
  ⟨by kernel_rfl, by kernel_rfl, by kernel_rfl, by kernel_rfl, by kernel_rfl⟩
theorem szT_file {T : RS} {i n : Nat} (hk : (getR T (i : Nat)).kind ≠ 2) (hs : (getR T (i : Nat)).size = n) : szT T i = n := by unfold szT; rw [if_neg hk, hs]
theorem M3_f (m : Nat) : splitP [47, 102] = some [[102]] ∧ thr (M3 m) [[102]] = (3, 0) ∧ (M3 m).look (3 : Nat) = 0 ∧ (getR (M3 m) (3 : Nat)).kind = 1 ∧ (getR (M3 m) (3 : Nat)).mode = m ∧ szT (M3 m) 3 = 2 :=
  ⟨by kernel_rfl, by kernel_rfl, by kernel_rfl, by kernel_rfl, by kernel_rfl, szT_file (by rw [show (getR (M3 m) (3 : Nat)).kind = 1 by kernel_rfl]; omega) (by kernel_rfl)⟩
theorem M3_l (m : Nat) : splitP [47, 108] = some [[108]] ∧ thr (M3 m) [[108]] = (4, 0) ∧ (M3 m).look (4 : Nat) = 0 ∧ (getR (M3 m) (4 : Nat)).kind = 3 ∧ (getR (M3 m) (4 : Nat)).mode = 511 ∧ szT (M3 m) 4 = 1 :=
  ⟨by kernel_rfl, by kernel_rfl, by kernel_rfl, by kernel_rfl, by kernel_rfl, szT_file (by rw [show (getR (M3 m) (4 : Nat)).kind = 3 by kernel_rfl]; omega) (by kernel_rfl)⟩
theorem N3_l : splitP [47, 108] = some [[108]] ∧ thr N3 [[108]] = (2, 0) ∧ N3.look (2 : Nat) = 0 ∧ (getR N3 (2 : Nat)).kind = 3 ∧ (getR N3 (2 : Nat)).mode = 511 ∧ szT N3 2 = 1 :=
  ⟨by kernel_rfl, by kernel_rfl, by kernel_rfl, by kernel_rfl, by kernel_rfl, szT_file (by rw [show (getR N3 (2 : Nat)).kind = 3 by kernel_rfl]; omega) (by kernel_rfl)⟩
theorem N3_none : splitP [47, 100] = some [[100]] ∧ (thr N3 [[100]]).2 = 4 ∧ splitP [47, 102] = some [[102]] ∧ (thr N3 [[102]]).2 = 4 := ⟨by kernel_rfl, by kernel_rfl, by kernel_rfl, by kernel_rfl⟩
end Go.Proofs.YtakmplpfjcddiaaGreatDoor

namespace Go.Proofs.YtakmplpfjcddiaaGreatDoor
open Go.RowKit Go.Shelf Pa
attribute [local go_sem] bs_toList bs_size
/-- What is behind the beginning: the file system that is asked, and that live says yes. -/
theorem begun8_any (w : World) (hm : MaxOk w) :
    Calls Tryz.prog 12 #[.int .i64 100] w fun e w' => ∃ f s c r, e = .returned (.tuple #[.pointer (some ⟨f, 0, none⟩), .pointer (some ⟨r, 0, none⟩), .bool true]) ∧ Calls Tryz.prog 13 #[] w' fun e w2 => e = .returned (.bool true) ∧ FsI w.heap.size w2 f s c M0 206 (fun k => k = f) ∧ Below w.heap.size w w2 := by
  refine (opened8_any 100 (by omega) w hm hm.lt).mono ?_
  rintro e w1 ⟨f, s, c, r, rfl, hF, _, hb⟩
  refine ⟨f, s, c, r, rfl, (live8_any w1 hF.mx hF.mx.lt).mono ?_⟩
  rintro e w2 ⟨rfl, hb2⟩
  obtain ⟨s2, k2⟩ := hF.solo.fresh (Z' := fun k => k = f) hb2 (fun k hk => .inl hk)
  exact ⟨rfl, hF.next s2 k2 rfl, hb.trans k2.below⟩
set_option maxRecDepth 100000 in
set_option maxHeartbeats 4000000 in
theorem modes_ok (m : Nat) (hmo : m ≤ 4095) (w : World) (hm : MaxOk w) :
    Calls Tryz.prog 3 #[.int .i64 m] w fun e w' => e = .returned (.bool true) ∧ Below w.heap.size w w' := by
  have HO := Lib.hid (begun8_any w hm)
  have HMo := Lib.hid hmo
  have hmd1 : decide ((m : Int) < 0) = false := by simp
  have hmd2 : decide ((4095 : Int) < (m : Int)) = false := by simp; omega
  clear hm hmo
  go_enter Tryz.func3, Tryz.ntmps3
  go_wp2_with fail
  refine HO.out.mono ?_
  rintro e w1 ⟨f, s, c, r, rfl, hlv⟩
  have HLv := Lib.hid hlv
  clear hlv HO
  go_wp2_with fail
  refine HLv.out.mono ?_
  rintro e w2 ⟨rfl, hF2, hb2⟩
  have HM := Lib.hid (mkdir_ok w.heap.size f s c 206 m [47, 100] M0 (M1 m) _ w2 hF2 (M1_ok m HMo.out hF2.len))
  have HB2 := Lib.hid hb2
  clear hF2 hb2 HLv
  go_wp2_with fail
  refine HM.out.mono ?_
  rintro e w3 ⟨rfl, hF3, k3⟩
  obtain ⟨hF4, k4, hby⟩ := hF3.row [1, 2] (by decide)
  have HW := Lib.hid (write_new w.heap.size f s c 206 m 4 [47, 102] _ [1, 2] _ (M1 m) (M2 m) _ _ hF4 (M1_none m).1 (by decide) (M1_none m).2 (by omega) (M2_ok m HMo.out hF4.len) hby)
  have HK3 := Lib.hid (HB2.out.trans (k3.trans k4).below)
  clear k3 hF3 hF4 k4 hby HM HB2
  go_wp2_with fail
  refine HW.out.mono ?_
  rintro e w5 ⟨rfl, hF5, k5⟩
  have HS := Lib.hid (symlink_ok w.heap.size f s c 206 [47, 108] [120] (M2 m) (M3 m) _ w5 hF5 (M3_ok m hF5.len) (by simp) (by decide))
  have HK5 := Lib.hid (HK3.out.trans k5.below)
  clear hF5 k5 HW HK3
  go_wp2_with fail
  refine HS.out.mono ?_
  rintro e w6 ⟨rfl, hF6, k6⟩
  have hst := stat_ok w.heap.size f s c 206 2 [47, 100] _ _ (M3 m) _ w6 hF6 (M3_d m).1 (by decide) (M3_d m).2.1 (M3_d m).2.2.1 rfl (hF6.len 2)
  unfold statV at hst
  rw [(M3_d m).2.2.2.1, (M3_d m).2.2.2.2] at hst
  obtain ⟨ln1, hln1⟩ : ∃ x, x = (getR (M3 m) (2 : Nat)).links := ⟨_, rfl⟩
  obtain ⟨sz1, hsz1⟩ : ∃ x, x = szT (M3 m) 2 := ⟨_, rfl⟩
  rw [← hln1, ← hsz1] at hst
  have HSt := Lib.hid hst
  have HK6 := Lib.hid (HK5.out.trans k6.below)
  clear hst hF6 k6 HS HK5 hln1 hsz1
  go_wp2_with fail
  refine HSt.out.mono ?_
  rintro e w7 ⟨rfl, hF7, k7⟩
  obtain ⟨hF8, k8⟩ := hF7.box (.cells #[.int .i64 2, .int .i64 m, .int .i64 ln1, .int .i64 sz1] 33)
  have hx8 : (w7.alloc (.cells #[.int .i64 2, .int .i64 m, .int .i64 ln1, .int .i64 sz1] 33)).heap[w7.heap.size]? = some (.cells #[.int .i64 2, .int .i64 m, .int .i64 ln1, .int .i64 sz1] 33 (0, 0)) := heap_alloc_new _ _
  obtain ⟨W8, hW8⟩ : ∃ W8, W8 = w7.alloc (.cells #[.int .i64 2, .int .i64 m, .int .i64 ln1, .int .i64 sz1] 33) := ⟨_, rfl⟩
  rw [← hW8] at hF8 k8 hx8
  have hst := stat_ok w.heap.size f s c 206 3 [47, 102] _ _ (M3 m) _ W8 hF8 (M3_f m).1 (by decide) (M3_f m).2.1 (M3_f m).2.2.1 rfl (hF8.len 3)
  unfold statV at hst
  rw [(M3_f m).2.2.2.1, (M3_f m).2.2.2.2.1, (M3_f m).2.2.2.2.2] at hst
  obtain ⟨ln2, hln2⟩ : ∃ x, x = (getR (M3 m) (3 : Nat)).links := ⟨_, rfl⟩
  rw [← hln2] at hst
  have HSt2 := Lib.hid hst
  have HK8 := Lib.hid (HK6.out.trans (k7.trans k8).below)
  have HX8 := Lib.hid hx8
  clear hst hF7 k7 hF8 k8 hx8 HSt HK6 hln2
  go_upto_region 8 with fail
  rw [← hW8]
  clear hW8
  go_wp2_with fail
  refine HSt2.out.mono ?_
  rintro e w9 ⟨rfl, hF9, k9⟩
  obtain ⟨hF10, k10⟩ := hF9.box (.cells #[.int .i64 1, .int .i64 m, .int .i64 ln2, .int .i64 2] 33)
  have hx10 : (w9.alloc (.cells #[.int .i64 1, .int .i64 m, .int .i64 ln2, .int .i64 2] 33)).heap[w9.heap.size]? = some (.cells #[.int .i64 1, .int .i64 m, .int .i64 ln2, .int .i64 2] 33 (0, 0)) := heap_alloc_new _ _
  obtain ⟨W10, hW10⟩ : ∃ W10, W10 = w9.alloc (.cells #[.int .i64 1, .int .i64 m, .int .i64 ln2, .int .i64 2] 33) := ⟨_, rfl⟩
  rw [← hW10] at hF10 k10 hx10
  have hx8 := (k10.z w7.heap.size (.inr rfl)).trans ((k9.z w7.heap.size (.inr rfl)).trans HX8.out)
  have hst := stat_ok w.heap.size f s c 206 4 [47, 108] _ _ (M3 m) _ W10 hF10 (M3_l m).1 (by decide) (M3_l m).2.1 (M3_l m).2.2.1 rfl (hF10.len 4)
  unfold statV at hst
  rw [(M3_l m).2.2.2.1, (M3_l m).2.2.2.2.1, (M3_l m).2.2.2.2.2] at hst
  obtain ⟨ln3, hln3⟩ : ∃ x, x = (getR (M3 m) (4 : Nat)).links := ⟨_, rfl⟩
  rw [← hln3] at hst
  have HSt3 := Lib.hid hst
  have HK10 := Lib.hid (HK8.out.trans (k9.trans k10).below)
  have HX10 := Lib.hid (⟨hx8, hx10⟩ : _ ∧ _)
  clear hst hF9 k9 hF10 k10 hx10 hx8 HSt2 HK8 hln3 HX8
  go_upto_region 9 with fail
  rw [← hW10]
  clear hW10
  go_wp2_with fail
  refine HSt3.out.mono ?_
  rintro e w11 ⟨rfl, hF11, k11⟩
  obtain ⟨hF12, k12⟩ := hF11.box (.cells #[.int .i64 3, .int .i64 511, .int .i64 ln3, .int .i64 1] 33)
  have hx12 : (w11.alloc (.cells #[.int .i64 3, .int .i64 511, .int .i64 ln3, .int .i64 1] 33)).heap[w11.heap.size]? = some (.cells #[.int .i64 3, .int .i64 511, .int .i64 ln3, .int .i64 1] 33 (0, 0)) := heap_alloc_new _ _
  obtain ⟨W12, hW12⟩ : ∃ W12, W12 = w11.alloc (.cells #[.int .i64 3, .int .i64 511, .int .i64 ln3, .int .i64 1] 33) := ⟨_, rfl⟩
  rw [← hW12] at k12 hx12
  have hx10 := (k12.z w9.heap.size (.inr rfl)).trans ((k11.z w9.heap.size (.inr rfl)).trans HX10.out.2)
  have hx8 := (k12.z w7.heap.size (.inl (.inr rfl))).trans ((k11.z w7.heap.size (.inl (.inr rfl))).trans HX10.out.1)
  have c1 : W12.cell? ⟨w11.heap.size, 0, none⟩ = some (.int .i64 3) := cell_of_heap hx12 0
  have c2 : W12.cell? ⟨w11.heap.size, 1, none⟩ = some (.int .i64 511) := cell_of_heap hx12 1
  have c3 : W12.cell? ⟨w11.heap.size, 3, none⟩ = some (.int .i64 1) := cell_of_heap hx12 3
  have c4 : W12.cell? ⟨w9.heap.size, 0, none⟩ = some (.int .i64 1) := cell_of_heap hx10 0
  have c5 : W12.cell? ⟨w9.heap.size, 1, none⟩ = some (.int .i64 m) := cell_of_heap hx10 1
  have c6 : W12.cell? ⟨w9.heap.size, 3, none⟩ = some (.int .i64 2) := cell_of_heap hx10 3
  have c7 : W12.cell? ⟨w7.heap.size, 0, none⟩ = some (.int .i64 2) := cell_of_heap hx8 0
  have c8 : W12.cell? ⟨w7.heap.size, 1, none⟩ = some (.int .i64 m) := cell_of_heap hx8 1
  have HK12 := Lib.hid (HK10.out.trans (k11.trans k12).below)
  clear hF11 k11 hF12 k12 hx12 hx10 hx8 HSt3 HK10 HX10
  go_upto_region 10 with fail
  rw [← hW12]
  clear hW12
  go_wp2_with fail
  go_ret
  exact ⟨rfl, HK12.out⟩
set_option maxRecDepth 100000 in
set_option maxHeartbeats 4000000 in
theorem modes_bad (m : Int) (hmo : m < 0 ∨ 4095 < m) (w : World) (hm : MaxOk w) :
    Calls Tryz.prog 3 #[.int .i64 m] w fun e w' => e = .returned (.bool true) ∧ Below w.heap.size w w' := by
  have HO := Lib.hid (begun8_any w hm)
  have HMo := Lib.hid hmo
  clear hm hmo
  go_enter Tryz.func3, Tryz.ntmps3
  go_wp2_with fail
  refine HO.out.mono ?_
  rintro e w1 ⟨f, s, c, r, rfl, hlv⟩
  have HLv := Lib.hid hlv
  clear hlv HO
  go_wp2_with fail
  refine HLv.out.mono ?_
  rintro e w2 ⟨rfl, hF2, hb2⟩
  have HM := Lib.hid (mkdir_bad w.heap.size f s c 206 m [47, 100] M0 _ w2 hF2 HMo.out)
  have HB2 := Lib.hid hb2
  clear hF2 hb2 HLv
  go_wp2_with fail
  refine HM.out.mono ?_
  rintro e w3 ⟨rfl, hF3, k3⟩
  obtain ⟨hF4, k4, hby⟩ := hF3.row [1, 2] (by decide)
  have HW := Lib.hid (write_mode w.heap.size f s c 206 m [47, 102] [1, 2] _ M0 _ _ hF4 HMo.out hby)
  have HK3 := Lib.hid (HB2.out.trans (k3.trans k4).below)
  clear k3 hF3 hF4 k4 hby HM HB2
  go_wp2_with fail
  refine HW.out.mono ?_
  rintro e w5 ⟨rfl, hF5, k5⟩
  have HS := Lib.hid (symlink_ok w.heap.size f s c 206 [47, 108] [120] M0 N3 _ w5 hF5 (N3_ok hF5.len) (by simp) (by decide))
  have HK5 := Lib.hid (HK3.out.trans k5.below)
  clear hF5 k5 HW HK3
  go_wp2_with fail
  refine HS.out.mono ?_
  rintro e w6 ⟨rfl, hF6, k6⟩
  have hst := stat_bad w.heap.size f s c 206 4 [47, 100] _ N3 _ w6 hF6 N3_none.1 (by decide) N3_none.2.1 (by omega)
  unfold statV at hst
  have HSt := Lib.hid hst
  have HK6 := Lib.hid (HK5.out.trans k6.below)
  clear hst hF6 k6 HS HK5
  go_wp2_with fail
  refine HSt.out.mono ?_
  rintro e w7 ⟨rfl, hF7, k7⟩
  obtain ⟨hF8, k8⟩ := hF7.box zStat
  have hx8 : (w7.alloc zStat).heap[w7.heap.size]? = some (.cells #[.int .i64 0, .int .i64 0, .int .i64 0, .int .i64 0] 33 (0, 0)) := heap_alloc_new _ _
  obtain ⟨W8, hW8⟩ : ∃ W8, W8 = w7.alloc zStat := ⟨_, rfl⟩
  rw [← hW8] at hF8 k8 hx8
  have hst := stat_bad w.heap.size f s c 206 4 [47, 102] _ N3 _ W8 hF8 N3_none.2.2.1 (by decide) N3_none.2.2.2 (by omega)
  unfold statV at hst
  have HSt2 := Lib.hid hst
  have HK8 := Lib.hid (HK6.out.trans (k7.trans k8).below)
  have HX8 := Lib.hid hx8
  clear hst hF7 k7 hF8 k8 hx8 HSt HK6
  go_upto_region 8 with fail
  rw [← hW8]
  clear hW8
  go_wp2_with fail
  refine HSt2.out.mono ?_
  rintro e w9 ⟨rfl, hF9, k9⟩
  obtain ⟨hF10, k10⟩ := hF9.box zStat
  have hx10 : (w9.alloc zStat).heap[w9.heap.size]? = some (.cells #[.int .i64 0, .int .i64 0, .int .i64 0, .int .i64 0] 33 (0, 0)) := heap_alloc_new _ _
  obtain ⟨W10, hW10⟩ : ∃ W10, W10 = w9.alloc zStat := ⟨_, rfl⟩
  rw [← hW10] at hF10 k10 hx10
  have hx8 := (k10.z w7.heap.size (.inr rfl)).trans ((k9.z w7.heap.size (.inr rfl)).trans HX8.out)
  have hst := stat_ok w.heap.size f s c 206 2 [47, 108] _ _ N3 _ W10 hF10 N3_l.1 (by decide) N3_l.2.1 N3_l.2.2.1 rfl (hF10.len 2)
  unfold statV at hst
  rw [N3_l.2.2.2.1, N3_l.2.2.2.2.1, N3_l.2.2.2.2.2] at hst
  obtain ⟨ln3, hln3⟩ : ∃ x, x = (getR N3 (2 : Nat)).links := ⟨_, rfl⟩
  rw [← hln3] at hst
  have HSt3 := Lib.hid hst
  have HK10 := Lib.hid (HK8.out.trans (k9.trans k10).below)
  have HX10 := Lib.hid (⟨hx8, hx10⟩ : _ ∧ _)
  clear hst hF9 k9 hF10 k10 hx10 hx8 HSt2 HK8 hln3 HX8
  go_upto_region 9 with fail
  rw [← hW10]
  clear hW10
  go_wp2_with fail
  refine HSt3.out.mono ?_
  rintro e w11 ⟨rfl, hF11, k11⟩
  obtain ⟨hF12, k12⟩ := hF11.box (.cells #[.int .i64 3, .int .i64 511, .int .i64 ln3, .int .i64 1] 33)
  have hx12 : (w11.alloc (.cells #[.int .i64 3, .int .i64 511, .int .i64 ln3, .int .i64 1] 33)).heap[w11.heap.size]? = some (.cells #[.int .i64 3, .int .i64 511, .int .i64 ln3, .int .i64 1] 33 (0, 0)) := heap_alloc_new _ _
  obtain ⟨W12, hW12⟩ : ∃ W12, W12 = w11.alloc (.cells #[.int .i64 3, .int .i64 511, .int .i64 ln3, .int .i64 1] 33) := ⟨_, rfl⟩
  rw [← hW12] at k12 hx12
  have hx10 := (k12.z w9.heap.size (.inr rfl)).trans ((k11.z w9.heap.size (.inr rfl)).trans HX10.out.2)
  have hx8 := (k12.z w7.heap.size (.inl (.inr rfl))).trans ((k11.z w7.heap.size (.inl (.inr rfl))).trans HX10.out.1)
  have c1 : W12.cell? ⟨w11.heap.size, 0, none⟩ = some (.int .i64 3) := cell_of_heap hx12 0
  have c2 : W12.cell? ⟨w11.heap.size, 1, none⟩ = some (.int .i64 511) := cell_of_heap hx12 1
  have c3 : W12.cell? ⟨w11.heap.size, 3, none⟩ = some (.int .i64 1) := cell_of_heap hx12 3
  have d0 : W12.cell? ⟨w9.heap.size, 0, none⟩ = some (.int .i64 0) := cell_of_heap hx10 0
  have d1 : W12.cell? ⟨w9.heap.size, 1, none⟩ = some (.int .i64 0) := cell_of_heap hx10 1
  have d2 : W12.cell? ⟨w9.heap.size, 2, none⟩ = some (.int .i64 0) := cell_of_heap hx10 2
  have d3 : W12.cell? ⟨w9.heap.size, 3, none⟩ = some (.int .i64 0) := cell_of_heap hx10 3
  have e0 : W12.cell? ⟨w7.heap.size, 0, none⟩ = some (.int .i64 0) := cell_of_heap hx8 0
  have e1 : W12.cell? ⟨w7.heap.size, 1, none⟩ = some (.int .i64 0) := cell_of_heap hx8 1
  have e2 : W12.cell? ⟨w7.heap.size, 2, none⟩ = some (.int .i64 0) := cell_of_heap hx8 2
  have e3 : W12.cell? ⟨w7.heap.size, 3, none⟩ = some (.int .i64 0) := cell_of_heap hx8 3
  have HK12 := Lib.hid (HK10.out.trans (k11.trans k12).below)
  clear hF11 k11 hF12 k12 hx12 hx10 hx8 HSt3 HK10 HX10
  go_upto_region 10 with fail
  rw [← hW12]
  clear hW12
  by_cases hmd : m < 0
  · have hmd1 : decide (m < 0) = true := decide_eq_true hmd
    clear hmd
    go_wp2_with fail
    go_ret
    exact ⟨rfl, HK12.out⟩
  · have hmd1 : decide (m < 0) = false := decide_eq_false hmd
    have hmd2 : decide (4095 < m) = true := by have := HMo.out; rw [decide_eq_true_iff]; omega
    clear hmd
    go_wp2_with fail
    go_ret
    exact ⟨rfl, HK12.out⟩
theorem fsysModes_any (m : Int) (w : World) (hm : MaxOk w) :
    Calls Tryz.prog 3 #[.int .i64 m] w fun e w' => e = .returned (.bool true) ∧ Below w.heap.size w w' := by
  by_cases h : 0 ≤ m ∧ m ≤ 4095
  · obtain ⟨n, rfl⟩ : ∃ n : Nat, m = (n : Int) := ⟨m.toNat, by omega⟩
    exact modes_ok n (by omega) w hm
  · exact modes_bad m (by omega) w hm
end Go.Proofs.YtakmplpfjcddiaaGreatDoor

namespace Go.Proofs.YtakmplpfjcddiaaGreatDoor
open Go.ChangeShapes Go.WideShapes Go.ChangeAt Go.RowKit
theorem own : ownKnob Tryz.prog.godebug = none := by kernel_rfl
theorem laidOut : laidOutB Tryz.prog = true := by kernel_rfl
/-- A world in which the two tables hold what they are laid with. -/
noncomputable def laidWorld (os : Os) : World :=
  let w0 := World.holding Tryz.prog os ⟨#[], #[], []⟩
  let put (h : Array Obj) (g : Nat) (cs : Array Value) : Array Obj := h.modify g fun
    | .cells _ t frozen => .cells cs t frozen
    | o => o
  let h1 := put w0.heap 1 (Lib.firstTab.map fun z => Value.int .u8 z).toArray
  let h2 := put h1 2 ((List.range 16).flatMap fun i => [Value.int .u8 (Lib.accLo i), Value.int .u8 (Lib.accHi i)]).toArray
  { w0 with heap := h2 }
theorem maxOk {W : World} (hsh : W.ShapedOpen Tryz.prog) : MaxOk W :=
  cell_of_shapedOpen_int (P := Tryz.prog) (g := 0) (t := 3) (zero := #[.int .i64 0]) hsh (of_decide_eq_true (by kernel_rfl)) (by kernel_rfl) rfl (by kernel_rfl) (by kernel_rfl) Tryz.underlying3
end Go.Proofs.YtakmplpfjcddiaaGreatDoor

namespace Go.Proofs.YtakmplpfjcddiaaGreatDoor
open Go.ChangeShapes Go.WideShapes Go.ChangeAt Go.RowKit
theorem fm_laid_met (os : Os) (args : Array Value) : laidMetH Tryz.prog Rows.fsysModesRow.laid ((laidWorld os).forCall (fun _ _ => 0) ⟨#[], args, []⟩).memory := by
  have h : laidMet Tryz.prog Rows.fsysModesRow.laid ((laidWorld os).forCall (fun _ _ => 0) ⟨#[], args, []⟩).memory := laidMet_of_run' 8 (by kernel_rfl) (by kernel_rfl)
  exact h
theorem fm_witness (os : Os) {H : Type} (enc : TypeId × Value → H) :
    (OpenSpec.ofChange Rows.fsysModesSpec).preRow enc Tryz.prog Tryz.f3 Rows.fsysModesRow.domain false Rows.fsysModesRow.laid ((laidWorld os).forCall (fun _ _ => 0) ⟨#[], #[.int .i64 0], []⟩).memory #[.int .i64 0] := by
  have hw : (DataW.whole enc Tryz.prog ((laidWorld os).forCall (fun _ _ => 0) ⟨#[], #[.int .i64 0], []⟩).memory Tryz.f3.params.toList (OpenSpec.ofChange Rows.fsysModesSpec).vars false (#[.int .i64 0] : Array Value).toList 8).map (fun x => (x.1, x.2.1)) = some ([.lit (.int .i64 0)], []) := by kernel_rfl
  obtain ⟨⟨x1, x2, x3⟩, hx, hx1⟩ := Option.map_eq_some_iff.1 hw
  simp only [Prod.mk.injEq] at hx1
  obtain ⟨rfl, rfl⟩ := hx1
  exact OpenSpec.preRow_of_cond 8 hx (by kernel_rfl) (fun k hk => by cases hk) (by kernel_rfl) (fm_laid_met os _)
set_option maxRecDepth 100000 in
set_option maxHeartbeats 2000000 in
theorem fm_lifted (os : Os) (started : os.Started) (H : Type) (enc : TypeId × Value → H) (F : Stop.Interp) :
    ReturnsInHanded {} Tryz.checked os 3 .any ((OpenSpec.ofChange Rows.fsysModesSpec).preRow enc Tryz.prog Tryz.f3 Rows.fsysModesRow.domain false Rows.fsysModesRow.laid) (((OpenSpec.ofChange Rows.fsysModesSpec).at F).post enc Tryz.prog Tryz.f3 false true false false) := by
  refine returnsInHanded_of_row (C := Tryz.checked) (s := OpenSpec.ofChange Rows.fsysModesSpec) own started (by kernel_rfl) Tryz.func3
    (witness_row_atRef (enc := enc) (C := Tryz.checked) false (laidWorld os) #[.int .i64 0] rfl (by kernel_rfl) (by kernel_rfl) (by kernel_rfl) (fm_witness os enc)) ?_
  intro W base args ds gs before hval0 hW _ hcond hsz0 hL hsh _
  have hsz : (DataW.weightsEach Tryz.prog (Tryz.f3.params.toList ++ (OpenSpec.ofChange Rows.fsysModesSpec).bare.plain.varTypes Tryz.prog) (ds ++ gs)).all (· ≤ reachBytes) = true := hsz0
  clear hsz0
  have hval : ∀ (j : Nat) t v, Tryz.f3.params[j]? = some t → args[j]? = some v → Value.okWide Tryz.prog W .any base t v := hval0
  have hW' := hW
  obtain ⟨p, q, hA0, hV0, rfl, _, _⟩ := hW
  have hA : DataW.TrodAll enc Tryz.prog W 0 (fun _ => true) true Tryz.f3.params.toList args.toList ds p := hA0
  rw [Tryz.params3] at hA hval hsz
  obtain ⟨v0, d0, rfl, rfl, h0⟩ := trodAll_one hA
  obtain ⟨rfl, rfl⟩ := trodVars_none hV0
  obtain ⟨z0, rfl⟩ := okWide_int Tryz.underlying3 (hval 0 3 v0 rfl rfl)
  have h0k := h0
  clear hA0 hV0 hval0
  simp only [List.append_nil] at hW' hsz
  have hlt : ∀ x ∈ p, x.block < W.heap.size := fun x hx => by simpa using hW'.lt x hx
  have hwalk := fsysModes_any z0  W (maxOk hsh) 
  refine hwalk.mono ?_
  rintro e W' ⟨rfl, bel⟩
  have e1 : ((OpenSpec.ofChange Rows.fsysModesSpec).at F).fn H ([d0] ++ []) = { results := [.lit (.bool true)], args := [d0] } := rfl
  refine ⟨_, rfl, _, _, _, [], p, [], hW', ?_, ?_, ?_, bel.frame _, fun h => by cases h⟩
  · rw [e1]; exact trodAll_mk1 (shut_bool Tryz.underlying4 true)
  · rw [e1]; exact trodAll_mk1 (Below.trod laidOut (by kernel_rfl) (of_decide_eq_true (by kernel_rfl)) h0k bel hlt)
  · rw [e1]; rfl
theorem fm_fact_inPlace : (Rows.fsysModesRow.inPlace == Tryz.prog.inPlace 3) = true := by kernel_rfl
theorem fm_fact_unfollowed : (Rows.fsysModesRow.unfollowed == Tryz.prog.unfollowed 3) = true := by kernel_rfl
theorem fm_fact_recurses : (Rows.fsysModesRow.recurses == Tryz.prog.recurses 3) = true := by kernel_rfl
theorem fm_fact_named : (Rows.fsysModesRow.named == Tryz.prog.varsNamed 3) = true := by kernel_rfl
theorem fm_facts : joinedFacts Tryz.prog 3 Tryz.f3 (OpenSpec.ofChange Rows.fsysModesSpec).bare Rows.fsysModesRow = true := by
  unfold joinedFacts
  rw [fm_fact_inPlace, fm_fact_unfollowed, fm_fact_recurses, fm_fact_named]
  kernel_rfl
theorem fm_holds : Rows.FsysModesSaid :=
  OpenClaim.holds_of_cond 3 Tryz.f3 rfl rfl rfl rfl rfl rfl rfl ⟨rfl, rfl, rfl, rfl, rfl⟩ rfl rfl rfl rfl rfl (by kernel_rfl) Tryz.func3 fm_facts
    (of_decide_eq_true (by kernel_rfl)) (by unfold Func.isWrapper; rw [if_neg (of_decide_eq_false (by kernel_rfl))]; exact ⟨rfl, rfl⟩)
    (fun os started H enc _ F0 => by rw [OpenClaim.pre_eq_preRow]; exact fm_lifted os started H enc F0)
end Go.Proofs.YtakmplpfjcddiaaGreatDoor

namespace Go.Proofs.YtakmplpfjcddiaaGreatDoor
open Go
theorem fm_cw : Rows.fsysModesRow.wfByText (OpenSpec.ofChange Rows.fsysModesSpec) = true := by kernel_rfl
theorem fm_cm : Tryz.prog.mainIs = some (true, "839e26d39717ec418e75e85fe60db0d113e9cde35d99f954c8d1811f8d0ace05".toList) := by kernel_rfl
theorem fm_cl : true = Tryz.prog.looks [] := by kernel_rfl
theorem fm_cg : false = Rows.fsysModesRow.goesBy Tryz.prog := by kernel_rfl
theorem fm_card : Rows.FsysModesCardSaid :=
  Claim7.holds_tied_plain_at .later [] [.data, .pinned] true (true, "839e26d39717ec418e75e85fe60db0d113e9cde35d99f954c8d1811f8d0ace05") true
    fm_holds (fun _ h => by cases h) fm_cw (fun _ h => by cases h) fsysModes_row_tie rfl ⟨rfl, rfl⟩ fm_cm rfl
    (fun f fn hf hfn => by
      obtain rfl : f = 3 := Option.some.inj ((show Tryz.prog.funcNamed "dunnage/dunnagelaw08.FsysModes" = some 3 by kernel_rfl).symm.trans hf) |>.symm
      obtain rfl : fn = Tryz.f3 := (Option.some.inj (Tryz.func3.symm.trans hfn)).symm
      exact ⟨fm_cl, fun j t ht => by
        rw [Tryz.params3] at ht
        have h3 : t = 3 := by
          rcases j with _ | j
          · simpa using ht.symm
          · simp at ht
        subst h3
        exact (show Tryz.prog.wantsStandIn 3 = false by kernel_rfl)⟩)
    fm_cg
end Go.Proofs.YtakmplpfjcddiaaGreatDoor
