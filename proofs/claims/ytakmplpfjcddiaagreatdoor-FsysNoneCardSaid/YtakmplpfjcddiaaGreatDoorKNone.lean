/-
  fsys's calls of no file system.
  The walk over FsysNone.
  What all rows of this seat need: a world in which the listed tables lie, and the library's bound on lengths.
  The row of the law FsysNone, proved: every input.
  The tied card of the law FsysNone: it returns true for every input.
-/
import Derived.Test.YtakmplpfjcddiaaGreatDoorG12
import Derived.Test.YtakmplpfjcddiaaGreatDoorRows
import Derived.Deep.DeepHandedRow
import Derived.Deep.DeepWitnessRowRef
import Derived.Lib.LaidU8
import Derived.SizedLaws
import Derived.Shelf.Vars
import Derived.JoinedCond
import Derived.Test.YtakmplpfjcddiaaGreatDoorCards
import Derived.Test.YtakmplpfjcddiaaGreatDoorTie
import Derived.SevenTiedAt
set_option linter.unusedVariables false
set_option linter.unusedSimpArgs false
set_option linter.deprecated false
namespace Go.Proofs.YtakmplpfjcddiaaGreatDoor
open Go.RowKit Go.Shelf Pa
attribute [local go_sem] bs_toList bs_size
theorem below1 (w : World) (o0 : Obj) : Below w.heap.size w (w.alloc o0) := (Below.refl _ _).alloc (Nat.le_refl _) _
theorem below2 (w : World) (o0 o1 : Obj) : Below w.heap.size w ((w.alloc o0).alloc o1) := (below1 w o0).alloc (by simp) _
theorem below3 (w : World) (o0 o1 o2 : Obj) : Below w.heap.size w (((w.alloc o0).alloc o1).alloc o2) := (below2 w o0 o1).alloc (by simp; omega) _
theorem below4 (w : World) (o0 o1 o2 o3 : Obj) : Below w.heap.size w ((((w.alloc o0).alloc o1).alloc o2).alloc o3) := (below3 w o0 o1 o2).alloc (by simp; omega) _
theorem _root_.Go.RowKit.Below.thn {w a b : World} (h : Below w.heap.size w a) (h2 : Below a.heap.size a b) : Below w.heap.size w b := h.trans (h2.mono h.size)
set_option maxRecDepth 100000 in
set_option maxHeartbeats 1000000 in
theorem fdo_nil (v : Value) (hv : ∃ f a b, v = .func f a b) (w : World) :
    Calls Tryz.prog 54 #[.pointer none, v] w fun e w' => e = .returned (.int .i64 1) ∧ Below w.heap.size w w' := by
  have hmf : ∀ (fn : Fn) (first cap : Array Value) (w : World), (Instr.makeFunc fn first cap).run Tryz.prog w = .ok (.func fn first cap) w := fun _ _ _ _ => rfl
  obtain ⟨f, a, b, rfl⟩ := hv
  obtain ⟨W1, hW1⟩ : ∃ W1, W1 = w.alloc errO := ⟨_, rfl⟩
  have hb1 : Below w.heap.size w W1 := by rw [hW1]; exact below1 w _
  have hx1 : W1.heap[w.heap.size]? = some (.cells #[.int .i64 0] 27 (0, 0)) := by rw [hW1]; exact heap_alloc_new _ _
  have c1 : W1.cell? ⟨w.heap.size, 0, none⟩ = some (.int .i64 0) := cell_of_heap hx1 0
  have z1 : W1.frozen? ⟨w.heap.size, 0, none⟩ = false := free_of_heap hx1 0
  have hx2 := heap_setCell_at W1 w.heap.size 0 (.int .i64 1) hx1
  have c2 : (W1.setCell ⟨w.heap.size, 0, none⟩ (.int .i64 1)).cell? ⟨w.heap.size, 0, none⟩ = some (.int .i64 1) := cell_of_heap hx2 0
  have hb2 : Below w.heap.size w (W1.setCell ⟨w.heap.size, 0, none⟩ (.int .i64 1)) := hb1.setCell (p := ⟨w.heap.size, 0, none⟩) (Nat.le_refl _) _
  have HB := Lib.hid (⟨hb2, c2⟩ : _ ∧ _)
  clear hb1 hx1 hx2 hb2 c2
  go_enter_defers Tryz.func54, Tryz.ntmps54
  go_upto_region 1 with fail
  rw [← hW1]
  clear hW1
  go_wp2_with fail
  simp [bodyPostD, Leaves, settle, results, Tryz.results54, go_sem, HB.out.2]
  exact HB.out.1
set_option maxRecDepth 100000 in
set_option maxHeartbeats 1000000 in
theorem fmkdir_nil (p : Str) (n : Int) (w : World) :
    Calls Tryz.prog 14 #[.pointer none, .string (bs p), .int .i64 n] w fun e w' => e = .returned (.int .i64 1) ∧ Below w.heap.size w w' := by
  have hmf : ∀ (fn : Fn) (first cap : Array Value) (w : World), (Instr.makeFunc fn first cap).run Tryz.prog w = .ok (.func fn first cap) w := fun _ _ _ _ => rfl
  obtain ⟨W3, hW3⟩ : ∃ W3, W3 = (((w.alloc (.cells #[.pointer none] 22)).alloc (.cells #[.string (bs p)] 9)).alloc (.cells #[.int .i64 n] 3)) := ⟨_, rfl⟩
  have hb3 : Below w.heap.size w W3 := by rw [hW3]; exact below3 w _ _ _ 
  have hx3 : W3.heap[w.heap.size]? = some (.cells #[.pointer none] 22 (0, 0)) := by
    rw [hW3]
    first
      | exact (alloc4 w _ _ _ _).1
      | exact (alloc3 w _ _ _).1
      | exact (alloc2 w _ _).1
  have q0 : W3.cell? ⟨w.heap.size, 0, none⟩ = some (.pointer none) := cell_of_heap hx3 0
  have HB3 := Lib.hid hb3
  clear hb3 hx3
  go_enter Tryz.func14, Tryz.ntmps14
  go_upto_region 1 with fail
  rw [← hW3]
  clear hW3
  go_wp2_with fail
  refine (fdo_nil _ ⟨_, _, _, rfl⟩ _).mono ?_
  rintro e w1 ⟨rfl, hb⟩
  have HB := Lib.hid (HB3.out.thn hb)
  clear hb
  go_wp2_with fail
  go_ret
  exact ⟨rfl, HB.out⟩
set_option maxRecDepth 100000 in
set_option maxHeartbeats 1000000 in
theorem fwrite_nil (p : Str) (n : Int) (w : World) :
    Calls Tryz.prog 15 #[.pointer none, .string (bs p), .int .i64 n, .slice none 0 0] w fun e w' => e = .returned (.int .i64 1) ∧ Below w.heap.size w w' := by
  have hmf : ∀ (fn : Fn) (first cap : Array Value) (w : World), (Instr.makeFunc fn first cap).run Tryz.prog w = .ok (.func fn first cap) w := fun _ _ _ _ => rfl
  obtain ⟨W3, hW3⟩ : ∃ W3, W3 = ((((w.alloc (.cells #[.pointer none] 22)).alloc (.cells #[.string (bs p)] 9)).alloc (.cells #[.int .i64 n] 3)).alloc (.cells #[.slice none 0 0] 37)) := ⟨_, rfl⟩
  have hb3 : Below w.heap.size w W3 := by rw [hW3]; exact below4 w _ _ _ _ 
  have hx3 : W3.heap[w.heap.size]? = some (.cells #[.pointer none] 22 (0, 0)) := by
    rw [hW3]
    first
      | exact (alloc4 w _ _ _ _).1
      | exact (alloc3 w _ _ _).1
      | exact (alloc2 w _ _).1
  have q0 : W3.cell? ⟨w.heap.size, 0, none⟩ = some (.pointer none) := cell_of_heap hx3 0
  have HB3 := Lib.hid hb3
  clear hb3 hx3
  go_enter Tryz.func15, Tryz.ntmps15
  go_upto_region 1 with fail
  rw [← hW3]
  clear hW3
  go_wp2_with fail
  refine (fdo_nil _ ⟨_, _, _, rfl⟩ _).mono ?_
  rintro e w1 ⟨rfl, hb⟩
  have HB := Lib.hid (HB3.out.thn hb)
  clear hb
  go_wp2_with fail
  go_ret
  exact ⟨rfl, HB.out⟩
set_option maxRecDepth 100000 in
set_option maxHeartbeats 1000000 in
theorem fsymlink_nil (p q : Str) (w : World) :
    Calls Tryz.prog 16 #[.pointer none, .string (bs p), .string (bs q)] w fun e w' => e = .returned (.int .i64 1) ∧ Below w.heap.size w w' := by
  have hmf : ∀ (fn : Fn) (first cap : Array Value) (w : World), (Instr.makeFunc fn first cap).run Tryz.prog w = .ok (.func fn first cap) w := fun _ _ _ _ => rfl
  obtain ⟨W3, hW3⟩ : ∃ W3, W3 = (((w.alloc (.cells #[.pointer none] 22)).alloc (.cells #[.string (bs p)] 9)).alloc (.cells #[.string (bs q)] 9)) := ⟨_, rfl⟩
  have hb3 : Below w.heap.size w W3 := by rw [hW3]; exact below3 w _ _ _ 
  have hx3 : W3.heap[w.heap.size]? = some (.cells #[.pointer none] 22 (0, 0)) := by
    rw [hW3]
    first
      | exact (alloc4 w _ _ _ _).1
      | exact (alloc3 w _ _ _).1
      | exact (alloc2 w _ _).1
  have q0 : W3.cell? ⟨w.heap.size, 0, none⟩ = some (.pointer none) := cell_of_heap hx3 0
  have HB3 := Lib.hid hb3
  clear hb3 hx3
  go_enter Tryz.func16, Tryz.ntmps16
  go_upto_region 1 with fail
  rw [← hW3]
  clear hW3
  go_wp2_with fail
  refine (fdo_nil _ ⟨_, _, _, rfl⟩ _).mono ?_
  rintro e w1 ⟨rfl, hb⟩
  have HB := Lib.hid (HB3.out.thn hb)
  clear hb
  go_wp2_with fail
  go_ret
  exact ⟨rfl, HB.out⟩
set_option maxRecDepth 100000 in
set_option maxHeartbeats 1000000 in
theorem flink_nil (p q : Str) (w : World) :
    Calls Tryz.prog 23 #[.pointer none, .string (bs p), .string (bs q)] w fun e w' => e = .returned (.int .i64 1) ∧ Below w.heap.size w w' := by
  have hmf : ∀ (fn : Fn) (first cap : Array Value) (w : World), (Instr.makeFunc fn first cap).run Tryz.prog w = .ok (.func fn first cap) w := fun _ _ _ _ => rfl
  obtain ⟨W3, hW3⟩ : ∃ W3, W3 = (((w.alloc (.cells #[.pointer none] 22)).alloc (.cells #[.string (bs p)] 9)).alloc (.cells #[.string (bs q)] 9)) := ⟨_, rfl⟩
  have hb3 : Below w.heap.size w W3 := by rw [hW3]; exact below3 w _ _ _ 
  have hx3 : W3.heap[w.heap.size]? = some (.cells #[.pointer none] 22 (0, 0)) := by
    rw [hW3]
    first
      | exact (alloc4 w _ _ _ _).1
      | exact (alloc3 w _ _ _).1
      | exact (alloc2 w _ _).1
  have q0 : W3.cell? ⟨w.heap.size, 0, none⟩ = some (.pointer none) := cell_of_heap hx3 0
  have HB3 := Lib.hid hb3
  clear hb3 hx3
  go_enter Tryz.func23, Tryz.ntmps23
  go_upto_region 1 with fail
  rw [← hW3]
  clear hW3
  go_wp2_with fail
  refine (fdo_nil _ ⟨_, _, _, rfl⟩ _).mono ?_
  rintro e w1 ⟨rfl, hb⟩
  have HB := Lib.hid (HB3.out.thn hb)
  clear hb
  go_wp2_with fail
  go_ret
  exact ⟨rfl, HB.out⟩
set_option maxRecDepth 100000 in
set_option maxHeartbeats 1000000 in
theorem frename_nil (p q : Str) (w : World) :
    Calls Tryz.prog 27 #[.pointer none, .string (bs p), .string (bs q)] w fun e w' => e = .returned (.int .i64 1) ∧ Below w.heap.size w w' := by
  have hmf : ∀ (fn : Fn) (first cap : Array Value) (w : World), (Instr.makeFunc fn first cap).run Tryz.prog w = .ok (.func fn first cap) w := fun _ _ _ _ => rfl
  obtain ⟨W3, hW3⟩ : ∃ W3, W3 = (((w.alloc (.cells #[.pointer none] 22)).alloc (.cells #[.string (bs p)] 9)).alloc (.cells #[.string (bs q)] 9)) := ⟨_, rfl⟩
  have hb3 : Below w.heap.size w W3 := by rw [hW3]; exact below3 w _ _ _ 
  have hx3 : W3.heap[w.heap.size]? = some (.cells #[.pointer none] 22 (0, 0)) := by
    rw [hW3]
    first
      | exact (alloc4 w _ _ _ _).1
      | exact (alloc3 w _ _ _).1
      | exact (alloc2 w _ _).1
  have q0 : W3.cell? ⟨w.heap.size, 0, none⟩ = some (.pointer none) := cell_of_heap hx3 0
  have HB3 := Lib.hid hb3
  clear hb3 hx3
  go_enter Tryz.func27, Tryz.ntmps27
  go_upto_region 1 with fail
  rw [← hW3]
  clear hW3
  go_wp2_with fail
  refine (fdo_nil _ ⟨_, _, _, rfl⟩ _).mono ?_
  rintro e w1 ⟨rfl, hb⟩
  have HB := Lib.hid (HB3.out.thn hb)
  clear hb
  go_wp2_with fail
  go_ret
  exact ⟨rfl, HB.out⟩
set_option maxRecDepth 100000 in
set_option maxHeartbeats 1000000 in
theorem funlink_nil (p : Str) (w : World) :
    Calls Tryz.prog 24 #[.pointer none, .string (bs p)] w fun e w' => e = .returned (.int .i64 1) ∧ Below w.heap.size w w' := by
  have hmf : ∀ (fn : Fn) (first cap : Array Value) (w : World), (Instr.makeFunc fn first cap).run Tryz.prog w = .ok (.func fn first cap) w := fun _ _ _ _ => rfl
  obtain ⟨W3, hW3⟩ : ∃ W3, W3 = ((w.alloc (.cells #[.pointer none] 22)).alloc (.cells #[.string (bs p)] 9)) := ⟨_, rfl⟩
  have hb3 : Below w.heap.size w W3 := by rw [hW3]; exact below2 w _ _ 
  have hx3 : W3.heap[w.heap.size]? = some (.cells #[.pointer none] 22 (0, 0)) := by
    rw [hW3]
    first
      | exact (alloc4 w _ _ _ _).1
      | exact (alloc3 w _ _ _).1
      | exact (alloc2 w _ _).1
  have q0 : W3.cell? ⟨w.heap.size, 0, none⟩ = some (.pointer none) := cell_of_heap hx3 0
  have HB3 := Lib.hid hb3
  clear hb3 hx3
  go_enter Tryz.func24, Tryz.ntmps24
  go_upto_region 1 with fail
  rw [← hW3]
  clear hW3
  go_wp2_with fail
  refine (fdo_nil _ ⟨_, _, _, rfl⟩ _).mono ?_
  rintro e w1 ⟨rfl, hb⟩
  have HB := Lib.hid (HB3.out.thn hb)
  clear hb
  go_wp2_with fail
  go_ret
  exact ⟨rfl, HB.out⟩
set_option maxRecDepth 100000 in
set_option maxHeartbeats 1000000 in
theorem frmdir_nil (p : Str) (w : World) :
    Calls Tryz.prog 25 #[.pointer none, .string (bs p)] w fun e w' => e = .returned (.int .i64 1) ∧ Below w.heap.size w w' := by
  have hmf : ∀ (fn : Fn) (first cap : Array Value) (w : World), (Instr.makeFunc fn first cap).run Tryz.prog w = .ok (.func fn first cap) w := fun _ _ _ _ => rfl
  obtain ⟨W3, hW3⟩ : ∃ W3, W3 = ((w.alloc (.cells #[.pointer none] 22)).alloc (.cells #[.string (bs p)] 9)) := ⟨_, rfl⟩
  have hb3 : Below w.heap.size w W3 := by rw [hW3]; exact below2 w _ _ 
  have hx3 : W3.heap[w.heap.size]? = some (.cells #[.pointer none] 22 (0, 0)) := by
    rw [hW3]
    first
      | exact (alloc4 w _ _ _ _).1
      | exact (alloc3 w _ _ _).1
      | exact (alloc2 w _ _).1
  have q0 : W3.cell? ⟨w.heap.size, 0, none⟩ = some (.pointer none) := cell_of_heap hx3 0
  have HB3 := Lib.hid hb3
  clear hb3 hx3
  go_enter Tryz.func25, Tryz.ntmps25
  go_upto_region 1 with fail
  rw [← hW3]
  clear hW3
  go_wp2_with fail
  refine (fdo_nil _ ⟨_, _, _, rfl⟩ _).mono ?_
  rintro e w1 ⟨rfl, hb⟩
  have HB := Lib.hid (HB3.out.thn hb)
  clear hb
  go_wp2_with fail
  go_ret
  exact ⟨rfl, HB.out⟩
set_option maxRecDepth 100000 in
set_option maxHeartbeats 1000000 in
theorem fremove_nil (p : Str) (w : World) :
    Calls Tryz.prog 26 #[.pointer none, .string (bs p)] w fun e w' => e = .returned (.int .i64 1) ∧ Below w.heap.size w w' := by
  have hmf : ∀ (fn : Fn) (first cap : Array Value) (w : World), (Instr.makeFunc fn first cap).run Tryz.prog w = .ok (.func fn first cap) w := fun _ _ _ _ => rfl
  obtain ⟨W3, hW3⟩ : ∃ W3, W3 = ((w.alloc (.cells #[.pointer none] 22)).alloc (.cells #[.string (bs p)] 9)) := ⟨_, rfl⟩
  have hb3 : Below w.heap.size w W3 := by rw [hW3]; exact below2 w _ _ 
  have hx3 : W3.heap[w.heap.size]? = some (.cells #[.pointer none] 22 (0, 0)) := by
    rw [hW3]
    first
      | exact (alloc4 w _ _ _ _).1
      | exact (alloc3 w _ _ _).1
      | exact (alloc2 w _ _).1
  have q0 : W3.cell? ⟨w.heap.size, 0, none⟩ = some (.pointer none) := cell_of_heap hx3 0
  have HB3 := Lib.hid hb3
  clear hb3 hx3
  go_enter Tryz.func26, Tryz.ntmps26
  go_upto_region 1 with fail
  rw [← hW3]
  clear hW3
  go_wp2_with fail
  refine (fdo_nil _ ⟨_, _, _, rfl⟩ _).mono ?_
  rintro e w1 ⟨rfl, hb⟩
  have HB := Lib.hid (HB3.out.thn hb)
  clear hb
  go_wp2_with fail
  go_ret
  exact ⟨rfl, HB.out⟩
theorem fcommit_nil (w : World) : Calls Tryz.prog 28 #[.pointer none] w fun e w' => e = .returned (.int .i64 1) ∧ Below w.heap.size w w' := by
  go_enter Tryz.func28, Tryz.ntmps28
  go_wp2_with fail
  first
    | go_ret
      exact ⟨rfl, Below.refl _ _⟩
    | go_ret2
      exact ⟨rfl, Below.refl _ _⟩
theorem fabort_nil (w : World) : Calls Tryz.prog 29 #[.pointer none] w fun e w' => e = .returned (.int .i64 1) ∧ Below w.heap.size w w' := by
  go_enter Tryz.func29, Tryz.ntmps29
  go_wp2_with fail
  first
    | go_ret
      exact ⟨rfl, Below.refl _ _⟩
    | go_ret2
      exact ⟨rfl, Below.refl _ _⟩
theorem finodes_nil (w : World) : Calls Tryz.prog 30 #[.pointer none] w fun e w' => e = .returned (.pointer none) ∧ Below w.heap.size w w' := by
  go_enter Tryz.func30, Tryz.ntmps30
  go_wp2_with fail
  first
    | go_ret
      exact ⟨rfl, Below.refl _ _⟩
    | go_ret2
      exact ⟨rfl, Below.refl _ _⟩
theorem fdisk_nil (w : World) : Calls Tryz.prog 31 #[.pointer none] w fun e w' => e = .returned (.pointer none) ∧ Below w.heap.size w w' := by
  go_enter Tryz.func31, Tryz.ntmps31
  go_wp2_with fail
  first
    | go_ret
      exact ⟨rfl, Below.refl _ _⟩
    | go_ret2
      exact ⟨rfl, Below.refl _ _⟩
theorem ffree_nil (w : World) : Calls Tryz.prog 22 #[.pointer none] w fun e w' => e = .returned (.tuple #[.int .i64 0, .int .i64 0]) ∧ Below w.heap.size w w' := by
  go_enter Tryz.func22, Tryz.ntmps22
  go_wp2_with fail
  first
    | go_ret
      exact ⟨rfl, Below.refl _ _⟩
    | go_ret2
      exact ⟨rfl, Below.refl _ _⟩
set_option maxRecDepth 100000 in
set_option maxHeartbeats 1000000 in
theorem fbytes_nil (p : Str) (k : Int) (w : World) :
    Calls Tryz.prog 68 #[.pointer none, .string (bs p), .int .i64 k] w fun e w' => e = .returned (.tuple #[.slice none 0 0, .int .i64 1]) ∧ Below w.heap.size w w' := by
  have hmf : ∀ (fn : Fn) (first cap : Array Value) (w : World), (Instr.makeFunc fn first cap).run Tryz.prog w = .ok (.func fn first cap) w := fun _ _ _ _ => rfl
  obtain ⟨W3, hW3⟩ : ∃ W3, W3 = ((((w.alloc (.cells #[.pointer none] 22)).alloc (.cells #[.string (bs p)] 9)).alloc (.cells #[.int .i64 k] 31)).alloc (.cells #[.slice none 0 0] 37)) := ⟨_, rfl⟩
  have hb3 : Below w.heap.size w W3 := by rw [hW3]; exact below4 w _ _ _ _ 
  have hx3 : W3.heap[w.heap.size]? = some (.cells #[.pointer none] 22 (0, 0)) ∧ W3.heap[w.heap.size + 1 + 1 + 1]? = some (.cells #[.slice none 0 0] 37 (0, 0)) ∧ w.heap.size + 1 + 1 + 1 < W3.heap.size := by
    rw [hW3]
    first
      | exact ⟨(alloc4 w _ _ _ _).1, (alloc4 w _ _ _ _).2.2.2.1, by rw [(alloc4 w _ _ _ _).2.2.2.2]; omega⟩
      | exact ⟨(alloc3 w _ _ _).1, (alloc3 w _ _ _).2.2.1, by rw [(alloc3 w _ _ _).2.2.2]; omega⟩
  have q0 : W3.cell? ⟨w.heap.size, 0, none⟩ = some (.pointer none) := cell_of_heap hx3.1 0
  have HX3 := Lib.hid hx3.2
  have HB3 := Lib.hid hb3
  clear hb3 hx3
  go_enter Tryz.func68, Tryz.ntmps68
  go_upto_region 1 with fail
  rw [← hW3]
  clear hW3
  go_wp2_with fail
  refine (fdo_nil _ ⟨_, _, _, rfl⟩ _).mono ?_
  rintro e w1 ⟨rfl, hb⟩
  have hx1 := (hb.block _ HX3.out.2).trans HX3.out.1
  have c0 : w1.cell? ⟨w.heap.size + 1 + 1 + 1, 0, none⟩ = some (.slice none 0 0) := cell_of_heap hx1 0
  have f0 : w1.frozen? ⟨w.heap.size + 1 + 1 + 1, 0, none⟩ = false := free_of_heap hx1 0
  have hx9 := heap_setCell_at w1 (w.heap.size + 1 + 1 + 1) 0 (.slice none 0 0) hx1
  have c9 : (w1.setCell ⟨w.heap.size + 1 + 1 + 1, 0, none⟩ (.slice none 0 0)).cell? ⟨w.heap.size + 1 + 1 + 1, 0, none⟩ = some (.slice none 0 0) := cell_of_heap hx9 0
  have HC9 := Lib.hid c9
  clear hx9 c9 hx1
  have HB := Lib.hid (HB3.out.thn hb)
  clear hb
  go_wp2_with fail
  exact bodyPost_ret (results_sl rfl _ _ (w.heap.size + 1 + 1 + 1) (.slice none 0 0) rfl HC9.out) rfl ⟨rfl, HB.out.setCell (p := ⟨w.heap.size + 1 + 1 + 1, 0, none⟩) (by show w.heap.size ≤ w.heap.size + 1 + 1 + 1; omega) _⟩
theorem results_sls {fn : Func} {p u : Tmp} (h : fn.results = #[.cell p 42, .tmp u]) (tmps : Array Value) (w : World) (b : Nat) (v : Value) (hp : tmps.getD p undef = .pointer (some ⟨b, 0, none⟩)) (hb : w.cell? ⟨b, 0, none⟩ = some v) :
    (results fn tmps).run Tryz.prog w = .ok (.tuple #[v, tmps.getD u undef]) w := by
  rw [results_cell_tmp h, hp]
  simp [asAddr, go_sem, hb]
theorem results_slf {fn : Func} {p u : Tmp} (h : fn.results = #[.cell p 45, .tmp u]) (tmps : Array Value) (w : World) (b : Nat) (v : Value) (hp : tmps.getD p undef = .pointer (some ⟨b, 0, none⟩)) (hb : w.cell? ⟨b, 0, none⟩ = some v) :
    (results fn tmps).run Tryz.prog w = .ok (.tuple #[v, tmps.getD u undef]) w := by
  rw [results_cell_tmp h, hp]
  simp [asAddr, go_sem, hb]
set_option maxRecDepth 100000 in
set_option maxHeartbeats 1000000 in
theorem flist_nil (p : Str) (w : World) :
    Calls Tryz.prog 20 #[.pointer none, .string (bs p)] w fun e w' => e = .returned (.tuple #[.slice none 0 0, .int .i64 1]) ∧ Below w.heap.size w w' := by
  have hmf : ∀ (fn : Fn) (first cap : Array Value) (w : World), (Instr.makeFunc fn first cap).run Tryz.prog w = .ok (.func fn first cap) w := fun _ _ _ _ => rfl
  obtain ⟨W3, hW3⟩ : ∃ W3, W3 = (((w.alloc (.cells #[.pointer none] 22)).alloc (.cells #[.string (bs p)] 9)).alloc (.cells #[.slice none 0 0] 42)) := ⟨_, rfl⟩
  have hb3 : Below w.heap.size w W3 := by rw [hW3]; exact below3 w _ _ _ 
  have hx3 : W3.heap[w.heap.size]? = some (.cells #[.pointer none] 22 (0, 0)) ∧ W3.heap[w.heap.size + 1 + 1]? = some (.cells #[.slice none 0 0] 42 (0, 0)) ∧ w.heap.size + 1 + 1 < W3.heap.size := by
    rw [hW3]
    first
      | exact ⟨(alloc4 w _ _ _ _).1, (alloc4 w _ _ _ _).2.2.2.1, by rw [(alloc4 w _ _ _ _).2.2.2.2]; omega⟩
      | exact ⟨(alloc3 w _ _ _).1, (alloc3 w _ _ _).2.2.1, by rw [(alloc3 w _ _ _).2.2.2]; omega⟩
  have q0 : W3.cell? ⟨w.heap.size, 0, none⟩ = some (.pointer none) := cell_of_heap hx3.1 0
  have HX3 := Lib.hid hx3.2
  have HB3 := Lib.hid hb3
  clear hb3 hx3
  go_enter Tryz.func20, Tryz.ntmps20
  go_upto_region 1 with fail
  rw [← hW3]
  clear hW3
  go_wp2_with fail
  refine (fdo_nil _ ⟨_, _, _, rfl⟩ _).mono ?_
  rintro e w1 ⟨rfl, hb⟩
  have hx1 := (hb.block _ HX3.out.2).trans HX3.out.1
  have c0 : w1.cell? ⟨w.heap.size + 1 + 1, 0, none⟩ = some (.slice none 0 0) := cell_of_heap hx1 0
  have f0 : w1.frozen? ⟨w.heap.size + 1 + 1, 0, none⟩ = false := free_of_heap hx1 0
  have hx9 := heap_setCell_at w1 (w.heap.size + 1 + 1) 0 (.slice none 0 0) hx1
  have c9 : (w1.setCell ⟨w.heap.size + 1 + 1, 0, none⟩ (.slice none 0 0)).cell? ⟨w.heap.size + 1 + 1, 0, none⟩ = some (.slice none 0 0) := cell_of_heap hx9 0
  have HC9 := Lib.hid c9
  clear hx9 c9 hx1
  have HB := Lib.hid (HB3.out.thn hb)
  clear hb
  go_wp2_with fail
  exact bodyPost_ret (results_sls rfl _ _ (w.heap.size + 1 + 1) (.slice none 0 0) rfl HC9.out) rfl ⟨rfl, HB.out.setCell (p := ⟨w.heap.size + 1 + 1, 0, none⟩) (by show w.heap.size ≤ w.heap.size + 1 + 1; omega) _⟩
set_option maxRecDepth 100000 in
set_option maxHeartbeats 1000000 in
theorem fwalk_nil (p : Str) (w : World) :
    Calls Tryz.prog 21 #[.pointer none, .string (bs p)] w fun e w' => e = .returned (.tuple #[.slice none 0 0, .int .i64 1]) ∧ Below w.heap.size w w' := by
  have hmf : ∀ (fn : Fn) (first cap : Array Value) (w : World), (Instr.makeFunc fn first cap).run Tryz.prog w = .ok (.func fn first cap) w := fun _ _ _ _ => rfl
  obtain ⟨W3, hW3⟩ : ∃ W3, W3 = (((w.alloc (.cells #[.pointer none] 22)).alloc (.cells #[.string (bs p)] 9)).alloc (.cells #[.slice none 0 0] 45)) := ⟨_, rfl⟩
  have hb3 : Below w.heap.size w W3 := by rw [hW3]; exact below3 w _ _ _ 
  have hx3 : W3.heap[w.heap.size]? = some (.cells #[.pointer none] 22 (0, 0)) ∧ W3.heap[w.heap.size + 1 + 1]? = some (.cells #[.slice none 0 0] 45 (0, 0)) ∧ w.heap.size + 1 + 1 < W3.heap.size := by
    rw [hW3]
    first
      | exact ⟨(alloc4 w _ _ _ _).1, (alloc4 w _ _ _ _).2.2.2.1, by rw [(alloc4 w _ _ _ _).2.2.2.2]; omega⟩
      | exact ⟨(alloc3 w _ _ _).1, (alloc3 w _ _ _).2.2.1, by rw [(alloc3 w _ _ _).2.2.2]; omega⟩
  have q0 : W3.cell? ⟨w.heap.size, 0, none⟩ = some (.pointer none) := cell_of_heap hx3.1 0
  have HX3 := Lib.hid hx3.2
  have HB3 := Lib.hid hb3
  clear hb3 hx3
  go_enter Tryz.func21, Tryz.ntmps21
  go_upto_region 1 with fail
  rw [← hW3]
  clear hW3
  go_wp2_with fail
  refine (fdo_nil _ ⟨_, _, _, rfl⟩ _).mono ?_
  rintro e w1 ⟨rfl, hb⟩
  have hx1 := (hb.block _ HX3.out.2).trans HX3.out.1
  have c0 : w1.cell? ⟨w.heap.size + 1 + 1, 0, none⟩ = some (.slice none 0 0) := cell_of_heap hx1 0
  have f0 : w1.frozen? ⟨w.heap.size + 1 + 1, 0, none⟩ = false := free_of_heap hx1 0
  have hx9 := heap_setCell_at w1 (w.heap.size + 1 + 1) 0 (.slice none 0 0) hx1
  have c9 : (w1.setCell ⟨w.heap.size + 1 + 1, 0, none⟩ (.slice none 0 0)).cell? ⟨w.heap.size + 1 + 1, 0, none⟩ = some (.slice none 0 0) := cell_of_heap hx9 0
  have HC9 := Lib.hid c9
  clear hx9 c9 hx1
  have HB := Lib.hid (HB3.out.thn hb)
  clear hb
  go_wp2_with fail
  exact bodyPost_ret (results_slf rfl _ _ (w.heap.size + 1 + 1) (.slice none 0 0) rfl HC9.out) rfl ⟨rfl, HB.out.setCell (p := ⟨w.heap.size + 1 + 1, 0, none⟩) (by show w.heap.size ≤ w.heap.size + 1 + 1; omega) _⟩
set_option maxRecDepth 100000 in
set_option maxHeartbeats 1000000 in
theorem fstat_nil (p : Str) (w : World) :
    Calls Tryz.prog 17 #[.pointer none, .string (bs p)] w fun e w' => e = .returned (.tuple #[statV 0 0 0 0, .int .i64 1]) ∧ Below w.heap.size w w' := by
  have hmf : ∀ (fn : Fn) (first cap : Array Value) (w : World), (Instr.makeFunc fn first cap).run Tryz.prog w = .ok (.func fn first cap) w := fun _ _ _ _ => rfl
  obtain ⟨W3, hW3⟩ : ∃ W3, W3 = (((w.alloc (.cells #[.pointer none] 22)).alloc (.cells #[.string (bs p)] 9)).alloc (.cells #[.int .i64 0, .int .i64 0, .int .i64 0, .int .i64 0] 33)) := ⟨_, rfl⟩
  have hb3 : Below w.heap.size w W3 := by rw [hW3]; exact below3 w _ _ _ 
  have hx3 : W3.heap[w.heap.size]? = some (.cells #[.pointer none] 22 (0, 0)) ∧ W3.heap[w.heap.size + 1 + 1]? = some (.cells #[.int .i64 0, .int .i64 0, .int .i64 0, .int .i64 0] 33 (0, 0)) ∧ w.heap.size + 1 + 1 < W3.heap.size := by
    rw [hW3]
    first
      | exact ⟨(alloc4 w _ _ _ _).1, (alloc4 w _ _ _ _).2.2.2.1, by rw [(alloc4 w _ _ _ _).2.2.2.2]; omega⟩
      | exact ⟨(alloc3 w _ _ _).1, (alloc3 w _ _ _).2.2.1, by rw [(alloc3 w _ _ _).2.2.2]; omega⟩
  have q0 : W3.cell? ⟨w.heap.size, 0, none⟩ = some (.pointer none) := cell_of_heap hx3.1 0
  have HX3 := Lib.hid hx3.2
  have HB3 := Lib.hid hb3
  clear hb3 hx3
  go_enter Tryz.func17, Tryz.ntmps17
  go_upto_region 1 with fail
  rw [← hW3]
  clear hW3
  go_wp2_with fail
  refine (fdo_nil _ ⟨_, _, _, rfl⟩ _).mono ?_
  rintro e w1 ⟨rfl, hb⟩
  have hx1 := (hb.block _ HX3.out.2).trans HX3.out.1
  have k0 : w1.cell? ⟨w.heap.size + 1 + 1, 0, none⟩ = some (.int .i64 0) := cell_of_heap hx1 0
  have k1 : w1.cell? ⟨w.heap.size + 1 + 1, 1, none⟩ = some (.int .i64 0) := cell_of_heap hx1 1
  have k2 : w1.cell? ⟨w.heap.size + 1 + 1, 2, none⟩ = some (.int .i64 0) := cell_of_heap hx1 2
  have k3 : w1.cell? ⟨w.heap.size + 1 + 1, 3, none⟩ = some (.int .i64 0) := cell_of_heap hx1 3
  have z0 : w1.frozen? ⟨w.heap.size + 1 + 1, 0, none⟩ = false := free_of_heap hx1 0
  have z1 : w1.frozen? ⟨w.heap.size + 1 + 1, 1, none⟩ = false := free_of_heap hx1 1
  have z2 : w1.frozen? ⟨w.heap.size + 1 + 1, 2, none⟩ = false := free_of_heap hx1 2
  have z3 : w1.frozen? ⟨w.heap.size + 1 + 1, 3, none⟩ = false := free_of_heap hx1 3
  have hs4 := setCells4 w1 (w.heap.size + 1 + 1) _ (.int .i64 0) (.int .i64 0) (.int .i64 0) (.int .i64 0) rfl hx1
  have HS4 := Lib.hid hs4
  clear hs4 hx1
  have HB := Lib.hid (HB3.out.thn hb)
  clear hb
  go_wp2_with fail
  exact bodyPost_ret (results_stat2 rfl _ _ (w.heap.size + 1 + 1) 0 0 0 0 rfl HS4.out.1) rfl ⟨rfl, HB.out.trans (HS4.out.2.below (by have := HB.out.size; omega) (fun k e => by omega))⟩
theorem ftarget_nil (p : Str) (w : World) : Calls Tryz.prog 19 #[.pointer none, .string (bs p)] w fun e w' => e = .returned (.tuple #[.string ⟨#[]⟩, .int .i64 1]) ∧ Below w.heap.size w w' := by
  go_enter Tryz.func19, Tryz.ntmps19
  go_wp2_with fail
  refine (fbytes_nil p 3 w).mono ?_
  rintro e w1 ⟨rfl, hb⟩
  have HB := Lib.hid hb
  have hcv : (convert 37 9 (.slice none 0 0)).run Tryz.prog w1 = .ok (.string ⟨#[]⟩) w1 := by kernel_rfl
  clear hb
  go_wp2_with fail
  go_ret2
  exact ⟨rfl, HB.out⟩
theorem fread_nil (p : Str) (w : World) : Calls Tryz.prog 18 #[.pointer none, .string (bs p)] w fun e w' => e = .returned (.tuple #[.slice none 0 0, .int .i64 1]) ∧ Below w.heap.size w w' := by
  go_enter Tryz.func18, Tryz.ntmps18
  go_wp2_with fail
  refine (fbytes_nil p 1 w).mono ?_
  rintro e w1 ⟨rfl, hb⟩
  have HB := Lib.hid hb
  clear hb
  go_wp2_with fail
  go_ret2
  exact ⟨rfl, HB.out⟩
end Go.Proofs.YtakmplpfjcddiaaGreatDoor

namespace Go.Proofs.YtakmplpfjcddiaaGreatDoor
open Go.RowKit Go.Shelf Pa
attribute [local go_sem] bs_toList bs_size
set_option maxRecDepth 100000 in
set_option maxHeartbeats 8000000 in
theorem fsysNone_any (p : Str) (n : Int) (w : World) (hm : MaxOk w) :
    Calls Tryz.prog 4 #[.string (bs p), .int .i64 n] w fun e w' => e = .returned (.bool true) ∧ Below w.heap.size w w' := by
  have HM := Lib.hid hm
  clear hm
  go_enter Tryz.func4, Tryz.ntmps4
  go_wp2_with fail
  refine (fread_nil p w).mono ?_
  rintro e w1 ⟨rfl, hb⟩
  have HB := Lib.hid hb
  clear hb
  go_wp2_with fail
  refine (ftarget_nil p w1).mono ?_
  rintro e w2 ⟨rfl, hb⟩
  have HB2 := Lib.hid (HB.out.thn hb)
  clear hb HB
  go_wp2_with fail
  have hst := fstat_nil p w2
  unfold statV at hst
  refine hst.mono ?_
  rintro e w3 ⟨rfl, hb⟩
  have HB3 := Lib.hid ((HB2.out.thn hb).thn (below1 w3 zStat))
  obtain ⟨W3, hW3⟩ : ∃ W3, W3 = w3.alloc zStat := ⟨_, rfl⟩
  rw [← hW3] at HB3
  clear hb HB2
  go_upto_region 5 with fail
  rw [show w3.alloc (.cells #[.int .i64 0, .int .i64 0, .int .i64 0, .int .i64 0] 33) = W3 from hW3.symm]
  clear hW3
  go_wp2_with fail
  refine (flist_nil p W3).mono ?_
  rintro e w4 ⟨rfl, hb⟩
  have HB4 := Lib.hid (HB3.out.thn hb)
  clear hb HB3
  go_wp2_with fail
  refine (fwalk_nil p w4).mono ?_
  rintro e w5 ⟨rfl, hb⟩
  have HB5 := Lib.hid (HB4.out.thn hb)
  clear hb HB4
  go_wp2_with fail
  refine (ffree_nil w5).mono ?_
  rintro e w6 ⟨rfl, hb⟩
  have HB := Lib.hid (HB5.out.thn hb)
  clear hb HB5
  have HLive := Lib.hid (live8_any w6 (HM.out.grow HB.out) (HM.out.grow HB.out).lt)
  go_wp2_with (first
    | (go_at_call 13; refine HLive.out.mono ?_; rintro e w7 ⟨rfl, hb⟩; have HBn := Lib.hid (HB.out.thn hb); clear hb HB HLive; have HB := HBn; clear HBn)
    | (go_at_call 14; refine (fmkdir_nil p n _).mono ?_; rintro e w8 ⟨rfl, hb⟩; have HBn := Lib.hid (HB.out.thn hb); clear hb HB; have HB := HBn; clear HBn)
    | (go_at_call 15; refine (fwrite_nil p n _).mono ?_; rintro e w9 ⟨rfl, hb⟩; have HBn := Lib.hid (HB.out.thn hb); clear hb HB; have HB := HBn; clear HBn)
    | (go_at_call 16; refine (fsymlink_nil p p _).mono ?_; rintro e w10 ⟨rfl, hb⟩; have HBn := Lib.hid (HB.out.thn hb); clear hb HB; have HB := HBn; clear HBn)
    | (go_at_call 23; refine (flink_nil p p _).mono ?_; rintro e w11 ⟨rfl, hb⟩; have HBn := Lib.hid (HB.out.thn hb); clear hb HB; have HB := HBn; clear HBn)
    | (go_at_call 24; refine (funlink_nil p _).mono ?_; rintro e w12 ⟨rfl, hb⟩; have HBn := Lib.hid (HB.out.thn hb); clear hb HB; have HB := HBn; clear HBn)
    | (go_at_call 25; refine (frmdir_nil p _).mono ?_; rintro e w13 ⟨rfl, hb⟩; have HBn := Lib.hid (HB.out.thn hb); clear hb HB; have HB := HBn; clear HBn)
    | (go_at_call 26; refine (fremove_nil p _).mono ?_; rintro e w14 ⟨rfl, hb⟩; have HBn := Lib.hid (HB.out.thn hb); clear hb HB; have HB := HBn; clear HBn)
    | (go_at_call 27; refine (frename_nil p p _).mono ?_; rintro e w15 ⟨rfl, hb⟩; have HBn := Lib.hid (HB.out.thn hb); clear hb HB; have HB := HBn; clear HBn)
    | (go_at_call 28; refine (fcommit_nil _).mono ?_; rintro e w16 ⟨rfl, hb⟩; have HBn := Lib.hid (HB.out.thn hb); clear hb HB; have HB := HBn; clear HBn)
    | (go_at_call 29; refine (fabort_nil _).mono ?_; rintro e w17 ⟨rfl, hb⟩; have HBn := Lib.hid (HB.out.thn hb); clear hb HB; have HB := HBn; clear HBn)
    | (go_at_call 30; refine (finodes_nil _).mono ?_; rintro e w18 ⟨rfl, hb⟩; have HBn := Lib.hid (HB.out.thn hb); clear hb HB; have HB := HBn; clear HBn)
    | (go_at_call 31; refine (fdisk_nil _).mono ?_; rintro e w19 ⟨rfl, hb⟩; have HBn := Lib.hid (HB.out.thn hb); clear hb HB; have HB := HBn; clear HBn))
  go_ret
  exact ⟨rfl, HB.out⟩
end Go.Proofs.YtakmplpfjcddiaaGreatDoor

namespace Go.Proofs.YtakmplpfjcddiaaGreatDoor
open Go.ChangeShapes Go.WideShapes Go.ChangeAt Go.RowKit
theorem own : ownKnob Tryz.prog.godebug = none := by kernel_rfl
theorem laidOut : laidOutB Tryz.prog = true := by kernel_rfl
/-- A world in which the two tables hold what they are laid with. -/
noncomputable def laidWorld (os : Os) : World :=
  let w0 := World.holding Tryz.prog os ⟨#[], #[], []⟩
  let put (h : Array Obj) (g : Nat) (cs : Array Value) : Array Obj := h.modify g fun
    | .cells _ t frozen => .cells cs t frozen
    | o => o
  let h1 := put w0.heap 1 (Lib.firstTab.map fun z => Value.int .u8 z).toArray
  let h2 := put h1 2 ((List.range 16).flatMap fun i => [Value.int .u8 (Lib.accLo i), Value.int .u8 (Lib.accHi i)]).toArray
  { w0 with heap := h2 }
theorem maxOk {W : World} (hsh : W.ShapedOpen Tryz.prog) : MaxOk W :=
  cell_of_shapedOpen_int (P := Tryz.prog) (g := 0) (t := 3) (zero := #[.int .i64 0]) hsh (of_decide_eq_true (by kernel_rfl)) (by kernel_rfl) rfl (by kernel_rfl) (by kernel_rfl) Tryz.underlying3
end Go.Proofs.YtakmplpfjcddiaaGreatDoor

namespace Go.Proofs.YtakmplpfjcddiaaGreatDoor
open Go.ChangeShapes Go.WideShapes Go.ChangeAt Go.RowKit
theorem fn_laid_met (os : Os) (args : Array Value) : laidMetH Tryz.prog Rows.fsysNoneRow.laid ((laidWorld os).forCall (fun _ _ => 0) ⟨#[], args, []⟩).memory := by
  have h : laidMet Tryz.prog Rows.fsysNoneRow.laid ((laidWorld os).forCall (fun _ _ => 0) ⟨#[], args, []⟩).memory := laidMet_of_run' 8 (by kernel_rfl) (by kernel_rfl)
  exact h
theorem fn_witness (os : Os) {H : Type} (enc : TypeId × Value → H) :
    (OpenSpec.ofChange Rows.fsysNoneSpec).preRow enc Tryz.prog Tryz.f4 Rows.fsysNoneRow.domain false Rows.fsysNoneRow.laid ((laidWorld os).forCall (fun _ _ => 0) ⟨#[], #[.string ⟨#[]⟩, .int .i64 0], []⟩).memory #[.string ⟨#[]⟩, .int .i64 0] := by
  have hw : (DataW.whole enc Tryz.prog ((laidWorld os).forCall (fun _ _ => 0) ⟨#[], #[.string ⟨#[]⟩, .int .i64 0], []⟩).memory Tryz.f4.params.toList (OpenSpec.ofChange Rows.fsysNoneSpec).vars false (#[.string ⟨#[]⟩, .int .i64 0] : Array Value).toList 8).map (fun x => (x.1, x.2.1)) = some ([.lit (.string []), .lit (.int .i64 0)], []) := by kernel_rfl
  obtain ⟨⟨x1, x2, x3⟩, hx, hx1⟩ := Option.map_eq_some_iff.1 hw
  simp only [Prod.mk.injEq] at hx1
  obtain ⟨rfl, rfl⟩ := hx1
  exact OpenSpec.preRow_of_cond 8 hx (by kernel_rfl) (fun k hk => by cases hk) (by kernel_rfl) (fn_laid_met os _)
set_option maxRecDepth 100000 in
set_option maxHeartbeats 2000000 in
theorem fn_lifted (os : Os) (started : os.Started) (H : Type) (enc : TypeId × Value → H) (F : Stop.Interp) :
    ReturnsInHanded {} Tryz.checked os 4 .any ((OpenSpec.ofChange Rows.fsysNoneSpec).preRow enc Tryz.prog Tryz.f4 Rows.fsysNoneRow.domain false Rows.fsysNoneRow.laid) (((OpenSpec.ofChange Rows.fsysNoneSpec).at F).post enc Tryz.prog Tryz.f4 false true false false) := by
  refine returnsInHanded_of_row (C := Tryz.checked) (s := OpenSpec.ofChange Rows.fsysNoneSpec) own started (by kernel_rfl) Tryz.func4
    (witness_row_atRef (enc := enc) (C := Tryz.checked) false (laidWorld os) #[.string ⟨#[]⟩, .int .i64 0] rfl (by kernel_rfl) (by kernel_rfl) (by kernel_rfl) (fn_witness os enc)) ?_
  intro W base args ds gs before hval0 hW _ hcond hsz0 hL hsh _
  have hsz : (DataW.weightsEach Tryz.prog (Tryz.f4.params.toList ++ (OpenSpec.ofChange Rows.fsysNoneSpec).bare.plain.varTypes Tryz.prog) (ds ++ gs)).all (· ≤ reachBytes) = true := hsz0
  clear hsz0
  have hval : ∀ (j : Nat) t v, Tryz.f4.params[j]? = some t → args[j]? = some v → Value.okWide Tryz.prog W .any base t v := hval0
  have hW' := hW
  obtain ⟨p, q, hA0, hV0, rfl, _, _⟩ := hW
  have hA : DataW.TrodAll enc Tryz.prog W 0 (fun _ => true) true Tryz.f4.params.toList args.toList ds p := hA0
  rw [Tryz.params4] at hA hval hsz
  obtain ⟨v0, v1, d0, d1, p0, p1, rfl, rfl, rfl, h0, h1⟩ := trodAll_two hA
  obtain ⟨rfl, rfl⟩ := trodVars_none hV0
  obtain ⟨s0, rfl⟩ := okWide_string Tryz.underlying9 (hval 0 9 v0 rfl rfl)
  obtain ⟨z1, rfl⟩ := okWide_int Tryz.underlying3 (hval 1 3 v1 rfl rfl)
  have h0k := h0
  have h1k := h1
  clear hA0 hV0 hval0
  simp only [List.append_nil] at hW' hsz
  have hlt0 : ∀ x ∈ p0, x.block < W.heap.size := fun x hx => by simpa using hW'.lt x (by simp [hx])
  have hlt1 : ∀ x ∈ p1, x.block < W.heap.size := fun x hx => by simpa using hW'.lt x (by simp [hx])
  have hwalk := fsysNone_any s0.data.toList z1  W (maxOk hsh) 
  simp only [bs_of] at hwalk
  refine hwalk.mono ?_
  rintro e W' ⟨rfl, bel⟩
  have e1 : ((OpenSpec.ofChange Rows.fsysNoneSpec).at F).fn H ([d0, d1] ++ []) = { results := [.lit (.bool true)], args := [d0, d1] } := rfl
  refine ⟨_, rfl, _, _, _, [], (p0 ++ p1), [], hW', ?_, ?_, ?_, bel.frame _, fun h => by cases h⟩
  · rw [e1]; exact trodAll_mk1 (shut_bool Tryz.underlying4 true)
  · rw [e1]; exact trodAll_mk2 (Below.trod laidOut (by kernel_rfl) (of_decide_eq_true (by kernel_rfl)) h0k bel hlt0) (Below.trod laidOut (by kernel_rfl) (of_decide_eq_true (by kernel_rfl)) h1k bel hlt1)
  · rw [e1]; rfl
theorem fn_fact_inPlace : (Rows.fsysNoneRow.inPlace == Tryz.prog.inPlace 4) = true := by kernel_rfl
theorem fn_fact_unfollowed : (Rows.fsysNoneRow.unfollowed == Tryz.prog.unfollowed 4) = true := by kernel_rfl
theorem fn_fact_recurses : (Rows.fsysNoneRow.recurses == Tryz.prog.recurses 4) = true := by kernel_rfl
theorem fn_fact_named : (Rows.fsysNoneRow.named == Tryz.prog.varsNamed 4) = true := by kernel_rfl
theorem fn_facts : joinedFacts Tryz.prog 4 Tryz.f4 (OpenSpec.ofChange Rows.fsysNoneSpec).bare Rows.fsysNoneRow = true := by
  unfold joinedFacts
  rw [fn_fact_inPlace, fn_fact_unfollowed, fn_fact_recurses, fn_fact_named]
  kernel_rfl
theorem fn_holds : Rows.FsysNoneSaid :=
  OpenClaim.holds_of_cond 4 Tryz.f4 rfl rfl rfl rfl rfl rfl rfl ⟨rfl, rfl, rfl, rfl, rfl⟩ rfl rfl rfl rfl rfl (by kernel_rfl) Tryz.func4 fn_facts
    (of_decide_eq_true (by kernel_rfl)) (by unfold Func.isWrapper; rw [if_neg (of_decide_eq_false (by kernel_rfl))]; exact ⟨rfl, rfl⟩)
    (fun os started H enc _ F0 => by rw [OpenClaim.pre_eq_preRow]; exact fn_lifted os started H enc F0)
end Go.Proofs.YtakmplpfjcddiaaGreatDoor

namespace Go.Proofs.YtakmplpfjcddiaaGreatDoor
open Go
theorem fn_cw : Rows.fsysNoneRow.wfByText (OpenSpec.ofChange Rows.fsysNoneSpec) = true := by kernel_rfl
theorem fn_cm : Tryz.prog.mainIs = some (true, "839e26d39717ec418e75e85fe60db0d113e9cde35d99f954c8d1811f8d0ace05".toList) := by kernel_rfl
theorem fn_cl : true = Tryz.prog.looks [] := by kernel_rfl
theorem fn_cg : false = Rows.fsysNoneRow.goesBy Tryz.prog := by kernel_rfl
theorem fn_card : Rows.FsysNoneCardSaid :=
  Claim7.holds_tied_plain_at .later [] [.data, .pinned] true (true, "839e26d39717ec418e75e85fe60db0d113e9cde35d99f954c8d1811f8d0ace05") true
    fn_holds (fun _ h => by cases h) fn_cw (fun _ h => by cases h) fsysNone_row_tie rfl ⟨rfl, rfl⟩ fn_cm rfl
    (fun f fn hf hfn => by
      obtain rfl : f = 4 := Option.some.inj ((show Tryz.prog.funcNamed "dunnage/dunnagelaw08.FsysNone" = some 4 by kernel_rfl).symm.trans hf) |>.symm
      obtain rfl : fn = Tryz.f4 := (Option.some.inj (Tryz.func4.symm.trans hfn)).symm
      exact ⟨fn_cl, fun j t ht => by
        rw [Tryz.params4] at ht
        have h3 : t = 9 ∨ t = 3 := by
          rcases j with _ | _ | j
          · have h := ht.symm; simp at h; simp [h]
          · have h := ht.symm; simp at h; simp [h]
          · simp at ht
        rcases h3 with rfl | rfl
        · exact (show Tryz.prog.wantsStandIn 9 = false by kernel_rfl)
        · exact (show Tryz.prog.wantsStandIn 3 = false by kernel_rfl)⟩)
    fn_cg
end Go.Proofs.YtakmplpfjcddiaaGreatDoor
