/-
  The walk over the law UnionNone: it answers true of every path.
-/
import Derived.Test.YtjolgckkoidhgaaGreatDoorLive
import Derived.Recover
namespace Go.Proofs.YtjolgckkoidhgaaGreatDoor
open Go.RowKit Go.Shelf Pa
attribute [local go_sem] bs_toList bs_size

set_option maxHeartbeats 400000 in
theorem do_nil (f : Value) (w : World) :
    Calls Tryz.prog 23 #[.pointer none, f] w fun e w' => e = .returned (.int .i64 1) ∧ w' = w.alloc (.cells #[.int .i64 1] 23) := by
  go_enter_defers Tryz.func23, Tryz.ntmps23
  go_wp2_with fail
  simp [bodyPostD, Leaves, results, Tryz.results23, go_sem]

set_option maxHeartbeats 400000 in
theorem walk_nil (p : ByteArray) (w : World) :
    Calls Tryz.prog 9 #[.pointer none, .string p] w fun e w' => e = .returned (.tuple #[.slice none 0 0, .int .i64 1]) ∧ Below w.heap.size w w' := by
  have hmf : ∀ (fn : Fn) (first cap : Array Value) (w : World), (Instr.makeFunc fn first cap).run Tryz.prog w = .ok (.func fn first cap) w := fun _ _ _ _ => rfl
  go_enter Tryz.func9, Tryz.ntmps9
  go_wp2_with (go_at_call 23; refine (do_nil _ _).mono ?_; rintro e w' ⟨rfl, rfl⟩)
  refine bodyPost_ret (v := .tuple #[.slice none 0 0, .int .i64 1]) (by simp [results, Tryz.results9, go_sem]) rfl ⟨rfl, ?_⟩
  exact ((((Below.refl w.heap.size w).alloc (Nat.le_refl _) _).alloc (by simp) _).alloc (by simp; omega) _).alloc (by simp; omega) _

set_option maxHeartbeats 400000 in
theorem tree_nil (p : ByteArray) (w : World) :
    Calls Tryz.prog 4 #[.pointer none, .string p] w fun e w' => e = .returned (.tuple #[.slice none 0 0, .int .i64 1]) ∧ Below w.heap.size w w' := by
  go_enter Tryz.func4, Tryz.ntmps4
  go_wp2_with (go_at_call 9; refine (walk_nil _ _).mono ?_; rintro e w' ⟨rfl, hb⟩)
  go_ret2
  exact ⟨rfl, hb⟩

set_option maxHeartbeats 400000 in
theorem export_nil (p : ByteArray) (w : World) :
    Calls Tryz.prog 5 #[.pointer none, .string p] w fun e w' => e = .returned (.tuple #[.slice none 0 0, .int .i64 1]) ∧ Below w.heap.size w w' := by
  go_enter Tryz.func5, Tryz.ntmps5
  go_wp2_with (go_at_call 4; refine (tree_nil _ _).mono ?_; rintro e w' ⟨rfl, hb⟩)
  go_ret2
  exact ⟨rfl, hb⟩

set_option maxHeartbeats 400000 in
theorem lay_nil (p : ByteArray) (v : Value) (w : World) :
    Calls Tryz.prog 7 #[.pointer none, .string p, v] w fun e w' => e = .returned (.int .i64 1) ∧ Below w.heap.size w w' := by
  go_enter Tryz.func7, Tryz.ntmps7
  go_wp2_with fail
  go_ret
  exact ⟨rfl, by first | exact Below.refl _ _ | exact (Below.refl _ _).alloc (Nat.le_refl _) _ | exact ((Below.refl _ _).alloc (Nat.le_refl _) _).alloc (by simp) _⟩

set_option maxHeartbeats 1000000 in
theorem unionNone_any (p : Str) (w : World) (hm : MaxOk w) :
    Calls Tryz.prog 3 #[.string (bs p)] w fun e w' => e = .returned (.bool true) ∧ Below w.heap.size w w' := by
  have HM := Lib.hid hm
  clear hm
  go_enter Tryz.func3, Tryz.ntmps3
  go_wp2_with fail
  refine (tree_nil _ _).mono ?_
  rintro e w1 ⟨rfl, hb1⟩
  go_wp2_with fail
  refine (export_nil _ _).mono ?_
  rintro e w2 ⟨rfl, hb2⟩
  have hbw2 := hb1.trans (hb2.mono hb1.size)
  have hlive := live_any w2 (HM.out.grow hbw2)
  have HLive := Lib.hid hlive
  clear hlive
  go_wp2_with fail
  refine HLive.out.mono ?_
  rintro e w3 ⟨rfl, hb3⟩
  have hbw3 := hbw2.trans (hb3.mono hbw2.size)
  go_wp2_with fail
  refine (lay_nil _ _ _).mono ?_
  rintro e w4 ⟨rfl, hb4⟩
  have hbw4 := hbw3.trans (hb4.mono hbw3.size)
  have hr := rightL_any [] (.slice none 0 0) w4 (HM.out.grow hbw4) ⟨none, 0, rfl, ⟨Nat.le_refl _, by simp⟩, fun h => absurd rfl h⟩
  rw [show (Pa.treeOf []).isSome = true from rfl] at hr
  have HR := Lib.hid hr
  clear hr
  go_wp2_with fail
  refine HR.out.mono ?_
  rintro e w5 ⟨rfl, hb5⟩
  have hbw5 := hbw4.trans (hb5.mono hbw4.size)
  go_wp2_with fail
  go_ret
  exact ⟨rfl, hbw5⟩

end Go.Proofs.YtjolgckkoidhgaaGreatDoor
