/-
  The walk over the law package's live: what must be whatever is asked.
-/
import Derived.Test.YtjolgckkoidhgaaGreatDoorLaw
namespace Go.Proofs.YtjolgckkoidhgaaGreatDoor
open Go.RowKit Go.Shelf Pa
attribute [local go_sem] bs_toList bs_size

theorem chCells_of {W : World} {g o : Nat} {vs : Array Value} {t : TypeId} {fr : Nat × Nat} {c : Ch} {dv : Value} (h : W.heap[g]? = some (.cells vs t fr))
    (h0 : vs[o]? = some (.int .i64 c.kind)) (h1 : vs[o + 1]? = some (.string (bs c.path))) (h2 : vs[o + 2]? = some (.string (bs c.name))) (h3 : vs[o + 3]? = some (.int .i64 c.nkind)) (h4 : vs[o + 4]? = some (.int .i64 c.mode)) (h5 : vs[o + 5]? = some (.string (bs c.link))) (h6 : vs[o + 6]? = some dv) : ChCells W g o c dv := by
  have hc : ∀ i, W.cell? ⟨g, i, none⟩ = vs[i]? := fun i => by rw [World.cell?]; simp only [h]; rfl
  exact ⟨(hc _).trans h0, (hc _).trans h1, (hc _).trans h2, (hc _).trans h3, (hc _).trans h4, (hc _).trans h5, (hc _).trans h6⟩
theorem chsAt_one {W : World} {g : Nat} {c : Ch} {dv : Value} (hg : g < W.heap.size) (hc : ChCells W g 0 c dv) (hb : BytesAt W W.heap.size dv c.data) : ChsAt W W.heap.size (.slice (some ⟨g, 0, none⟩) 1 1) [c] := by
  refine ⟨_, 1, rfl, ⟨Nat.le_refl _, by simp⟩, fun _ => ⟨g, 0, rfl, hg, fun i d hi => ?_⟩⟩
  cases i with
  | zero =>
    have : d = c := by simpa using hi.symm
    subst this
    exact ⟨dv, hb, by simpa using hc⟩
  | succ i => simp at hi
theorem chsAt_two {W : World} {g : Nat} {c d : Ch} {dv ev : Value} (hg : g < W.heap.size) (hc : ChCells W g 0 c dv) (hd : ChCells W g 7 d ev) (hb : BytesAt W W.heap.size dv c.data) (hb2 : BytesAt W W.heap.size ev d.data) : ChsAt W W.heap.size (.slice (some ⟨g, 0, none⟩) 2 2) [c, d] := by
  refine ⟨_, 2, rfl, ⟨Nat.le_refl _, by simp⟩, fun _ => ⟨g, 0, rfl, hg, fun i x hi => ?_⟩⟩
  match i with
  | 0 =>
    have : x = c := by simpa using hi.symm
    subst this
    exact ⟨dv, hb, by simpa using hc⟩
  | 1 =>
    have : x = d := by simpa using hi.symm
    subst this
    exact ⟨ev, hb2, by simpa using hd⟩
  | i + 2 => simp at hi

theorem three_new (w : World) (a b c : Obj) : (((w.alloc a).alloc b).alloc c).heap[w.heap.size]? = some a ∧ (((w.alloc a).alloc b).alloc c).heap[w.heap.size + 1]? = some b ∧ (((w.alloc a).alloc b).alloc c).heap[w.heap.size + 1 + 1]? = some c ∧ (((w.alloc a).alloc b).alloc c).heap.size = w.heap.size + 3 ∧ Below w.heap.size w (((w.alloc a).alloc b).alloc c) := by
  refine ⟨?_, ?_, ?_, ?_, (((Below.refl _ _).alloc (Nat.le_refl _) _).alloc (by simp) _).alloc (by simp; omega) _⟩
  · rw [Below.heap_alloc _ _ _ (by simp; omega), Below.heap_alloc _ _ _ (by simp)]; exact heap_alloc_new _ _
  · rw [Below.heap_alloc _ _ _ (by simp)]
    have := heap_alloc_new (w.alloc a) b
    simpa using this
  · have := heap_alloc_new ((w.alloc a).alloc b) c
    simpa using this
  · simp
theorem two_new (w : World) (a b : Obj) : ((w.alloc a).alloc b).heap[w.heap.size]? = some a ∧ ((w.alloc a).alloc b).heap[w.heap.size + 1]? = some b ∧ ((w.alloc a).alloc b).heap.size = w.heap.size + 2 ∧ Below w.heap.size w ((w.alloc a).alloc b) := by
  refine ⟨?_, ?_, ?_, ((Below.refl _ _).alloc (Nat.le_refl _) _).alloc (by simp) _⟩
  · rw [Below.heap_alloc _ _ _ (by simp)]; exact heap_alloc_new _ _
  · have := heap_alloc_new (w.alloc a) b
    simpa using this
  · simp
theorem laysAt_two {W : World} {g : Nat} {c d : List Ch} {lv mv : Value} {t : TypeId} {fr : Nat × Nat} (hg : W.heap[g]? = some (.cells #[lv, mv] t fr)) (hc : ChsAt W W.heap.size lv c) (hd : ChsAt W W.heap.size mv d) : LaysAt W W.heap.size (.slice (some ⟨g, 0, none⟩) 2 2) [c, d] := by
  have hcell : ∀ i, W.cell? ⟨g, i, none⟩ = #[lv, mv][i]? := fun i => by rw [World.cell?]; simp only [hg]; rfl
  refine ⟨_, 2, rfl, ⟨Nat.le_refl _, by simp⟩, fun _ => ⟨g, 0, rfl, (Array.getElem?_eq_some_iff.1 hg).1, fun i x hi => ?_⟩⟩
  match i with
  | 0 =>
    have : x = c := by simpa using hi.symm
    subst this
    exact ⟨lv, hc, hcell 0⟩
  | 1 =>
    have : x = d := by simpa using hi.symm
    subst this
    exact ⟨mv, hd, hcell 1⟩
  | i + 2 => simp at hi
theorem laysAt_one {W : World} {g : Nat} {c : List Ch} {lv : Value} {t : TypeId} {fr : Nat × Nat} (hg : W.heap[g]? = some (.cells #[lv] t fr)) (hc : ChsAt W W.heap.size lv c) : LaysAt W W.heap.size (.slice (some ⟨g, 0, none⟩) 1 1) [c] := by
  have hcell : ∀ i, W.cell? ⟨g, i, none⟩ = #[lv][i]? := fun i => by rw [World.cell?]; simp only [hg]; rfl
  refine ⟨_, 1, rfl, ⟨Nat.le_refl _, by simp⟩, fun _ => ⟨g, 0, rfl, (Array.getElem?_eq_some_iff.1 hg).1, fun i x hi => ?_⟩⟩
  match i with
  | 0 =>
    have : x = c := by simpa using hi.symm
    subst this
    exact ⟨lv, hc, hcell 0⟩
  | i + 1 => simp at hi

set_option maxRecDepth 100000 in
set_option maxHeartbeats 2000000 in
theorem live_any (w : World) (hm : MaxOk w) : Calls Tryz.prog 6 #[] w fun e w' => e = .returned (.bool true) ∧ Below w.heap.size w w' := by
  have HM := Lib.hid hm
  clear hm
  go_enter Tryz.func6, Tryz.ntmps6
  go_wp2_with fail
  refine (lput_any [47, 97, 47, 102] 1 [120] (by decide) w).mono ?_
  rintro e w1 ⟨A, c, rfl, hby, hb1⟩
  have HBy := Lib.hid hby
  clear hby
  unfold chV putCh
  go_wp2_with fail
  obtain ⟨W4, hW4⟩ : ∃ W4, W4 = ((w1.alloc (.cells #[.int .i64 1, .string (bs [47, 97, 47, 102]), .string (bs [47, 97, 47, 102]), .int .i64 1, .int .i64 420, .string (bs []), .slice A 1 c] 53)).alloc
    (.cells #[.int .i64 2, .string ⟨#[47, 97]⟩, .string ⟨#[]⟩, .int .i64 0, .int .i64 0, .string ⟨#[]⟩, .slice none 0 0] 53)).alloc (.cells #[.slice (some ⟨w1.heap.size, 0, none⟩) 1 1, .slice (some ⟨w1.heap.size + 1, 0, none⟩) 1 1] 55) := ⟨_, rfl⟩
  rw [← hW4]
  obtain ⟨g0, g1, g2, gs, gb⟩ := three_new w1 (.cells #[.int .i64 1, .string (bs [47, 97, 47, 102]), .string (bs [47, 97, 47, 102]), .int .i64 1, .int .i64 420, .string (bs []), .slice A 1 c] 53) (.cells #[.int .i64 2, .string ⟨#[47, 97]⟩, .string ⟨#[]⟩, .int .i64 0, .int .i64 0, .string ⟨#[]⟩, .slice none 0 0] 53) (.cells #[.slice (some ⟨w1.heap.size, 0, none⟩) 1 1, .slice (some ⟨w1.heap.size + 1, 0, none⟩) 1 1] 55)
  rw [← hW4] at g0 g1 g2 gs gb
  have hby4 : BytesAt W4 W4.heap.size (.slice A 1 c) [120] := (HBy.out.below gb).more gb.size
  have hcc := chCells_of (o := 0) (c := putCh [47, 97, 47, 102] 1 [120]) (dv := .slice A 1 c) g0 rfl rfl rfl rfl rfl rfl rfl
  have hc1 : ChsAt W4 W4.heap.size (.slice (some ⟨w1.heap.size, 0, none⟩) 1 1) [putCh [47, 97, 47, 102] 1 [120]] := chsAt_one (by omega) hcc hby4
  have hc2 : ChsAt W4 W4.heap.size (.slice (some ⟨w1.heap.size + 1, 0, none⟩) 1 1) [⟨2, [47, 97], [], 0, 0, [], []⟩] := chsAt_one (by omega) (chCells_of (o := 0) (c := ⟨2, [47, 97], [], 0, 0, [], []⟩) (dv := .slice none 0 0) g1 rfl rfl rfl rfl rfl rfl rfl) (BytesAt.nil _ _ _ _)
  have hbw4 : Below w.heap.size w W4 := hb1.trans (gb.mono hb1.size)
  have hfold := fold_any t1 _ W4 (HM.out.grow hbw4) (laysAt_two g2 hc1 hc2)
  have HF1 := Lib.hid hfold
  have HG0 := Lib.hid g0
  have HBy4 := Lib.hid hby4
  have hlt4 : w1.heap.size < W4.heap.size := by omega
  clear hfold hcc hc1 hc2 hW4 g0 g1 g2 hby4 HBy
  refine HF1.out.mono ?_
  rintro e W5 ⟨hb5, hp5⟩
  rw [fold_t1] at hp5
  simp only at hp5
  obtain ⟨v5, rfl, hn5⟩ := hp5
  obtain ⟨A5, c5, rfl, _, _⟩ := hn5
  have hg5 : W5.heap[w1.heap.size]? = _ := (hb5.block _ hlt4).trans HG0.out
  have r : ∀ i, W5.cell? ⟨w1.heap.size, i, none⟩ = #[.int .i64 1, .string (bs [47, 97, 47, 102]), .string (bs [47, 97, 47, 102]), .int .i64 1, .int .i64 420, .string (bs []), .slice A 1 c][i]? := fun i => by rw [World.cell?]; simp only [hg5]; rfl
  have r0 : W5.cell? ⟨w1.heap.size, 0, none⟩ = some (.int .i64 1) := r 0
  have r1 : W5.cell? ⟨w1.heap.size, 1, none⟩ = some (.string (bs [47, 97, 47, 102])) := r 1
  have r2 : W5.cell? ⟨w1.heap.size, 2, none⟩ = some (.string (bs [47, 97, 47, 102])) := r 2
  have r3 : W5.cell? ⟨w1.heap.size, 3, none⟩ = some (.int .i64 1) := r 3
  have r4 : W5.cell? ⟨w1.heap.size, 4, none⟩ = some (.int .i64 420) := r 4
  have r5 : W5.cell? ⟨w1.heap.size, 5, none⟩ = some (.string (bs [])) := r 5
  have r6 : W5.cell? ⟨w1.heap.size, 6, none⟩ = some (.slice A 1 c) := r 6
  have hby5 : BytesAt W5 W5.heap.size (.slice A 1 c) [120] := (HBy4.out.below hb5).more hb5.size
  have hbw5 : Below w.heap.size w W5 := hbw4.trans (hb5.mono hbw4.size)
  have HBy5 := Lib.hid hby5
  clear r hg5 hby5 HF1 HG0 HBy4
  go_wp2_with fail
  obtain ⟨g0, g1, gs6, gb6⟩ := two_new W5 (.cells #[.int .i64 1, .string (bs [47, 97, 47, 102]), .string (bs [47, 97, 47, 102]), .int .i64 1, .int .i64 420, .string (bs []), .slice A 1 c, .int .i64 2, .string ⟨#[47, 97]⟩, .string ⟨#[]⟩, .int .i64 0, .int .i64 0, .string ⟨#[]⟩, .slice none 0 0] 53) (.cells #[.slice (some ⟨W5.heap.size, 0, none⟩) 2 2] 55)
  obtain ⟨W7, hW7⟩ : ∃ W7, W7 = (W5.alloc (.cells #[.int .i64 1, .string (bs [47, 97, 47, 102]), .string (bs [47, 97, 47, 102]), .int .i64 1, .int .i64 420, .string (bs []), .slice A 1 c, .int .i64 2, .string ⟨#[47, 97]⟩, .string ⟨#[]⟩, .int .i64 0, .int .i64 0, .string ⟨#[]⟩, .slice none 0 0] 53)).alloc (.cells #[.slice (some ⟨W5.heap.size, 0, none⟩) 2 2] 55) := ⟨_, rfl⟩
  rw [← hW7] at g0 g1 gs6 gb6 ⊢
  have hby7 : BytesAt W7 W7.heap.size (.slice A 1 c) [120] := (HBy5.out.below gb6).more gb6.size
  have hcc := chCells_of (o := 0) (c := putCh [47, 97, 47, 102] 1 [120]) (dv := .slice A 1 c) g0 rfl rfl rfl rfl rfl rfl rfl
  have hcd := chCells_of (o := 7) (c := ⟨2, [47, 97], [], 0, 0, [], []⟩) (dv := .slice none 0 0) g0 rfl rfl rfl rfl rfl rfl rfl
  have hc1 : ChsAt W7 W7.heap.size (.slice (some ⟨W5.heap.size, 0, none⟩) 2 2) [putCh [47, 97, 47, 102] 1 [120], ⟨2, [47, 97], [], 0, 0, [], []⟩] := chsAt_two (by omega) hcc hcd hby7 (BytesAt.nil _ _ _ _)
  have hbw7 : Below w.heap.size w W7 := hbw5.trans (gb6.mono hbw5.size)
  have hfold := fold_any t2 _ W7 (HM.out.grow hbw7) (laysAt_one g1 hc1)
  have HF2 := Lib.hid hfold
  clear hfold hcc hcd hc1 hW7 g0 g1 hby7 HBy5 r0 r1 r2 r3 r4 r5 r6
  refine HF2.out.mono ?_
  rintro e W8 ⟨hb8, hp8⟩
  rw [fold_t2] at hp8
  simp only at hp8
  obtain ⟨v8, rfl, hn8⟩ := hp8
  obtain ⟨A8, c8, rfl, ⟨hc8, _⟩, hn8⟩ := hn8
  obtain ⟨b8, o8, rfl, hB8, hn8⟩ := hn8 (by simp)
  obtain ⟨d1, _, q1⟩ := hn8 0 n1 rfl
  obtain ⟨d2, hd2, q2⟩ := hn8 1 n2 rfl
  have hbw8 : Below w.heap.size w W8 := hbw7.trans (hb8.mono hbw7.size)
  obtain ⟨Ad, cd, rfl, _, hd2⟩ := hd2
  obtain ⟨bd, od, rfl, _, hd2⟩ := hd2 (by decide)
  have x0 : W8.cell? ⟨b8, o8, none⟩ = some (.string (bs [47, 97])) := by have := q1.c0; simpa [n1] using this
  have x1 : W8.cell? ⟨b8, o8 + 1, none⟩ = some (.int .i64 2) := by have := q1.c1; simpa [n1] using this
  have x5 : W8.cell? ⟨b8, o8 + 5, none⟩ = some (.string (bs [47, 97, 47, 102])) := by have := q2.c0; simpa [n2] using this
  have x9 : W8.cell? ⟨b8, o8 + 5 + 4, none⟩ = some (.slice (some ⟨bd, od, none⟩) 1 cd) := by have := q2.c4; simpa [n2] using this
  have hxd : W8.cell? ⟨bd, od, none⟩ = some (.int .u8 120) := by have := hd2 0 120 rfl; simpa using this
  have hconv : (convert 43 9 (.slice (some ⟨bd, od, none⟩) 1 cd)).run Tryz.prog W8 = .ok (.string ⟨#[120]⟩) W8 := by
    have := run_convert_bytes_back (P := Tryz.prog) W8 43 9 5 ⟨bd, od, none⟩ cd [120] Tryz.underlying43 Tryz.underlying5 Tryz.underlying9 (by
      intro j hj
      have : j = 0 := by simp at hj; exact hj
      subst this
      exact hxd)
    exact this
  clear q1 q2 hn8 hd2 HF2
  go_wp2_with fail
  go_ret
  exact ⟨rfl, hbw8⟩

end Go.Proofs.YtjolgckkoidhgaaGreatDoor
