/-
  The walk over union.may: whether a change may be one.
-/
import Derived.Test.YtjolgckkoidhgaaGreatDoorTar
namespace Go.Proofs.YtjolgckkoidhgaaGreatDoor
open Go.RowKit Go.Shelf Pa
attribute [local go_sem] bs_toList bs_size

set_option maxHeartbeats 1000000 in
theorem may_any (c : Ch) (A : Option Addr) (cp : Nat) (w : World) (hm : MaxOk w) :
    Calls Tryz.prog 69 #[chV c (.slice A c.data.length cp)] w fun e w' => e = .returned (.bool (mayC c)) ∧ Below w.heap.size w w' := by
  have hB1 : Below w.heap.size w (w.alloc (.cells #[.int .i64 c.kind, .string (bs c.path), .string (bs c.name), .int .i64 c.nkind, .int .i64 c.mode, .string (bs c.link), .slice A c.data.length cp] 53)) := (Below.refl _ _).alloc (Nat.le_refl _) _
  have hs := split_any c.path _ (hm.grow hB1)
  have HS := Lib.hid hs
  have hlt := hm.lt
  have HM := Lib.hid hm
  clear hs hm
  unfold chV
  go_enter Tryz.func69, Tryz.ntmps69
  go_wp2_with fail
  obtain ⟨W1, hW1⟩ : ∃ W1, W1 = w.alloc (.cells #[.int .i64 c.kind, .string (bs c.path), .string (bs c.name), .int .i64 c.nkind, .int .i64 c.mode, .string (bs c.link), .slice A c.data.length cp] 53) := ⟨_, rfl⟩
  have hc : ∀ i, W1.cell? ⟨w.heap.size, i, none⟩ = #[.int .i64 c.kind, .string (bs c.path), .string (bs c.name), .int .i64 c.nkind, .int .i64 c.mode, .string (bs c.link), .slice A c.data.length cp][i]? := fun i => by
    rw [hW1, World.cell?_alloc_at _ _ _ _ rfl]
  have hz : w.heap.size < W1.heap.size := by rw [hW1]; simp
  rw [← hW1] at HS hB1 ⊢
  clear hW1
  refine HS.out.mono ?_
  rintro e w2 ⟨v, m, rfl, hb, h⟩
  have hk : ∀ i, w2.cell? ⟨w.heap.size, i, none⟩ = #[.int .i64 c.kind, .string (bs c.path), .string (bs c.name), .int .i64 c.nkind, .int .i64 c.mode, .string (bs c.link), .slice A c.data.length cp][i]? := fun i => (hb.cell (p := ⟨w.heap.size, i, none⟩) hz).trans (hc i)
  have hb2 := hB1.trans (hb.mono (Nat.le_of_lt hz))
  have hz2 : w.heap.size < w2.heap.size := Nat.lt_of_lt_of_le hz hb.size
  have k0 : w2.cell? ⟨w.heap.size, 0, none⟩ = some (.int .i64 c.kind) := hk 0
  have k1 : w2.cell? ⟨w.heap.size, 1, none⟩ = some (.string (bs c.path)) := hk 1
  have k2 : w2.cell? ⟨w.heap.size, 2, none⟩ = some (.string (bs c.name)) := hk 2
  have k3 : w2.cell? ⟨w.heap.size, 3, none⟩ = some (.int .i64 c.nkind) := hk 3
  have k4 : w2.cell? ⟨w.heap.size, 4, none⟩ = some (.int .i64 c.mode) := hk 4
  have k5 : w2.cell? ⟨w.heap.size, 5, none⟩ = some (.string (bs c.link)) := hk 5
  have k6 : w2.cell? ⟨w.heap.size, 6, none⟩ = some (.slice A c.data.length cp) := hk 6
  clear hk hc hb hB1 HS
  cases hsp : splitP c.path with
  | none =>
    rw [hsp] at h
    obtain ⟨rfl, rfl⟩ := h
    have hr : mayC c = false := by unfold mayC; rw [hsp]
    clear hsp
    go_wp2
    go_ret
    exact ⟨ret_bool hr.symm, hb2⟩
  | some l =>
    rw [hsp] at h
    obtain ⟨rfl, A', c', rfl, _, _⟩ := h
    have hr := mayC_some hsp
    have HR := Lib.hid hr
    have hmw2 : MaxOk w2 := HM.out.grow hb2
    have HM2 := Lib.hid hmw2
    clear hsp hr hmw2 HM
    have hT0 := tarRight_any c.nkind c.mode c.link c.data A cp
    have hT1 := tarRight_any c.nkind c.mode [116, 111] c.data A cp
    have HT0 := Lib.hid hT0
    have HT1 := Lib.hid hT1
    clear hT0 hT1
    go_wp2_with fail
    · have h3 : (c.kind == 3) = true := by assumption
      go_ret
      exact ⟨ret_bool (by rw [HR.out, if_pos (by simpa using h3)]), hb2⟩
    · have h3 : (c.kind == 3) = false := by assumption
      have h2 : (c.kind == 2) = true := by assumption
      go_ret
      refine ⟨ret_bool ?_, hb2⟩
      rw [HR.out, if_neg (by simpa using h3), if_pos (by simpa using h2)]
      cases l <;> simp
    · -- a hard link
      have h3 : (c.kind == 3) = false := by assumption
      have h2 : (c.kind == 2) = false := by assumption
      have h1 : (c.kind == 1) = true := by assumption
      have h4 : (c.nkind == 4) = true := by assumption
      have hfin := HR.out
      rw [if_neg (by simpa using h3), if_neg (by simpa using h2), if_pos (by simpa using h1), if_pos (by simpa using h4), if_pos (by simpa using h4)] at hfin
      have HF := Lib.hid hfin
      have H4 := Lib.hid h4
      clear hfin h3 h2 h1 h4
      have hB3 : Below w2.heap.size w2 (w2.alloc (.cells #[.string (bs c.name), .int .i64 c.nkind, .int .i64 c.mode, .string (bs c.link), .slice A c.data.length cp] 50)) := (Below.refl _ _).alloc (Nat.le_refl _) _
      obtain ⟨W3, hW3⟩ : ∃ W3, W3 = w2.alloc (.cells #[.string (bs c.name), .int .i64 c.nkind, .int .i64 c.mode, .string (bs c.link), .slice A c.data.length cp] 50) := ⟨_, rfl⟩
      have hc : ∀ i, W3.cell? ⟨w2.heap.size, i, none⟩ = #[.string (bs c.name), .int .i64 c.nkind, .int .i64 c.mode, .string (bs c.link), .slice A c.data.length cp][i]? := fun i => by
        rw [hW3, World.cell?_alloc_at _ _ _ _ rfl]
      have hfz : ∀ i, W3.frozen? ⟨w2.heap.size, i, none⟩ = false := fun i => by
        rw [hW3]; simp [go_sem]
      have hz3 : w2.heap.size < W3.heap.size := by rw [hW3]; simp
      rw [← hW3] at hB3 ⊢
      clear hW3
      have hs2 := split_any c.link W3 (HM2.out.grow hB3)
      refine hs2.mono ?_
      rintro e w4 ⟨v, m, rfl, hb4, h⟩
      have hB4 := hB3.trans (hb4.mono (Nat.le_of_lt hz3))
      have q0 : w4.cell? ⟨w2.heap.size, 0, none⟩ = some (.string (bs c.name)) := (hb4.cell (p := ⟨w2.heap.size, 0, none⟩) hz3).trans (hc 0)
      have q1 : w4.cell? ⟨w2.heap.size, 1, none⟩ = some (.int .i64 c.nkind) := (hb4.cell (p := ⟨w2.heap.size, 1, none⟩) hz3).trans (hc 1)
      have q2 : w4.cell? ⟨w2.heap.size, 2, none⟩ = some (.int .i64 c.mode) := (hb4.cell (p := ⟨w2.heap.size, 2, none⟩) hz3).trans (hc 2)
      have q3 : w4.cell? ⟨w2.heap.size, 3, none⟩ = some (.string (bs c.link)) := (hb4.cell (p := ⟨w2.heap.size, 3, none⟩) hz3).trans (hc 3)
      have q4 : w4.cell? ⟨w2.heap.size, 4, none⟩ = some (.slice A c.data.length cp) := (hb4.cell (p := ⟨w2.heap.size, 4, none⟩) hz3).trans (hc 4)
      have z0 : w4.frozen? ⟨w2.heap.size, 0, none⟩ = false := (hb4.frozen (p := ⟨w2.heap.size, 0, none⟩) hz3).trans (hfz 0)
      have z3 : w4.frozen? ⟨w2.heap.size, 3, none⟩ = false := (hb4.frozen (p := ⟨w2.heap.size, 3, none⟩) hz3).trans (hfz 3)
      have r1 : w4.cell? ⟨w.heap.size, 1, none⟩ = some (.string (bs c.path)) := (hB4.cell (p := ⟨w.heap.size, 1, none⟩) hz2).trans k1
      have r2 : w4.cell? ⟨w.heap.size, 2, none⟩ = some (.string (bs c.name)) := (hB4.cell (p := ⟨w.heap.size, 2, none⟩) hz2).trans k2
      have hb5 := hb2.trans (hB4.mono (Nat.le_of_lt hz2))
      have hne : ¬ w.heap.size = w2.heap.size := by omega
      clear hc hfz k0 k1 k2 k3 k4 k5 k6 hs2
      cases hsl : splitP c.link with
      | none =>
        rw [hsl] at h
        obtain ⟨rfl, rfl⟩ := h
        have hlo : linkOk c = false := by unfold linkOk; rw [hsl]
        clear hsl
        go_wp2
        go_ret
        exact ⟨ret_bool (by rw [HF.out, hlo]; simp), hb5⟩
      | some ml =>
        rw [hsl] at h
        obtain ⟨rfl, A2, c2, rfl, _, _⟩ := h
        have hlo : linkOk c = !ml.isEmpty := by unfold linkOk; rw [hsl]
        have HL := Lib.hid hlo
        clear hsl hlo
        go_wp2_with fail
        · have hml : ((ml.length : Int) == 0) = true := by assumption
          have hml0 : ml.isEmpty = true := by rw [← len_beq]; exact hml
          go_ret
          exact ⟨ret_bool (by rw [HF.out, HL.out, hml0]; simp), hb5⟩
        · have hml : ((ml.length : Int) == 0) = false := by assumption
          have hml0 : ml.isEmpty = false := by rw [← len_beq]; exact hml
          have hnp : c.name = c.path := by assumption
          have hb6 : Below w.heap.size w ((w4.setCell ⟨w2.heap.size, 3, none⟩ (.string ⟨#[116, 111]⟩)).setCell ⟨w2.heap.size, 0, none⟩ (.string ⟨#[110, 97, 109, 101]⟩)) := (hb5.setCell (p := ⟨w2.heap.size, 3, none⟩) (Nat.le_of_lt hz2) _).setCell (p := ⟨w2.heap.size, 0, none⟩) (Nat.le_of_lt hz2) _
          have q1' : ((w4.setCell ⟨w2.heap.size, 3, none⟩ (.string ⟨#[116, 111]⟩)).setCell ⟨w2.heap.size, 0, none⟩ (.string ⟨#[110, 97, 109, 101]⟩)).cell? ⟨w2.heap.size, 1, none⟩ = some (.int .i64 c.nkind) := by go_simp
          have hz6 : w2.heap.size < ((w4.setCell ⟨w2.heap.size, 3, none⟩ (.string ⟨#[116, 111]⟩)).setCell ⟨w2.heap.size, 0, none⟩ (.string ⟨#[110, 97, 109, 101]⟩)).heap.size := by
            have := hB4.size; have := hb4.size; simp [World.setCell]; omega
          generalize (w4.setCell ⟨w2.heap.size, 3, none⟩ (.string ⟨#[116, 111]⟩)).setCell ⟨w2.heap.size, 0, none⟩ (.string ⟨#[110, 97, 109, 101]⟩) = W6 at hb6 q1' hz6 ⊢
          refine (HT1.out W6).mono ?_
          rintro e w7 ⟨m, rfl, hb7, hm⟩
          have q1'' := (hb7.cell (p := ⟨w2.heap.size, 1, none⟩) hz6).trans q1'
          have hb8 := hb6.trans (hb7.mono (by omega))
          have hfin : mayC c = (tarOk c.nkind c.mode [116, 111] c.data && !l.isEmpty) := by
            rw [HF.out, HL.out, hml0, hnp]
            have : decide (c.nkind = 2) = false := by have := H4.out; simp at this; rw [this]; rfl
            rw [this]; simp
          have HFin := Lib.hid hfin
          have hk2 : (c.nkind == 2) = false := by have := H4.out; simp at this; rw [this]; rfl
          clear q0 q1 q2 q3 q4 z0 z3 r1 r2 hml hfin q1'
          generalize tarOk c.nkind c.mode [116, 111] c.data = tb at hm HFin
          cases tb
          · go_wp2
            go_ret
            exact ⟨ret_bool (by rw [HFin.out]; rfl), hb8⟩
          · cases l with
            | nil =>
              go_wp2
              go_ret
              exact ⟨ret_bool (by rw [HFin.out]; rfl), hb8⟩
            | cons x t =>
              go_wp2
              go_ret
              exact ⟨ret_bool (by rw [HFin.out]; rfl), hb8⟩
        · have hnp : ¬ c.name = c.path := by assumption
          go_ret
          exact ⟨ret_bool (by rw [HF.out, decide_eq_false hnp]; simp), (hb5.setCell (p := ⟨w2.heap.size, 3, none⟩) (Nat.le_of_lt hz2) _).setCell (p := ⟨w2.heap.size, 0, none⟩) (Nat.le_of_lt hz2) _⟩
    · -- no hard link
      have h3 : (c.kind == 3) = false := by assumption
      have h2 : (c.kind == 2) = false := by assumption
      have h1 : (c.kind == 1) = true := by assumption
      have h4 : (c.nkind == 4) = false := by assumption
      have hnp : c.name = c.path := by assumption
      have hfin := HR.out
      rw [if_neg (by simpa using h3), if_neg (by simpa using h2), if_pos (by simpa using h1), if_neg (by simpa using h4), if_neg (by simpa using h4), decide_eq_true hnp, Bool.true_and, Bool.true_and] at hfin
      have HF := Lib.hid hfin
      clear hfin h3 h2 h1 h4
      have hb6 : Below w.heap.size w (w2.alloc (.cells #[.string ⟨#[110, 97, 109, 101]⟩, .int .i64 c.nkind, .int .i64 c.mode, .string (bs c.link), .slice A c.data.length cp] 50)) := hb2.alloc (Nat.le_of_lt hz2) _
      have q1' : (w2.alloc (.cells #[.string ⟨#[110, 97, 109, 101]⟩, .int .i64 c.nkind, .int .i64 c.mode, .string (bs c.link), .slice A c.data.length cp] 50)).cell? ⟨w2.heap.size, 1, none⟩ = some (.int .i64 c.nkind) := by go_simp
      have hz6 : w2.heap.size < (w2.alloc (.cells #[.string ⟨#[110, 97, 109, 101]⟩, .int .i64 c.nkind, .int .i64 c.mode, .string (bs c.link), .slice A c.data.length cp] 50)).heap.size := by simp
      generalize w2.alloc (.cells #[.string ⟨#[110, 97, 109, 101]⟩, .int .i64 c.nkind, .int .i64 c.mode, .string (bs c.link), .slice A c.data.length cp] 50) = W6 at hb6 q1' hz6 ⊢
      refine (HT0.out W6).mono ?_
      rintro e w7 ⟨m, rfl, hb7, hm⟩
      have q1'' := (hb7.cell (p := ⟨w2.heap.size, 1, none⟩) hz6).trans q1'
      have hb8 := hb6.trans (hb7.mono (by omega))
      clear k0 k1 k2 k3 k4 k5 k6 q1'
      generalize tarOk c.nkind c.mode c.link c.data = tb at hm HF
      cases tb
      · go_wp2
        go_ret
        exact ⟨ret_bool (by rw [HF.out]; rfl), hb8⟩
      · cases l with
        | nil =>
          go_wp2
          go_ret
          exact ⟨ret_bool (by rw [HF.out]; rfl), hb8⟩
        | cons x t =>
          go_wp2
          go_ret
          exact ⟨ret_bool (by rw [HF.out]; rfl), hb8⟩
    · have h3 : (c.kind == 3) = false := by assumption
      have h2 : (c.kind == 2) = false := by assumption
      have h1 : (c.kind == 1) = true := by assumption
      have h4 : ¬ c.name = c.path := by assumption
      go_ret
      refine ⟨ret_bool ?_, hb2.alloc (Nat.le_of_lt hz2) _⟩
      rw [HR.out, if_neg (by simpa using h3), if_neg (by simpa using h2), if_pos (by simpa using h1), decide_eq_false h4]
      simp
    · have h3 : (c.kind == 3) = false := by assumption
      have h2 : (c.kind == 2) = false := by assumption
      have h1 : (c.kind == 1) = false := by assumption
      go_ret
      exact ⟨ret_bool (by rw [HR.out, if_neg (by simpa using h3), if_neg (by simpa using h2), if_neg (by simpa using h1)]), hb2⟩
end Go.Proofs.YtjolgckkoidhgaaGreatDoor
