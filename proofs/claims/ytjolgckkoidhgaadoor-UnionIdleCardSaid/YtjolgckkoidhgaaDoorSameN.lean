/-
  The walk over the document's Same: are nodes the same?
-/
import Derived.Test.YtjolgckkoidhgaaDoorSame
namespace Go.Proofs.YtjolgckkoidhgaaDoor
open Go.RowKit Go.Shelf Pa
attribute [local go_sem] bs_toList bs_size

set_option maxRecDepth 100000 in
set_option maxHeartbeats 4000000 in
theorem same_any (l1 l2 : List Nd) (v1 v2 : Value) (B : Nat) (w : World) (h1 : NodesAt w B v1 l1) (h2 : NodesAt w B v2 l2) :
    Calls Tryd.prog 10 #[v1, v2] w fun e w' => ∃ s, e = .returned (.bool s) ∧ (l1 = l2 → s = true) ∧ ∃ n, w' = w.drewN n := by
  obtain ⟨A, ca, rfl, ⟨hca, hla⟩, hfa⟩ := h1
  obtain ⟨A2, cb, rfl, ⟨hcb, hlb⟩, hfb⟩ := h2
  have HA := Lib.hid hfa
  have HB := Lib.hid hfb
  clear hfa hfb
  by_cases hl : l1.length = l2.length
  · have hl' : ((l1.length : Int) != (l2.length : Int)) = false := by simp [hl]
    have HL := Lib.hid hl
    clear hl
    go_enter Tryd.func10, Tryd.ntmps10
    go_wp2_with fail
    go_loopg [5] l1.length (fun g i wx => ∃ k : Nat, i = .int .i64 k ∧ g = l1.length - k ∧ k ≤ l1.length ∧ ∃ n, wx = w.drewN n)
    case atStart => exact ⟨0, rfl, rfl, Nat.zero_le _, 0, rfl⟩
    case round =>
      obtain ⟨k, rfl, rfl, hk, nd, hw⟩ := hrel
      have HW := Lib.hid hw
      clear hw
      by_cases hlt : k < l1.length
      · have hlt' : decide ((k : Int) < (l1.length : Int)) = true := by simp; omega
        have hltb : k < l2.length := by rw [← HL.out]; exact hlt
        have hltI : (k : Int) < (l2.length : Int) := by omega
        obtain ⟨ba, oa, rfl, _, hxa⟩ := HA.out (by rintro rfl; simp at hlt)
        obtain ⟨bb, ob, rfl, _, hxb⟩ := HB.out (by rintro rfl; simp at hltb)
        have hg1 := List.getElem?_eq_getElem hlt
        have hg2 := List.getElem?_eq_getElem hltb
        generalize l1[k] = n at hg1
        generalize l2[k] = m at hg2
        obtain ⟨dn, hdn, cn⟩ := hxa k n hg1
        obtain ⟨dm, hdm, cm⟩ := hxb k m hg2
        have hcell : ∀ a, wr.cell? a = w.cell? a := fun a => by rw [HW.out]; rfl
        have p0 := (hcell _).trans cn.c0
        have p1 := (hcell _).trans cn.c1
        have p2 := (hcell _).trans cn.c2
        have p3 := (hcell _).trans cn.c3
        have p4 := (hcell _).trans cn.c4
        have q0 := (hcell _).trans cm.c0
        have q1 := (hcell _).trans cm.c1
        have q2 := (hcell _).trans cm.c2
        have q3 := (hcell _).trans cm.c3
        have q4 := (hcell _).trans cm.c4
        have hdn' : BytesAt wr B dn n.data := hdn.keep (fun b o _ => hcell _)
        have hdm' : BytesAt wr B dm m.data := hdm.keep (fun b o _ => hcell _)
        obtain ⟨An, en, rfl, _, _⟩ := id hdn'
        obtain ⟨Am, em, rfl, _, _⟩ := id hdm'
        have HG1 := Lib.hid hg1
        have HG2 := Lib.hid hg2
        have hsb : ∀ j, Calls Tryd.prog 13 #[.slice An n.data.length en, .slice Am m.data.length em] (wr.drewN j) fun e w'' => e = .returned (.bool (decide (n.data = m.data))) ∧ ∃ i, w'' = wr.drewN i := fun j =>
          (sameBytes_any n.data m.data _ _ B (wr.drewN j) (hdn'.keep (fun _ _ _ => rfl)) (hdm'.keep (fun _ _ _ => rfl))).mono fun e w'' ⟨he, i, hw⟩ => ⟨he, j + i, by rw [hw]; exact World.drewN_drewN _ _ _⟩
        clear hg1 hg2 hxa hxb cn cm hdn hdm hdn' hdm' hcell
        by_cases hp : n.path = m.path
        rotate_left
        have hpb : (!n.path == m.path) = true := by simpa using hp
        have hpH := Lib.hid hp
        clear hp
        have hne : l1 ≠ l2 := by
          rintro rfl
          have := Option.some.inj (HG1.out.symm.trans HG2.out)
          exact hpH.out (by rw [this])
        have HNe := Lib.hid hne
        clear hne
        go_wp2_with fail
        go_quiet ((go_at_call 13; exact hsb _))
        go_wp2_with fail
        go_ret
        exact ⟨_, rfl, fun h => absurd h HNe.out, nd + nq, by rw [HW.out]; exact World.drewN_drewN _ _ _⟩
        have hpb : (!n.path == m.path) = false := by simp [hp]
        have hpH := Lib.hid hp
        clear hp
        by_cases hkd : n.kind = m.kind
        rotate_left
        have hkdb : (n.kind != m.kind) = true := by simpa using hkd
        have hkdH := Lib.hid hkd
        clear hkd
        have hne : l1 ≠ l2 := by
          rintro rfl
          have := Option.some.inj (HG1.out.symm.trans HG2.out)
          exact hkdH.out (by rw [this])
        have HNe := Lib.hid hne
        clear hne
        go_wp2_with fail
        go_quiet ((go_at_call 13; exact hsb _))
        go_wp2_with fail
        go_ret
        exact ⟨_, rfl, fun h => absurd h HNe.out, nd + nq, by rw [HW.out]; exact World.drewN_drewN _ _ _⟩
        have hkdb : (n.kind != m.kind) = false := by simp [hkd]
        have hkdH := Lib.hid hkd
        clear hkd
        by_cases hmo : n.mode = m.mode
        rotate_left
        have hmob : (n.mode != m.mode) = true := by simpa using hmo
        have hmoH := Lib.hid hmo
        clear hmo
        have hne : l1 ≠ l2 := by
          rintro rfl
          have := Option.some.inj (HG1.out.symm.trans HG2.out)
          exact hmoH.out (by rw [this])
        have HNe := Lib.hid hne
        clear hne
        go_wp2_with fail
        go_quiet ((go_at_call 13; exact hsb _))
        go_wp2_with fail
        go_ret
        exact ⟨_, rfl, fun h => absurd h HNe.out, nd + nq, by rw [HW.out]; exact World.drewN_drewN _ _ _⟩
        have hmob : (n.mode != m.mode) = false := by simp [hmo]
        have hmoH := Lib.hid hmo
        clear hmo
        by_cases hlk : n.link = m.link
        rotate_left
        have hlkb : (!n.link == m.link) = true := by simpa using hlk
        have hlkH := Lib.hid hlk
        clear hlk
        have hne : l1 ≠ l2 := by
          rintro rfl
          have := Option.some.inj (HG1.out.symm.trans HG2.out)
          exact hlkH.out (by rw [this])
        have HNe := Lib.hid hne
        clear hne
        go_wp2_with fail
        go_quiet ((go_at_call 13; exact hsb _))
        go_wp2_with fail
        go_ret
        exact ⟨_, rfl, fun h => absurd h HNe.out, nd + nq, by rw [HW.out]; exact World.drewN_drewN _ _ _⟩
        have hlkb : (!n.link == m.link) = false := by simp [hlk]
        have hlkH := Lib.hid hlk
        clear hlk
        by_cases hda : n.data = m.data
        rotate_left
        have hdb : decide (n.data = m.data) = false := decide_eq_false hda
        rw [hdb] at hsb
        have hdaH := Lib.hid hda
        clear hda hdb
        have hne : l1 ≠ l2 := by
          rintro rfl
          have := Option.some.inj (HG1.out.symm.trans HG2.out)
          exact hdaH.out (by rw [this])
        have HNe := Lib.hid hne
        clear hne
        go_wp2_with fail
        go_quiet ((go_at_call 13; exact hsb _))
        go_wp2_with fail
        go_ret
        exact ⟨_, rfl, fun h => absurd h HNe.out, nd + nq, by rw [HW.out]; exact World.drewN_drewN _ _ _⟩
        have hdb : decide (n.data = m.data) = true := decide_eq_true hda
        rw [hdb] at hsb
        clear hda hdb
        go_wp2_with fail
        go_quiet ((go_at_call 13; exact hsb _))
        go_wp2_with fail
        go_roundg (l1.length - (k + 1))
        case measure => omega
        case rel => exact ⟨k + 1, by go_num, rfl, hlt, nd + nq, by rw [HW.out]; exact World.drewN_drewN _ _ _⟩
      · have hlt' : decide ((k : Int) < (l1.length : Int)) = false := by simp; omega
        go_wp2_with fail
        go_ret
        exact ⟨_, rfl, fun _ => rfl, nd, HW.out⟩
  · have hl' : ((l1.length : Int) != (l2.length : Int)) = true := by simp; omega
    have HL := Lib.hid hl
    clear hl
    go_enter Tryd.func10, Tryd.ntmps10
    go_wp2_with fail
    go_ret
    exact ⟨_, rfl, fun h => absurd (by rw [h]) HL.out, 0, rfl⟩

end Go.Proofs.YtjolgckkoidhgaaDoor
