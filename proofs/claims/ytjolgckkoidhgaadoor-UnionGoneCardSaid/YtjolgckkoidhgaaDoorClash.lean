/-
  The walk over the law package's clash: does one of some paths lie below another one?
-/
import Derived.Test.YtjolgckkoidhgaaDoorSameN
namespace Go.Proofs.YtjolgckkoidhgaaDoor
open Go.RowKit Go.Shelf Pa
attribute [local go_sem] bs_toList bs_size

set_option maxRecDepth 100000 in
set_option maxHeartbeats 4000000 in
theorem clash_any (cs : List Ch) (v : Value) (B : Nat) (w : World) (h : ChsAt w B v cs) :
    Calls Tryd.prog 11 #[v] w fun e w' => ∃ s, e = .returned (.bool s) ∧ (s = false → ∀ c ∈ cs, ∀ d ∈ cs, belowR c.path d.path = false) ∧ ∃ n, w' = w.drewN n := by
  obtain ⟨A, ca, rfl, ⟨hca, hla⟩, hfa⟩ := h
  have HA := Lib.hid hfa
  clear hfa
  go_enter Tryd.func11, Tryd.ntmps11
  go_wp2_with fail
  go_loopg [3] cs.length (fun g i wx => ∃ k : Nat, i = .int .i64 k ∧ g = cs.length - k ∧ k ≤ cs.length ∧ (∀ c ∈ cs.take k, ∀ d ∈ cs, belowR c.path d.path = false) ∧ ∃ n, wx = w.drewN n)
  case atStart => exact ⟨0, rfl, rfl, Nat.zero_le _, fun c hc => by simp at hc, 0, rfl⟩
  case round =>
    obtain ⟨k, rfl, rfl, hk, hall, nd, hw⟩ := hrel
    have HW := Lib.hid hw
    have HAll := Lib.hid hall
    clear hw hall
    by_cases hlt : k < cs.length
    · have hlt' : decide ((k : Int) < (cs.length : Int)) = true := by simp; omega
      obtain ⟨b, o, rfl, _, hx⟩ := HA.out (by rintro rfl; simp at hlt)
      have hg1 := List.getElem?_eq_getElem hlt
      generalize cs[k] = c at hg1
      have HX := Lib.hid hx
      have HG1 := Lib.hid hg1
      clear hx hg1
      go_wp2_with fail
      go_loopg [4] cs.length (fun g i wx => ∃ j : Nat, i = .int .i64 j ∧ g = cs.length - j ∧ j ≤ cs.length ∧ (∀ d ∈ cs.take j, belowR c.path d.path = false) ∧ ∃ n, wx = w.drewN n)
      case atStart => exact ⟨0, rfl, rfl, Nat.zero_le _, fun d hd => by simp at hd, nd, HW.out⟩
      case round =>
        obtain ⟨j, rfl, rfl, hj, hin, nj, hwj⟩ := hrel
        have HWj := Lib.hid hwj
        have HIn := Lib.hid hin
        clear hwj hin
        by_cases hjl : j < cs.length
        · have hjl' : decide ((j : Int) < (cs.length : Int)) = true := by simp; omega
          have hg2 := List.getElem?_eq_getElem hjl
          generalize cs[j] = d at hg2
          obtain ⟨dc, _, cc⟩ := HX.out k c HG1.out
          obtain ⟨dd, _, cd⟩ := HX.out j d hg2
          have p1 : wr.cell? ⟨b, o + k * 7 + 1, none⟩ = some (.string (bs c.path)) := by rw [HWj.out]; exact cc.c1
          have q1 : wr.cell? ⟨b, o + j * 7 + 1, none⟩ = some (.string (bs d.path)) := by rw [HWj.out]; exact cd.c1
          have hsb : ∀ i, Calls Tryd.prog 12 #[.string (bs c.path), .string (bs d.path)] (wr.drewN i) fun e w'' => e = .returned (.bool (belowR c.path d.path)) ∧ ∃ q, w'' = wr.drewN q := fun i =>
            (belowR_any c.path d.path (wr.drewN i)).mono fun e w'' ⟨he, q, hw⟩ => ⟨he, i + q, by rw [hw]; exact World.drewN_drewN _ _ _⟩
          have HG2 := Lib.hid hg2
          clear cc cd hg2
          cases hbr : belowR c.path d.path with
          | true =>
            rw [hbr] at hsb
            go_wp2_with fail
            go_quiet ((go_at_call 12; exact hsb _))
            go_wp2_with fail
            go_ret
            exact ⟨_, rfl, (fun h => by cases h), nj + nq, by rw [HWj.out]; exact World.drewN_drewN _ _ _⟩
          | false =>
            rw [hbr] at hsb
            have hnext : ∀ x ∈ cs.take (j + 1), belowR c.path x.path = false := by
              intro x hx
              rw [List.take_succ_eq_append_getElem hjl, List.mem_append] at hx
              rcases hx with hx | hx
              · exact HIn.out x hx
              · have : x = d := by
                  have h1 := (List.getElem?_eq_some_iff.1 HG2.out).2
                  simp at hx; rw [hx, h1]
                subst this
                exact hbr
            have HNext := Lib.hid hnext
            clear hnext hbr
            go_wp2_with fail
            go_quiet ((go_at_call 12; exact hsb _))
            go_wp2_with fail
            go_roundg (cs.length - (j + 1))
            case measure => omega
            case rel => exact ⟨j + 1, by go_num, rfl, hjl, HNext.out, nj + nq, by rw [HWj.out]; exact World.drewN_drewN _ _ _⟩
        · have hjl' : decide ((j : Int) < (cs.length : Int)) = false := by simp; omega
          have hnext : ∀ x ∈ cs.take (k + 1), ∀ d ∈ cs, belowR x.path d.path = false := by
            intro x hx d hd
            rw [List.take_succ_eq_append_getElem hlt, List.mem_append] at hx
            rcases hx with hx | hx
            · exact HAll.out x hx d hd
            · have : x = c := by
                have h1 := (List.getElem?_eq_some_iff.1 HG1.out).2
                simp at hx; rw [hx, h1]
              subst this
              have h := HIn.out
              rw [List.take_of_length_le (by omega)] at h
              exact h d hd
          have HNext := Lib.hid hnext
          clear hnext
          go_wp2_with fail
          go_roundg (cs.length - (k + 1))
          case measure => omega
          case rel => exact ⟨k + 1, by go_num, rfl, hlt, HNext.out, nj, HWj.out⟩
    · have hlt' : decide ((k : Int) < (cs.length : Int)) = false := by simp; omega
      have hfin : ∀ c ∈ cs, ∀ d ∈ cs, belowR c.path d.path = false := by
        have h := HAll.out
        rw [List.take_of_length_le (by omega)] at h
        exact h
      have HFin := Lib.hid hfin
      clear hfin
      go_wp2_with fail
      go_ret
      exact ⟨_, rfl, fun _ => HFin.out, nd, HW.out⟩

end Go.Proofs.YtjolgckkoidhgaaDoor
