/-
  Changes in memory; the walks over slices.ContainsFunc at union.Apply's question whether each may be one.
-/
import Derived.Test.YtjolgckkoidhgaaGreatDoorNodes
namespace Go.Proofs.YtjolgckkoidhgaaGreatDoor
open Go.RowKit Go.Shelf Pa
attribute [local go_sem] bs_toList bs_size

/-- The seven cells of a change. -/
structure ChCells (w : World) (b o : Nat) (c : Ch) (dv : Value) : Prop where
  c0 : w.cell? ⟨b, o, none⟩ = some (.int .i64 c.kind)
  c1 : w.cell? ⟨b, o + 1, none⟩ = some (.string (bs c.path))
  c2 : w.cell? ⟨b, o + 2, none⟩ = some (.string (bs c.name))
  c3 : w.cell? ⟨b, o + 3, none⟩ = some (.int .i64 c.nkind)
  c4 : w.cell? ⟨b, o + 4, none⟩ = some (.int .i64 c.mode)
  c5 : w.cell? ⟨b, o + 5, none⟩ = some (.string (bs c.link))
  c6 : w.cell? ⟨b, o + 6, none⟩ = some dv

/-- A slice of changes below a block. -/
def ChsAt (w : World) (B : Nat) (v : Value) (cs : List Ch) : Prop :=
  ∃ A n, v = .slice A cs.length n ∧ (cs.length ≤ n ∧ cs.length ≤ 140737488355328) ∧ (cs ≠ [] → ∃ b o, A = some ⟨b, o, none⟩ ∧ b < B ∧ ∀ i c, cs[i]? = some c → ∃ dv, BytesAt w B dv c.data ∧ ChCells w b (o + i * 7) c dv)

theorem ChCells.keep {w w' : World} {b o : Nat} {c : Ch} {dv : Value} (h : ChCells w b o c dv) (hb : ∀ i, w'.cell? ⟨b, i, none⟩ = w.cell? ⟨b, i, none⟩) : ChCells w' b o c dv :=
  ⟨(hb _).trans h.c0, (hb _).trans h.c1, (hb _).trans h.c2, (hb _).trans h.c3, (hb _).trans h.c4, (hb _).trans h.c5, (hb _).trans h.c6⟩
theorem ChsAt.keep {w w' : World} {B : Nat} {v : Value} {cs : List Ch} (h : ChsAt w B v cs) (hb : ∀ b o, b < B → w'.cell? ⟨b, o, none⟩ = w.cell? ⟨b, o, none⟩) : ChsAt w' B v cs := by
  obtain ⟨A, n, e, hc, h⟩ := h
  refine ⟨A, n, e, hc, fun hn => ?_⟩
  obtain ⟨b, o, e, hB, h⟩ := h hn
  refine ⟨b, o, e, hB, fun i c hi => ?_⟩
  obtain ⟨dv, h1, h2⟩ := h i c hi
  exact ⟨dv, h1.keep hb, h2.keep (fun i => hb b i hB)⟩
theorem ChsAt.below {w w' : World} {B : Nat} {v : Value} {cs : List Ch} (h : ChsAt w B v cs) (hb : Below B w w') : ChsAt w' B v cs := h.keep fun b o hB => hb.cell (p := ⟨b, o, none⟩) hB
theorem ChsAt.more {w : World} {B B' : Nat} {v : Value} {cs : List Ch} (h : ChsAt w B v cs) (hB : B ≤ B') : ChsAt w B' v cs := by
  obtain ⟨A, n, e, hc, h⟩ := h
  refine ⟨A, n, e, hc, fun hn => ?_⟩
  obtain ⟨b, o, e, hb, h⟩ := h hn
  refine ⟨b, o, e, by omega, fun i c hi => ?_⟩
  obtain ⟨dv, h1, h2⟩ := h i c hi
  exact ⟨dv, h1.more hB, h2⟩

set_option maxHeartbeats 1000000 in
theorem notMay_any (c : Ch) (A : Option Addr) (cp : Nat) (w : World) (hm : MaxOk w) :
    Calls Tryz.prog 68 #[chV c (.slice A c.data.length cp)] w fun e w' => e = .returned (.bool (!mayC c)) ∧ Below w.heap.size w w' := by
  have hB1 : Below w.heap.size w (w.alloc (.cells #[.int .i64 c.kind, .string (bs c.path), .string (bs c.name), .int .i64 c.nkind, .int .i64 c.mode, .string (bs c.link), .slice A c.data.length cp] 53)) := (Below.refl _ _).alloc (Nat.le_refl _) _
  have hmay := may_any c A cp _ (hm.grow hB1)
  have HMay := Lib.hid hmay
  clear hmay hm
  unfold chV at *
  go_enter Tryz.func68, Tryz.ntmps68
  go_wp2_with fail
  refine HMay.out.mono ?_
  rintro e w' ⟨rfl, hb⟩
  have hbb := hB1.trans (hb.mono hB1.size)
  go_wp2
  go_ret
  exact ⟨rfl, hbb⟩

set_option maxRecDepth 100000 in
set_option maxHeartbeats 1000000 in
theorem indexFunc_any (cs : List Ch) (v : Value) (w : World) (hm : MaxOk w) (hcs : ChsAt w w.heap.size v cs) :
    Calls Tryz.prog 105 #[v, .func (.func 68) #[] #[]] w fun e w' => ∃ r : Int, e = .returned (.int .i64 r) ∧ (decide (0 ≤ r) = !cs.all mayC) ∧ Below w.heap.size w w' := by
  obtain ⟨A, cp, rfl, ⟨hc, hlen⟩, hf⟩ := hcs
  have HF := Lib.hid hf
  have HM := Lib.hid hm
  clear hf hm
  go_enter Tryz.func105, Tryz.ntmps105
  go_wp2_with fail
  go_loopg [8] cs.length (fun g i wx => ∃ k : Nat, i = .int .i64 k ∧ g = cs.length - k ∧ k ≤ cs.length ∧ (cs.take k).all mayC = true ∧ Below w.heap.size w wx)
  case atStart => exact ⟨0, rfl, rfl, Nat.zero_le _, rfl, Below.refl _ _⟩
  case round =>
    obtain ⟨k, rfl, rfl, hk, hall, hb⟩ := hrel
    obtain ⟨wx, rfl⟩ : ∃ wx, wx = wr := ⟨_, rfl⟩
    have HAll := Lib.hid hall
    clear hall
    by_cases hlt : k < cs.length
    · have hlt' : decide ((k : Int) < (cs.length : Int)) = true := by simp; omega
      obtain ⟨b, o, rfl, hB, hn⟩ := HF.out (by rintro rfl; simp at hlt)
      obtain ⟨c, hck⟩ : ∃ c, cs[k]? = some c := ⟨_, List.getElem?_eq_getElem hlt⟩
      obtain ⟨dv, hdv, hcells⟩ := hn k c hck
      obtain ⟨A', c', rfl, hc', _⟩ := id hdv
      have hcw := hcells.keep (fun i => hb.cell (p := ⟨b, i, none⟩) hB)
      have k0 := hcw.c0
      have k1 := hcw.c1
      have k2 := hcw.c2
      have k3 := hcw.c3
      have k4 := hcw.c4
      have k5 := hcw.c5
      have k6 := hcw.c6
      have hmay := notMay_any c A' c' wx (HM.out.grow hb)
      unfold chV at hmay
      have htk : (cs.take (k + 1)).all mayC = mayC c := by
        have h1 := List.take_succ_eq_append_getElem hlt
        rw [h1, (List.getElem?_eq_some_iff.1 hck).2, List.all_append, HAll.out]
        simp
      have HTk := Lib.hid htk
      have HMay := Lib.hid hmay
      have HCk := Lib.hid hck
      clear hmay htk hcw hcells hdv hn hck
      go_wp2_with fail
      refine HMay.out.mono ?_
      rintro e w' ⟨rfl, hb'⟩
      have hb2 := hb.trans (hb'.mono hb.size)
      cases hmc : mayC c with
      | true =>
        have hall2 : (cs.take (k + 1)).all mayC = true := HTk.out.trans hmc
        have HA2 := Lib.hid hall2
        clear hall2 k0 k1 k2 k3 k4 k5 k6 hb' hb hmc
        go_wp2
        go_roundg (cs.length - (k + 1))
        case measure => omega
        case rel => exact ⟨k + 1, by go_num, rfl, hlt, HA2.out, hb2⟩
      | false =>
        have hno : cs.all mayC = false := by
          cases h : cs.all mayC with
          | false => rfl
          | true =>
            have := List.all_eq_true.1 h c (List.mem_of_getElem? HCk.out)
            rw [hmc] at this; cases this
        have HNo := Lib.hid hno
        clear hno k0 k1 k2 k3 k4 k5 k6 hb' hb hmc
        go_wp2
        go_ret
        exact ⟨_, rfl, by rw [HNo.out]; simp, hb2⟩
    · have hlt' : decide ((k : Int) < (cs.length : Int)) = false := by simp; omega
      have hfin : cs.all mayC = true := by
        have h := HAll.out
        rw [List.take_of_length_le (by omega)] at h
        exact h
      have HFin := Lib.hid hfin
      clear hfin
      go_wp2
      go_ret
      exact ⟨_, rfl, by rw [HFin.out]; rfl, hb⟩

set_option maxHeartbeats 1000000 in
theorem containsFunc_any (cs : List Ch) (v : Value) (w : World) (hm : MaxOk w) (hcs : ChsAt w w.heap.size v cs) :
    Calls Tryz.prog 67 #[v, .func (.func 68) #[] #[]] w fun e w' => e = .returned (.bool (!cs.all mayC)) ∧ Below w.heap.size w w' := by
  have hi := indexFunc_any cs v w hm hcs
  have HI := Lib.hid hi
  clear hi hm hcs
  go_enter Tryz.func67, Tryz.ntmps67
  go_wp2_with fail
  refine HI.out.mono ?_
  rintro e w' ⟨r, rfl, hr, hb⟩
  have HR := Lib.hid hr
  clear hr
  go_wp2
  go_ret
  exact ⟨ret_bool HR.out, hb⟩

set_option maxHeartbeats 1000000 in
/-- union.Right. -/
theorem rightL_any (l : List Nd) (v : Value) (w : World) (hm : MaxOk w) (hl : NodesAt w w.heap.size v l) :
    Calls Tryz.prog 8 #[v] w fun e w' => e = .returned (.bool (Pa.treeOf l).isSome) ∧ Below w.heap.size w w' := by
  have ht := treeOf_any l v w hm hl
  have HT := Lib.hid ht
  clear ht hm hl
  go_enter Tryz.func8, Tryz.ntmps8
  go_wp2_with fail
  refine HT.out.mono ?_
  rintro e w' ⟨hb, hp⟩
  cases hto : Pa.treeOf l with
  | none =>
    rw [hto] at hp
    simp only at hp
    subst hp
    go_wp2
    go_ret
    exact ⟨ret_bool (by rw [hto]; rfl), hb⟩
  | some T =>
    rw [hto] at hp
    simp only at hp
    obtain ⟨rfl, _⟩ := hp
    go_wp2
    go_ret
    exact ⟨ret_bool (by rw [hto]; rfl), hb⟩

end Go.Proofs.YtjolgckkoidhgaaGreatDoor
