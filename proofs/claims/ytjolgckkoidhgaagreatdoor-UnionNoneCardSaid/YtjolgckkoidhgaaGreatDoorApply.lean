/-
  The walk over union.Apply: a tree behind changes.
-/
import Derived.Test.YtjolgckkoidhgaaGreatDoorBad
import Derived.Test.YtjolgckkoidhgaaGreatDoorPut
namespace Go.Proofs.YtjolgckkoidhgaaGreatDoor
open Go.RowKit Go.Shelf Pa
attribute [local go_sem] bs_toList bs_size

/-- What Apply hands back. -/
def ApplyPost (l : List Nd) (cs : List Ch) (w : World) (e : Ending) (w' : World) : Prop :=
  Below w.heap.size w w' ∧ match applyT l cs with
  | .error n => e = .returned (.tuple #[.slice none 0 0, .int .i64 n])
  | .ok T => ∃ v, e = .returned (.tuple #[v, .int .i64 0]) ∧ NodesAt w' w'.heap.size v T
theorem ApplyPost.err {l : List Nd} {cs : List Ch} {w w' : World} {n : Int} (h : applyT l cs = .error n) (hb : Below w.heap.size w w') : ApplyPost l cs w (.returned (.tuple #[.slice none 0 0, .int .i64 n])) w' := by
  refine ⟨hb, ?_⟩
  rw [h]
theorem ApplyPost.ok {l T : List Nd} {cs : List Ch} {w w' : World} {v : Value} (h : applyT l cs = .ok T) (hb : Below w.heap.size w w') (hn : NodesAt w' w'.heap.size v T) : ApplyPost l cs w (.returned (.tuple #[v, .int .i64 0])) w' := by
  refine ⟨hb, ?_⟩
  rw [h]
  exact ⟨v, rfl, hn⟩

theorem applyT_none {l : List Nd} {cs : List Ch} (h : Pa.treeOf l = none) : applyT l cs = .error 3 := by unfold applyT; rw [h]
theorem applyT_bad {l T : List Nd} {cs : List Ch} (h : Pa.treeOf l = some T) (hc : cs.all mayC = false) : applyT l cs = .error 3 := by unfold applyT; rw [h]; simp only; rw [hc]; rfl
theorem applyT_go {l T : List Nd} {cs : List Ch} (h : Pa.treeOf l = some T) (hc : cs.all mayC = true) : applyT l cs = match puts (gone T cs) cs with | .error e => .error e | .ok T' => .ok (srt T') := by unfold applyT; rw [h]; simp only; rw [hc]; rfl
theorem applyT_err {l T : List Nd} {cs : List Ch} {n : Int} (h : Pa.treeOf l = some T) (hc : cs.all mayC = true) (hp : puts (gone T cs) cs = .error n) : applyT l cs = .error n := by rw [applyT_go h hc, hp]
theorem applyT_ok {l T T' : List Nd} {cs : List Ch} (h : Pa.treeOf l = some T) (hc : cs.all mayC = true) (hp : puts (gone T cs) cs = .ok T') : applyT l cs = .ok (srt T') := by rw [applyT_go h hc, hp]

theorem chDrop {cs : List Ch} {k : Nat} {c : Ch} (h : cs[k]? = some c) : cs.drop k = c :: cs.drop (k + 1) := by
  obtain ⟨hk, e⟩ := List.getElem?_eq_some_iff.1 h
  rw [List.drop_eq_getElem_cons hk, e]

structure GoInv (w : World) (T : List Nd) (cs : List Ch) (b k : Nat) (wx : World) : Prop where
  tree : ∃ T', TreeAt wx b T' ∧ gone T' (cs.drop k) = gone T cs
  below : Below w.heap.size w wx
structure PuInv (w : World) (T : List Nd) (cs : List Ch) (b k : Nat) (wx : World) : Prop where
  tree : ∃ T', TreeAt wx b T' ∧ puts T' (cs.drop k) = puts T cs
  below : Below w.heap.size w wx

theorem may_path {c : Ch} (h : mayC c = true) : c.path.length ≤ 255 := by
  obtain ⟨l, hs, _⟩ := mayC_split h
  exact (splitP_some hs).2.2.2

set_option maxRecDepth 100000 in
set_option maxHeartbeats 4000000 in
theorem apply_any (l : List Nd) (cs : List Ch) (vl vc : Value) (w : World) (hm : MaxOk w) (hl : NodesAt w w.heap.size vl l) (hcs : ChsAt w w.heap.size vc cs) :
    Calls Tryz.prog 33 #[vl, vc] w (ApplyPost l cs w) := by
  have ht := treeOf_any l vl w hm hl
  have HT := Lib.hid ht
  have HM := Lib.hid hm
  have HC0 := Lib.hid hcs
  clear ht hm hl
  go_enter Tryz.func33, Tryz.ntmps33
  go_wp2_with fail
  refine HT.out.mono ?_
  rintro e w1 ⟨hb1, hp⟩
  cases hto : Pa.treeOf l with
  | none =>
    rw [hto] at hp
    simp only at hp
    subst hp
    have hres := ApplyPost.err (applyT_none (cs := cs) hto) hb1
    have HRes := Lib.hid hres
    clear hres hto
    go_wp2_with fail
    go_ret2
    exact HRes.out
  | some T =>
    rw [hto] at hp
    simp only at hp
    obtain ⟨rfl, hT1⟩ := hp
    have HT1 := Lib.hid hT1
    have HTo := Lib.hid hto
    have hcon := containsFunc_any cs vc w1 (HM.out.grow hb1) ((hcs.below hb1).more hb1.size)
    have HCon := Lib.hid hcon
    clear hT1 hto hcon hcs HT
    go_wp2_with fail
    refine HCon.out.mono ?_
    rintro e w2 ⟨rfl, hb2⟩
    have hbw2 := hb1.trans (hb2.mono hb1.size)
    cases hall : cs.all mayC with
    | false =>
      have hres := ApplyPost.err (applyT_bad HTo.out hall) hbw2
      have HRes := Lib.hid hres
      clear hres hall
      go_wp2_with fail
      go_ret2
      exact HRes.out
    | true =>
      have HAll := Lib.hid hall
      have hT2 : TreeAt w2 w.heap.size T := HT1.out.grow hb2
      have HT2 := Lib.hid hT2
      obtain ⟨A, cp, rfl, ⟨hcl, hlen⟩, hf⟩ := id HC0.out
      have HF := Lib.hid hf
      clear hall hT2 hf HCon HT1
      go_wp2_with fail
      go_loopg [26] cs.length (fun g i wx => ∃ k : Nat, i = .int .i64 k ∧ g = cs.length - k ∧ k ≤ cs.length ∧ GoInv w T cs w.heap.size k wx)
      case atStart => exact ⟨0, rfl, rfl, Nat.zero_le _, ⟨T, HT2.out, rfl⟩, hbw2⟩
      case round =>
        obtain ⟨k, rfl, rfl, hk, hI⟩ := hrel
        obtain ⟨wx, rfl⟩ : ∃ wx, wx = wr := ⟨_, rfl⟩
        have HI := Lib.hid hI
        clear hI
        by_cases hlt : k < cs.length
        · have hlt' : decide ((k : Int) < (cs.length : Int)) = true := by simp; omega
          obtain ⟨b, o, rfl, hB, hn⟩ := HF.out (by rintro rfl; simp at hlt)
          obtain ⟨c, hck⟩ : ∃ c, cs[k]? = some c := ⟨_, List.getElem?_eq_getElem hlt⟩
          obtain ⟨dv, hdv, hcells⟩ := hn k c hck
          obtain ⟨A', c', rfl, hc', _⟩ := id hdv
          have hb := HI.out.below
          have hcw := hcells.keep (fun i => hb.cell (p := ⟨b, i, none⟩) hB)
          have k0 := hcw.c0
          have k1 := hcw.c1
          have k2 := hcw.c2
          have k3 := hcw.c3
          have k4 := hcw.c4
          have k5 := hcw.c5
          have k6 := hcw.c6
          have hmc : mayC c = true := List.all_eq_true.1 HAll.out c (List.mem_of_getElem? hck)
          have hpl := may_path hmc
          obtain ⟨T', hT', hgo⟩ := HI.out.tree
          rw [chDrop hck, gone] at hgo
          have HGo := Lib.hid hgo
          have hb3 : Below wx.heap.size wx (wx.alloc (.cells #[.int .i64 c.kind, .string (bs c.path), .string (bs c.name), .int .i64 c.nkind, .int .i64 c.mode, .string (bs c.link), .slice A' c.data.length c'] 53)) := (Below.refl _ _).alloc (Nat.le_refl _) _
          have hT3 := hT'.grow hb3
          have hbw3 := hb.trans (hb3.mono hb.size)
          have HT3 := Lib.hid hT3
          clear hcw hcells hdv hn hck hmc hT' hgo hT3
          cases hk1 : (c.kind == 1) with
          | true =>
            have hI3 : GoInv w T cs w.heap.size (k + 1) _ := ⟨⟨T', HT3.out, by have h := HGo.out; rw [if_pos (by simpa using hk1)] at h; exact h⟩, hbw3⟩
            have HI3 := Lib.hid hI3
            clear hI3
            go_wp2_with fail
            go_roundg (cs.length - (k + 1))
            case measure => omega
            case rel => exact ⟨k + 1, by go_num, rfl, hlt, HI3.out⟩
          | false =>
            go_wp2_with fail
            obtain ⟨W3, hW3⟩ : ∃ W3, W3 = wx.alloc (.cells #[.int .i64 c.kind, .string (bs c.path), .string (bs c.name), .int .i64 c.nkind, .int .i64 c.mode, .string (bs c.link), .slice A' c.data.length c'] 53) := ⟨_, rfl⟩
            have q0 : W3.cell? ⟨wx.heap.size, 0, none⟩ = some (.int .i64 c.kind) := by rw [hW3]; go_simp
            have q1 : W3.cell? ⟨wx.heap.size, 1, none⟩ = some (.string (bs c.path)) := by rw [hW3]; go_simp
            have hz3 : wx.heap.size < W3.heap.size := by rw [hW3]; simp
            rw [← hW3] at HT3 hbw3 ⊢
            clear hW3 hb3 k0 k1 k2 k3 k4 k5 k6
            have hbl := below_any c.path W3 (by omega)
            refine hbl.mono ?_
            rintro e w' ⟨rfl, hw⟩
            subst hw
            have hb4 : Below W3.heap.size W3 (W3.alloc (.cells #[.string (bs (topOf c.path))] 9)) := (Below.refl _ _).alloc (Nat.le_refl _) _
            have hx : (W3.alloc (.cells #[.string (bs (topOf c.path))] 9)).cell? ⟨W3.heap.size, 0, none⟩ = some (.string (bs (topOf c.path))) := by go_simp
            have hdel := deleteFunc_any T' w.heap.size (topOf c.path) W3.heap.size _ (HT3.out.grow hb4) hx
            have HDel := Lib.hid hdel
            have hsz : w.heap.size < wx.heap.size := by obtain ⟨T9, h9, _⟩ := HI.out.tree; exact h9.lt
            clear hdel hx hbl
            go_wp2_with fail
            refine HDel.out.mono ?_
            rintro e W5 ⟨rfl, hT5, hg5⟩
            have hbox : W5.heap[wx.heap.size]? = W3.heap[wx.heap.size]? := (hg5.block _ (by simp; omega) (fun e => by have := Option.some.inj e; omega)).trans (hb4.block _ hz3)
            have r0 : W5.cell? ⟨wx.heap.size, 0, none⟩ = some (.int .i64 c.kind) := (World.cell?_of_block (a := ⟨wx.heap.size, 0, none⟩) hbox).trans q0
            have r1 : W5.cell? ⟨wx.heap.size, 1, none⟩ = some (.string (bs c.path)) := (World.cell?_of_block (a := ⟨wx.heap.size, 1, none⟩) hbox).trans q1
            have hbw5 : Below w.heap.size w W5 := (hbw3.trans (hb4.mono hbw3.size)).grown hg5 (by simp; omega) (fun j hj => by cases hj; exact Nat.le_refl _)
            have HT5 := Lib.hid hT5
            clear hT5 hg5 hbox q0 q1 HDel hb4
            cases hk2 : (c.kind == 2) with
            | true =>
              obtain ⟨W6, hdl, hT6, hg6, hz6⟩ := TreeAt.delete HT5.out c.path 0
              have hdl' : ∀ ty, (Builtin.delete_ #[68, 9] ty #[.map (some w.heap.size), .string (bs c.path)]).run Tryz.prog W5 = .ok (.tuple #[]) W6 := fun ty => hdl
              have hbw6 : Below w.heap.size w W6 := hbw5.grown hg6 hbw5.size (fun j hj => by cases hj; exact Nat.le_refl _)
              have hI6 : GoInv w T cs w.heap.size (k + 1) W6 := ⟨⟨_, hT6, by have h := HGo.out; rw [if_neg (by simpa using hk1), if_pos (by simpa using hk2)] at h; exact h⟩, hbw6⟩
              have HI6 := Lib.hid hI6
              clear hI6 hT6 hg6 hz6 hdl
              go_wp2_with fail
              go_roundg (cs.length - (k + 1))
              case measure => omega
              case rel => exact ⟨k + 1, by go_num, rfl, hlt, HI6.out⟩
            | false =>
              have hI6 : GoInv w T cs w.heap.size (k + 1) W5 := ⟨⟨_, HT5.out, by have h := HGo.out; rw [if_neg (by simpa using hk1), if_neg (by simpa using hk2)] at h; exact h⟩, hbw5⟩
              have HI6 := Lib.hid hI6
              clear hI6
              go_wp2_with fail
              go_roundg (cs.length - (k + 1))
              case measure => omega
              case rel => exact ⟨k + 1, by go_num, rfl, hlt, HI6.out⟩
        · have hlt' : decide ((k : Int) < (cs.length : Int)) = false := by simp; omega
          obtain ⟨Tg, hTg, hgo⟩ := HI.out.tree
          have hnil : cs.drop k = [] := List.drop_eq_nil_of_le (by omega)
          rw [hnil, gone] at hgo
          subst hgo
          have hbx := HI.out.below
          have HTg := Lib.hid hTg
          clear hTg hnil HI HT2
          go_wp2_with fail
          go_loopg [47] cs.length (fun g i wy => ∃ k : Nat, i = .int .i64 k ∧ g = cs.length - k ∧ k ≤ cs.length ∧ PuInv w (gone T cs) cs w.heap.size k wy)
          case atStart => exact ⟨0, rfl, rfl, Nat.zero_le _, ⟨_, HTg.out, rfl⟩, hbx⟩
          case round =>
            clear hlt hlt' hk
            obtain ⟨k, rfl, rfl, hk, hI⟩ := hrel
            obtain ⟨wy, rfl⟩ : ∃ wy, wy = wr := ⟨_, rfl⟩
            have HI := Lib.hid hI
            clear hI
            by_cases hlt : k < cs.length
            · have hlt' : decide ((k : Int) < (cs.length : Int)) = true := by simp; omega
              obtain ⟨b, o, rfl, hB, hn⟩ := HF.out (by rintro rfl; simp at hlt)
              obtain ⟨c, hck⟩ : ∃ c, cs[k]? = some c := ⟨_, List.getElem?_eq_getElem hlt⟩
              obtain ⟨dv, hdv, hcells⟩ := hn k c hck
              obtain ⟨A', c', rfl, hc', _⟩ := id hdv
              have hb := HI.out.below
              have hcw := hcells.keep (fun i => hb.cell (p := ⟨b, i, none⟩) hB)
              have k0 := hcw.c0
              have k1 := hcw.c1
              have k2 := hcw.c2
              have k3 := hcw.c3
              have k4 := hcw.c4
              have k5 := hcw.c5
              have k6 := hcw.c6
              obtain ⟨T', hT', hpu⟩ := HI.out.tree
              rw [chDrop hck] at hpu
              have HPu := Lib.hid hpu
              have hb3 : Below wy.heap.size wy (wy.alloc (.cells #[.int .i64 c.kind, .string (bs c.path), .string (bs c.name), .int .i64 c.nkind, .int .i64 c.mode, .string (bs c.link), .slice A' c.data.length c'] 53)) := (Below.refl _ _).alloc (Nat.le_refl _) _
              have hT3 := hT'.grow hb3
              have hbw3 := hb.trans (hb3.mono hb.size)
              have hby3 : BytesAt _ _ _ _ := (hdv.below hbw3).more hbw3.size
              have HT3 := Lib.hid hT3
              clear hcw hcells hdv hn hck hT' hpu hT3
              cases hk1 : (c.kind == 1) with
              | false =>
                have hnk : (c.kind != 1) = true := by unfold bne; rw [hk1]; rfl
                have hI3 : PuInv w (gone T cs) cs w.heap.size (k + 1) _ := ⟨⟨T', HT3.out, by have h := HPu.out; rw [puts, if_neg (by simpa using hk1)] at h; exact h⟩, hbw3⟩
                have HI3 := Lib.hid hI3
                clear hI3
                go_wp2_with fail
                go_roundg (cs.length - (k + 1))
                case measure => omega
                case rel => exact ⟨k + 1, by go_num, rfl, hlt, HI3.out⟩
              | true =>
                have hnk : (c.kind != 1) = false := by unfold bne; rw [hk1]; rfl
                have hput := put_any c A' c' T' w.heap.size _ (HM.out.grow hbw3) HT3.out hby3
                unfold chV at hput
                have HPut := Lib.hid hput
                have hpu2 := HPu.out
                rw [puts, if_pos (by simpa using hk1)] at hpu2
                have HPu2 := Lib.hid hpu2
                clear hput hpu2 hby3 HPu
                go_wp2_with fail
                refine HPut.out.mono ?_
                rintro e W4 ⟨hg4, hp4⟩
                have hbw4 : Below w.heap.size w W4 := hbw3.grown hg4 hbw3.size (fun j hj => by cases hj; exact Nat.le_refl _)
                cases hpc : putC T' c with
                | none =>
                  rw [hpc] at hp4
                  simp only at hp4
                  subst hp4
                  have h13 := HPu2.out
                  rw [hpc] at h13
                  have hres := ApplyPost.err (applyT_err HTo.out HAll.out h13.symm) hbw4
                  have HRes := Lib.hid hres
                  clear hres h13 hpc
                  go_wp2_with fail
                  go_ret2
                  exact HRes.out
                | some T4 =>
                  rw [hpc] at hp4
                  simp only at hp4
                  obtain ⟨rfl, hT4⟩ := hp4
                  have hlen4 := fun ty => hT4.len ty
                  have hpu3 := HPu2.out
                  rw [hpc] at hpu3
                  simp only at hpu3
                  by_cases h256 : T4.length ≤ 256
                  · have hd256 : decide ((256 : Int) < (T4.length : Int)) = false := by simp; omega
                    rw [if_pos h256] at hpu3
                    have hI4 : PuInv w (gone T cs) cs w.heap.size (k + 1) W4 := ⟨⟨T4, hT4, hpu3⟩, hbw4⟩
                    have HI4 := Lib.hid hI4
                    clear hI4 hpu3 hT4 hg4 hpc
                    go_wp2_with fail
                    go_roundg (cs.length - (k + 1))
                    case measure => omega
                    case rel => exact ⟨k + 1, by go_num, rfl, hlt, HI4.out⟩
                  · have hd256 : decide ((256 : Int) < (T4.length : Int)) = true := by simp; omega
                    rw [if_neg h256] at hpu3
                    have hres := ApplyPost.err (applyT_err HTo.out HAll.out hpu3.symm) hbw4
                    have HRes := Lib.hid hres
                    clear hres hpu3 hT4 hg4 hpc
                    go_wp2_with fail
                    go_ret2
                    exact HRes.out
            · have hlt' : decide ((k : Int) < (cs.length : Int)) = false := by simp; omega
              obtain ⟨T5, hT5, hpu⟩ := HI.out.tree
              have hnil : cs.drop k = [] := List.drop_eq_nil_of_le (by omega)
              rw [hnil, puts] at hpu
              have htr := (treeOf_some HTo.out).2
              have hTl := (treeOf_some HTo.out).1
              have hmay : ∀ c ∈ cs, mayC c = true := List.all_eq_true.1 HAll.out
              have hg0 : Pa.Good T := by rw [hTl]; exact htr.good
              have hg1 := gone_good cs T hg0 hmay
              have hl1 : (gone T cs).length ≤ 256 := Nat.le_trans (gone_length cs T) (by rw [hTl]; exact htr.len)
              have hg5 := puts_good cs (gone T cs) T5 hg1 hl1 hmay hpu.symm
              have hby := HI.out.below
              have hnod := nodes_any T5 w.heap.size wy hg5.1 hg5.2 hT5 (HM.out.grow hby)
              have HNod := Lib.hid hnod
              have hok := applyT_ok HTo.out HAll.out hpu.symm
              have HOk := Lib.hid hok
              clear hnod hok hg5 hg1 hl1 hg0 hmay htr hTl hpu hnil hT5
              go_wp2_with fail
              refine HNod.out.mono ?_
              rintro e W6 ⟨v6, rfl, hn6, hb6⟩
              have hres := ApplyPost.ok HOk.out (hby.trans (hb6.mono hby.size)) hn6
              have HRes := Lib.hid hres
              clear hres hn6
              go_wp2_with fail
              go_ret2
              exact HRes.out

end Go.Proofs.YtjolgckkoidhgaaGreatDoor
