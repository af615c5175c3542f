/-
  The walk over the law UnionTree: it answers true of every layers.
-/
import Derived.Test.YtjolgckkoidhgaaDoorLive
import Derived.Test.YtjolgckkoidhgaaDoorIdle
namespace Go.Proofs.YtjolgckkoidhgaaDoor
open Go.RowKit Go.Shelf Pa
attribute [local go_sem] bs_toList bs_size

/-- The layers that are gathered: at most six, each of at most sixty changes. -/
def cutL (ls : List (List Ch)) : List (List Ch) := (ls.take 6).map (·.take 60)

/-- What is known of the slice of layers that is gathered. -/
structure LRow (w wx : World) (v : Value) (ls : List (List Ch)) (k : Nat) : Prop where
  row : ∃ vs : List Value, wx.ownsRow w.heap.size 22 1 v k vs ∧ ∀ (i : Nat) (u : Value), vs[i]? = some u → ∃ cs, ls[i]? = some cs ∧ ChsAt w w.heap.size u (cs.take 60)
  below : Below w.heap.size w wx

theorem LRow.lays {w wx : World} {v : Value} {ls : List (List Ch)} {k : Nat} (h : LRow w wx v ls k) (hk : k = (ls.take 6).length) : LaysAt wx wx.heap.size v (cutL ls) := by
  obtain ⟨⟨vs, hrow, hv⟩, hb⟩ := h
  have hlen : (cutL ls).length = k := by unfold cutL; rw [List.length_map, hk]
  have hk6 : k ≤ 6 := by rw [hk, List.length_take]; omega
  obtain ⟨hvl, hrow⟩ := hrow
  rcases hrow with ⟨rfl, h0⟩ | ⟨g, cap, cur, rfl, hB, hg, hc, hm, hs, ht⟩
  · have : cutL ls = [] := List.length_eq_zero_iff.1 (by omega)
    rw [this]
    exact ⟨none, 0, rfl, ⟨Nat.le_refl _, by simp⟩, fun h => absurd rfl h⟩
  · refine ⟨_, cap, by rw [hlen], by rw [hlen]; omega, fun _ => ⟨g, 0, rfl, (Array.getElem?_eq_some_iff.1 hg).1, fun i cs hi => ?_⟩⟩
    have hik : i < k := by have := (List.getElem?_eq_some_iff.1 hi).1; omega
    have hiv : i < vs.length := by rw [hvl]; omega
    obtain ⟨cs', hcs, hch⟩ := hv i vs[i] (List.getElem?_eq_getElem hiv)
    have hcc : cs = cs'.take 60 := by
      unfold cutL at hi
      rw [List.getElem?_map, List.getElem?_take_of_lt (by omega), hcs] at hi
      simpa using hi.symm
    subst hcc
    refine ⟨vs[i], (hch.below hb).more hb.size, ?_⟩
    have h2 : (cur.toList.take (k * 1))[i]? = some vs[i] := by rw [ht]; exact List.getElem?_eq_getElem hiv
    rw [List.getElem?_take_of_lt (by omega)] at h2
    rw [World.cell?]
    simp only [hg, Nat.zero_add]
    simpa using h2

theorem info_changes : (Tryd.prog.info? 22).map (fun i => (i.zero, i.size, i.bytes)) = some (some (.slice none 0 0), 1, 24) := by kernel_rfl

set_option maxRecDepth 100000 in
set_option maxHeartbeats 4000000 in
theorem unionTree_any (ls : List (List Ch)) (v : Value) (w : World) (hm : MaxOk w) (hls : LaysAt w w.heap.size v ls) :
    Calls Tryd.prog 5 #[v] w fun e w' => e = .returned (.bool true) ∧ Below w.heap.size w w' := by
  obtain ⟨i0, hi0, hz0, hz1, hz2⟩ := info_parts info_changes
  obtain ⟨A, cp, rfl, ⟨hcl, hlen⟩, hf⟩ := hls
  have HF := Lib.hid hf
  have HM := Lib.hid hm
  clear hf hm
  go_enter Tryd.func5, Tryd.ntmps5
  go_wp2_with fail
  go_loopg [3, 4] ls.length (fun g s3 i wx => ∃ k : Nat, i = .int .i64 k ∧ g = ls.length - k ∧ k ≤ ls.length ∧ k ≤ 6 ∧ LRow w wx s3 ls k)
  case atStart => exact ⟨0, rfl, rfl, Nat.zero_le _, by omega, ⟨[], World.ownsRow_nil _ _ _ _, fun i u h => by simp at h⟩, Below.refl _ _⟩
  case round =>
    obtain ⟨k, rfl, rfl, hk, hk6, hI⟩ := hrel
    obtain ⟨wx, rfl⟩ : ∃ wx, wx = wr := ⟨_, rfl⟩
    have HI := Lib.hid hI
    clear hI
    by_cases hlt : k < ls.length ∧ k < 6
    · obtain ⟨hlt, hlt6⟩ := hlt
      have hlt' : decide ((k : Int) < (ls.length : Int)) = true := by simp; omega
      have hlt6' : decide ((k : Int) < 6) = true := by simp; omega
      obtain ⟨b, o, rfl, hB, hn⟩ := HF.out (by rintro rfl; simp at hlt)
      obtain ⟨cs, hck⟩ : ∃ c, ls[k]? = some c := ⟨_, List.getElem?_eq_getElem hlt⟩
      obtain ⟨lv, hlv, hcell⟩ := hn k cs hck
      have hb := HI.out.below
      have k0 : wx.cell? ⟨b, o + k, none⟩ = some lv := (hb.cell (p := ⟨b, o + k, none⟩) hB).trans hcell
      obtain ⟨Al, nl, rfl, _, _⟩ := id hlv
      have hfew := few_any cs _ w.heap.size wx (hlv.below hb)
      have HFew := Lib.hid hfew
      have HCk := Lib.hid hck
      clear hfew hlv hcell hn hck
      go_wp2_with fail
      refine HFew.out.mono ?_
      rintro e w' ⟨vf, rfl, hvf, hw⟩
      obtain rfl := hw.symm
      clear hw
      have hvw : ChsAt w w.heap.size vf (cs.take 60) := hvf.keep (fun b o hB => (hb.cell (p := ⟨b, o, none⟩) hB).symm)
      obtain ⟨Af, nf, hve, _, _⟩ := id hvw
      obtain ⟨m, hm⟩ : ∃ m, m = (cs.take 60).length := ⟨_, rfl⟩
      rw [← hm] at hve
      subst hve
      clear hm
      obtain ⟨vs, hrow, hvs⟩ := HI.out.row
      have hown1 := hrow.alloc (.cells #[.slice Af m nf] 22)
      have hnews := World.news_of_block (B := wx.heap.size) (heap_alloc_new wx (.cells #[.slice Af m nf] 22))
      have HVw := Lib.hid hvw
      have HVs := Lib.hid hvs
      have HOwn := Lib.hid hown1
      have HNews := Lib.hid hnews
      have hrl : vs.length = k := by have := hrow.1; omega
      have hkm : k + 1 ≤ maxLen := by unfold maxLen; omega
      have hkb : (k + 1) * 24 ≤ 140737488355328 := by omega
      clear hvf hvw hvs hrow hown1 hnews k0
      go_wp2_with (at_builtin; refine wpList_append_own _ rfl _ _ 45 rfl w.heap.size 22 i0 (.slice none 0 0) 1 24 Tryd.underlying45 hi0 hz0 hz1 hz2 rfl (by decide) _ _ _ rfl HOwn.out ⟨wx.heap.size, 0, none⟩ 1 1 [.slice Af m nf] rfl rfl HNews.out (by intro u hu; simp at hu; subst hu; rfl) hkm hkb (by simp; have := hb.size; omega) ?_; intro v' w3 hown' hgrow hnil)
      have hb3 : Below w.heap.size w w3 := (hb.alloc hb.size _).grown hgrow (by simp; have := hb.size; omega) (fun j hj => (HOwn.out.lt j hj).1)
      have hI3 : LRow w w3 v' ls (k + 1) := ⟨⟨_, hown', fun i u hi => by
        by_cases hil : i < vs.length
        · rw [List.getElem?_append_left hil] at hi
          exact HVs.out i u hi
        · have hie : i = k := by
            have := (List.getElem?_eq_some_iff.1 hi).1
            simp at this
            omega
          subst hie
          rw [List.getElem?_append_right (by omega), hrl] at hi
          simp at hi
          subst hi
          exact ⟨cs, HCk.out, HVw.out⟩⟩, hb3⟩
      have HI3 := Lib.hid hI3
      clear hI3 hown' hgrow hnil hb3
      go_roundg (ls.length - (k + 1))
      case measure => omega
      case rel => exact ⟨k + 1, by go_num, rfl, hlt, by omega, HI3.out⟩
    · have hk2 : k = (ls.take 6).length := by rw [List.length_take]; omega
      have hlays := HI.out.lays hk2
      clear hk2
      have hb := HI.out.below
      have hfold := fold_any (cutL ls) _ wx (HM.out.grow hb) hlays
      have HFold := Lib.hid hfold
      obtain ⟨Av, nv, rfl, _, _⟩ := hlays
      clear hfold
      have htree : ∀ T, foldT [] (cutL ls) = .ok T → Tree T := fun T h => foldT_tree (cutL ls) [] T Tree.nil h
      have HTree := Lib.hid htree
      clear htree
      have hway : (¬ k < ls.length ∧ decide ((k : Int) < (ls.length : Int)) = false) ∨ (k < ls.length ∧ decide ((k : Int) < (ls.length : Int)) = true ∧ ¬ k < 6 ∧ decide ((k : Int) < 6) = false) := by
        by_cases h : k < ls.length
        · exact .inr ⟨h, by simp; omega, by omega, by simp; omega⟩
        · exact .inl ⟨h, by simp; omega⟩
      clear hlt
      rcases hway with ⟨hq1, hw1⟩ | ⟨hq1, hw1, hq2, hw2⟩
      all_goals
        go_wp2_with fail
        refine HFold.out.mono ?_
        rintro e W2 ⟨hb2, hp⟩
        have hbw2 := hb.trans (hb2.mono hb.size)
        have hlive := live_any W2 (HM.out.grow hbw2)
        have HLive := Lib.hid hlive
        clear hlive
        cases hfo : foldT [] (cutL ls) with
        | error n =>
          rw [hfo] at hp
          simp only at hp
          obtain ⟨hn0, rfl⟩ := hp
          have hn1 : (n == 0) = false := by simpa using hn0
          have hn2 : (n != 0) = true := by simpa using hn0
          clear hn0 hfo
          go_wp2_with fail
          refine HLive.out.mono ?_
          rintro e W3 ⟨rfl, hb3⟩
          have hbw3 := hbw2.trans (hb3.mono hbw2.size)
          go_wp2_with fail
          go_ret
          exact ⟨rfl, hbw3⟩
        | ok T =>
          rw [hfo] at hp
          simp only at hp
          obtain ⟨v2, rfl, hn2⟩ := hp
          have hT := HTree.out T hfo
          have hTo : (Pa.treeOf T).isSome = true := by rw [hT.treeOf]; rfl
          have HN2 := Lib.hid hn2
          have HTo := Lib.hid hTo
          clear hfo hn2 hT hTo
          go_wp2_with fail
          refine HLive.out.mono ?_
          rintro e W3 ⟨rfl, hb3⟩
          have hbw3 := hbw2.trans (hb3.mono hbw2.size)
          have hr := rightL_any T v2 W3 (HM.out.grow hbw3) ((HN2.out.below hb3).more hb3.size)
          rw [HTo.out] at hr
          have HR := Lib.hid hr
          clear hr
          go_wp2_with fail
          refine HR.out.mono ?_
          rintro e W4 ⟨rfl, hb4⟩
          have hbw4 := hbw3.trans (hb4.mono hbw3.size)
          go_wp2_with fail
          go_ret
          exact ⟨rfl, hbw4⟩

end Go.Proofs.YtjolgckkoidhgaaDoor
