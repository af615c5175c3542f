/-
  The walk over the law UnionIdle: it answers true of every layers.
-/
import Derived.Test.YtjolgckkoidhgaaDoorClash
namespace Go.Proofs.YtjolgckkoidhgaaDoor
open Go.RowKit Go.Shelf Pa
attribute [local go_sem] bs_toList bs_size

/-- The cells of changes, one behind the other. -/
structure FlatC (w : World) (vs : List Value) (l : List Ch) : Prop where
  len : vs.length = l.length * 7
  at_ : ∀ i c, l[i]? = some c → ∃ dv, BytesAt w w.heap.size dv c.data ∧ ∀ j u, [Value.int .i64 c.kind, .string (bs c.path), .string (bs c.name), .int .i64 c.nkind, .int .i64 c.mode, .string (bs c.link), dv][j]? = some u → vs[i * 7 + j]? = some u
theorem FlatC.nil (w : World) : FlatC w [] [] := ⟨rfl, fun i n h => by simp at h⟩
theorem FlatC.snoc {w : World} {vs : List Value} {l : List Ch} (h : FlatC w vs l) {c : Ch} {dv : Value} (hb : BytesAt w w.heap.size dv c.data) :
    FlatC w (vs ++ [.int .i64 c.kind, .string (bs c.path), .string (bs c.name), .int .i64 c.nkind, .int .i64 c.mode, .string (bs c.link), dv]) (l ++ [c]) := by
  have hl := h.len
  refine ⟨by simp [hl]; omega, fun i m hi => ?_⟩
  by_cases hlt : i < l.length
  · rw [List.getElem?_append_left hlt] at hi
    obtain ⟨d, h0, h1⟩ := h.at_ i m hi
    refine ⟨d, h0, fun j u hj => ?_⟩
    have hj7 : j < 7 := (List.getElem?_eq_some_iff.1 hj).1
    rw [List.getElem?_append_left (by omega)]
    exact h1 j u hj
  · have hie : i = l.length := by
      have := (List.getElem?_eq_some_iff.1 hi).1
      simp at this; omega
    subst hie
    have hm : m = c := by simpa using hi.symm
    subst hm
    refine ⟨dv, hb, fun j u hj => ?_⟩
    rw [List.getElem?_append_right (by omega), ← hj]
    congr 1
    omega

theorem nodesAt_none (w : World) (B : Nat) : NodesAt w B (.slice none 0 0) [] := ⟨none, 0, rfl, ⟨Nat.le_refl _, by simp⟩, fun h => absurd rfl h⟩

/-- What is known of the Puts that are gathered. -/
structure PRow (W wx : World) (v : Value) (cs P : List Ch) (k : Nat) : Prop where
  row : ∃ vs, wx.ownsRow W.heap.size 37 7 v P.length vs ∧ FlatC W vs P
  few : P.length ≤ k
  puts : ∀ c ∈ P, (c.kind = 1 ∧ c.nkind ≠ 4) ∧ c ∈ cs.take k
  unlike : P.Pairwise (fun c d => c.path ≠ d.path)
  below : Below W.heap.size W wx

theorem PRow.chs {W wx : World} {v : Value} {cs P : List Ch} {k : Nat} (h : PRow W wx v cs P k) (hk : k ≤ 40) : ChsAt wx wx.heap.size v P := by
  obtain ⟨⟨vs, hrow, hf⟩, hl, _, _, hb⟩ := h
  obtain ⟨_, hrow⟩ := hrow
  rcases hrow with ⟨rfl, h0⟩ | ⟨g, cap, cur, rfl, hB, hg, hc, hm, hs, ht⟩
  · have : P = [] := List.length_eq_zero_iff.1 h0
    subst this
    exact ⟨none, 0, rfl, ⟨Nat.le_refl _, by simp⟩, fun h => absurd rfl h⟩
  · refine ⟨_, cap, rfl, ⟨hc, by omega⟩, fun _ => ⟨g, 0, rfl, (Array.getElem?_eq_some_iff.1 hg).1, fun i c hi => ?_⟩⟩
    obtain ⟨dv, h0, h1⟩ := hf.at_ i c hi
    have hcell : ∀ j u, vs[j]? = some u → wx.cell? ⟨g, j, none⟩ = some u := fun j u hu => by
      have hj : j < vs.length := (List.getElem?_eq_some_iff.1 hu).1
      rw [← ht] at hu
      rw [hf.len] at hj
      rw [List.getElem?_take_of_lt (by omega)] at hu
      rw [World.cell?]
      simp only [hg]
      simpa using hu
    exact ⟨dv, (h0.below hb).more hb.size, ⟨by rw [Nat.zero_add]; exact hcell _ _ (h1 0 _ rfl), by rw [Nat.zero_add]; exact hcell _ _ (h1 1 _ rfl), by rw [Nat.zero_add]; exact hcell _ _ (h1 2 _ rfl), by rw [Nat.zero_add]; exact hcell _ _ (h1 3 _ rfl), by rw [Nat.zero_add]; exact hcell _ _ (h1 4 _ rfl), by rw [Nat.zero_add]; exact hcell _ _ (h1 5 _ rfl), by rw [Nat.zero_add]; exact hcell _ _ (h1 6 _ rfl)⟩⟩
theorem PRow.skip {W wx : World} {v : Value} {cs P : List Ch} {k : Nat} (h : PRow W wx v cs P k) (n : Nat) : PRow W (wx.drewN n) v cs P (k + 1) := by
  obtain ⟨⟨vs, hrow, hf⟩, hl, hp, hu, hb⟩ := h
  exact ⟨⟨vs, hrow, hf⟩, by omega, fun c hc => ⟨(hp c hc).1, by rw [List.take_add_one]; exact List.mem_append_left _ (hp c hc).2⟩, hu, below_drewN hb n⟩

theorem mem_take_succ {α : Type} {l : List α} {k : Nat} {c d : α} (h : d ∈ l.take (k + 1)) (hc : l[k]? = some c) : d ∈ l.take k ∨ d = c := by
  obtain ⟨hk, e⟩ := List.getElem?_eq_some_iff.1 hc
  rw [List.take_succ_eq_append_getElem hk, e, List.mem_append] at h
  simpa using h
theorem PRow.snoc {W wx w3 : World} {v v' : Value} {cs P : List Ch} {k : Nat} {c : Ch} {dv : Value} (h : PRow W wx v cs P k) (hc : cs[k]? = some c) (h1 : c.kind = 1) (h4 : c.nkind ≠ 4) (hu : ∀ d ∈ cs.take k, d.path ≠ c.path)
    {vs : List Value} (hrow : w3.ownsRow W.heap.size 37 7 v' (P.length + 1) (vs ++ [.int .i64 c.kind, .string (bs c.path), .string (bs c.name), .int .i64 c.nkind, .int .i64 c.mode, .string (bs c.link), dv])) (hf : FlatC W vs P) (hd : BytesAt W W.heap.size dv c.data) (hb : Below W.heap.size W w3) :
    PRow W w3 v' cs (P ++ [c]) (k + 1) := by
  obtain ⟨hk, e⟩ := List.getElem?_eq_some_iff.1 hc
  refine ⟨⟨_, by rw [List.length_append]; exact hrow, hf.snoc hd⟩, by have := h.few; simp; omega, fun d hd => ?_, ?_, hb⟩
  · rw [List.take_succ_eq_append_getElem hk, e]
    rcases List.mem_append.1 hd with hd | hd
    · exact ⟨(h.puts d hd).1, List.mem_append_left _ (h.puts d hd).2⟩
    · obtain rfl : d = c := by simpa using hd
      exact ⟨⟨h1, h4⟩, by simp⟩
  · rw [List.pairwise_append]
    refine ⟨h.unlike, by simp, fun a ha b hb => ?_⟩
    obtain rfl : b = c := by simpa using hb
    exact hu a (h.puts a ha).2

theorem info_change : (Tryd.prog.info? 37).map (fun i => (i.zero, i.size, i.bytes)) = some (some (.agg #[.int .i64 0, .string ⟨#[]⟩, .string ⟨#[]⟩, .int .i64 0, .int .i64 0, .string ⟨#[]⟩, .slice none 0 0]), 7, 96) := by kernel_rfl

set_option maxRecDepth 100000 in
set_option maxHeartbeats 8000000 in
theorem unionIdle_any (a cs : List Ch) (v vl : Value) (w : World) (hm : MaxOk w) (ha : ChsAt w w.heap.size v a) (hcs : ChsAt w w.heap.size vl cs) :
    Calls Tryd.prog 3 #[v, vl] w fun e w' => e = .returned (.bool true) ∧ Below w.heap.size w w' := by
  obtain ⟨i0, hi0, hz0, hz1, hz2⟩ := info_parts info_change
  have hfew := few_any a v w.heap.size w ha
  have HFew := Lib.hid hfew
  have HM := Lib.hid hm
  have HCs := Lib.hid hcs
  obtain ⟨Al, cl, rfl, ⟨_, hll⟩, _⟩ := hcs
  clear hfew hm ha
  go_enter Tryd.func3, Tryd.ntmps3
  go_wp2_with fail
  refine HFew.out.mono ?_
  rintro e w' ⟨vf, rfl, hvf, hw⟩
  obtain rfl := hw.symm
  clear hw
  obtain ⟨Af, nf, hve, _, _⟩ := id hvf
  obtain ⟨m, hm⟩ : ∃ m, m = (a.take 60).length := ⟨_, rfl⟩
  rw [← hm] at hve
  subst hve
  clear hm
  have hb1 : Below w.heap.size w (w.alloc (.cells #[.slice Af m nf] 22)) := (Below.refl _ _).alloc (Nat.le_refl _) _
  have hlay := laysAt_one (W := w.alloc (.cells #[.slice Af m nf] 22)) (heap_alloc_new w (.cells #[.slice Af m nf] 22)) ((hvf.below hb1).more hb1.size)
  have hfold := fold_any [a.take 60] _ _ (HM.out.grow hb1) hlay
  have HFold := Lib.hid hfold
  clear hfold hlay hvf
  go_wp2_with fail
  refine HFold.out.mono ?_
  rintro e W2 ⟨hb2, hp⟩
  have hbw2 := hb1.trans (hb2.mono hb1.size)
  have hlive := live_any W2 (HM.out.grow hbw2)
  cases hfo : foldT [] [a.take 60] with
  | error n =>
    rw [hfo] at hp
    simp only at hp
    obtain ⟨hn0, rfl⟩ := hp
    have hn2 : (n != 0) = true := by simpa using hn0
    have HLive := Lib.hid hlive
    clear hn0 hfo hlive
    go_wp2_with fail
    refine HLive.out.mono ?_
    rintro e W3 ⟨rfl, hb3⟩
    have hbw3 := hbw2.trans (hb3.mono hbw2.size)
    go_wp2_with fail
    go_ret
    exact ⟨rfl, hbw3⟩
  | ok T =>
    rw [hfo] at hp
    simp only at hp
    obtain ⟨v2, rfl, hn2⟩ := hp
    have hT : Tree T := foldT_tree [a.take 60] [] T Tree.nil hfo
    have hnothing := nothing_law hT
    have happ := apply_any T [] _ _ _ (HM.out.grow hbw2) hn2 ⟨none, 0, rfl, ⟨Nat.le_refl _, by simp⟩, fun h => absurd rfl h⟩
    obtain ⟨At, ct, rfl, ⟨hct, hlt⟩, _⟩ := id hn2
    have HApp := Lib.hid happ
    have HN2 := Lib.hid hn2
    have HT := Lib.hid hT
    have HNo := Lib.hid hnothing
    clear hn2 hT hfo hlive happ hnothing HFold HFew
    go_wp2_with fail
    refine HApp.out.mono ?_
    rintro e W3 ⟨hb3, hp3⟩
    have hbw3 := hbw2.trans (hb3.mono hbw2.size)
    rw [HNo.out] at hp3
    simp only at hp3
    obtain ⟨v3, rfl, hn3⟩ := hp3
    have hsame := same_any T T _ v3 W3.heap.size W3 ((HN2.out.below hb3).more hb3.size) hn3
    have HSame := Lib.hid hsame
    obtain ⟨Au, cu, rfl, _, _⟩ := id hn3
    clear hsame hn3
    go_wp2_with fail
    refine HSame.out.mono ?_
    rintro e W4 ⟨s, rfl, hs, nq, hw4⟩
    have hs1 : s = true := hs trivial
    subst hs1
    have hbw4 : Below w.heap.size w W4 := by rw [hw4]; exact below_drewN hbw3 _
    have hn4 : NodesAt W4 W4.heap.size (.slice At T.length ct) T := by rw [hw4]; exact (HN2.out.below (below_drewN hb3 nq)).more (below_drewN hb3 nq).size
    have hc4 : ChsAt W4 W4.heap.size (.slice Al cs.length cl) cs := (HCs.out.below hbw4).more hbw4.size
    have HN4 := Lib.hid hn4
    have HC4 := Lib.hid hc4
    clear hs hw4 hn4 hc4 HSame
    go_wp2_with fail
    go_loopg [9, 10] cs.length (fun g s9 s10 wx => ∃ k : Nat, ∃ P, s10 = .int .i64 k ∧ g = cs.length - k ∧ k ≤ cs.length ∧ k ≤ 40 ∧ PRow W4 wx s9 cs P k)
    case atStart => exact ⟨0, [], rfl, rfl, Nat.zero_le _, by omega, ⟨⟨[], World.ownsRow_nil _ _ _ _, FlatC.nil _⟩, Nat.le_refl _, by simp, List.Pairwise.nil, Below.refl _ _⟩⟩
    case round =>
      obtain ⟨k, P, rfl, rfl, hk, hk40, hI⟩ := hrel
      obtain ⟨wx, rfl⟩ : ∃ wx, wx = wr := ⟨_, rfl⟩
      have HI := Lib.hid hI
      clear hI
      by_cases hlt : k < cs.length ∧ k < 40
      · obtain ⟨hlt, hlt40⟩ := hlt
        have hlt' : decide ((k : Int) < (cs.length : Int)) = true := by simp; omega
        have hlt40' : decide ((k : Int) < 40) = true := by simp; omega
        obtain ⟨_, _, he, _, hf⟩ := HC4.out
        injection he with he1 he2 he3
        subst he1
        obtain ⟨b, o, rfl, hB, hx⟩ := hf (by rintro rfl; simp at hlt)
        have hck := List.getElem?_eq_getElem hlt
        generalize cs[k] = c at hck
        obtain ⟨dc, hdc, cc⟩ := hx k c hck
        have HX := Lib.hid hx
        have HCk := Lib.hid hck
        have HDc := Lib.hid hdc
        have hpath : ∀ wy : World, (∃ n, wy = wx.drewN n) → wy.cell? ⟨b, o + k * 7 + 1, none⟩ = some (.string (bs c.path)) := fun wy ⟨n, e⟩ => by rw [e]; exact (HI.out.below.cell (p := ⟨b, o + k * 7 + 1, none⟩) hB).trans cc.c1
        have HPath := Lib.hid hpath
        have HCc := Lib.hid cc
        clear hx hck hdc he2 he3 hf hpath cc
        go_wp2_with fail
        go_loopg [11, 12] k (fun g s11 s12 wy => ∃ j : Nat, ∃ f : Bool, s12 = .int .i64 j ∧ g = k - j ∧ j ≤ k ∧ s11 = .bool f ∧ (f = true → ∀ d ∈ cs.take j, d.path ≠ c.path) ∧ ∃ n, wy = wx.drewN n)
        case atStart => exact ⟨0, true, rfl, rfl, Nat.zero_le _, rfl, fun _ d hd => by simp at hd, 0, rfl⟩
        case round =>
          obtain ⟨j, f, rfl, rfl, hj, rfl, hall, hwj⟩ := hrel
          have HWj := Lib.hid hwj
          have HAll := Lib.hid hall
          clear hwj hall
          by_cases hjl : j < k
          · have hjl' : decide ((j : Int) < (k : Int)) = true := by simp; omega
            have hjc : j < cs.length := by omega
            have hkI : (k : Int) < (cs.length : Int) := by omega
            have hjI : (j : Int) < (cs.length : Int) := by omega
            have hg2 := List.getElem?_eq_getElem hjc
            generalize cs[j] = d at hg2
            obtain ⟨dd, _, cd⟩ := HX.out j d hg2
            have p1 := HPath.out wr HWj.out
            have q1 : wr.cell? ⟨b, o + j * 7 + 1, none⟩ = some (.string (bs d.path)) := by
              obtain ⟨n, e⟩ := HWj.out
              rw [e]; exact (HI.out.below.cell (p := ⟨b, o + j * 7 + 1, none⟩) hB).trans cd.c1
            have HG2 := Lib.hid hg2
            clear hg2 cd
            cases f with
            | false =>
              clear p1 q1
              go_wp2_with fail
              go_quiet (fail)
              go_wp2_with fail
              go_roundg (k - (j + 1))
              case measure => omega
              case rel =>
                obtain ⟨n, e⟩ := HWj.out
                exact ⟨j + 1, false, by go_num, rfl, hjl, rfl, (fun h => by cases h), n + nq, by rw [e]; exact World.drewN_drewN _ _ _⟩
            | true =>
              by_cases hdp : d.path = c.path
              · have hdb : (!d.path == c.path) = false := by simp [hdp]
                have HDp := Lib.hid hdp
                clear hdp
                go_wp2_with fail
                go_quiet (fail)
                go_wp2_with fail
                go_roundg (k - (j + 1))
                case measure => omega
                case rel =>
                  obtain ⟨n, e⟩ := HWj.out
                  exact ⟨j + 1, false, by go_num, rfl, hjl, rfl, (fun h => by cases h), n + nq, by rw [e]; exact World.drewN_drewN _ _ _⟩
              · have hdb : (!d.path == c.path) = true := by simpa using hdp
                have HDp := Lib.hid hdp
                clear hdp
                go_wp2_with fail
                go_quiet (fail)
                go_wp2_with fail
                go_roundg (k - (j + 1))
                case measure => omega
                case rel =>
                  obtain ⟨n, e⟩ := HWj.out
                  exact ⟨j + 1, true, by go_num, rfl, hjl, rfl, (fun _ x hx => by
                    rcases mem_take_succ hx HG2.out with hx | rfl
                    · exact HAll.out trivial x hx
                    · exact HDp.out), n + nq, by rw [e]; exact World.drewN_drewN _ _ _⟩
          · have hjl' : decide ((j : Int) < (k : Int)) = false := by simp; omega
            obtain rfl : j = k := by omega
            have hkI : (j : Int) < (cs.length : Int) := by omega
            obtain ⟨nw, hnw⟩ := HWj.out
            have hb5 : Below W4.heap.size W4 wr := by rw [hnw]; exact below_drewN HI.out.below _
            have hI5 := HI.out.skip nw
            rw [← hnw] at hI5
            have k0 : wr.cell? ⟨b, o + j * 7, none⟩ = some (.int .i64 c.kind) := (hb5.cell (p := ⟨b, o + j * 7, none⟩) hB).trans HCc.out.c0
            have k1 : wr.cell? ⟨b, o + j * 7 + 1, none⟩ = some (.string (bs c.path)) := (hb5.cell (p := ⟨b, o + j * 7 + 1, none⟩) hB).trans HCc.out.c1
            have k2 : wr.cell? ⟨b, o + j * 7 + 2, none⟩ = some (.string (bs c.name)) := (hb5.cell (p := ⟨b, o + j * 7 + 2, none⟩) hB).trans HCc.out.c2
            have k3 : wr.cell? ⟨b, o + j * 7 + 3, none⟩ = some (.int .i64 c.nkind) := (hb5.cell (p := ⟨b, o + j * 7 + 3, none⟩) hB).trans HCc.out.c3
            have k4 : wr.cell? ⟨b, o + j * 7 + 4, none⟩ = some (.int .i64 c.mode) := (hb5.cell (p := ⟨b, o + j * 7 + 4, none⟩) hB).trans HCc.out.c4
            have k5 : wr.cell? ⟨b, o + j * 7 + 5, none⟩ = some (.string (bs c.link)) := (hb5.cell (p := ⟨b, o + j * 7 + 5, none⟩) hB).trans HCc.out.c5
            have k6 : wr.cell? ⟨b, o + j * 7 + 6, none⟩ = some dc := (hb5.cell (p := ⟨b, o + j * 7 + 6, none⟩) hB).trans HCc.out.c6
            have HI5 := Lib.hid hI5
            have HB5 := Lib.hid hb5
            have HDc5 := Lib.hid (hb5.size)
            clear hI5 hnw hjl hb5
            by_cases hq : (c.kind = 1 ∧ c.nkind ≠ 4) ∧ f = true
            · obtain ⟨⟨hk1, hk4⟩, rfl⟩ := hq
              have hk1b : (c.kind == 1) = true := by simp [hk1]
              have hk4b : (c.nkind != 4) = true := by simpa using hk4
              obtain ⟨Ad, cd, rfl, _, _⟩ := id HDc.out
              have HK1 := Lib.hid hk1
              have HK4 := Lib.hid hk4
              obtain ⟨vs, hrow, hflat⟩ := HI5.out.row
              have hfw := HI5.out.few
              have hown1 := hrow.alloc (.cells #[.int .i64 c.kind, .string (bs c.path), .string (bs c.name), .int .i64 c.nkind, .int .i64 c.mode, .string (bs c.link), .slice Ad c.data.length cd] 37)
              have hnews := World.news_of_block (B := wr.heap.size) (heap_alloc_new wr (.cells #[.int .i64 c.kind, .string (bs c.path), .string (bs c.name), .int .i64 c.nkind, .int .i64 c.mode, .string (bs c.link), .slice Ad c.data.length cd] 37))
              have HFl := Lib.hid hflat
              have HOwn := Lib.hid hown1
              have HNews := Lib.hid hnews
              have hkm : P.length + 1 ≤ maxLen := by unfold maxLen; omega
              have hkb : (P.length + 1) * 96 ≤ 140737488355328 := by omega
              clear hflat hrow hown1 hnews hk1 hk4
              go_wp2_with (at_builtin; refine wpList_append_own _ rfl _ _ 22 rfl W4.heap.size 37 i0 (.agg #[.int .i64 0, .string ⟨#[]⟩, .string ⟨#[]⟩, .int .i64 0, .int .i64 0, .string ⟨#[]⟩, .slice none 0 0]) 7 96 Tryd.underlying22 hi0 hz0 hz1 hz2 rfl (by decide) _ _ _ rfl HOwn.out ⟨wr.heap.size, 0, none⟩ 1 1 [.int .i64 c.kind, .string (bs c.path), .string (bs c.name), .int .i64 c.nkind, .int .i64 c.mode, .string (bs c.link), .slice Ad c.data.length cd] rfl rfl HNews.out (by intro u hu; simp at hu; rcases hu with rfl | rfl | rfl | rfl | rfl | rfl | rfl <;> rfl) hkm hkb (by simp; have := HB5.out.size; omega) ?_; intro v' w3 hown' hgrow hnil)
              have hb6 : Below W4.heap.size W4 w3 := (HB5.out.alloc HB5.out.size _).grown hgrow (by simp; have := HB5.out.size; omega) (fun j hj => (HOwn.out.lt j hj).1)
              have hI6 := HI.out.snoc HCk.out HK1.out HK4.out (HAll.out trivial) hown' HFl.out HDc.out hb6
              have HI6 := Lib.hid hI6
              clear hI6 hown' hgrow hnil hb6
              go_roundg (cs.length - (j + 1))
              case measure => omega
              case rel => exact ⟨j + 1, P ++ [c], by go_num, rfl, by omega, by omega, HI6.out⟩
            · have hway : (c.kind == 1) = false ∨ ((c.kind == 1) = true ∧ (c.nkind != 4) = false) ∨ ((c.kind == 1) = true ∧ (c.nkind != 4) = true ∧ f = false) := by
                by_cases h1 : c.kind = 1
                · by_cases h4 : c.nkind = 4
                  · exact .inr (.inl ⟨by simp [h1], by simp [h4]⟩)
                  · cases f with
                    | true => exact absurd ⟨⟨h1, h4⟩, rfl⟩ hq
                    | false => exact .inr (.inr ⟨by simp [h1], by simpa using h4, rfl⟩)
                · exact .inl (by simpa using h1)
              clear hq
              rcases hway with hq1 | ⟨hq1, hq2⟩ | ⟨hq1, hq2, rfl⟩
              all_goals
                go_wp2_with fail
                go_roundg (cs.length - (j + 1))
                case measure => omega
                case rel => exact ⟨j + 1, P, by go_num, rfl, by omega, by omega, HI5.out⟩
      · have hpc := HI.out.chs hk40
        have hbx := HI.out.below
        have hbwx := hbw4.trans (hbx.mono hbw4.size)
        have hn5 := (HN4.out.below hbx).more hbx.size
        have happ := apply_any T P _ _ wx (HM.out.grow hbwx) hn5 hpc
        have hpu : (∀ c ∈ P, c.kind = 1 ∧ c.nkind ≠ 4) ∧ P.Pairwise (fun c d => c.path ≠ d.path) := ⟨fun c hc => (HI.out.puts c hc).1, HI.out.unlike⟩
        have HApp2 := Lib.hid happ
        have HPc := Lib.hid hpc
        have HPu := Lib.hid hpu
        have HBwx := Lib.hid hbwx
        obtain ⟨Ap, np, hve, _, _⟩ := id hpc
        subst hve
        have hway : (¬ k < cs.length ∧ decide ((k : Int) < (cs.length : Int)) = false) ∨ (k < cs.length ∧ decide ((k : Int) < (cs.length : Int)) = true ∧ ¬ k < 40 ∧ decide ((k : Int) < 40) = false) := by
          by_cases h : k < cs.length
          · exact .inr ⟨h, by simp; omega, by omega, by simp; omega⟩
          · exact .inl ⟨h, by simp; omega⟩
        clear hlt happ hpc hn5 hpu hbx hbwx HI HApp
        rcases hway with ⟨hq1, hw1⟩ | ⟨hq1, hw1, hq2, hw2⟩
        all_goals
          go_wp2_with fail
          refine HApp2.out.mono ?_
          rintro e W6 ⟨hb6, hp6⟩
          have hbw6 := HBwx.out.trans (hb6.mono HBwx.out.size)
          have hpc6 := (HPc.out.below hb6).more hb6.size
          cases hax : applyT T P with
          | error n =>
            rw [hax] at hp6
            simp only at hp6
            subst hp6
            have hn0 : (n != 0) = true := by simpa using applyT_error hax
            have happ := apply_any [] P _ _ W6 (HM.out.grow hbw6) (nodesAt_none W6 W6.heap.size) hpc6
            have HApp := Lib.hid happ
            clear happ hpc6 hax
            go_wp2_with fail
            refine HApp.out.mono ?_
            rintro e W7 ⟨hb7, hp7⟩
            have hbw7 := hbw6.trans (hb7.mono hbw6.size)
            have hlive := live_any W7 (HM.out.grow hbw7)
            have HLive := Lib.hid hlive
            clear hlive
            cases hay : applyT [] P with
            | error m =>
              rw [hay] at hp7
              simp only at hp7
              subst hp7
              clear hay
              go_wp2_with fail
              refine HLive.out.mono ?_
              rintro e W8 ⟨rfl, hb8⟩
              have hbw8 := hbw7.trans (hb8.mono hbw7.size)
              go_wp2_with fail
              go_ret
              exact ⟨rfl, hbw8⟩
            | ok Y =>
              rw [hay] at hp7
              simp only at hp7
              obtain ⟨v7, rfl, hn7⟩ := hp7
              clear hay hn7
              go_wp2_with fail
              refine HLive.out.mono ?_
              rintro e W8 ⟨rfl, hb8⟩
              have hbw8 := hbw7.trans (hb8.mono hbw7.size)
              go_wp2_with fail
              go_ret
              exact ⟨rfl, hbw8⟩
          | ok X =>
            rw [hax] at hp6
            simp only at hp6
            obtain ⟨v6, rfl, hn6⟩ := hp6
            have happ := apply_any X P _ _ W6 (HM.out.grow hbw6) hn6 hpc6
            obtain ⟨A6, c6, rfl, _, _⟩ := id hn6
            have HApp := Lib.hid happ
            have HN6 := Lib.hid hn6
            have HAx := Lib.hid hax
            have HPc6 := Lib.hid hpc6
            clear happ hpc6 hax hn6
            go_wp2_with fail
            refine HApp.out.mono ?_
            rintro e W7 ⟨hb7, hp7⟩
            have hbw7 := hbw6.trans (hb7.mono hbw6.size)
            have hlive := live_any W7 (HM.out.grow hbw7)
            have HLive := Lib.hid hlive
            clear hlive
            cases hay : applyT X P with
            | error m =>
              rw [hay] at hp7
              simp only at hp7
              subst hp7
              have hm0 : (m != 0) = true := by simpa using applyT_error hay
              clear hay
              go_wp2_with fail
              refine HLive.out.mono ?_
              rintro e W8 ⟨rfl, hb8⟩
              have hbw8 := hbw7.trans (hb8.mono hbw7.size)
              go_wp2_with fail
              go_ret
              exact ⟨rfl, hbw8⟩
            | ok Y =>
              rw [hay] at hp7
              simp only at hp7
              obtain ⟨v7, rfl, hn7⟩ := hp7
              have hidle : (∀ c ∈ P, ∀ d ∈ P, belowR c.path d.path = false) → X = Y := fun hb => idle_law HPu.out.1 HPu.out.2 hb HAx.out hay
              have HIdle := Lib.hid hidle
              have HN7 := Lib.hid hn7
              obtain ⟨A7, c7, rfl, _, _⟩ := id hn7
              clear hay hn7 hidle
              go_wp2_with fail
              refine HLive.out.mono ?_
              rintro e W8 ⟨rfl, hb8⟩
              have hbw8 := hbw7.trans (hb8.mono hbw7.size)
              have hb68 := hb7.trans (hb8.mono hb7.size)
              have hsame := same_any X Y _ _ W8.heap.size W8 ((HN6.out.below hb68).more hb68.size) ((HN7.out.below hb8).more hb8.size)
              have HSame := Lib.hid hsame
              clear hsame
              go_wp2_with fail
              refine HSame.out.mono ?_
              rintro e W9 ⟨s, rfl, hs, n9, hw9⟩
              have hb89 : Below W8.heap.size W8 W9 := by rw [hw9]; exact below_drewN (Below.refl _ _) _
              have hbw9 := hbw8.trans (hb89.mono hbw8.size)
              have hb69 := hb68.trans (hb89.mono hb68.size)
              have HS := Lib.hid hs
              clear hs hw9
              cases s with
              | true =>
                go_wp2_with fail
                go_ret
                exact ⟨rfl, hbw9⟩
              | false =>
                have hcl := clash_any P _ W9.heap.size W9 ((HPc6.out.below hb69).more hb69.size)
                have HCl := Lib.hid hcl
                clear hcl
                go_wp2_with fail
                refine HCl.out.mono ?_
                rintro e W10 ⟨s, rfl, hs, n10, hw10⟩
                have hst : s = true := by
                  cases s with
                  | true => rfl
                  | false => exact absurd (HS.out (HIdle.out (hs rfl))) (by decide)
                subst hst
                have hbw10 : Below w.heap.size w W10 := by rw [hw10]; exact below_drewN hbw9 _
                clear hs hw10
                go_wp2_with fail
                go_ret
                exact ⟨rfl, hbw10⟩

end Go.Proofs.YtjolgckkoidhgaaDoor
