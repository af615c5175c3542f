/-
  The walk over slices.SortedFunc at a tree's keys: its paths, in order.
-/
import Derived.Test.YtjolgckkoidhgaaGreatDoorKeys
import Derived.Test.YtjolgckkoidhgaaGreatDoorPutBase
namespace Go.Proofs.YtjolgckkoidhgaaGreatDoor
open Go.RowKit Go.Shelf Pa
open Go.Sort (SWO Holds putRow mapBlock onCells ahead grow holds_putRow)
attribute [local go_sem] bs_toList bs_size

theorem sortWorld_grownBy {α : Type} [Inhabited α] (enc : α → Value) (w : World) (blk off m : Nat) (d : Array α) (os : Array Obj) : w.grownBy (sortWorld enc w blk off m d os) (some blk) := by
  refine ⟨rfl, rfl, rfl, ?_, fun k hk hne => ?_⟩
  · simp [sortWorld, grow]
  · have hne' : blk ≠ k := fun e => hne (by rw [e])
    simp [sortWorld, grow, putRow, mapBlock, Array.getElem?_append, hk, Array.getElem_modify, hne']

/-- A path. -/
abbrev Pth : Type := { p : Str // (splitP p).isSome = true }
instance : Inhabited Pth := ⟨⟨[47], by decide⟩⟩
def encP (p : Pth) : Value := .string (bs p.1)
def ordP (p q : Pth) : Int := orderP p.1 q.1
def toP (p : Str) : Pth := if h : (splitP p).isSome = true then ⟨p, h⟩ else default
theorem toP_val {p : Str} (h : (splitP p).isSome = true) : (toP p).1 = p := by unfold toP; rw [dif_pos h]
theorem Pth.names_inj {p q : Pth} (h : names p.1 = names q.1) : p = q := by
  obtain ⟨p, hp⟩ := p
  obtain ⟨q, hq⟩ := q
  obtain ⟨lp, hp'⟩ := Option.isSome_iff_exists.1 hp
  obtain ⟨lq, hq'⟩ := Option.isSome_iff_exists.1 hq
  simp only [names, hp', hq', Option.getD_some] at h
  have h1 := (splitP_some hp').1
  have h2 := (splitP_some hq').1
  rw [h] at h1
  exact Subtype.ext (h1.symm.trans h2)
theorem ltP_iff {p q : Pth} : ltOf ordP p q = true ↔ cmpL (names p.1) (names q.1) < 0 := by unfold ltOf ordP orderP; simp
theorem ltP_total {p q : Pth} (h1 : ltOf ordP p q = false) (h2 : ltOf ordP q p = false) : p = q := by
  rcases cmpL_tri (names p.1) (names q.1) with h | h | h
  · rw [ltP_iff.2 h] at h1; cases h1
  · exact Pth.names_inj h
  · rw [ltP_iff.2 h] at h2; cases h2
theorem swoP : SWO (ltOf ordP) := by
  refine ⟨fun x => ?_, fun x y z h1 h2 => ltP_iff.2 (cmpL_trans _ _ _ (ltP_iff.1 h1) (ltP_iff.1 h2)), fun x y z h1 h2 => ?_⟩
  · cases h : ltOf ordP x x with
    | false => rfl
    | true => exact absurd (ltP_iff.1 h) (cmpL_irr _)
  · cases h : ltOf ordP x z with
    | false => rfl
    | true =>
      exfalso
      have h3 := ltP_iff.1 h
      have n1 : ¬ cmpL (names x.1) (names y.1) < 0 := fun h => by rw [ltP_iff.2 h] at h1; cases h1
      have n2 : ¬ cmpL (names y.1) (names z.1) < 0 := fun h => by rw [ltP_iff.2 h] at h2; cases h2
      rcases cmpL_tri (names x.1) (names y.1) with h | h | h
      · exact n1 h
      · rw [h] at h3; exact n2 h3
      · exact n2 (cmpL_trans _ _ _ h h3)

/-- The paths sorted are those of the sorted nodes. -/
theorem sorted_paths {T : List Nd} (hg : Pa.Good T) {ss : List Str} (hp : ss.Perm (T.map (·.path))) :
    (ss.map toP).mergeSort (fun x y => !(ltOf ordP) y x) = (srt T).map (fun n => toP n.path) := by
  have tr : ∀ a b c : Pth, (!(ltOf ordP) b a) = true → (!(ltOf ordP) c b) = true → (!(ltOf ordP) c a) = true := fun a b c h1 h2 => by
    have h1' : ltOf ordP b a = false := by simpa using h1
    have h2' : ltOf ordP c b = false := by simpa using h2
    rw [swoP.ntrans c b a h2' h1']; rfl
  have tot : ∀ a b : Pth, ((!(ltOf ordP) b a) || !(ltOf ordP) a b) = true := fun a b => by
    cases h : ltOf ordP b a with
    | false => rfl
    | true => rw [swoP.asymmA h]; rfl
  refine List.Perm.eq_of_pairwise (le := fun a b => (!(ltOf ordP) b a) = true) (fun a b _ _ h1 h2 => ?_) (List.pairwise_mergeSort tr tot _) ?_ ?_
  · exact ltP_total (by simpa using h2) (by simpa using h1)
  · rw [List.pairwise_map]
    refine (srt_sorted hg).imp_of_mem fun {a b} ha hb h => ?_
    have ea : (toP a.path).1 = a.path := toP_val (by rw [(rightN_names (hg.right a ((srt_perm T).mem_iff.1 ha))).1]; rfl)
    have eb : (toP b.path).1 = b.path := toP_val (by rw [(rightN_names (hg.right b ((srt_perm T).mem_iff.1 hb))).1]; rfl)
    have : ltOf ordP (toP a.path) (toP b.path) = true := by rw [ltP_iff, ea, eb]; exact h
    rw [swoP.asymmA this]; rfl
  · refine (List.mergeSort_perm _ _).trans ((hp.map toP).trans ?_)
    rw [List.map_map]
    exact ((srt_perm T).map (toP ∘ (·.path))).symm

theorem order_lays (blk off size : Nat) (w : World) (hm : MaxOk w) (hbl : 0 ≠ blk) : CmpLays1 Tryz.prog 52 #[] encP ordP blk off size w := by
  intro m os dk _ x y
  have hg := sortWorld_grownBy encP w blk off m dk os
  have hmw : MaxOk (sortWorld encP w blk off m dk os) := by
    have hlt := hm.lt
    obtain ⟨v, hv⟩ := hm
    exact ⟨v, (World.cell?_of_block (w := w) (hg.block _ hlt (fun e => hbl (Option.some.inj e)))).trans hv⟩
  refine (order_d x.1 y.1 _ hmw).mono ?_
  rintro e w' ⟨rfl, hd⟩
  have hdr := hd.drawn
  obtain ⟨p, rfl⟩ := regrown_of_below hd.toBelow
  have hdr' : (sortWorld encP w blk off m dk os).drawn ≤ p.d := hdr
  refine ⟨rfl, p.d - (sortWorld encP w blk off m dk os).drawn, p.os, ?_⟩
  have : redrawn (sortWorld encP w blk off m dk os) p.d = (sortWorld encP w blk off m dk os).drewN (p.d - (sortWorld encP w blk off m dk os).drawn) := by
    unfold redrawn World.drewN
    have e : (sortWorld encP w blk off m dk os).drawn + (p.d - (sortWorld encP w blk off m dk os).drawn) = p.d := by omega
    rw [e]
  rw [this]

theorem good_path {T : List Nd} (hg : Pa.Good T) {n : Nd} (hn : n ∈ T) : (splitP n.path).isSome = true ∧ n.path.length ≤ 255 := by
  have h := (rightN_names (hg.right n hn)).1
  exact ⟨by rw [h]; rfl, (splitP_some h).2.2.2⟩

set_option maxRecDepth 100000 in
set_option maxHeartbeats 1000000 in
theorem sortedFunc_any (T : List Nd) (b B : Nat) (w : World) (hg : Pa.Good T) (hl : T.length ≤ 256) (h : TreeAt w b T) (hm : MaxOk w) (hB : B < w.heap.size) (hmc : w.cell? ⟨B, 0, none⟩ = some (.map (some b))) :
    Calls Tryz.prog 109 #[.func (.func 145) #[] #[.pointer (some ⟨B, 0, none⟩)], .func (.func 52) #[] #[]] w fun e w' =>
      ∃ v, e = .returned v ∧ StrsAt w' w'.heap.size v ((srt T).map (·.path)) ∧ Below w.heap.size w w' := by
  have hc := collect_any T b B w h (fun n hn => (good_path hg hn).2) hl hB hmc
  have hlt := hm.lt
  have HC := Lib.hid hc
  have HM := Lib.hid hm
  have HG := Lib.hid hg
  clear hc hm hg h hmc
  go_enter Tryz.func109, Tryz.ntmps109
  go_wp2_with fail
  refine HC.out.mono ?_
  rintro e W1 ⟨v, ss, rfl, hp, hrow, hnil, hb⟩
  have hlen : ss.length = T.length := by simpa using hp.length_eq
  cases ss with
  | nil =>
    obtain rfl : v = .slice none 0 0 := hnil.2 rfl
    have hT : T = [] := List.length_eq_zero_iff.1 hlen.symm
    have hres : StrsAt W1 W1.heap.size (.slice none 0 0) ((srt T).map (·.path)) := by
      have : (srt T).map (·.path) = [] := by rw [hT]; simp [srt]
      rw [this]; exact StrsAt.nil _ _ _ _
    have HRes := Lib.hid hres
    have hn := Tryz.slices_SortFunc_none (α := Pth) none 0 (.func (.func 52) #[] #[]) W1
    clear hres hp hrow hnil
    go_wp2_with (go_at_call 144; refine hn.mono ?_; rintro e w' ⟨rfl, hw⟩; obtain rfl := hw.symm)
    go_ret
    exact ⟨_, rfl, HRes.out, hb⟩
  | cons s0 sr =>
    obtain ⟨_, hrow⟩ := hrow
    rcases hrow with ⟨_, h0⟩ | ⟨g, cap, cur, rfl, hBg, hgb, hcap, hmx, hsz, htk⟩
    · cases h0
    have hgl : g < W1.heap.size := (Array.getElem?_eq_some_iff.1 hgb).1
    have hval : ∀ s ∈ s0 :: sr, (splitP s).isSome = true := fun s hs => by
      obtain ⟨n, hn, rfl⟩ := List.mem_map.1 (hp.mem_iff.1 hs)
      exact (good_path HG.out hn).1
    have hd : (((s0 :: sr).map toP).toArray).size = (s0 :: sr).length := by simp
    have hH : Holds encP W1 g 0 ((s0 :: sr).map toP).toArray := by
      intro j hj
      have hj' : j < (s0 :: sr).length := by rw [hd] at hj; exact hj
      refine ⟨?_, by simp [World.frozen?, hgb]⟩
      have h1 : (cur.toList.take ((s0 :: sr).length * 1))[j]? = some (Value.string (bs ((s0 :: sr)[j]))) := by
        rw [htk, List.getElem?_map, List.getElem?_eq_getElem hj']; rfl
      rw [List.getElem?_take_of_lt (by omega)] at h1
      have h2 : (((s0 :: sr).map toP).toArray)[j]! = toP ((s0 :: sr)[j]) := by
        rw [getElem!_pos _ j hj, List.getElem_toArray, List.getElem_map]
      rw [h2]
      show W1.cell? ⟨g, 0 + j, none⟩ = some (.string (bs (toP _).1))
      rw [toP_val (hval _ (List.getElem_mem hj')), World.cell?]
      simp only [hgb, Nat.zero_add]
      simpa using h1
    have hmw : MaxOk W1 := HM.out.grow hb
    have hs := Tryz.slices_SortFunc_total encP (fun _ => rfl) ordP swoP 52 #[] g 0 cap ((s0 :: sr).map toP).toArray W1 (enters_of Tryz.func52 (by kernel_rfl) rfl) (order_lays g 0 _ W1 hmw (by omega)) hH hgl (by rw [hd, hlen]; omega) (fun _ _ => ltP_total)
    have hd1 : (((s0 :: sr).map toP).toArray).size = T.length := by rw [hd, hlen]
    rw [hd1] at hs
    have hso : (((s0 :: sr).map toP).toArray.toList.mergeSort fun x y => !(ltOf ordP) y x) = (srt T).map (fun n => toP n.path) := sorted_paths HG.out hp
    rw [hso] at hs
    have HS := Lib.hid hs
    have HH := Lib.hid hH
    clear hs hso hH hp hnil hval hmw htk hmx
    go_wp2_with fail
    refine HS.out.mono ?_
    rintro e w2 ⟨rfl, n, os, hw⟩
    have hsz2 : ((srt T).map (fun n => toP n.path)).toArray.size = ((s0 :: sr).map toP).toArray.size := by
      rw [hd, hlen]; simp [(srt_perm T).length_eq]
    have hH2 := Go.Proofs.holds_sortWorld encP W1 g 0 n _ _ os hgl HH.out hsz2
    have hgr := sortWorld_grownBy encP W1 g 0 n ((srt T).map (fun n => toP n.path)).toArray os
    rw [← hw] at hH2 hgr
    have hb2 : Below w.heap.size w w2 := hb.grown hgr hb.size (fun k hk => by cases hk; exact hBg)
    have hres : StrsAt w2 w2.heap.size (.slice (some ⟨g, 0, none⟩) T.length cap) ((srt T).map (·.path)) := by
      have hll : ((srt T).map (·.path)).length = T.length := by rw [List.length_map, (srt_perm T).length_eq]
      refine ⟨some ⟨g, 0, none⟩, cap, by rw [hll], by rw [hll, ← hlen]; exact hcap, fun _ => ⟨g, 0, rfl, Nat.lt_of_lt_of_le hgl hgr.size, fun i s hi => ?_⟩⟩
      rw [List.getElem?_map, Option.map_eq_some_iff] at hi
      obtain ⟨nd, hnd, rfl⟩ := hi
      have hi' : i < (srt T).length := (List.getElem?_eq_some_iff.1 hnd).1
      have hc2 := (hH2 i (by simpa using hi')).1
      rw [hc2]
      have h2 : (((srt T).map (fun n => toP n.path)).toArray)[i]! = toP nd.path := by
        rw [getElem!_pos _ i (by simpa using hi')]
        have := (List.getElem?_eq_some_iff.1 hnd).2
        simp [this]
      rw [h2]
      show some (Value.string (bs (toP nd.path).1)) = _
      rw [toP_val (good_path HG.out ((srt_perm T).mem_iff.1 (List.mem_of_getElem? hnd))).1]
    have HRes := Lib.hid hres
    clear hres hH2 hgr hw
    go_wp2
    go_ret
    exact ⟨_, rfl, HRes.out, hb2⟩

end Go.Proofs.YtjolgckkoidhgaaGreatDoor
