/-
  The walk over the law UnionGone: it answers true of every layers and path.
-/
import Derived.Test.YtjolgckkoidhgaaDoorClash
namespace Go.Proofs.YtjolgckkoidhgaaDoor
open Go.RowKit Go.Shelf Pa
attribute [local go_sem] bs_toList bs_size

theorem puts_nothing {T : List Nd} {c : Ch} (hk : c.kind = 2) : puts T [c] = .ok T := by
  rw [puts, if_neg (by rw [hk]; decide), puts]
/-- What goes wrong at a whiteout is its form. -/
theorem white_error {t : List Nd} {c : Ch} {n : Int} (ht : Tree t) (hk : c.kind = 2) (h : applyT t [c] = .error n) : n = 3 := by
  cases hc : [c].all mayC with
  | false => rw [applyT_bad ht.treeOf hc] at h; injection h with h; exact h.symm
  | true => rw [applyT_go ht.treeOf hc, puts_nothing hk] at h; cases h

theorem filter_at {α : Type} (f : α → Bool) : ∀ (T : List α) (i : Nat) (n : α), T[i]? = some n → f n = true → (T.filter f)[((T.take i).filter f).length]? = some n
  | [], i, n, h, _ => by simp at h
  | x :: T, 0, n, h, hf => by
    have : x = n := by simpa using h
    subst this
    simp [hf]
  | x :: T, i + 1, n, h, hf => by
    have ih := filter_at f T i n (by simpa using h) hf
    rw [List.take_succ_cons, List.filter_cons, List.filter_cons]
    cases hx : f x with
    | false => simpa using ih
    | true => simpa using ih
theorem filter_take {α : Type} (f : α → Bool) {T : List α} {i : Nat} {n : α} (h : T[i]? = some n) : ((T.take (i + 1)).filter f).length = ((T.take i).filter f).length + (if f n = true then 1 else 0) := by
  obtain ⟨hi, e⟩ := List.getElem?_eq_some_iff.1 h
  rw [List.take_succ_eq_append_getElem hi, e, List.filter_append, List.length_append]
  congr 1
  cases hf : f n <;> simp [hf]

set_option maxRecDepth 100000 in
set_option maxHeartbeats 4000000 in
theorem unionGone_any (a : List Ch) (v : Value) (p : Str) (w : World) (hm : MaxOk w) (ha : ChsAt w w.heap.size v a) :
    Calls Tryd.prog 4 #[v, .string (bs p)] w fun e w' => e = .returned (.bool true) ∧ Below w.heap.size w w' := by
  have hfew := few_any a v w.heap.size w ha
  have HFew := Lib.hid hfew
  have HM := Lib.hid hm
  clear hfew hm ha
  go_enter Tryd.func4, Tryd.ntmps4
  go_wp2_with fail
  refine HFew.out.mono ?_
  rintro e w' ⟨vf, rfl, hvf, hw⟩
  obtain rfl := hw.symm
  clear hw
  obtain ⟨Af, nf, hve, _, _⟩ := id hvf
  obtain ⟨m, hm⟩ : ∃ m, m = (a.take 60).length := ⟨_, rfl⟩
  rw [← hm] at hve
  subst hve
  clear hm
  have hb1 : Below w.heap.size w (w.alloc (.cells #[.slice Af m nf] 22)) := (Below.refl _ _).alloc (Nat.le_refl _) _
  have hlay := laysAt_one (W := w.alloc (.cells #[.slice Af m nf] 22)) (heap_alloc_new w (.cells #[.slice Af m nf] 22)) ((hvf.below hb1).more hb1.size)
  have hfold := fold_any [a.take 60] _ _ (HM.out.grow hb1) hlay
  have HFold := Lib.hid hfold
  clear hfold hlay
  go_wp2_with fail
  refine HFold.out.mono ?_
  rintro e W2 ⟨hb2, hp⟩
  have hbw2 := hb1.trans (hb2.mono hb1.size)
  have hlive := live_any W2 (HM.out.grow hbw2)
  cases hfo : foldT [] [a.take 60] with
  | error n =>
    rw [hfo] at hp
    simp only at hp
    obtain ⟨hn0, rfl⟩ := hp
    have hn2 : (n != 0) = true := by simpa using hn0
    have HLive := Lib.hid hlive
    clear hn0 hfo hlive
    go_wp2_with fail
    refine HLive.out.mono ?_
    rintro e W3 ⟨rfl, hb3⟩
    have hbw3 := hbw2.trans (hb3.mono hbw2.size)
    go_wp2_with fail
    go_ret
    exact ⟨rfl, hbw3⟩
  | ok T =>
    rw [hfo] at hp
    simp only at hp
    obtain ⟨v2, rfl, hn2⟩ := hp
    have hT : Tree T := foldT_tree [a.take 60] [] T Tree.nil hfo
    obtain ⟨At, ct, rfl, ⟨hct, hlt⟩, hft⟩ := id hn2
    have HN2 := Lib.hid hn2
    have HFt := Lib.hid hft
    have HT := Lib.hid hT
    clear hn2 hT hfo hlive hft
    have hb3 : Below W2.heap.size W2 (W2.alloc (.cells #[.int .i64 2, .string (bs p), .string ⟨#[]⟩, .int .i64 0, .int .i64 0, .string ⟨#[]⟩, .slice none 0 0] 37)) := (Below.refl _ _).alloc (Nat.le_refl _) _
    have hbw3 := hbw2.trans (hb3.mono hbw2.size)
    have hcs : ChsAt (W2.alloc (.cells #[.int .i64 2, .string (bs p), .string ⟨#[]⟩, .int .i64 0, .int .i64 0, .string ⟨#[]⟩, .slice none 0 0] 37)) _ (.slice (some ⟨W2.heap.size, 0, none⟩) 1 1) [⟨2, p, [], 0, 0, [], []⟩] :=
      chsAt_one (by simp) (chCells_of (o := 0) (c := ⟨2, p, [], 0, 0, [], []⟩) (dv := .slice none 0 0) (heap_alloc_new W2 _) rfl rfl rfl rfl rfl rfl rfl) (BytesAt.nil _ _ _ _)
    have happ := apply_any T [⟨2, p, [], 0, 0, [], []⟩] _ _ _ (HM.out.grow hbw3) ((HN2.out.below hb3).more hb3.size) hcs
    have HApp := Lib.hid happ
    clear happ hcs
    go_wp2_with fail
    refine HApp.out.mono ?_
    rintro e W4 ⟨hb4, hp4⟩
    have hbw4 := hbw3.trans (hb4.mono hbw3.size)
    have hlive := live_any W4 (HM.out.grow hbw4)
    cases hap : applyT T [⟨2, p, [], 0, 0, [], []⟩] with
    | error n =>
      rw [hap] at hp4
      simp only at hp4
      subst hp4
      obtain rfl := white_error HT.out rfl hap
      have HLive := Lib.hid hlive
      clear hap hlive
      go_wp2_with fail
      refine HLive.out.mono ?_
      rintro e W5 ⟨rfl, hb5⟩
      have hbw5 := hbw4.trans (hb5.mono hbw4.size)
      go_wp2_with fail
      go_ret
      exact ⟨rfl, hbw5⟩
    | ok U =>
      rw [hap] at hp4
      simp only at hp4
      obtain ⟨v4, rfl, hn4⟩ := hp4
      have hU := gone_law HT.out rfl rfl hap
      obtain ⟨Au, cu, rfl, ⟨hcu, hlu⟩, hfu⟩ := id hn4
      have HFu := Lib.hid hfu
      have HU := Lib.hid hU
      have HLive := Lib.hid hlive
      clear hn4 hap hU hfu hlive
      go_wp2_with fail
      go_loopg [9, 10] T.length (fun g s9 s10 wx => ∃ i : Nat, s10 = .int .i64 i ∧ g = T.length - i ∧ i ≤ T.length ∧ s9 = .int .i64 ((T.take i).filter (fun n => !(decide (n.path = p) || belowR n.path p))).length ∧ ∃ nd, wx = W4.drewN nd)
      case atStart => exact ⟨0, rfl, rfl, Nat.zero_le _, rfl, 0, rfl⟩
      case round =>
        obtain ⟨i, rfl, rfl, hi, rfl, nd, hw⟩ := hrel
        have HW := Lib.hid hw
        clear hw
        by_cases hilt : i < T.length
        · have hilt' : decide ((i : Int) < (T.length : Int)) = true := by simp; omega
          obtain ⟨bt, ot, rfl, hBt, hxt⟩ := HFt.out (by rintro rfl; simp at hilt)
          have hg1 := List.getElem?_eq_getElem hilt
          generalize T[i] = n at hg1
          obtain ⟨dn, hdn, cn⟩ := hxt i n hg1
          have hcell : ∀ x : Addr, x.block < W2.heap.size → wr.cell? x = W2.cell? x := fun x hx => by
            rw [HW.out]
            exact ((hb3.trans (hb4.mono hb3.size)).cell hx)
          have p0 : wr.cell? ⟨bt, ot + i * 5, none⟩ = some (.string (bs n.path)) := (hcell _ hBt).trans cn.c0
          have p4 : wr.cell? ⟨bt, ot + i * 5 + 4, none⟩ = some dn := (hcell _ hBt).trans cn.c4
          have hdn' : BytesAt wr W2.heap.size dn n.data := hdn.keep (fun b o hB => hcell ⟨b, o, none⟩ hB)
          have hft := filter_take (fun n => !(decide (n.path = p) || belowR n.path p)) hg1
          have hfa := filter_at (fun n => !(decide (n.path = p) || belowR n.path p)) T i n hg1
          obtain ⟨k, hk⟩ : ∃ k, k = ((T.take i).filter (fun n => !(decide (n.path = p) || belowR n.path p))).length := ⟨_, rfl⟩
          rw [← hk] at hft hfa ⊢
          have HFt2 := Lib.hid hft
          have HFa := Lib.hid hfa
          have HDn := Lib.hid hdn'
          have HCell := Lib.hid hcell
          clear hft hfa hk hg1 hdn hdn' cn hxt hcell
          by_cases hp : n.path = p
          · have hpb : (n.path == p) = true := by simp [hp]
            have hnext : ((T.take (i + 1)).filter (fun n => !(decide (n.path = p) || belowR n.path p))).length = k := by rw [HFt2.out, if_neg (by simp [hp])]; rfl
            have HNext := Lib.hid hnext
            have HP := Lib.hid hp
            clear hnext hp
            go_wp2_with fail
            go_roundg (T.length - (i + 1))
            case measure => omega
            case rel => exact ⟨i + 1, by go_num, rfl, hilt, by rw [HNext.out], nd, HW.out⟩
          · have hpb : (n.path == p) = false := by simp [hp]
            have HP := Lib.hid hp
            clear hp
            cases hbr : belowR n.path p with
            | true =>
              have hnext : ((T.take (i + 1)).filter (fun n => !(decide (n.path = p) || belowR n.path p))).length = k := by rw [HFt2.out, if_neg (by simp [hbr])]; rfl
              have hsb := belowR_any n.path p wr
              rw [hbr] at hsb
              have HNext := Lib.hid hnext
              have HSb := Lib.hid hsb
              clear hnext hsb hbr
              go_wp2_with fail
              refine HSb.out.mono ?_
              rintro e W5 ⟨rfl, nq, hw5⟩
              have HW5 := Lib.hid hw5
              clear hw5
              go_wp2_with fail
              go_roundg (T.length - (i + 1))
              case measure => omega
              case rel => exact ⟨i + 1, by go_num, rfl, hilt, by rw [HNext.out], nd + nq, by rw [HW5.out, HW.out]; exact World.drewN_drewN _ _ _⟩
            | false =>
              have hfn : (!(decide (n.path = p) || belowR n.path p)) = true := by simp [HP.out, hbr]
              have hnext : ((T.take (i + 1)).filter (fun n => !(decide (n.path = p) || belowR n.path p))).length = k + 1 := by rw [HFt2.out, if_pos hfn]
              have hu := HFa.out hfn
              rw [← HU.out] at hu
              have hku : k < U.length := (List.getElem?_eq_some_iff.1 hu).1
              obtain ⟨bu, ou, rfl, hBu, hxu⟩ := HFu.out (by rintro rfl; simp at hku)
              obtain ⟨du, hdu, cu'⟩ := hxu k n hu
              have hcu : ∀ x : Addr, wr.cell? x = W4.cell? x := fun x => by rw [HW.out]; rfl
              have q0 : wr.cell? ⟨bu, ou + k * 5, none⟩ = some (.string (bs n.path)) := (hcu _).trans cu'.c0
              have q4 : wr.cell? ⟨bu, ou + k * 5 + 4, none⟩ = some du := (hcu _).trans cu'.c4
              have hdu' : BytesAt wr W4.heap.size du n.data := hdu.keep (fun b o _ => hcu _)
              have hdn4 : BytesAt wr W4.heap.size dn n.data := HDn.out.more (by have := hb4.size; have := hb3.size; omega)
              have hbb := belowR_any n.path p wr
              rw [hbr] at hbb
              obtain ⟨Au, eu, rfl, _, _⟩ := id hdu'
              obtain ⟨An, en, rfl, _, _⟩ := id hdn4
              have hge : decide ((U.length : Int) ≤ (k : Int)) = false := by simp; omega
              have hnn : (!n.path == n.path) = false := by simp
              have HNext := Lib.hid hnext
              have HBb := Lib.hid hbb
              have HDu := Lib.hid hdu'
              have HDn4 := Lib.hid hdn4
              clear hnext hbb hbr hfn hu hxu hdu hdu' hdn4 cu' hcu
              go_wp2_with fail
              refine HBb.out.mono ?_
              rintro e W5 ⟨rfl, nb, hw5⟩
              have hc5 : ∀ x : Addr, W5.cell? x = wr.cell? x := fun x => by rw [hw5]; rfl
              have p0' := (hc5 _).trans p0
              have p4' := (hc5 _).trans p4
              have q0' := (hc5 _).trans q0
              have q4' := (hc5 _).trans q4
              have hsb : ∀ j, Calls Tryd.prog 13 #[.slice Au n.data.length eu, .slice An n.data.length en] (W5.drewN j) fun e w'' => e = .returned (.bool true) ∧ ∃ i, w'' = W5.drewN i := fun j =>
                (sameBytes_any n.data n.data _ _ W4.heap.size (W5.drewN j) (HDu.out.keep (fun _ _ _ => hc5 _)) (HDn4.out.keep (fun _ _ _ => hc5 _))).mono fun e w'' ⟨he, i, hw⟩ => ⟨by rw [he]; simp, j + i, by rw [hw]; exact World.drewN_drewN _ _ _⟩
              have HW5 := Lib.hid hw5
              clear hw5 hc5 p0 p4 q0 q4
              go_wp2_with fail
              go_quiet ((go_at_call 13; exact hsb _))
              go_wp2_with fail
              go_roundg (T.length - (i + 1))
              case measure => omega
              case rel => exact ⟨i + 1, by go_num, rfl, hilt, by rw [HNext.out]; go_num, nd + (nb + nq), by rw [HW5.out, HW.out]; simp [World.drewN_drewN, Nat.add_assoc]⟩
        · have hilt' : decide ((i : Int) < (T.length : Int)) = false := by simp; omega
          have hlen : ((T.take i).filter (fun n => !(decide (n.path = p) || belowR n.path p))).length = U.length := by
            rw [HU.out, List.take_of_length_le (by omega)]
          have hb5 : Below w.heap.size w wr := by rw [HW.out]; exact below_drewN hbw4 _
          rw [hlen]
          have hlive2 := live_any wr (HM.out.grow hb5)
          have HLive2 := Lib.hid hlive2
          clear hlive2
          go_wp2_with fail
          refine HLive2.out.mono ?_
          rintro e W6 ⟨rfl, hb6⟩
          have hbw6 := hb5.trans (hb6.mono hb5.size)
          go_wp2_with fail
          go_ret
          exact ⟨rfl, hbw6⟩

end Go.Proofs.YtjolgckkoidhgaaDoor
