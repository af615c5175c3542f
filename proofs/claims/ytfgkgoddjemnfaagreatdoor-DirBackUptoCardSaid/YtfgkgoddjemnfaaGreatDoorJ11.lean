/-
  The walk over Join, at longer texts.
  The walk over the law DirBack.
  Arguments opened, with their bulk: a slice of texts joined is no longer than its bulk.
-/
import Derived.Test.YtfgkgoddjemnfaaGreatDoorJ10
import Derived.Test.YtfgkgoddjemnfaaGreatDoorRows
set_option linter.unusedVariables false
set_option linter.unusedSimpArgs false
set_option linter.deprecated false
namespace Go.Proofs.YtfgkgoddjemnfaaGreatDoor
open Go.RowKit Go.Shelf Pa
attribute [local go_sem] bs_toList bs_size

theorem joinWU_any {B : Nat} {l : List Str} {v : Value} {w : World} (h : StrsAt w B v l) (hB : B ≤ w.heap.size) (hl : (Lib.join l [47]).length ≤ 1100000) (hn : l.length ≤ 1100000) :
    Calls Tryz.prog 67 #[v, .string ⟨#[47]⟩] w fun e w' => e = .returned (.string (bs (Lib.join l [47]))) ∧ Below w.heap.size w w' := by
  obtain ⟨A, c, rfl, hc, h⟩ := h
  by_cases h0 : l = []
  · subst h0
    refine (Tryz.strings_Join_none A c ⟨#[47]⟩ w).mono ?_
    rintro e w' ⟨rfl, rfl⟩
    exact ⟨rfl, Below.refl _ _⟩
  · obtain ⟨b, o, rfl, hb, hx⟩ := h h0
    have := Tryz.strings_Join b o c (l.map bs) ⟨#[47]⟩ w (fun j x hj => by
      rw [List.getElem?_map] at hj
      cases hs : l[j]? with
      | none => rw [hs] at hj; cases hj
      | some s => rw [hs] at hj; cases hj; exact hx j s hs) (by omega) (by rw [List.length_map]; omega) (by rw [List.length_map]; exact hc) (by rw [map_bs]; show (Lib.join l [47]).length ≤ _; omega)
    rw [map_bs, List.length_map] at this
    exact this

theorem equalWU_any {B B' : Nat} {l l' : List Str} {v v' : Value} {w : World} (h : StrsAt w B v l) (h' : StrsAt w B' v' l') (hl : l.length ≤ 1100000) (hl' : l'.length ≤ 1100000) :
    Calls Tryz.prog 68 #[v, v'] w fun e w' => e = .returned (.bool (decide (l = l'))) ∧ ∃ q, w' = w.drewN q := by
  obtain ⟨A, c, rfl, hc, h⟩ := h
  obtain ⟨A', c', rfl, hc', h'⟩ := h'
  by_cases hn : l.length = l'.length
  · by_cases h0 : l = []
    · subst h0
      have hl0 : l' = [] := List.length_eq_zero_iff.1 hn.symm
      subst hl0
      refine (Tryz.slices_Equal_string_empty A A' c 0 c' w (by omega)).mono ?_
      rintro e w' ⟨rfl, rfl⟩
      exact ⟨rfl, 0, rfl⟩
    · obtain ⟨b, o, rfl, _, hx⟩ := h h0
      obtain ⟨b', o', rfl, _, hx'⟩ := h' (fun e => h0 (by rw [e] at hn; exact List.length_eq_zero_iff.1 hn))
      have hcell : ∀ (l : List Str) (b o : Nat), (∀ i s, l[i]? = some s → w.cell? ⟨b, o + i, none⟩ = some (.string (bs s))) → ∀ j, j < (l.map bs).length → w.cell? ⟨b, o + j, none⟩ = some (.string ((l.map bs).getD j ByteArray.empty)) := fun l b o hx j hj => by
        rw [List.length_map] at hj
        rw [hx j _ (List.getElem?_eq_getElem hj), List.getD_eq_getElem?_getD, List.getElem?_map, List.getElem?_eq_getElem hj]; rfl
      have := Tryz.slices_Equal_string b o l.length c b' o' l'.length c' (l.map bs) (l'.map bs) w (by simp) (by simp) (by omega) (by omega) (hcell l b o hx) (hcell l' b' o' hx')
      rw [List.take_of_length_le (by simp), List.take_of_length_le (by simp)] at this
      refine this.mono ?_
      rintro e w' ⟨rfl, hq⟩
      refine ⟨?_, hq⟩
      congr 2
      rw [decide_eq_decide]
      exact ⟨fun e => by rw [← map_bs l, e, map_bs], fun e => by rw [e]⟩
  · refine (Tryz.slices_Equal_string_lens A A' l.length c l'.length c' w hn).mono ?_
    rintro e w' ⟨rfl, rfl⟩
    exact ⟨by rw [decide_eq_false (fun e => hn (by rw [e]))], 0, rfl⟩

set_option maxRecDepth 100000 in
set_option maxHeartbeats 2000000 in
theorem djoinU_any {l : List Str} {v : Value} {w : World} (h : StrsAt w w.heap.size v l) (hm : MaxOk w) (hl : (Lib.join l [47]).length ≤ 1100000) (hn : l.length ≤ 1100000) :
    Calls Tryz.prog 32 #[v] w fun e w' => e = .returned (.tuple #[.string (bs (joinR l).1), .int .i64 (joinR l).2]) ∧ Below w.heap.size w w' := by
  have hj := joinWU_any h (Nat.le_refl _) hl hn
  have HJ := Lib.hid hj
  have H := Lib.hid (⟨h, hm, hl, hn⟩ : _ ∧ _ ∧ _ ∧ _)
  clear hj h hm hl hn
  go_enter Tryz.func32, Tryz.ntmps32
  go_wp2_with fail
  refine HJ.out.mono ?_
  rintro e w1 ⟨rfl, hb1⟩
  have HB1 := Lib.hid hb1
  clear hb1
  have hlim : ¬ 9223372036854775807 < 1 + (Lib.join l [47]).length := by have := H.out.2.2.1; omega
  go_wp2_with fail
  rw [bs_stroke]
  obtain ⟨p, hp⟩ : ∃ p, p = joinS l := ⟨_, rfl⟩
  rw [show (47 :: Lib.join l [47] : Str) = p from hp.symm]
  have hm1 : MaxOk w1 := H.out.2.1.grow HB1.out
  have hs1 : StrsAt w1 w.heap.size v l := H.out.1.below HB1.out
  have hsp := split_d p w1 hm1
  have hjp : joinR l = if splitP p = some l then (p, 0) else ([], 8) := by rw [hp]; rfl
  have HSp := Lib.hid hsp
  have HS1 := Lib.hid hs1
  have HJp := Lib.hid hjp
  clear hlim hp hm1 hsp hs1 hjp
  refine HSp.out.mono ?_
  rintro e w2 ⟨v2, n2, rfl, hb2, hsl⟩
  have HB2 := Lib.hid hb2
  clear hb2
  cases hq : splitP p with
  | none =>
    rw [hq] at hsl
    obtain ⟨rfl, rfl⟩ := hsl
    have HQ := Lib.hid hq
    clear hq
    go_wp2_with fail
    go_ret2
    rw [HJp.out, if_neg (by rw [HQ.out]; intro e; cases e)]
    exact ⟨rfl, HB1.out.trans (HB2.out.1.mono HB1.out.size)⟩
  | some l2 =>
    rw [hq] at hsl
    obtain ⟨rfl, hs2⟩ := hsl
    have hl2 : l2.length ≤ 1100000 := by have := (splitP_some hq).2.1; omega
    have heq := equalWU_any (w := w2) hs2 (HS1.out.below (HB2.out.1.mono HB1.out.size)) hl2 H.out.2.2.2
    have HQ := Lib.hid hq
    have HEq := Lib.hid heq
    clear hq hs2 hl2 heq
    go_wp2_with fail
    refine HEq.out.mono ?_
    rintro e w3 ⟨rfl, q, rfl⟩
    by_cases he : l2 = l
    · have hd : decide (l2 = l) = true := decide_eq_true he
      rw [hd]
      have HE := Lib.hid he
      clear he hd
      go_wp2_with fail
      go_ret2
      rw [HJp.out, if_pos (by rw [HQ.out, HE.out])]
      exact ⟨rfl, below_drewN (HB1.out.trans (HB2.out.1.mono HB1.out.size)) _⟩
    · have hd : decide (l2 = l) = false := decide_eq_false he
      rw [hd]
      have HE := Lib.hid he
      clear he hd
      go_wp2_with fail
      go_ret2
      rw [HJp.out, if_neg (by rw [HQ.out]; intro e; cases e; exact HE.out rfl)]
      exact ⟨rfl, below_drewN (HB1.out.trans (HB2.out.1.mono HB1.out.size)) _⟩

end Go.Proofs.YtfgkgoddjemnfaaGreatDoor

namespace Go.Proofs.YtfgkgoddjemnfaaGreatDoor
open Go.RowKit Go.Shelf Pa
attribute [local go_sem] bs_toList bs_size

theorem join_jn : ∀ l : List Str, Lib.join l [47] = jn l
  | [] => rfl
  | [x] => by simp [jn, Lib.join, List.intercalate]
  | x :: y :: r => by
    have ih := join_jn (y :: r)
    show Lib.join (x :: y :: r) [47] = x ++ 47 :: jn (y :: r)
    rw [← ih]
    simp [Lib.join, List.intercalate, List.intersperse]
theorem joinR_of {p : Str} {l : List Str} (h : splitP p = some l) : joinR l = (p, 0) := by
  have h1 : joinS l = p := by
    have := (splitP_some h).1
    unfold joinS
    rw [join_jn]; exact this
  unfold joinR
  rw [h1, if_pos h]
theorem split_of {p : Str} {l : List Str} (h : splitP p = some l) (w : World) (hm : MaxOk w) : Calls Tryz.prog 30 #[.string (bs p)] w fun e w' => ∃ v, e = .returned (.tuple #[v, .int .i64 0]) ∧ Below w.heap.size w w' ∧ StrsAt w' w'.heap.size v l := by
  refine (split_d p w hm).mono ?_
  rintro e w' ⟨v, n, rfl, hb, hs⟩
  rw [h] at hs
  obtain ⟨rfl, hs⟩ := hs
  exact ⟨v, rfl, hb.1, hs⟩
theorem joinR_two (l : List Str) : (splitP (joinS l) = some l ∧ joinR l = (joinS l, 0)) ∨ joinR l = ([], 8) := by
  unfold joinR
  by_cases h : splitP (joinS l) = some l
  · exact .inl ⟨h, if_pos h⟩
  · exact .inr (if_neg h)

set_option maxRecDepth 100000 in
set_option maxHeartbeats 4000000 in
theorem dirBack_any (p : Str) (ls : List Str) (v : Value) (w : World) (hm : MaxOk w) (h : TextsIn w v ls) (hl : (Lib.join ls [47]).length ≤ 1100000) (hn : ls.length ≤ 1100000) :
    Calls Tryz.prog 10 #[.string (bs p), v] w fun e w' => e = .returned (.bool true) ∧ Below w.heap.size w w' := by
  obtain ⟨hs, _⟩ := h
  have hsp := split_d p w hm
  have HS := Lib.hid hs
  have HM := Lib.hid hm
  have HL := Lib.hid (⟨hl, hn⟩ : _ ∧ _)
  have HSp := Lib.hid hsp
  clear hs hm hl hn hsp
  go_enter Tryz.func10, Tryz.ntmps10
  go_wp2_with fail
  refine HSp.out.mono ?_
  rintro e w1 ⟨v1, n1, rfl, hb1, hsl⟩
  have HB1 := Lib.hid hb1.1
  clear hb1 HSp
  cases hq : splitP p with
  | none =>
    rw [hq] at hsl
    obtain ⟨rfl, rfl⟩ := hsl
    clear hq
    have HBx := Lib.hid HB1.out
    clear HB1
    obtain ⟨wx, hwx⟩ : ∃ wx, wx = w1 := ⟨_, rfl⟩
    subst hwx
    have hjn := djoinU_any ((HS.out.below HBx.out).more HBx.out.size) (HM.out.grow HBx.out) HL.out.1 HL.out.2
    have HJ2 := Lib.hid hjn
    clear hjn
    rcases joinR_two ls with ⟨hsp2, hjr⟩ | hjr
    · rw [hjr] at HJ2
      have hsd := split_of hsp2
      have h16 : ls.length ≤ 1000000 := by have := (splitP_some hsp2).2.1; omega
      have HSd := Lib.hid hsd
      clear hsd hsp2 hjr
      go_wp2_with fail
      refine HJ2.out.mono ?_
      rintro e w3 ⟨rfl, hb3⟩
      have HB3 := Lib.hid (HBx.out.trans (hb3.mono HBx.out.size))
      clear hb3 HJ2 HBx
      go_wp2_with fail
      refine (HSd.out w3 (HM.out.grow HB3.out)).mono ?_
      rintro e w4 ⟨v4, rfl, hb4, hs4⟩
      have HB4 := Lib.hid (HB3.out.trans (hb4.mono HB3.out.size))
      have HS4 := Lib.hid hs4
      clear hb4 hs4 HB3 HSd
      have hlive := live_any w4 (HM.out.grow HB4.out)
      have HLive := Lib.hid hlive
      clear hlive
      go_wp2_with fail
      refine HLive.out.mono ?_
      rintro e w5 ⟨rfl, hb5⟩
      have HB5 := Lib.hid (HB4.out.trans (hb5.mono HB4.out.size))
      have hst := sameTexts_any ls ls v4 v _ _ w5 (HS4.out.below hb5) (HS.out.below HB5.out) h16
      have HSt := Lib.hid hst
      clear hb5 hst HLive
      go_wp2_with fail
      refine HSt.out.mono ?_
      rintro e w6 ⟨rfl, q, rfl⟩
      go_wp2_with fail
      go_ret
      exact ⟨ret_bool (by simp), below_drewN HB5.out q⟩
    · rw [hjr] at HJ2
      clear hjr
      go_wp2_with fail
      refine HJ2.out.mono ?_
      rintro e w3 ⟨rfl, hb3⟩
      have HB3 := Lib.hid (HBx.out.trans (hb3.mono HBx.out.size))
      clear hb3 HJ2 HBx
      have hlive := live_any w3 (HM.out.grow HB3.out)
      have HLive := Lib.hid hlive
      clear hlive
      go_wp2_with fail
      refine HLive.out.mono ?_
      rintro e w4 ⟨rfl, hb4⟩
      have HB4 := Lib.hid (HB3.out.trans (hb4.mono HB3.out.size))
      clear hb4 HLive
      go_wp2_with fail
      go_ret
      exact ⟨ret_bool (by simp [bs]), HB4.out⟩
  | some l2 =>
    rw [hq] at hsl
    obtain ⟨rfl, hs2⟩ := hsl
    have hl2 := (splitP_some hq).2.1
    have hjp : (Lib.join l2 [47]).length ≤ 255 := by
      have h1 := (splitP_some hq).1
      have h2 := (splitP_some hq).2.2.2
      rw [← h1] at h2
      rw [join_jn]
      unfold joinP at h2
      simp at h2; omega
    have hjn := djoinU_any hs2 (HM.out.grow HB1.out) (by omega) (by omega)
    rw [joinR_of hq] at hjn
    have HJ := Lib.hid hjn
    clear hjn hjp hs2 hl2 hq
    go_wp2_with fail
    refine HJ.out.mono ?_
    rintro e wx ⟨rfl, hbx⟩
    have HBx := Lib.hid (HB1.out.trans (hbx.mono HB1.out.size))
    clear hbx HJ HB1
    have hjn := djoinU_any ((HS.out.below HBx.out).more HBx.out.size) (HM.out.grow HBx.out) HL.out.1 HL.out.2
    have HJ2 := Lib.hid hjn
    clear hjn
    rcases joinR_two ls with ⟨hsp2, hjr⟩ | hjr
    · rw [hjr] at HJ2
      have hsd := split_of hsp2
      have h16 : ls.length ≤ 1000000 := by have := (splitP_some hsp2).2.1; omega
      have HSd := Lib.hid hsd
      clear hsd hsp2 hjr
      go_wp2_with fail
      refine HJ2.out.mono ?_
      rintro e w3 ⟨rfl, hb3⟩
      have HB3 := Lib.hid (HBx.out.trans (hb3.mono HBx.out.size))
      clear hb3 HJ2 HBx
      go_wp2_with fail
      refine (HSd.out w3 (HM.out.grow HB3.out)).mono ?_
      rintro e w4 ⟨v4, rfl, hb4, hs4⟩
      have HB4 := Lib.hid (HB3.out.trans (hb4.mono HB3.out.size))
      have HS4 := Lib.hid hs4
      clear hb4 hs4 HB3 HSd
      have hlive := live_any w4 (HM.out.grow HB4.out)
      have HLive := Lib.hid hlive
      clear hlive
      go_wp2_with fail
      refine HLive.out.mono ?_
      rintro e w5 ⟨rfl, hb5⟩
      have HB5 := Lib.hid (HB4.out.trans (hb5.mono HB4.out.size))
      have hst := sameTexts_any ls ls v4 v _ _ w5 (HS4.out.below hb5) (HS.out.below HB5.out) h16
      have HSt := Lib.hid hst
      clear hb5 hst HLive
      go_wp2_with fail
      refine HSt.out.mono ?_
      rintro e w6 ⟨rfl, q, rfl⟩
      go_wp2_with fail
      go_ret
      exact ⟨ret_bool (by simp), below_drewN HB5.out q⟩
    · rw [hjr] at HJ2
      clear hjr
      go_wp2_with fail
      refine HJ2.out.mono ?_
      rintro e w3 ⟨rfl, hb3⟩
      have HB3 := Lib.hid (HBx.out.trans (hb3.mono HBx.out.size))
      clear hb3 HJ2 HBx
      have hlive := live_any w3 (HM.out.grow HB3.out)
      have HLive := Lib.hid hlive
      clear hlive
      go_wp2_with fail
      refine HLive.out.mono ?_
      rintro e w4 ⟨rfl, hb4⟩
      have HB4 := Lib.hid (HB3.out.trans (hb4.mono HB3.out.size))
      clear hb4 HLive
      go_wp2_with fail
      go_ret
      exact ⟨ret_bool (by simp [bs]), HB4.out⟩

end Go.Proofs.YtfgkgoddjemnfaaGreatDoor

namespace Go.Proofs.YtfgkgoddjemnfaaGreatDoor
open Go.RowKit Go.Shelf Pa
open Go.ChangeShapes Go.WideShapes Go.Deep

/-- How many letters and texts. -/
def tot (l : List Str) : Nat := (l.map fun x => x.length + 1).sum
theorem tot_join : ∀ l : List Str, (Lib.join l [47]).length ≤ tot l
  | [] => Nat.zero_le _
  | [x] => by simp [tot, Lib.join, List.intercalate]
  | x :: y :: r => by
    have ih := tot_join (y :: r)
    have e : Lib.join (x :: y :: r) [47] = x ++ 47 :: Lib.join (y :: r) [47] := by simp [Lib.join, List.intercalate, List.intersperse]
    rw [e]
    simp only [tot, List.map_cons, List.sum_cons, List.length_append, List.length_cons] at ih ⊢
    omega
theorem tot_len : ∀ l : List Str, l.length ≤ tot l
  | [] => Nat.zero_le _
  | x :: r => by
    have ih := tot_len r
    simp only [tot, List.map_cons, List.sum_cons, List.length_cons] at ih ⊢
    omega

section
variable {H : Type} {enc : TypeId × Value → H} {w : World} {base : Nat} {spare : Nat → Bool} {held : Bool}

theorem bulk_texts : ∀ (l : List Str) (ds : List (DataW H)), ds = l.map (fun x => DataW.lit (.string x)) → Rows.uptoBulkAll ds = tot l
  | [], _, h => by subst h; rfl
  | x :: r, _, h => by
    subst h
    rw [List.map_cons, Rows.uptoBulkAll, bulk_texts r _ rfl, Rows.uptoBulk]
    simp [tot]

theorem texts_openU {fuel : Nat} {v : Value} {x : DataW H × List MemPlace} (h : DataW.trod enc Tryz.prog w base spare held fuel 22 [v] = some x) (hs : Small 22 x.1) : ∃ ls, TextsIn w v ls ∧ tot ls ≤ Rows.uptoBulk x.1 := by
  rcases open_slice Tryz.underlying22 h with ⟨hcs, hx⟩ | ⟨a, len, cap, m, n, D, Pl, hcs, _, hl, hm, hmm, hx, hi⟩
  · obtain rfl : v = .slice none 0 0 := by injection hcs
    exact ⟨[], ⟨StrsAt.nil _ _ _ _, by simp⟩, Nat.zero_le _⟩
  · obtain rfl : v = .slice (some a) len cap := by injection hcs
    have hC : Tryz.prog.cellsOf 9 = 1 := by kernel_rfl
    have hlm : len ≤ m := by rw [hmm]; split <;> omega
    rw [hx] at hs ⊢
    obtain ⟨hsz, hsm⟩ := Small.slice hs Tryz.underlying22
    have hB : Tryz.prog.bytesOf 9 = 16 := by kernel_rfl
    rw [hB] at hsz
    simp only [List.length_map, List.length_range] at hsz
    have hcells : ∀ i, i < len → ∃ s : Str, w.cell? (a.add i) = some (.string (bs s)) ∧ D i = .lit (.string s) := by
      intro i hil
      obtain ⟨cs', hc, ht⟩ := hi i (by omega)
      rw [hC, Nat.mul_one] at hc
      obtain ⟨_, hl1, hat⟩ := World.cells?_some hc
      match cs', hl1 with
      | [lv], _ =>
        obtain ⟨s0, h0, h1, _⟩ := DataW.trod_string Tryz.underlying9 ht
        obtain rfl : lv = .string s0 := by injection h0
        refine ⟨s0.data.toList, ?_, congrArg Prod.fst h1⟩
        have := hat 0 (by omega)
        rw [Go.Deep.add_add] at this
        rw [bs_of]
        simpa using this
    obtain ⟨ls, hcl, hcp⟩ := list_of len hcells
    have hD : (List.range len).map D = ls.map (fun x => DataW.lit (.string x)) := by
      refine List.ext_getElem? fun i => ?_
      rw [List.getElem?_map, List.getElem?_map]
      by_cases hil : i < len
      · have hli := List.getElem?_eq_getElem (l := ls) (i := i) (by omega)
        rw [List.getElem?_range hil, hli]
        exact congrArg some (hcp i _ hli).2
      · rw [List.getElem?_eq_none (by simpa using Nat.le_of_not_lt hil), List.getElem?_eq_none (by omega)]; rfl
    refine ⟨ls, ⟨⟨some a, cap, by rw [hcl], by rw [hcl]; omega, fun hn => ?_⟩, by rw [hcl]; omega⟩, ?_⟩
    · have h0 : 0 < len := by
        rw [← hcl]
        exact List.length_pos_iff.2 hn
      obtain ⟨_, hcell0, _⟩ := hcells 0 h0
      have hsp := spot_none (w := w) hcell0
      obtain ⟨b, o, s⟩ := a
      obtain rfl : s = none := hsp
      refine ⟨b, o, rfl, World.block_lt_of_cell? w _ (by rw [add_flat] at hcell0; exact hcell0), fun i cs hci => ?_⟩
      have hc := (hcp i cs hci).1
      rw [add_flat] at hc
      exact hc
    · rw [hD, Rows.uptoBulk, bulk_texts ls _ rfl]
      omega
end
end Go.Proofs.YtfgkgoddjemnfaaGreatDoor
