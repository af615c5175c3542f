/-
  The walk over Join, at longer texts.
  The walk over the law DirBack.
  Arguments opened, with their bulk: a slice of texts joined is no longer than its bulk.
  The reference's IsName: whether a text is a name.
  The reference's Split.
  The reference's Join.
  The walk over the law DirPaths.
-/
import Derived.Test.YtfgkgoddjemnfaaGreatDoorJ10
import Derived.Test.YtfgkgoddjemnfaaGreatDoorRows
import Derived.Maps.AppendAt
set_option linter.unusedVariables false
set_option linter.unusedSimpArgs false
set_option linter.deprecated false
namespace Go.Proofs.YtfgkgoddjemnfaaGreatDoor
open Go.RowKit Go.Shelf Pa
attribute [local go_sem] bs_toList bs_size

theorem joinWU_any {B : Nat} {l : List Str} {v : Value} {w : World} (h : StrsAt w B v l) (hB : B ≤ w.heap.size) (hl : (Lib.join l [47]).length ≤ 1100000) (hn : l.length ≤ 1100000) :
    Calls Tryz.prog 67 #[v, .string ⟨#[47]⟩] w fun e w' => e = .returned (.string (bs (Lib.join l [47]))) ∧ Below w.heap.size w w' := by
  obtain ⟨A, c, rfl, hc, h⟩ := h
  by_cases h0 : l = []
  · subst h0
    refine (Tryz.strings_Join_none A c ⟨#[47]⟩ w).mono ?_
    rintro e w' ⟨rfl, rfl⟩
    exact ⟨rfl, Below.refl _ _⟩
  · obtain ⟨b, o, rfl, hb, hx⟩ := h h0
    have := Tryz.strings_Join b o c (l.map bs) ⟨#[47]⟩ w (fun j x hj => by
      rw [List.getElem?_map] at hj
      cases hs : l[j]? with
      | none => rw [hs] at hj; cases hj
      | some s => rw [hs] at hj; cases hj; exact hx j s hs) (by omega) (by rw [List.length_map]; omega) (by rw [List.length_map]; exact hc) (by rw [map_bs]; show (Lib.join l [47]).length ≤ _; omega)
    rw [map_bs, List.length_map] at this
    exact this

theorem equalWU_any {B B' : Nat} {l l' : List Str} {v v' : Value} {w : World} (h : StrsAt w B v l) (h' : StrsAt w B' v' l') (hl : l.length ≤ 1100000) (hl' : l'.length ≤ 1100000) :
    Calls Tryz.prog 68 #[v, v'] w fun e w' => e = .returned (.bool (decide (l = l'))) ∧ ∃ q, w' = w.drewN q := by
  obtain ⟨A, c, rfl, hc, h⟩ := h
  obtain ⟨A', c', rfl, hc', h'⟩ := h'
  by_cases hn : l.length = l'.length
  · by_cases h0 : l = []
    · subst h0
      have hl0 : l' = [] := List.length_eq_zero_iff.1 hn.symm
      subst hl0
      refine (Tryz.slices_Equal_string_empty A A' c 0 c' w (by omega)).mono ?_
      rintro e w' ⟨rfl, rfl⟩
      exact ⟨rfl, 0, rfl⟩
    · obtain ⟨b, o, rfl, _, hx⟩ := h h0
      obtain ⟨b', o', rfl, _, hx'⟩ := h' (fun e => h0 (by rw [e] at hn; exact List.length_eq_zero_iff.1 hn))
      have hcell : ∀ (l : List Str) (b o : Nat), (∀ i s, l[i]? = some s → w.cell? ⟨b, o + i, none⟩ = some (.string (bs s))) → ∀ j, j < (l.map bs).length → w.cell? ⟨b, o + j, none⟩ = some (.string ((l.map bs).getD j ByteArray.empty)) := fun l b o hx j hj => by
        rw [List.length_map] at hj
        rw [hx j _ (List.getElem?_eq_getElem hj), List.getD_eq_getElem?_getD, List.getElem?_map, List.getElem?_eq_getElem hj]; rfl
      have := Tryz.slices_Equal_string b o l.length c b' o' l'.length c' (l.map bs) (l'.map bs) w (by simp) (by simp) (by omega) (by omega) (hcell l b o hx) (hcell l' b' o' hx')
      rw [List.take_of_length_le (by simp), List.take_of_length_le (by simp)] at this
      refine this.mono ?_
      rintro e w' ⟨rfl, hq⟩
      refine ⟨?_, hq⟩
      congr 2
      rw [decide_eq_decide]
      exact ⟨fun e => by rw [← map_bs l, e, map_bs], fun e => by rw [e]⟩
  · refine (Tryz.slices_Equal_string_lens A A' l.length c l'.length c' w hn).mono ?_
    rintro e w' ⟨rfl, rfl⟩
    exact ⟨by rw [decide_eq_false (fun e => hn (by rw [e]))], 0, rfl⟩

set_option maxRecDepth 100000 in
set_option maxHeartbeats 2000000 in
theorem djoinU_any {l : List Str} {v : Value} {w : World} (h : StrsAt w w.heap.size v l) (hm : MaxOk w) (hl : (Lib.join l [47]).length ≤ 1100000) (hn : l.length ≤ 1100000) :
    Calls Tryz.prog 32 #[v] w fun e w' => e = .returned (.tuple #[.string (bs (joinR l).1), .int .i64 (joinR l).2]) ∧ Below w.heap.size w w' := by
  have hj := joinWU_any h (Nat.le_refl _) hl hn
  have HJ := Lib.hid hj
  have H := Lib.hid (⟨h, hm, hl, hn⟩ : _ ∧ _ ∧ _ ∧ _)
  clear hj h hm hl hn
  go_enter Tryz.func32, Tryz.ntmps32
  go_wp2_with fail
  refine HJ.out.mono ?_
  rintro e w1 ⟨rfl, hb1⟩
  have HB1 := Lib.hid hb1
  clear hb1
  have hlim : ¬ 9223372036854775807 < 1 + (Lib.join l [47]).length := by have := H.out.2.2.1; omega
  go_wp2_with fail
  rw [bs_stroke]
  obtain ⟨p, hp⟩ : ∃ p, p = joinS l := ⟨_, rfl⟩
  rw [show (47 :: Lib.join l [47] : Str) = p from hp.symm]
  have hm1 : MaxOk w1 := H.out.2.1.grow HB1.out
  have hs1 : StrsAt w1 w.heap.size v l := H.out.1.below HB1.out
  have hsp := split_d p w1 hm1
  have hjp : joinR l = if splitP p = some l then (p, 0) else ([], 8) := by rw [hp]; rfl
  have HSp := Lib.hid hsp
  have HS1 := Lib.hid hs1
  have HJp := Lib.hid hjp
  clear hlim hp hm1 hsp hs1 hjp
  refine HSp.out.mono ?_
  rintro e w2 ⟨v2, n2, rfl, hb2, hsl⟩
  have HB2 := Lib.hid hb2
  clear hb2
  cases hq : splitP p with
  | none =>
    rw [hq] at hsl
    obtain ⟨rfl, rfl⟩ := hsl
    have HQ := Lib.hid hq
    clear hq
    go_wp2_with fail
    go_ret2
    rw [HJp.out, if_neg (by rw [HQ.out]; intro e; cases e)]
    exact ⟨rfl, HB1.out.trans (HB2.out.1.mono HB1.out.size)⟩
  | some l2 =>
    rw [hq] at hsl
    obtain ⟨rfl, hs2⟩ := hsl
    have hl2 : l2.length ≤ 1100000 := by have := (splitP_some hq).2.1; omega
    have heq := equalWU_any (w := w2) hs2 (HS1.out.below (HB2.out.1.mono HB1.out.size)) hl2 H.out.2.2.2
    have HQ := Lib.hid hq
    have HEq := Lib.hid heq
    clear hq hs2 hl2 heq
    go_wp2_with fail
    refine HEq.out.mono ?_
    rintro e w3 ⟨rfl, q, rfl⟩
    by_cases he : l2 = l
    · have hd : decide (l2 = l) = true := decide_eq_true he
      rw [hd]
      have HE := Lib.hid he
      clear he hd
      go_wp2_with fail
      go_ret2
      rw [HJp.out, if_pos (by rw [HQ.out, HE.out])]
      exact ⟨rfl, below_drewN (HB1.out.trans (HB2.out.1.mono HB1.out.size)) _⟩
    · have hd : decide (l2 = l) = false := decide_eq_false he
      rw [hd]
      have HE := Lib.hid he
      clear he hd
      go_wp2_with fail
      go_ret2
      rw [HJp.out, if_neg (by rw [HQ.out]; intro e; cases e; exact HE.out rfl)]
      exact ⟨rfl, below_drewN (HB1.out.trans (HB2.out.1.mono HB1.out.size)) _⟩

end Go.Proofs.YtfgkgoddjemnfaaGreatDoor

namespace Go.Proofs.YtfgkgoddjemnfaaGreatDoor
open Go.RowKit Go.Shelf Pa
attribute [local go_sem] bs_toList bs_size

theorem join_jn : ∀ l : List Str, Lib.join l [47] = jn l
  | [] => rfl
  | [x] => by simp [jn, Lib.join, List.intercalate]
  | x :: y :: r => by
    have ih := join_jn (y :: r)
    show Lib.join (x :: y :: r) [47] = x ++ 47 :: jn (y :: r)
    rw [← ih]
    simp [Lib.join, List.intercalate, List.intersperse]
theorem joinR_of {p : Str} {l : List Str} (h : splitP p = some l) : joinR l = (p, 0) := by
  have h1 : joinS l = p := by
    have := (splitP_some h).1
    unfold joinS
    rw [join_jn]; exact this
  unfold joinR
  rw [h1, if_pos h]
theorem split_of {p : Str} {l : List Str} (h : splitP p = some l) (w : World) (hm : MaxOk w) : Calls Tryz.prog 30 #[.string (bs p)] w fun e w' => ∃ v, e = .returned (.tuple #[v, .int .i64 0]) ∧ Below w.heap.size w w' ∧ StrsAt w' w'.heap.size v l := by
  refine (split_d p w hm).mono ?_
  rintro e w' ⟨v, n, rfl, hb, hs⟩
  rw [h] at hs
  obtain ⟨rfl, hs⟩ := hs
  exact ⟨v, rfl, hb.1, hs⟩
theorem joinR_two (l : List Str) : (splitP (joinS l) = some l ∧ joinR l = (joinS l, 0)) ∨ joinR l = ([], 8) := by
  unfold joinR
  by_cases h : splitP (joinS l) = some l
  · exact .inl ⟨h, if_pos h⟩
  · exact .inr (if_neg h)

set_option maxRecDepth 100000 in
set_option maxHeartbeats 4000000 in
theorem dirBack_any (p : Str) (ls : List Str) (v : Value) (w : World) (hm : MaxOk w) (h : TextsIn w v ls) (hl : (Lib.join ls [47]).length ≤ 1100000) (hn : ls.length ≤ 1100000) :
    Calls Tryz.prog 10 #[.string (bs p), v] w fun e w' => e = .returned (.bool true) ∧ Below w.heap.size w w' := by
  obtain ⟨hs, _⟩ := h
  have hsp := split_d p w hm
  have HS := Lib.hid hs
  have HM := Lib.hid hm
  have HL := Lib.hid (⟨hl, hn⟩ : _ ∧ _)
  have HSp := Lib.hid hsp
  clear hs hm hl hn hsp
  go_enter Tryz.func10, Tryz.ntmps10
  go_wp2_with fail
  refine HSp.out.mono ?_
  rintro e w1 ⟨v1, n1, rfl, hb1, hsl⟩
  have HB1 := Lib.hid hb1.1
  clear hb1 HSp
  cases hq : splitP p with
  | none =>
    rw [hq] at hsl
    obtain ⟨rfl, rfl⟩ := hsl
    clear hq
    have HBx := Lib.hid HB1.out
    clear HB1
    obtain ⟨wx, hwx⟩ : ∃ wx, wx = w1 := ⟨_, rfl⟩
    subst hwx
    have hjn := djoinU_any ((HS.out.below HBx.out).more HBx.out.size) (HM.out.grow HBx.out) HL.out.1 HL.out.2
    have HJ2 := Lib.hid hjn
    clear hjn
    rcases joinR_two ls with ⟨hsp2, hjr⟩ | hjr
    · rw [hjr] at HJ2
      have hsd := split_of hsp2
      have h16 : ls.length ≤ 1000000 := by have := (splitP_some hsp2).2.1; omega
      have HSd := Lib.hid hsd
      clear hsd hsp2 hjr
      go_wp2_with fail
      refine HJ2.out.mono ?_
      rintro e w3 ⟨rfl, hb3⟩
      have HB3 := Lib.hid (HBx.out.trans (hb3.mono HBx.out.size))
      clear hb3 HJ2 HBx
      go_wp2_with fail
      refine (HSd.out w3 (HM.out.grow HB3.out)).mono ?_
      rintro e w4 ⟨v4, rfl, hb4, hs4⟩
      have HB4 := Lib.hid (HB3.out.trans (hb4.mono HB3.out.size))
      have HS4 := Lib.hid hs4
      clear hb4 hs4 HB3 HSd
      have hlive := live_any w4 (HM.out.grow HB4.out)
      have HLive := Lib.hid hlive
      clear hlive
      go_wp2_with fail
      refine HLive.out.mono ?_
      rintro e w5 ⟨rfl, hb5⟩
      have HB5 := Lib.hid (HB4.out.trans (hb5.mono HB4.out.size))
      have hst := sameTexts_any ls ls v4 v _ _ w5 (HS4.out.below hb5) (HS.out.below HB5.out) h16
      have HSt := Lib.hid hst
      clear hb5 hst HLive
      go_wp2_with fail
      refine HSt.out.mono ?_
      rintro e w6 ⟨rfl, q, rfl⟩
      go_wp2_with fail
      go_ret
      exact ⟨ret_bool (by simp), below_drewN HB5.out q⟩
    · rw [hjr] at HJ2
      clear hjr
      go_wp2_with fail
      refine HJ2.out.mono ?_
      rintro e w3 ⟨rfl, hb3⟩
      have HB3 := Lib.hid (HBx.out.trans (hb3.mono HBx.out.size))
      clear hb3 HJ2 HBx
      have hlive := live_any w3 (HM.out.grow HB3.out)
      have HLive := Lib.hid hlive
      clear hlive
      go_wp2_with fail
      refine HLive.out.mono ?_
      rintro e w4 ⟨rfl, hb4⟩
      have HB4 := Lib.hid (HB3.out.trans (hb4.mono HB3.out.size))
      clear hb4 HLive
      go_wp2_with fail
      go_ret
      exact ⟨ret_bool (by simp [bs]), HB4.out⟩
  | some l2 =>
    rw [hq] at hsl
    obtain ⟨rfl, hs2⟩ := hsl
    have hl2 := (splitP_some hq).2.1
    have hjp : (Lib.join l2 [47]).length ≤ 255 := by
      have h1 := (splitP_some hq).1
      have h2 := (splitP_some hq).2.2.2
      rw [← h1] at h2
      rw [join_jn]
      unfold joinP at h2
      simp at h2; omega
    have hjn := djoinU_any hs2 (HM.out.grow HB1.out) (by omega) (by omega)
    rw [joinR_of hq] at hjn
    have HJ := Lib.hid hjn
    clear hjn hjp hs2 hl2 hq
    go_wp2_with fail
    refine HJ.out.mono ?_
    rintro e wx ⟨rfl, hbx⟩
    have HBx := Lib.hid (HB1.out.trans (hbx.mono HB1.out.size))
    clear hbx HJ HB1
    have hjn := djoinU_any ((HS.out.below HBx.out).more HBx.out.size) (HM.out.grow HBx.out) HL.out.1 HL.out.2
    have HJ2 := Lib.hid hjn
    clear hjn
    rcases joinR_two ls with ⟨hsp2, hjr⟩ | hjr
    · rw [hjr] at HJ2
      have hsd := split_of hsp2
      have h16 : ls.length ≤ 1000000 := by have := (splitP_some hsp2).2.1; omega
      have HSd := Lib.hid hsd
      clear hsd hsp2 hjr
      go_wp2_with fail
      refine HJ2.out.mono ?_
      rintro e w3 ⟨rfl, hb3⟩
      have HB3 := Lib.hid (HBx.out.trans (hb3.mono HBx.out.size))
      clear hb3 HJ2 HBx
      go_wp2_with fail
      refine (HSd.out w3 (HM.out.grow HB3.out)).mono ?_
      rintro e w4 ⟨v4, rfl, hb4, hs4⟩
      have HB4 := Lib.hid (HB3.out.trans (hb4.mono HB3.out.size))
      have HS4 := Lib.hid hs4
      clear hb4 hs4 HB3 HSd
      have hlive := live_any w4 (HM.out.grow HB4.out)
      have HLive := Lib.hid hlive
      clear hlive
      go_wp2_with fail
      refine HLive.out.mono ?_
      rintro e w5 ⟨rfl, hb5⟩
      have HB5 := Lib.hid (HB4.out.trans (hb5.mono HB4.out.size))
      have hst := sameTexts_any ls ls v4 v _ _ w5 (HS4.out.below hb5) (HS.out.below HB5.out) h16
      have HSt := Lib.hid hst
      clear hb5 hst HLive
      go_wp2_with fail
      refine HSt.out.mono ?_
      rintro e w6 ⟨rfl, q, rfl⟩
      go_wp2_with fail
      go_ret
      exact ⟨ret_bool (by simp), below_drewN HB5.out q⟩
    · rw [hjr] at HJ2
      clear hjr
      go_wp2_with fail
      refine HJ2.out.mono ?_
      rintro e w3 ⟨rfl, hb3⟩
      have HB3 := Lib.hid (HBx.out.trans (hb3.mono HBx.out.size))
      clear hb3 HJ2 HBx
      have hlive := live_any w3 (HM.out.grow HB3.out)
      have HLive := Lib.hid hlive
      clear hlive
      go_wp2_with fail
      refine HLive.out.mono ?_
      rintro e w4 ⟨rfl, hb4⟩
      have HB4 := Lib.hid (HB3.out.trans (hb4.mono HB3.out.size))
      clear hb4 HLive
      go_wp2_with fail
      go_ret
      exact ⟨ret_bool (by simp [bs]), HB4.out⟩

end Go.Proofs.YtfgkgoddjemnfaaGreatDoor

namespace Go.Proofs.YtfgkgoddjemnfaaGreatDoor
open Go.RowKit Go.Shelf Pa
open Go.ChangeShapes Go.WideShapes Go.Deep

/-- How many letters and texts. -/
def tot (l : List Str) : Nat := (l.map fun x => x.length + 1).sum
theorem tot_join : ∀ l : List Str, (Lib.join l [47]).length ≤ tot l
  | [] => Nat.zero_le _
  | [x] => by simp [tot, Lib.join, List.intercalate]
  | x :: y :: r => by
    have ih := tot_join (y :: r)
    have e : Lib.join (x :: y :: r) [47] = x ++ 47 :: Lib.join (y :: r) [47] := by simp [Lib.join, List.intercalate, List.intersperse]
    rw [e]
    simp only [tot, List.map_cons, List.sum_cons, List.length_append, List.length_cons] at ih ⊢
    omega
theorem tot_len : ∀ l : List Str, l.length ≤ tot l
  | [] => Nat.zero_le _
  | x :: r => by
    have ih := tot_len r
    simp only [tot, List.map_cons, List.sum_cons, List.length_cons] at ih ⊢
    omega

section
variable {H : Type} {enc : TypeId × Value → H} {w : World} {base : Nat} {spare : Nat → Bool} {held : Bool}

theorem bulk_texts : ∀ (l : List Str) (ds : List (DataW H)), ds = l.map (fun x => DataW.lit (.string x)) → Rows.uptoBulkAll ds = tot l
  | [], _, h => by subst h; rfl
  | x :: r, _, h => by
    subst h
    rw [List.map_cons, Rows.uptoBulkAll, bulk_texts r _ rfl, Rows.uptoBulk]
    simp [tot]

theorem texts_openU {fuel : Nat} {v : Value} {x : DataW H × List MemPlace} (h : DataW.trod enc Tryz.prog w base spare held fuel 22 [v] = some x) (hs : Small 22 x.1) : ∃ ls, TextsIn w v ls ∧ tot ls ≤ Rows.uptoBulk x.1 := by
  rcases open_slice Tryz.underlying22 h with ⟨hcs, hx⟩ | ⟨a, len, cap, m, n, D, Pl, hcs, _, hl, hm, hmm, hx, hi⟩
  · obtain rfl : v = .slice none 0 0 := by injection hcs
    exact ⟨[], ⟨StrsAt.nil _ _ _ _, by simp⟩, Nat.zero_le _⟩
  · obtain rfl : v = .slice (some a) len cap := by injection hcs
    have hC : Tryz.prog.cellsOf 9 = 1 := by kernel_rfl
    have hlm : len ≤ m := by rw [hmm]; split <;> omega
    rw [hx] at hs ⊢
    obtain ⟨hsz, hsm⟩ := Small.slice hs Tryz.underlying22
    have hB : Tryz.prog.bytesOf 9 = 16 := by kernel_rfl
    rw [hB] at hsz
    simp only [List.length_map, List.length_range] at hsz
    have hcells : ∀ i, i < len → ∃ s : Str, w.cell? (a.add i) = some (.string (bs s)) ∧ D i = .lit (.string s) := by
      intro i hil
      obtain ⟨cs', hc, ht⟩ := hi i (by omega)
      rw [hC, Nat.mul_one] at hc
      obtain ⟨_, hl1, hat⟩ := World.cells?_some hc
      match cs', hl1 with
      | [lv], _ =>
        obtain ⟨s0, h0, h1, _⟩ := DataW.trod_string Tryz.underlying9 ht
        obtain rfl : lv = .string s0 := by injection h0
        refine ⟨s0.data.toList, ?_, congrArg Prod.fst h1⟩
        have := hat 0 (by omega)
        rw [Go.Deep.add_add] at this
        rw [bs_of]
        simpa using this
    obtain ⟨ls, hcl, hcp⟩ := list_of len hcells
    have hD : (List.range len).map D = ls.map (fun x => DataW.lit (.string x)) := by
      refine List.ext_getElem? fun i => ?_
      rw [List.getElem?_map, List.getElem?_map]
      by_cases hil : i < len
      · have hli := List.getElem?_eq_getElem (l := ls) (i := i) (by omega)
        rw [List.getElem?_range hil, hli]
        exact congrArg some (hcp i _ hli).2
      · rw [List.getElem?_eq_none (by simpa using Nat.le_of_not_lt hil), List.getElem?_eq_none (by omega)]; rfl
    refine ⟨ls, ⟨⟨some a, cap, by rw [hcl], by rw [hcl]; omega, fun hn => ?_⟩, by rw [hcl]; omega⟩, ?_⟩
    · have h0 : 0 < len := by
        rw [← hcl]
        exact List.length_pos_iff.2 hn
      obtain ⟨_, hcell0, _⟩ := hcells 0 h0
      have hsp := spot_none (w := w) hcell0
      obtain ⟨b, o, s⟩ := a
      obtain rfl : s = none := hsp
      refine ⟨b, o, rfl, World.block_lt_of_cell? w _ (by rw [add_flat] at hcell0; exact hcell0), fun i cs hci => ?_⟩
      have hc := (hcp i cs hci).1
      rw [add_flat] at hc
      exact hc
    · rw [hD, Rows.uptoBulk, bulk_texts ls _ rfl]
      omega
end
end Go.Proofs.YtfgkgoddjemnfaaGreatDoor

namespace Go.Proofs.YtfgkgoddjemnfaaGreatDoor
open Go.RowKit Go.Shelf Pa
attribute [local go_sem] bs_toList bs_size

theorem bs_index (t : TypeId) (ht : Tryz.prog.underlying t = some .string) (p : Str) (k : Nat) (c : UInt8) (h : p[k]? = some c) (w : World) : (Instr.index t (.string (bs p)) (.int .i64 k)).run Tryz.prog w = .ok (.int .u8 c.toNat) w := by
  obtain ⟨h1, h2⟩ := List.getElem?_eq_some_iff.1 h
  rw [run_index_string (P := Tryz.prog) w t (bs p) .i64 k ht, dif_pos ⟨Int.natCast_nonneg _, by rw [bs_size]; omega⟩]
  have : (bs p)[((k : Int)).toNat]'(by rw [bs_size]; exact h1) = c := h2
  rw [this]
theorem take_any_succ (p : Str) (k : Nat) (c : UInt8) (h : p[k]? = some c) : (p.take (k + 1)).any isBad = ((p.take k).any isBad || isBad c) := by
  rw [List.take_add_one, h, List.any_append]; simp
theorem nameOk_bad {p : Str} {k : Nat} {c : UInt8} (h : p[k]? = some c) (hb : isBad c = true) : nameOk p = false := by
  rw [nameOk_eq, show p.any isBad = true from List.any_eq_true.2 ⟨c, List.mem_of_getElem? h, hb⟩]; simp

set_option maxRecDepth 100000 in
set_option maxHeartbeats 2000000 in
theorem rname7_any (p : Str) (w : World) (hp : p.length ≤ 2000000) :
    Calls Tryz.prog 35 #[.string (bs p)] w fun e w' => e = .returned (.bool (nameOk p)) ∧ w' = w := by
  have HIx := Lib.hid (fun k c h w => bs_index 9 Tryz.underlying9 p k c h w)
  go_enter Tryz.func35, Tryz.ntmps35
  go_wp2_with fail
  go_loopg [3] p.length (fun g i wx => ∃ k : Nat, i = .int .i64 k ∧ g = p.length - k ∧ k ≤ p.length ∧ wx = w ∧ (p.take k).any isBad = false)
  case atStart => exact ⟨0, rfl, rfl, Nat.zero_le _, rfl, by simp⟩
  case round =>
    obtain ⟨k, rfl, rfl, hk, rfl, hno⟩ := hrel
    by_cases hlt : k < p.length
    · have hltI : decide ((k : Int) < (p.length : Int)) = true := by simp; omega
      obtain ⟨c, hc⟩ : ∃ c, p[k]? = some c := ⟨_, List.getElem?_eq_getElem hlt⟩
      have hix := HIx.out k c hc
      have hstep := take_any_succ p k c hc
      rw [hno, Bool.false_or] at hstep
      have HStep := Lib.hid hstep
      have HC := Lib.hid hc
      clear hstep hno hc
      by_cases h0 : c = 0
      · subst h0
        go_wp2_with fail
        go_ret
        exact ⟨ret_bool (nameOk_bad HC.out (by decide)).symm, rfl⟩
      · have h0' : ((c.toNat : Int) == 0) = false := by
          rw [beq_eq_false_iff_ne]; intro e; exact h0 (UInt8.toNat_inj.1 (by show c.toNat = 0; omega))
        by_cases h47 : c = 47
        · subst h47
          go_wp2_with fail
          go_ret
          exact ⟨ret_bool (nameOk_bad HC.out (by decide)).symm, rfl⟩
        · have h47' : ((c.toNat : Int) == 47) = false := by
            rw [beq_eq_false_iff_ne]; intro e; exact h47 (UInt8.toNat_inj.1 (by show c.toNat = 47; omega))
          have hok : isBad c = false := by unfold isBad; simp [h0, h47]
          have HOk := Lib.hid hok
          clear hok
          go_wp2_with fail
          go_roundg (p.length - (k + 1))
          case measure => omega
          case rel => exact ⟨k + 1, by go_num, rfl, hlt, rfl, by rw [HStep.out, HOk.out]⟩
    · have hltI : decide ((k : Int) < (p.length : Int)) = false := by simp; omega
      obtain rfl : k = p.length := by omega
      rw [List.take_length] at hno
      have HNo := Lib.hid (show nameOk p = (!p.isEmpty && decide (p.length ≤ 59) && p != [46] && p != [46, 46]) by rw [nameOk_eq, hno]; simp)
      clear hno HIx
      have hemp : ∀ q : Str, (1 : Int) ≤ (q.length : Int) → q.isEmpty = false := fun q h => by
        cases q with
        | nil => simp at h
        | cons a q => rfl
      have hemp0 : ∀ q : Str, (q.length : Int) < 1 → q.isEmpty = true := fun q h => by
        cases q with
        | nil => rfl
        | cons a q => simp at h; omega
      have HE := Lib.hid hemp
      have HE0 := Lib.hid hemp0
      clear hemp hemp0
      go_wp2_with fail
      all_goals go_ret
      all_goals refine ⟨ret_bool ?_, rfl⟩
      all_goals rw [HNo.out]
      all_goals first
        | (have h : p = [46] := by assumption
           subst h; rfl)
        | (have h1 : (p.length : Int) < 1 := by assumption
           rw [HE0.out _ h1]; rfl)
        | (have h1 : 59 < (p.length : Int) := by assumption
           rw [decide_eq_false (show ¬ p.length ≤ 59 by omega)]; simp)
        | (have h1 : (p.length : Int) ≤ 59 := by assumption
           have h2 : (1 : Int) ≤ (p.length : Int) := by assumption
           rw [decide_eq_true (show p.length ≤ 59 by omega), HE.out _ h2]; simp [bne])

end Go.Proofs.YtfgkgoddjemnfaaGreatDoor

namespace Go.Proofs.YtfgkgoddjemnfaaGreatDoor
open Go.RowKit Go.Shelf Pa
attribute [local go_sem] bs_toList bs_size

theorem bs_slice (t : TypeId) (ht : Tryz.prog.underlying t = some .string) (p : Str) (f k : Nat) (hf : f ≤ k) (hk : k ≤ p.length) (w : World) : (Instr.slice t (.string (bs p)) (some (.int .i64 f)) (some (.int .i64 k)) none).run Tryz.prog w = .ok (.string (bs ((p.drop f).take (k - f)))) w := by
  refine (run_slice_string (P := Tryz.prog) w t (bs p) .i64 .i64 f k ht (by omega) (by omega) (by rw [bs_size]; omega)).trans ?_
  have e : (bs p).extract f k = bs ((p.drop f).take (k - f)) := by
    apply ByteArray.ext
    apply Array.ext'
    simp [bs, ByteArray.data_extract, List.drop_take]
  exact congrArg (fun x => Result.ok (Value.string x) w) e

/-- What stands in Split's loop, at i = k: the names so far, the next name's start. -/
def Sp7 (p : Str) (out : List Str) (f k : Nat) : Prop := (∀ x ∈ out, nameOk x = true) ∧ out.length ≤ k ∧ ((k ≤ p.length ∧ 1 ≤ f ∧ f ≤ k ∧ spl p.tail = out ++ spl (p.drop f) ∧ 47 ∉ (p.drop f).take (k - f)) ∨ (k = p.length + 1 ∧ f = p.length + 1 ∧ spl p.tail = out))
theorem Sp7.start {p : Str} (h : 1 ≤ p.length) : Sp7 p [] 1 1 := ⟨fun _ h => (by cases h), Nat.zero_le _, .inl ⟨h, Nat.le_refl _, Nat.le_refl _, by rw [List.drop_one]; rfl, by simp⟩⟩
theorem Sp7.next {p : Str} {out : List Str} {f k : Nat} {c : UInt8} (h : Sp7 p out f k) (hk : p[k]? = some c) (hc : c ≠ 47) : Sp7 p out f (k + 1) := by
  obtain ⟨h1, h2, ⟨a, b, d, e, g⟩ | ⟨a, _⟩⟩ := h
  · have hl := (List.getElem?_eq_some_iff.1 hk).1
    refine ⟨h1, by omega, .inl ⟨hl, b, by omega, e, ?_⟩⟩
    rw [show k + 1 - f = (k - f) + 1 from by omega, List.take_add_one, List.getElem?_drop, show f + (k - f) = k from by omega, hk]
    intro hm
    rcases List.mem_append.1 hm with hm | hm
    · exact g hm
    · simp at hm; exact hc hm.symm
  · have := (List.getElem?_eq_some_iff.1 hk).1; omega
theorem Sp7.cut {p : Str} {out : List Str} {f k : Nat} (h : Sp7 p out f k) (hk : p[k]? = some 47) : spl p.tail = out ++ ((p.drop f).take (k - f)) :: spl (p.drop (k + 1)) ∧ (nameOk ((p.drop f).take (k - f)) = true → Sp7 p (out ++ [(p.drop f).take (k - f)]) (k + 1) (k + 1)) := by
  obtain ⟨h1, h2, ⟨a, b, d, e, g⟩ | ⟨a, _⟩⟩ := h
  · have hl := (List.getElem?_eq_some_iff.1 hk)
    have hs : p.drop f = (p.drop f).take (k - f) ++ 47 :: p.drop (k + 1) := by
      have h3 := (List.take_append_drop (k - f) (p.drop f)).symm
      rw [List.drop_drop, show f + (k - f) = k from by omega, List.drop_eq_getElem_cons hl.1, hl.2] at h3
      exact h3
    have e2 : spl p.tail = out ++ ((p.drop f).take (k - f)) :: spl (p.drop (k + 1)) := by
      rw [e]
      congr 1
      conv => lhs; rw [hs]
      exact spl_app _ _ g
    refine ⟨e2, fun hn => ⟨?_, by rw [List.length_append]; simp; omega, .inl ⟨hl.1, by omega, Nat.le_refl _, by rw [e2]; simp, by simp⟩⟩⟩
    intro x hx
    rcases List.mem_append.1 hx with hx | hx
    · exact h1 x hx
    · simp at hx; rw [hx]; exact hn
  · have := (List.getElem?_eq_some_iff.1 hk).1; omega
theorem Sp7.end_ {p : Str} {out : List Str} {f : Nat} (h : Sp7 p out f p.length) : spl p.tail = out ++ [(p.drop f).take (p.length - f)] ∧ (nameOk ((p.drop f).take (p.length - f)) = true → Sp7 p (out ++ [(p.drop f).take (p.length - f)]) (p.length + 1) (p.length + 1)) := by
  obtain ⟨h1, h2, ⟨a, b, d, e, g⟩ | ⟨a, _⟩⟩ := h
  · have ht : (p.drop f).take (p.length - f) = p.drop f := List.take_of_length_le (by rw [List.length_drop]; omega)
    rw [ht] at g ⊢
    have e2 : spl p.tail = out ++ [p.drop f] := by rw [e, spl_piece _ g]
    refine ⟨e2, fun hn => ⟨?_, by rw [List.length_append]; simp; omega, .inr ⟨rfl, rfl, e2⟩⟩⟩
    intro x hx
    rcases List.mem_append.1 hx with hx | hx
    · exact h1 x hx
    · simp at hx; rw [hx]; exact hn
  · omega
theorem Sp7.piece {p : Str} {out : List Str} {f k : Nat} (h : Sp7 p out f k) (hk : k = p.length ∨ p[k]? = some 47) : ∃ x, x = (p.drop f).take (k - f) ∧ f ≤ k ∧ k ≤ p.length ∧ (∃ r, spl p.tail = out ++ x :: r) ∧ (nameOk x = true → Sp7 p (out ++ [x]) (k + 1) (k + 1)) := by
  have hfk : f ≤ k ∧ k ≤ p.length := by
    obtain ⟨_, _, ⟨a, _, d, _⟩ | ⟨a, _⟩⟩ := h
    · exact ⟨d, a⟩
    · rcases hk with hk | hk
      · omega
      · have := (List.getElem?_eq_some_iff.1 hk).1; omega
  refine ⟨_, rfl, hfk.1, hfk.2, ?_⟩
  rcases hk with rfl | hk
  · obtain ⟨a, b⟩ := h.end_
    exact ⟨⟨[], a⟩, b⟩
  · obtain ⟨a, b⟩ := h.cut hk
    exact ⟨⟨_, a⟩, b⟩
theorem splitP_bad {p : Str} {out r : List Str} {x : Str} (hh : p ≠ [47]) (e : spl p.tail = out ++ x :: r) (hn : nameOk x = false) : splitP p = none := by
  unfold splitP
  by_cases hc : p.head? = some 47 ∧ p.length ≤ 255
  · rw [if_pos hc, if_neg hh, if_neg]
    rintro ⟨_, h⟩
    rw [e, List.all_append, List.all_cons, hn] at h
    simp at h
  · rw [if_neg hc]
theorem Sp7.done {p : Str} {out : List Str} {f : Nat} (h : Sp7 p out f (p.length + 1)) (hp : p.head? = some 47) (hl : p.length ≤ 255) (hh : p ≠ [47]) : splitP p = if out.length ≤ 16 then some out else none := by
  obtain ⟨h1, h2, ⟨a, _⟩ | ⟨_, _, e⟩⟩ := h
  · omega
  · unfold splitP
    rw [if_pos ⟨hp, hl⟩, if_neg hh, e]
    by_cases h : out.length ≤ 16
    · rw [if_pos ⟨h, List.all_eq_true.2 h1⟩, if_pos h]
    · rw [if_neg (fun e => h e.1), if_neg h]
/-- What the reference's Split leaves. -/
def Split7 (p : Str) (w : World) (e : Ending) (w' : World) : Prop :=
  ∃ v n, e = .returned (.tuple #[v, .int .i64 n]) ∧ Below w.heap.size w w' ∧
    match splitP p with
    | some l => n = 0 ∧ StrsAt w' w'.heap.size v l
    | none => n = 8 ∧ v = .slice none 0 0

set_option maxRecDepth 100000 in
set_option maxHeartbeats 4000000 in
theorem rsplit7_any (p : Str) (w : World) (hp : p.length ≤ 2000000) :
    Calls Tryz.prog 31 #[.string (bs p)] w (Split7 p w) := by
  obtain ⟨i0, hi0, hz0, hz1, hz2⟩ := info_parts info_str
  have HIx := Lib.hid (fun k c h w => bs_index 9 Tryz.underlying9 p k c h w)
  have HSl := Lib.hid (fun f k hf hk w => bs_slice 9 Tryz.underlying9 p f k hf hk w)
  by_cases hl0 : p.length < 1
  · have hl0' : decide ((p.length : Int) < 1) = true := by simp; omega
    have hq : splitP p = none := by
      have : p = [] := List.length_eq_zero_iff.1 (by omega)
      subst this; rfl
    have HQ := Lib.hid hq
    clear hq
    go_enter Tryz.func31, Tryz.ntmps31
    go_wp2_with fail
    go_ret2
    exact ⟨_, _, rfl, Below.refl _ _, by rw [HQ.out]; exact ⟨rfl, rfl⟩⟩
  have hl0' : decide ((p.length : Int) < 1) = false := by simp; omega
  by_cases hl1 : 255 < p.length
  · have hl1' : decide ((255 : Int) < (p.length : Int)) = true := by simp; omega
    have HQ := Lib.hid (show splitP p = none by unfold splitP; rw [if_neg (fun h => by omega)])
    go_enter Tryz.func31, Tryz.ntmps31
    go_wp2_with fail
    go_ret2
    exact ⟨_, _, rfl, Below.refl _ _, by rw [HQ.out]; exact ⟨rfl, rfl⟩⟩
  have hl1' : decide ((255 : Int) < (p.length : Int)) = false := by simp; omega
  obtain ⟨c0, hc0⟩ : ∃ c, p[0]? = some c := ⟨_, List.getElem?_eq_getElem (by omega)⟩
  have hix0 : ∀ w, (Instr.index 9 (.string (bs p)) (.int .i64 0)).run Tryz.prog w = .ok (.int .u8 c0.toNat) w := HIx.out 0 c0 hc0
  by_cases h47 : c0 = 47
  case neg =>
    have h47' : ((c0.toNat : Int) == 47) = false := by
      rw [beq_eq_false_iff_ne]; intro e; exact h47 (UInt8.toNat_inj.1 (by show c0.toNat = 47; omega))
    have HQ := Lib.hid (show splitP p = none by unfold splitP; rw [if_neg (fun h => h47 (by rw [List.head?_eq_getElem?, hc0] at h; exact Option.some.inj h.1))])
    clear hc0 h47
    go_enter Tryz.func31, Tryz.ntmps31
    go_wp2_with fail
    go_ret2
    exact ⟨_, _, rfl, Below.refl _ _, by rw [HQ.out]; exact ⟨rfl, rfl⟩⟩
  subst h47
  have hhd : p.head? = some 47 := by rw [List.head?_eq_getElem?]; exact hc0
  by_cases hh : p = [47]
  · have hh' : (p == [47]) = true := by rw [hh]; rfl
    have hix0 : ∀ w, (Instr.index 9 (.string (bs p)) (.int .i64 0)).run Tryz.prog w = .ok (.int .u8 47) w := hix0
    have HQ := Lib.hid (show splitP p = some [] by rw [hh]; rfl)
    clear hc0 hh hhd
    go_enter Tryz.func31, Tryz.ntmps31
    go_wp2_with fail
    go_ret2
    exact ⟨_, _, rfl, Below.refl _ _, by rw [HQ.out]; exact ⟨rfl, StrsAt.nil _ _ _ _⟩⟩
  have hh' : (p == [47]) = false := by rw [beq_eq_false_iff_ne]; exact hh
  have hix0 : ∀ w, (Instr.index 9 (.string (bs p)) (.int .i64 0)).run Tryz.prog w = .ok (.int .u8 47) w := hix0
  have HHd := Lib.hid (⟨hhd, hh⟩ : _ ∧ _)
  have HStart := Lib.hid (Sp7.start (p := p) (by omega))
  clear hc0 hhd hh
  go_enter Tryz.func31, Tryz.ntmps31
  go_wp2_with fail
  have h0 : OwnS w w.heap.size (.slice none 0 0) [] := World.ownsRow_nil _ _ _ _
  go_loopg [4, 5, 6] p.length (fun gg v4 v5 i wx => ∃ (out : List Str) (f k : Nat), v5 = .int .i64 f ∧ i = .int .i64 k ∧ gg = p.length + 1 - k ∧ 1 ≤ k ∧ k ≤ p.length + 1 ∧ OwnS wx w.heap.size v4 out ∧ Sp7 p out f k ∧ Below w.heap.size w wx)
  case atStart => exact ⟨[], 1, 1, rfl, rfl, by omega, Nat.le_refl _, by omega, h0, HStart.out, Below.refl _ _⟩
  case round =>
    obtain ⟨out, f, k, rfl, rfl, rfl, hk1, hk2, hO, hS, hb⟩ := hrel
    obtain ⟨v4, hv4⟩ : ∃ v, v = u4 := ⟨_, rfl⟩
    subst hv4
    by_cases hle : k ≤ p.length
    · have hle' : decide ((k : Int) ≤ (p.length : Int)) = true := by simp; omega
      by_cases hlt : k < p.length
      · have hne : ((k : Int) == (p.length : Int)) = false := by rw [beq_eq_false_iff_ne]; omega
        obtain ⟨c, hc⟩ : ∃ c, p[k]? = some c := ⟨_, List.getElem?_eq_getElem hlt⟩
        have hix := HIx.out k c hc
        by_cases h47 : c = 47
        · subst h47
          have hix : ∀ w, (Instr.index 9 (.string (bs p)) (.int .i64 k)).run Tryz.prog w = .ok (.int .u8 47) w := hix
          obtain ⟨x, hx, hfk, hkl2, ⟨r, hr⟩, hnx⟩ := hS.piece (.inr hc)
          have hsl := HSl.out f k hfk hkl2
          rw [← hx] at hsl
          have hnm := fun w => rname7_any x w (by rw [hx, List.length_take]; omega)
          have hown := hO
          have hob : out.length ≤ 300 := by obtain ⟨_, h2, _⟩ := hS; omega
          have HNm := Lib.hid hnm
          have HOwn := Lib.hid hown
          have HBl := Lib.hid hb
          have HR := Lib.hid hr
          have HNx := Lib.hid hnx
          clear hnm hown hb hr hnx hS hO hx
          go_wp2_with fail
          refine (HNm.out _).mono ?_
          rintro e w2 ⟨rfl, hw2⟩
          obtain rfl := hw2.symm
          cases hok : nameOk x with
          | false =>
            have HQ := Lib.hid (splitP_bad HHd.out.2 HR.out hok)
            clear hok
            go_wp2_with fail
            go_ret2
            exact ⟨_, _, rfl, HBl.out, by rw [HQ.out]; exact ⟨rfl, rfl⟩⟩
          | true =>
            have hS2 := HNx.out hok
            have hbase : w.heap.size ≤ (wr.alloc (.cells #[.string (bs x)] 9)).heap.size := by rw [World.size_alloc]; exact Nat.le_succ_of_le HBl.out.size
            have hownA : (wr.alloc (.cells #[.string (bs x)] 9)).ownsRow w.heap.size 9 1 v4 out.length (out.map encStr) := World.ownsRow.alloc HOwn.out (.cells #[.string (bs x)] 9)
            have hkm : out.length + 1 ≤ maxLen := by unfold maxLen; omega
            have hkb : (out.length + 1) * 16 ≤ 140737488355328 := by omega
            have hnext : ∀ v' w6, w6.ownsRow w.heap.size 9 1 v' (out.length + 1) (out.map encStr ++ [.string (bs x)]) → (wr.alloc (.cells #[.string (bs x)] 9)).grownBy w6 v4.ownBlock → OwnS w6 w.heap.size v' (out ++ [x]) ∧ Below w.heap.size w w6 := fun v' w6 r1 r2 => by
              refine ⟨?_, (HBl.out.alloc HBl.out.size _).grown r2 hbase (fun j hj => (World.ownsRow.lt HOwn.out j hj).1)⟩
              unfold OwnS
              rw [List.length_append, List.map_append]
              exact r1
            have HNext := Lib.hid hnext
            have HOwnA := Lib.hid hownA
            have HS2 := Lib.hid hS2
            clear hnext hownA hS2 hok HNx HR HNm
            go_wp2_with (at_builtin; refine wpList_append_own_at _ rfl _ _ 22 rfl w.heap.size 9 i0 (.string ⟨#[]⟩) 1 16 Tryz.underlying22 hi0 hz0 hz1 hz2 rfl (by decide) v4 _ _ rfl HOwnA.out ⟨wr.heap.size, 0, none⟩ 1 1 [.string (bs x)] rfl rfl (World.news_of_block (heap_alloc_new _ _)) (by intro u hu; simp at hu; subst hu; rfl) hkm hkb hbase ?_; intro v' w6 hown' hgrow hnil hloc; have hI6 := HNext.out v' w6 hown' hgrow; have HI6 := Lib.hid hI6; clear hown' hgrow hnil hloc hI6)
            go_roundg (p.length + 1 - (k + 1))
            case measure => omega
            case rel => exact ⟨out ++ [x], k + 1, k + 1, by go_num, by go_num, rfl, by omega, by omega, HI6.out.1, HS2.out, HI6.out.2⟩
        · have h47' : ((c.toNat : Int) == 47) = false := by
            rw [beq_eq_false_iff_ne]; intro e; exact h47 (UInt8.toNat_inj.1 (by show c.toNat = 47; omega))
          have HS2 := Lib.hid (hS.next hc h47)
          have HOwn := Lib.hid hO
          have HBl := Lib.hid hb
          clear hS hO hb hc h47
          go_wp2_with fail
          go_roundg (p.length + 1 - (k + 1))
          case measure => omega
          case rel => exact ⟨out, f, k + 1, rfl, by go_num, rfl, by omega, by omega, HOwn.out, HS2.out, HBl.out⟩
      · have hkp : k = p.length := by omega
        · subst hkp
          obtain ⟨x, hx, hfk, hkl2, ⟨r, hr⟩, hnx⟩ := hS.piece (.inl rfl)
          have hsl := HSl.out f p.length hfk hkl2
          rw [← hx] at hsl
          have hnm := fun w => rname7_any x w (by rw [hx, List.length_take]; omega)
          have hown := hO
          have hob : out.length ≤ 300 := by obtain ⟨_, h2, _⟩ := hS; omega
          have HNm := Lib.hid hnm
          have HOwn := Lib.hid hown
          have HBl := Lib.hid hb
          have HR := Lib.hid hr
          have HNx := Lib.hid hnx
          clear hnm hown hb hr hnx hS hO hx
          go_wp2_with fail
          refine (HNm.out _).mono ?_
          rintro e w2 ⟨rfl, hw2⟩
          obtain rfl := hw2.symm
          cases hok : nameOk x with
          | false =>
            have HQ := Lib.hid (splitP_bad HHd.out.2 HR.out hok)
            clear hok
            go_wp2_with fail
            go_ret2
            exact ⟨_, _, rfl, HBl.out, by rw [HQ.out]; exact ⟨rfl, rfl⟩⟩
          | true =>
            have hS2 := HNx.out hok
            have hbase : w.heap.size ≤ (wr.alloc (.cells #[.string (bs x)] 9)).heap.size := by rw [World.size_alloc]; exact Nat.le_succ_of_le HBl.out.size
            have hownA : (wr.alloc (.cells #[.string (bs x)] 9)).ownsRow w.heap.size 9 1 v4 out.length (out.map encStr) := World.ownsRow.alloc HOwn.out (.cells #[.string (bs x)] 9)
            have hkm : out.length + 1 ≤ maxLen := by unfold maxLen; omega
            have hkb : (out.length + 1) * 16 ≤ 140737488355328 := by omega
            have hnext : ∀ v' w6, w6.ownsRow w.heap.size 9 1 v' (out.length + 1) (out.map encStr ++ [.string (bs x)]) → (wr.alloc (.cells #[.string (bs x)] 9)).grownBy w6 v4.ownBlock → OwnS w6 w.heap.size v' (out ++ [x]) ∧ Below w.heap.size w w6 := fun v' w6 r1 r2 => by
              refine ⟨?_, (HBl.out.alloc HBl.out.size _).grown r2 hbase (fun j hj => (World.ownsRow.lt HOwn.out j hj).1)⟩
              unfold OwnS
              rw [List.length_append, List.map_append]
              exact r1
            have HNext := Lib.hid hnext
            have HOwnA := Lib.hid hownA
            have HS2 := Lib.hid hS2
            clear hnext hownA hS2 hok HNx HR HNm
            go_wp2_with (at_builtin; refine wpList_append_own_at _ rfl _ _ 22 rfl w.heap.size 9 i0 (.string ⟨#[]⟩) 1 16 Tryz.underlying22 hi0 hz0 hz1 hz2 rfl (by decide) v4 _ _ rfl HOwnA.out ⟨wr.heap.size, 0, none⟩ 1 1 [.string (bs x)] rfl rfl (World.news_of_block (heap_alloc_new _ _)) (by intro u hu; simp at hu; subst hu; rfl) hkm hkb hbase ?_; intro v' w6 hown' hgrow hnil hloc; have hI6 := HNext.out v' w6 hown' hgrow; have HI6 := Lib.hid hI6; clear hown' hgrow hnil hloc hI6)
            go_roundg (p.length + 1 - (p.length + 1))
            case measure => omega
            case rel => exact ⟨out ++ [x], p.length + 1, p.length + 1, by go_num, by go_num, rfl, by omega, by omega, HI6.out.1, HS2.out, HI6.out.2⟩
    · have hle' : decide ((k : Int) ≤ (p.length : Int)) = false := by simp; omega
      have hkp : k = p.length + 1 := by omega
      rw [hkp] at hS
      have hq := hS.done HHd.out.1 (by omega) HHd.out.2
      have hob : out.length ≤ 300 := by obtain ⟨_, h2, _⟩ := hS; omega
      have hst := hO.strs
      obtain ⟨A, c, rfl⟩ := ownsRow_slice hO
      have HSt := Lib.hid hst
      have HBl := Lib.hid hb
      have HQ := Lib.hid hq
      clear hS hO hb hq hst
      by_cases h16 : 16 < out.length
      · have h16' : decide ((16 : Int) < (out.length : Int)) = true := by simp; omega
        go_wp2_with fail
        go_ret2
        exact ⟨_, _, rfl, HBl.out, by rw [HQ.out, if_neg (by omega)]; exact ⟨rfl, rfl⟩⟩
      · have h16' : decide ((16 : Int) < (out.length : Int)) = false := by simp; omega
        go_wp2_with fail
        go_ret2
        exact ⟨_, _, rfl, HBl.out, by rw [HQ.out, if_pos (by omega)]; exact ⟨rfl, HSt.out⟩⟩

end Go.Proofs.YtfgkgoddjemnfaaGreatDoor

namespace Go.Proofs.YtfgkgoddjemnfaaGreatDoor
open Go.RowKit Go.Shelf Pa
attribute [local go_sem] bs_toList bs_size

theorem bs_app (a b : Str) : bs a ++ bs b = bs (a ++ b) := by
  apply ByteArray.ext
  simp [bs, ByteArray.data_append]
/-- Each name behind a stroke. -/
def cat (l : List Str) : Str := l.flatMap fun x => 47 :: x
theorem cat_succ {l : List Str} {k : Nat} {x : Str} (h : l[k]? = some x) : cat (l.take (k + 1)) = cat (l.take k) ++ 47 :: x := by
  unfold cat
  rw [List.take_add_one, h, List.flatMap_append]; simp
theorem cat_join : ∀ l : List Str, l ≠ [] → cat l = joinS l
  | [], h => absurd rfl h
  | [x], _ => by simp [cat, joinS, Lib.join, List.intercalate]
  | x :: y :: r, _ => by
    have ih := cat_join (y :: r) (by simp)
    have e : cat (x :: y :: r) = (47 :: x) ++ cat (y :: r) := by unfold cat; rw [List.flatMap_cons]
    rw [e, ih]
    unfold joinS
    simp [Lib.join, List.intercalate, List.intersperse]
theorem cat_len : ∀ l : List Str, (∀ x ∈ l, nameOk x = true) → (cat l).length ≤ 60 * l.length
  | [], _ => by simp [cat]
  | x :: r, h => by
    have ih := cat_len r (fun y hy => h y (List.mem_cons_of_mem _ hy))
    have hx := h x (by simp)
    have : x.length ≤ 59 := by
      unfold nameOk at hx
      simp at hx; omega
    unfold cat at ih ⊢
    rw [List.flatMap_cons, List.length_append, List.length_cons, List.length_cons]
    omega
theorem joinR_bad {l : List Str} (h : 16 < l.length ∨ (∃ x ∈ l, nameOk x = false) ∨ 255 < (joinS l).length) : joinR l = ([], 8) := by
  unfold joinR
  rw [if_neg]
  intro e
  obtain ⟨_, h1, h2, h3⟩ := splitP_some e
  rcases h with h | ⟨x, hx, h⟩ | h
  · omega
  · rw [h2 x hx] at h; cases h
  · omega
theorem joinR_good {l : List Str} (h1 : l.length ≤ 16) (h2 : ∀ x ∈ l, nameOk x = true) (h3 : (joinS l).length ≤ 255) : joinR l = (joinS l, 0) := by
  have e : joinS l = joinP l := by unfold joinS joinP; rw [join_jn]
  exact joinR_of (by rw [e] at h3 ⊢; exact splitP_joinP h1 h2 h3)

set_option maxRecDepth 100000 in
set_option maxHeartbeats 4000000 in
theorem rjoin7_any {l : List Str} {v : Value} {w : World} (h : StrsAt w w.heap.size v l) (hl : ∀ x ∈ l, x.length ≤ 2000000) (hn : l.length ≤ 2000000) :
    Calls Tryz.prog 33 #[v] w fun e w' => e = .returned (.tuple #[.string (bs (joinR l).1), .int .i64 (joinR l).2]) ∧ w' = w := by
  obtain ⟨A, c, rfl, hc, hf⟩ := h
  have HF := Lib.hid hf
  have HLn := Lib.hid hl
  clear hf hl
  go_enter Tryz.func33, Tryz.ntmps33
  go_wp2_with fail
  go_loopg [4, 5] l.length (fun gg v4 i wx => ∃ k : Nat, v4 = .string (bs (cat (l.take k))) ∧ i = .int .i64 k ∧ gg = l.length - k ∧ k ≤ l.length ∧ k ≤ 17 ∧ wx = w ∧ (∀ x ∈ l.take k, nameOk x = true))
  case atStart => exact ⟨0, rfl, rfl, rfl, Nat.zero_le _, by omega, rfl, fun x hx => by simp at hx⟩
  case round =>
    obtain ⟨k, rfl, rfl, rfl, hk, hk17, rfl, hok⟩ := hrel
    have hcl := cat_len _ hok
    rw [List.length_take] at hcl
    have HOk := Lib.hid hok
    clear hok
    by_cases hlt : k < l.length
    · have hlt' : decide ((k : Int) < (l.length : Int)) = true := by simp; omega
      by_cases h16 : k ≤ 16
      · have h16' : decide ((k : Int) ≤ 16) = true := by simp; omega
        obtain ⟨b, o, rfl, hbl, hcs⟩ := HF.out (by rintro rfl; simp at hlt)
        obtain ⟨x, hx⟩ : ∃ x, l[k]? = some x := ⟨_, List.getElem?_eq_getElem hlt⟩
        have hcell := hcs k _ hx
        have hxl := HLn.out x (List.mem_of_getElem? hx)
        have hnm := fun w => rname7_any x w (by omega)
        have hcs' := cat_succ hx
        have HNm := Lib.hid hnm
        have HX := Lib.hid hx
        have HCs := Lib.hid hcs'
        clear hnm hx hcs' hcs
        go_wp2_with fail
        refine (HNm.out _).mono ?_
        rintro e w2 ⟨rfl, hw2⟩
        obtain rfl := hw2.symm
        cases hnk : nameOk x with
        | false =>
          have HQ := Lib.hid (joinR_bad (.inr (.inl ⟨x, List.mem_of_getElem? HX.out, hnk⟩)))
          clear hnk
          go_wp2_with fail
          go_ret2
          exact ⟨by rw [HQ.out]; rfl, rfl⟩
        | true =>
          have HNk := Lib.hid hnk
          have hcl2 : ¬ 9223372036854775807 < (cat (l.take k)).length + (1 + x.length) := by omega
          have hcl3 : ¬ 9223372036854775807 < 1 + x.length := by omega
          clear hnk
          go_wp2_with fail
          go_roundg (l.length - (k + 1))
          case measure => omega
          case rel => exact ⟨k + 1, by rw [HCs.out, bs_stroke, bs_app], by go_num, rfl, hlt, by omega, rfl, fun y hy => by
            rw [List.take_add_one, HX.out] at hy
            rcases List.mem_append.1 hy with hy | hy
            · exact HOk.out y hy
            · simp at hy; rw [hy]; exact HNk.out⟩
      · obtain rfl : k = 17 := by omega
        have h17 : decide (((17 : Nat) : Int) ≤ 16) = false := by decide
        have HQ := Lib.hid (joinR_bad (l := l) (.inl (by omega)))
        have h16' : decide ((16 : Int) < (l.length : Int)) = true := by simp; omega
        obtain ⟨b, o, rfl, hbl, hcs⟩ := HF.out (by rintro rfl; simp at hlt)
        clear hcs
        by_cases hce : cat (l.take 17) = []
        · have hce' : (cat (l.take 17) == []) = true := by rw [hce]; rfl
          clear hce
          go_wp2_with fail
          go_ret2
          exact ⟨by rw [HQ.out]; rfl, rfl⟩
        · have hce' : (cat (l.take 17) == []) = false := by rw [beq_eq_false_iff_ne]; exact hce
          clear hce
          go_wp2_with fail
          go_ret2
          exact ⟨by rw [HQ.out]; rfl, rfl⟩
    · have hlt' : decide ((k : Int) < (l.length : Int)) = false := by simp; omega
      obtain rfl : k = l.length := by omega
      rw [List.take_length] at HOk
      have htl : l.take l.length = l := List.take_length
      rw [htl]
      rw [Nat.min_self, htl] at hcl
      by_cases hl0 : l = []
      · subst hl0
        have HQ := Lib.hid (joinR_good (l := []) (by decide) (fun x hx => (by cases hx)) (by decide))
        have hce' : (cat [] == []) = true := rfl
        have h16' : decide ((16 : Int) < ((([] : List Str).length : Nat) : Int)) = false := by decide
        go_wp2_with fail
        go_ret2
        exact ⟨by rw [HQ.out]; rfl, rfl⟩
      · have hcj := cat_join l hl0
        rw [hcj] at hcl ⊢
        have hce' : (joinS l == []) = false := by rw [beq_eq_false_iff_ne]; unfold joinS; simp
        by_cases h16 : 16 < l.length
        · have h16' : decide ((16 : Int) < (l.length : Int)) = true := by simp; omega
          have HQ := Lib.hid (joinR_bad (l := l) (.inl h16))
          clear hcj hl0
          go_wp2_with fail
          go_ret2
          exact ⟨by rw [HQ.out]; rfl, rfl⟩
        · have h16' : decide ((16 : Int) < (l.length : Int)) = false := by simp; omega
          by_cases h255 : 255 < (joinS l).length
          · have h255' : decide ((255 : Int) < ((joinS l).length : Int)) = true := by simp; omega
            have HQ := Lib.hid (joinR_bad (l := l) (.inr (.inr h255)))
            clear hcj hl0
            go_wp2_with fail
            go_ret2
            exact ⟨by rw [HQ.out]; rfl, rfl⟩
          · have h255' : decide ((255 : Int) < ((joinS l).length : Int)) = false := by simp; omega
            have HQ := Lib.hid (joinR_good (l := l) (by omega) HOk.out (by omega))
            clear hcj hl0
            go_wp2_with fail
            go_ret2
            exact ⟨by rw [HQ.out]; rfl, rfl⟩

end Go.Proofs.YtfgkgoddjemnfaaGreatDoor

namespace Go.Proofs.YtfgkgoddjemnfaaGreatDoor
open Go.RowKit Go.Shelf Pa
attribute [local go_sem] bs_toList bs_size

theorem mem_join_len {x : Str} : ∀ {l : List Str}, x ∈ l → x.length ≤ (Lib.join l [47]).length
  | [y], h => by
    have : x = y := by simpa using h
    subst this; simp [Lib.join, List.intercalate]
  | y :: z :: r, h => by
    have e : Lib.join (y :: z :: r) [47] = y ++ 47 :: Lib.join (z :: r) [47] := by simp [Lib.join, List.intercalate, List.intersperse]
    rw [e, List.length_append, List.length_cons]
    rcases List.mem_cons.1 h with h | h
    · rw [h]; omega
    · have := mem_join_len h; omega
/-- The error of a split. -/
def spE (p : Str) : Nat := match splitP p with | some _ => 0 | none => 8
def spL (p : Str) : List Str := (splitP p).getD []
theorem spL_len (p : Str) : (spL p).length ≤ 16 := by
  unfold spL
  cases h : splitP p with
  | none => exact Nat.zero_le _
  | some l => exact (splitP_some h).2.1
theorem dsplit_e (p : Str) (w : World) (hm : MaxOk w) : Calls Tryz.prog 30 #[.string (bs p)] w fun e w' => ∃ v, e = .returned (.tuple #[v, .int .i64 (spE p : Nat)]) ∧ Below w.heap.size w w' ∧ StrsAt w' w'.heap.size v (spL p) := by
  refine (split_d p w hm).mono ?_
  rintro e w' ⟨v, n, rfl, hb, hs⟩
  unfold spE spL
  cases h : splitP p with
  | none => rw [h] at hs; obtain ⟨rfl, rfl⟩ := hs; exact ⟨_, rfl, hb.1, StrsAt.nil _ _ _ _⟩
  | some l => rw [h] at hs; obtain ⟨rfl, hs⟩ := hs; exact ⟨_, rfl, hb.1, hs⟩
theorem rsplit_e (p : Str) (w : World) (hp : p.length ≤ 2000000) : Calls Tryz.prog 31 #[.string (bs p)] w fun e w' => ∃ v, e = .returned (.tuple #[v, .int .i64 (spE p : Nat)]) ∧ Below w.heap.size w w' ∧ StrsAt w' w'.heap.size v (spL p) := by
  refine (rsplit7_any p w hp).mono ?_
  rintro e w' ⟨v, n, rfl, hb, hs⟩
  unfold spE spL
  cases h : splitP p with
  | none => rw [h] at hs; obtain ⟨rfl, rfl⟩ := hs; exact ⟨_, rfl, hb, StrsAt.nil _ _ _ _⟩
  | some l => rw [h] at hs; obtain ⟨rfl, hs⟩ := hs; exact ⟨_, rfl, hb, hs⟩

set_option maxRecDepth 100000 in
set_option maxHeartbeats 4000000 in
theorem dirPaths_any (p : Str) (ls : List Str) (v : Value) (w : World) (hm : MaxOk w) (h : TextsIn w v ls) (hl : (Lib.join ls [47]).length ≤ 1100000) (hn : ls.length ≤ 1100000) (hp : p.length ≤ 2000000) :
    Calls Tryz.prog 9 #[.string (bs p), v] w fun e w' => e = .returned (.bool true) ∧ Below w.heap.size w w' := by
  obtain ⟨hs, _⟩ := h
  have HD := Lib.hid (dsplit_e p w hm)
  have HR := Lib.hid (fun w => rsplit_e p w hp)
  have HS := Lib.hid hs
  have HM := Lib.hid hm
  have HL := Lib.hid (⟨hl, hn⟩ : _ ∧ _)
  have HX := Lib.hid (fun x (hx : x ∈ ls) => (show x.length ≤ 2000000 from Nat.le_trans (mem_join_len hx) (by omega)))
  clear hs hm hl hn
  go_enter Tryz.func9, Tryz.ntmps9
  go_wp2_with fail
  refine HD.out.mono ?_
  rintro e w1 ⟨v1, rfl, hb1, hs1⟩
  have HB1 := Lib.hid hb1
  have HS1 := Lib.hid hs1
  clear hb1 hs1 HD
  go_wp2_with fail
  refine (HR.out w1).mono ?_
  rintro e w2 ⟨v2, rfl, hb2, hs2⟩
  have HB2 := Lib.hid hb2
  have HS2 := Lib.hid hs2
  have HBw2 := Lib.hid (HB1.out.trans (hb2.mono HB1.out.size))
  have hj := djoinU_any ((HS.out.below HBw2.out).more HBw2.out.size) (HM.out.grow HBw2.out) HL.out.1 HL.out.2
  have HJ := Lib.hid hj
  clear hb2 hs2 HR hj
  go_wp2_with fail
  refine HJ.out.mono ?_
  rintro e w3 ⟨rfl, hb3⟩
  have HB3 := Lib.hid hb3
  have HBw3 := Lib.hid (HBw2.out.trans (hb3.mono HBw2.out.size))
  have hj := rjoin7_any ((HS.out.below HBw3.out).more HBw3.out.size) HX.out (by have := HL.out.2; omega)
  have HJ2 := Lib.hid hj
  clear hb3 hj HJ
  go_wp2_with fail
  refine HJ2.out.mono ?_
  rintro e w4 ⟨rfl, hw4⟩
  obtain rfl := hw4.symm
  have hlive := live_any w3 (HM.out.grow HBw3.out)
  have HLive := Lib.hid hlive
  clear hlive HJ2
  go_wp2_with fail
  refine HLive.out.mono ?_
  rintro e w5 ⟨rfl, hb5⟩
  have HB5 := Lib.hid hb5
  have HBw5 := Lib.hid (HBw3.out.trans (hb5.mono HBw3.out.size))
  have hnm := isName_any p w5
  have HNm := Lib.hid hnm
  clear hb5 hnm HLive
  go_wp2_with fail
  refine HNm.out.mono ?_
  rintro e w6 ⟨rfl, hb6⟩
  have HB6 := Lib.hid hb6.1
  have HBw6 := Lib.hid (HBw5.out.trans (hb6.1.mono HBw5.out.size))
  have hnm := rname7_any p w6 hp
  have HNm2 := Lib.hid hnm
  clear hb6 hnm HNm
  go_wp2_with fail
  refine HNm2.out.mono ?_
  rintro e w7 ⟨rfl, hw7⟩
  obtain rfl := hw7.symm
  have h16 := spL_len p
  have hs6 : StrsAt w6 w1.heap.size v1 (spL p) := HS1.out.below (HB2.out.trans ((HB3.out.trans ((HB5.out.trans (HB6.out.mono HB5.out.size)).mono HB3.out.size)).mono HB2.out.size))
  have hs7 : StrsAt w6 w2.heap.size v2 (spL p) := HS2.out.below (HB3.out.trans ((HB5.out.trans (HB6.out.mono HB5.out.size)).mono HB3.out.size))
  have hst := sameTexts_any (spL p) (spL p) v1 v2 _ _ w6 hs6 hs7 (by omega)
  have HSt := Lib.hid hst
  clear hs6 hs7 hst HNm2 h16
  go_wp2_with fail
  refine HSt.out.mono ?_
  rintro e w8 ⟨rfl, q, rfl⟩
  have hd : decide (spL p = spL p) = true := by simp
  go_wp2_with fail
  go_ret
  exact ⟨ret_bool (by simp), below_drewN HBw6.out q⟩

end Go.Proofs.YtfgkgoddjemnfaaGreatDoor
