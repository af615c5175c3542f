/-
  dir.IsName: whether a text is a name, at every text.
  The walk over find: a name's entry.
  The walk over Find.
  The walk over an entry's bytes.
  The walk over Add.
  The walk over Drop.
  The walk over List.
-/
import Derived.Test.YtakmplpfjcddiaaGreatDoorG7
import Derived.Sort.OwnSorted
import Derived.Maps.AppendAt
set_option linter.unusedVariables false
set_option linter.unusedSimpArgs false
set_option linter.deprecated false
namespace Go.Proofs.YtakmplpfjcddiaaGreatDoor
open Go.RowKit Go.Shelf Pa
theorem indexAny_bad : ∀ l : Str, 0 ≤ Lib.indexAny l [47, 0] ↔ l.any isBad = true
  | [] => by simp [Lib.indexAny]
  | b :: l => by
    have ih := indexAny_bad l
    have hge := Lib.indexAny_ge [47, 0] l
    rw [Lib.indexAny, List.any_cons]
    have hc : ([47, 0] : List UInt8).contains b = isBad b := by rw [isBad]; simp only [List.contains_cons, List.contains_nil, Bool.or_false]
    rw [hc]
    cases hb : isBad b
    · simp only [Bool.false_eq_true, if_false, Bool.false_or]
      rw [← ih]
      split
      · rename_i h; have := beq_iff_eq.1 h; omega
      · rename_i h; have : Lib.indexAny l [47, 0] ≠ -1 := fun e => h (beq_iff_eq.2 e); omega
    · simp
theorem any_bad_at (s : ByteArray) (i : Nat) (hi : i < s.size) (hb : isBad (s[i]'hi) = true) : s.data.toList.any isBad = true :=
  List.any_eq_true.2 ⟨_, List.mem_of_getElem? (Lib.data_getElem? s i hi), hb⟩
/-- No byte of the first ones is one of the two. -/
def NoBad (s : ByteArray) (i : Nat) : Prop := ∀ j (hj : j < s.size), j < i → isBad (s[j]'hj) = false
theorem NoBad.all {s : ByteArray} (h : NoBad s s.size) : s.data.toList.any isBad = false := by
  rw [List.any_eq_false]
  intro x hx
  obtain ⟨j, hj, e⟩ := List.mem_iff_getElem.1 hx
  have hj' : j < s.size := by simpa using hj
  have h1 := h j hj' hj'
  have h2 : s[j]'hj' = x := e
  rw [h2] at h1
  simp [h1]
theorem NoBad.step {s : ByteArray} {i : Nat} (h : NoBad s i) (hi : i < s.size) (hb : isBad (s[i]'hi) = false) : NoBad s (i + (Utf8.decode s i).2) ∧ i < i + (Utf8.decode s i).2 ∧ i + (Utf8.decode s i).2 ≤ s.size := by
  rcases decode_two s i hi with ⟨_, e⟩ | ⟨_, _, h3, h4, h5⟩
  · rw [e]
    refine ⟨fun j hj hlt => ?_, by simp, by show i + 1 ≤ _; omega⟩
    have : j < i + 1 := hlt
    rcases Nat.lt_or_ge j i with h' | h'
    · exact h j hj h'
    · obtain rfl : j = i := by omega
      exact hb
  · refine ⟨fun j hj hlt => ?_, by omega, h4⟩
    rcases Nat.lt_or_ge j i with h' | h'
    · exact h j hj h'
    · have hb' := h5 j hj h' hlt
      unfold isBad
      simp only [Bool.or_eq_false_iff, beq_eq_false_iff_ne]
      constructor <;> (intro e; rw [e] at hb'; simp at hb')
set_option maxHeartbeats 800000 in
theorem indexAny_short (s : ByteArray) (w : World) (h8 : s.size ≤ 8) :
    Calls Tryz.prog 291 #[.string s, .string two] w fun e w' => ∃ r : Int, e = .returned (.int .i64 r) ∧ BelowD w.heap.size w w' ∧ (0 ≤ r ↔ s.data.toList.any isBad = true) := by
  have h8z : decide ((8 : Int) < (s.size : Int)) = false := decide_eq_false (by omega)
  have hR := fun i (hi : i < s.size) w => indexRune_any s i hi w
  have HR := Lib.hid hR
  clear hR
  unfold two
  go_enter Tryz.func291, Tryz.ntmps291
  go_wp2_with (go_at_call 305; refine (Tryz.strings_shouldUseASCIISet _ _).mono ?_; rintro e w' ⟨rfl, hw⟩; obtain rfl := hw.symm)
  go_loopg [9, 10] s.size (fun g _ _ wx => ∃ i : Nat, i + g = s.size ∧ wx.heap[w.heap.size]? = some (.stringIter s i) ∧ NoBad s i ∧ BelowD w.heap.size w wx)
  case atStart => exact ⟨0, by omega, World.iter_heap _ _ _, fun _ _ h => absurd h (Nat.not_lt_zero _), (BelowD.refl _ _).alloc (Nat.le_refl _) _⟩
  case round =>
    obtain ⟨i, hig, hit, hno, hb⟩ := hrel
    obtain ⟨wx, rfl⟩ : ∃ wx, wx = wr := ⟨_, rfl⟩
    have HN := Lib.hid hno
    clear hno
    cases gk with
    | zero =>
      obtain rfl : i = s.size := by omega
      have hnx := fun ty => Lib.run_next_end_at (P := Tryz.prog) wx _ s s.size ty hit (by omega)
      clear hit
      go_wp2
      go_ret
      exact ⟨-1, rfl, hb, by rw [HN.out.all]; simp⟩
    | succ g =>
      have hi : i < s.size := by omega
      have hnx := fun ty => Lib.run_next_any_at (P := Tryz.prog) wx _ s i ty hit hi
      have hit' := Lib.iterAt_heap wx _ s i (i + (Utf8.decode s i).2) hit
      have hb' : BelowD w.heap.size w (wx.iterAt w.heap.size s (i + (Utf8.decode s i).2)) := hb.trans ⟨⟨rfl, rfl, rfl, by simp [World.iterAt], fun k hk => by simp only [World.iterAt]; rw [Array.getElem?_setIfInBounds_ne (by omega)]⟩, Nat.le_refl _⟩
      have HI := Lib.hid hit'
      clear hit hit'
      go_wp2_with fail
      generalize wx.iterAt w.heap.size s (i + (Utf8.decode s i).2) = W1 at hb' HI ⊢
      refine (HR.out i hi W1).mono ?_
      rintro e w2 ⟨r, rfl, hb2, hr, hr1, hr2⟩
      have hlt : w.heap.size < W1.heap.size := (Array.getElem?_eq_some_iff.1 HI.out).1
      have hb3 := hb'.trans (hb2.mono (Nat.le_of_lt hlt))
      have hit2 := (hb2.block _ hlt).trans HI.out
      by_cases hr0 : 0 ≤ r
      · have hfin := any_bad_at s i hi (hr.1 hr0)
        clear hit2 hr
        go_wp2
        go_ret
        exact ⟨i, rfl, hb3, by rw [hfin]; simp⟩
      · have hbad : isBad (s[i]'hi) = false := by
          cases h : isBad (s[i]'hi)
          · rfl
          · exact absurd (hr.2 h) hr0
        obtain ⟨s1, s2, s3⟩ := HN.out.step hi hbad
        have HI2 := Lib.hid hit2
        clear hit2 hr
        go_wp2
        go_roundg (s.size - (i + (Utf8.decode s i).2))
        case measure => omega
        case rel => exact ⟨i + (Utf8.decode s i).2, by omega, HI2.out, s1, hb3⟩
theorem indexAny_two (s : ByteArray) (w : World) (hs : s.size < 4294967281) :
    Calls Tryz.prog 291 #[.string s, .string two] w fun e w' => ∃ r : Int, e = .returned (.int .i64 r) ∧ BelowD w.heap.size w w' ∧ (0 ≤ r ↔ s.data.toList.any isBad = true) := by
  by_cases h8 : s.size ≤ 8
  · exact indexAny_short s w h8
  · refine (Tryz.strings_IndexAny_long (fun _ => by kernel_rfl) s two w (by decide) (by omega) hs (by decide) ?_).mono ?_
    · intro j b hj
      have : two.data.toList = [47, 0] := rfl
      rw [this] at hj
      match j, hj with
      | 0, hj => simp at hj; subst hj; decide
      | 1, hj => simp at hj; subst hj; decide
      | j + 2, hj => simp at hj
    · rintro e w' ⟨rfl, rfl⟩
      exact ⟨_, rfl, ((BelowD.refl _ _).alloc (Nat.le_refl _) _).alloc (by simp) _, indexAny_bad _⟩
set_option maxHeartbeats 400000 in
theorem containsAny_two (s : ByteArray) (w : World) (hs : s.size < 4294967281) :
    Calls Tryz.prog 265 #[.string s, .string two] w fun e w' => e = .returned (.bool (s.data.toList.any isBad)) ∧ BelowD w.heap.size w w' := by
  have hc := indexAny_two s w hs
  unfold two at *
  go_enter Tryz.func265, Tryz.ntmps265
  go_wp2_with fail
  refine hc.mono ?_
  rintro e w' ⟨r, rfl, hb, hr⟩
  have : s.data.toList.any isBad = decide (0 ≤ r) := by
    rw [Bool.eq_iff_iff, ← hr, decide_eq_true_eq]
  have HR := Lib.hid this
  clear this hr
  go_wp2
  go_ret
  exact ⟨ret_bool HR.out.symm, hb⟩
theorem any_isBad : ∀ s : Str, s.any isBad = (s.contains 47 || s.contains 0)
  | [] => rfl
  | b :: l => by
    have h1 : (47 == b) = (b == 47) := by rw [Bool.eq_iff_iff, beq_iff_eq, beq_iff_eq]; exact eq_comm
    have h2 : (0 == b) = (b == 0) := by rw [Bool.eq_iff_iff, beq_iff_eq, beq_iff_eq]; exact eq_comm
    rw [List.any_cons, any_isBad l, isBad, List.contains_cons, List.contains_cons, h1, h2]
    cases (b == 47) <;> cases (b == 0) <;> cases l.contains 47 <;> simp
theorem nameOk_eq (s : Str) : nameOk s = (!s.isEmpty && decide (s.length ≤ 59) && s != [46] && s != [46, 46] && !s.any isBad) := by
  rw [any_isBad, nameOk, Bool.not_or]
  simp only [Bool.and_assoc]
attribute [local go_sem] bs_toList bs_size
set_option maxHeartbeats 400000 in
theorem isName_any (s : Str) (w : World) :
    Calls Tryz.prog 203 #[.string (bs s)] w fun e w' => e = .returned (.bool (nameOk s)) ∧ BelowD w.heap.size w w' := by
  go_enter Tryz.func203, Tryz.ntmps203
  go_wp2_with (go_at_call 265; refine (containsAny_two _ _ (by simp only [bs_size]; omega)).mono ?_; rintro e w' ⟨rfl, hb⟩)
  · have h : s = [] := by assumption
    go_ret
    exact ⟨ret_bool (by rw [h]; rfl), BelowD.refl _ _⟩
  · have h : s = [46] := by assumption
    go_ret
    exact ⟨ret_bool (by rw [h]; rfl), BelowD.refl _ _⟩
  · have h : s = [46, 46] := by assumption
    go_ret
    exact ⟨ret_bool (by rw [h]; rfl), BelowD.refl _ _⟩
  · have h1 : (s.length : Int) ≤ 59 := by assumption
    go_ret
    refine ⟨ret_bool ?_, hb⟩
    rw [nameOk_eq, decide_eq_true (show s.length ≤ 59 by omega)]
    simp [bs, bne]
  · have h1 : 59 < (s.length : Int) := by assumption
    go_ret
    refine ⟨ret_bool ?_, BelowD.refl _ _⟩
    rw [nameOk_eq, decide_eq_false (show ¬ s.length ≤ 59 by omega)]
    simp
end Go.Proofs.YtakmplpfjcddiaaGreatDoor

namespace Go.Proofs.YtakmplpfjcddiaaGreatDoor
open Go.RowKit Go.Shelf Pa
attribute [local go_sem] bs_toList bs_size Oper.semAt_some
/-- The first entry of a name. -/
def findP (b nm : Str) : Option Sl := (slotsP b).find? fun x => decide (x.i ≠ 0) && decide (x.name = nm)
/-- What find hands back: the entry, the bytes, the error. -/
def findR (T : RS) (i : Int) (nm : Str) : Sl × Str × Nat :=
  if lookE T i ≠ 0 then (⟨0, [], 0⟩, [], lookE T i) else if nameOk nm = false then (⟨0, [], 0⟩, [], 8)
  else match findP (lookB T i) nm with | some x => (x, lookB T i, 0) | none => (⟨0, [], 0⟩, lookB T i, 4)
/-- Is it the entry that is looked for? -/
def hitP (nm : Str) (x : Sl) : Bool := decide (x.i ≠ 0) && decide (x.name = nm)
theorem results_find (tmps : Array Value) (w : World) (b : Nat) (x : Sl) (v : Value) (e : Int) (h6 : tmps.getD 6 undef = .pointer (some ⟨b + 1, 0, none⟩)) (h7 : tmps.getD 7 undef = .pointer (some ⟨b + 1 + 1, 0, none⟩)) (h8 : tmps.getD 8 undef = .pointer (some ⟨b + 1 + 1 + 1, 0, none⟩))
    (h1 : w.cell? ⟨b + 1, 0, none⟩ = some (.int .i64 x.at_)) (h11 : w.cell? ⟨b + 1, 1, none⟩ = some (.string (bs x.name))) (h12 : w.cell? ⟨b + 1, 2, none⟩ = some (.int .i64 x.i)) (h2 : w.cell? ⟨b + 1 + 1, 0, none⟩ = some v) (h3 : w.cell? ⟨b + 1 + 1 + 1, 0, none⟩ = some (.int .i64 e)) :
    (results Tryz.f143 tmps).run Tryz.prog w = .ok (.tuple #[slV x, v, .int .i64 e]) w := by
  rw [Array.getD_eq_getD_getElem?] at h6 h7 h8
  simp [results, Tryz.f143, h6, h7, h8, asAddr, go_sem, h1, h11, h12, h2, h3]
/-- find's three results in a world: their cells, and that they may be written. -/
def FindC (b : Nat) (w : World) (x : Sl) (v : Value) (e : Int) : Prop := (w.cell? ⟨b + 1, 0, none⟩ = some (.int .i64 x.at_) ∧ w.cell? ⟨b + 1, 1, none⟩ = some (.string (bs x.name)) ∧ w.cell? ⟨b + 1, 2, none⟩ = some (.int .i64 x.i) ∧ w.cell? ⟨b + 1 + 1, 0, none⟩ = some v ∧ w.cell? ⟨b + 1 + 1 + 1, 0, none⟩ = some (.int .i64 e)) ∧
  w.frozen? ⟨b + 1, 0, none⟩ = false ∧ w.frozen? ⟨b + 1, 1, none⟩ = false ∧ w.frozen? ⟨b + 1, 2, none⟩ = false ∧ w.frozen? ⟨b + 1 + 1, 0, none⟩ = false ∧ w.frozen? ⟨b + 1 + 1 + 1, 0, none⟩ = false
theorem FindC.of {b : Nat} {w : World} (d1 : w.heap[b + 1]? = some (.cells #[.int .i64 0, .string ⟨#[]⟩, .int .i64 0] 190 (0, 0))) (d2 : w.heap[b + 1 + 1]? = some (.cells #[.slice none 0 0] 37 (0, 0))) (d3 : w.heap[b + 1 + 1 + 1]? = some (.cells #[.int .i64 0] 27 (0, 0))) : FindC b w ⟨0, [], 0⟩ (.slice none 0 0) 0 := by
  refine ⟨⟨?_, ?_, ?_, ?_, ?_⟩, ?_, ?_, ?_, ?_, ?_⟩
  · rw [cell_of_heap d1]; rfl
  · rw [cell_of_heap d1]; rfl
  · rw [cell_of_heap d1]; rfl
  · rw [cell_of_heap d2]; rfl
  · rw [cell_of_heap d3]; rfl
  · simp [World.frozen?, d1]
  · simp [World.frozen?, d1]
  · simp [World.frozen?, d1]
  · simp [World.frozen?, d2]
  · simp [World.frozen?, d3]
/-- The five stores. -/
def findSet (b : Nat) (w : World) (x : Sl) (v : Value) (e : Int) : World := ((((w.setCell ⟨b + 1, 0, none⟩ (.int .i64 x.at_)).setCell ⟨b + 1, 1, none⟩ (.string (bs x.name))).setCell ⟨b + 1, 2, none⟩ (.int .i64 x.i)).setCell ⟨b + 1 + 1, 0, none⟩ v).setCell ⟨b + 1 + 1 + 1, 0, none⟩ (.int .i64 e)
theorem FindC.set {b : Nat} {w : World} {x : Sl} {v : Value} {e : Int} (h : FindC b w x v e) (x' : Sl) (v' : Value) (e' : Int) : FindC b (findSet b w x' v' e') x' v' e' := by
  obtain ⟨⟨c1, c2, c3, c4, c5⟩, f1, f2, f3, f4, f5⟩ := h
  unfold FindC findSet
  simp [World.frozen?_setCell, f1, f2, f3, f4, f5, World.cell?_setCell_other, World.cell?_setCell_same', c1, c2, c3, c4, c5]
theorem find_off (b : Nat) (w : World) (x : Sl) (v : Value) (e : Int) : Off (fun k => k = b + 1 ∨ k = b + 1 + 1 ∨ k = b + 1 + 1 + 1) w (findSet b w x v e) :=
  (((((Off.refl (fun k => k = b + 1 ∨ k = b + 1 + 1 ∨ k = b + 1 + 1 + 1) w).setCell (p := ⟨b + 1, 0, none⟩) (.inl (.inl rfl)) _).setCell (p := ⟨b + 1, 1, none⟩) (.inl (.inl rfl)) _).setCell (p := ⟨b + 1, 2, none⟩) (.inl (.inl rfl)) _).setCell (p := ⟨b + 1 + 1, 0, none⟩) (.inl (.inr (.inl rfl))) _).setCell (p := ⟨b + 1 + 1 + 1, 0, none⟩) (.inl (.inr (.inr rfl))) _
theorem FindC.off {b : Nat} {w w' : World} {x : Sl} {v : Value} {e : Int} {M : Nat → Prop} (h : FindC b w x v e) (ho : Off M w w') (hl : b + 1 + 1 + 1 < w.heap.size) (h1 : ¬ M (b + 1)) (h2 : ¬ M (b + 1 + 1)) (h3 : ¬ M (b + 1 + 1 + 1)) : FindC b w' x v e := by
  obtain ⟨⟨c1, c2, c3, c4, c5⟩, f1, f2, f3, f4, f5⟩ := h
  refine ⟨⟨?_, ?_, ?_, ?_, ?_⟩, ?_, ?_, ?_, ?_, ?_⟩
  · exact (ho.cell (p := ⟨b + 1, 0, none⟩) (by show b + 1 < _; omega) h1).trans c1
  · exact (ho.cell (p := ⟨b + 1, 1, none⟩) (by show b + 1 < _; omega) h1).trans c2
  · exact (ho.cell (p := ⟨b + 1, 2, none⟩) (by show b + 1 < _; omega) h1).trans c3
  · exact (ho.cell (p := ⟨b + 1 + 1, 0, none⟩) (by show b + 1 + 1 < _; omega) h2).trans c4
  · exact (ho.cell (p := ⟨b + 1 + 1 + 1, 0, none⟩) hl h3).trans c5
  · exact (ho.frozen (p := ⟨b + 1, 0, none⟩) (by show b + 1 < _; omega) h1).trans f1
  · exact (ho.frozen (p := ⟨b + 1, 1, none⟩) (by show b + 1 < _; omega) h1).trans f2
  · exact (ho.frozen (p := ⟨b + 1, 2, none⟩) (by show b + 1 < _; omega) h1).trans f3
  · exact (ho.frozen (p := ⟨b + 1 + 1, 0, none⟩) (by show b + 1 + 1 < _; omega) h2).trans f4
  · exact (ho.frozen (p := ⟨b + 1 + 1 + 1, 0, none⟩) hl h3).trans f5
theorem FindC.drew {b : Nat} {w : World} {x : Sl} {v : Value} {e : Int} (h : FindC b w x v e) (hl : b + 1 + 1 + 1 < w.heap.size) : FindC b w.drew x v e := h.off ((Off.refl (fun _ => False) w).drew) hl (fun e => e) (fun e => e) (fun e => e)
/-- find has read: what its results' cells hold leaves the store as it is. -/
theorem find_fin {w W4 w1 wx : World} {s N : Nat} {T : RS} {R : Reg} {x ob : Str} {v ov : Value} (h : StRd W4 s T R N x v w1) (hb : Below w.heap.size w W4) (hz : W4.heap.size = w.heap.size + 1 + 1 + 1 + 1) (hR : ∀ k, w.heap.size ≤ k → ¬ R.has k)
    (ho : (ob = x ∧ ov = v) ∨ (ob = [] ∧ ov = .slice none 0 0)) (hx : Off (fun k => (k = w.heap.size + 1 ∨ k = w.heap.size + 1 + 1 ∨ k = w.heap.size + 1 + 1 + 1) ∨ w1.heap.size ≤ k) w1 wx) : StRd w s T R N ob ov wx := by
  obtain ⟨R1, o1, g1, t1, f1, n1⟩ := h
  have hz1 := f1.size
  have hM : ∀ k, R1.has k → ¬ ((k = w.heap.size + 1 ∨ k = w.heap.size + 1 + 1 ∨ k = w.heap.size + 1 + 1 + 1) ∨ w1.heap.size ≤ k) := fun k hk e => by
    have := g1.lt k hk
    rcases t1.has hk with h1 | h1
    · refine hR k ?_ h1
      omega
    · omega
  have hov : OwnB wx w.heap.size ov ob ∧ ∀ k, ov.ownBlock = some k → ¬ R1.has k := by
    rcases ho with ⟨rfl, rfl⟩ | ⟨rfl, rfl⟩
    · refine ⟨(o1.off hx fun k hk e => ?_).base (by omega), n1⟩
      have := o1.block hk
      omega
    · exact ⟨World.ownsRow_nil _ _ _ _, fun k hk => by cases hk⟩
  refine ⟨R1, hov.1, g1.off hx hM, ⟨fun k hk => (t1.m k hk).imp id (by omega), fun k hk => (t1.i k hk).imp id (by omega)⟩, (((Off.of_below hb R.m).then f1)).trans hx (fun k e => .inr (by omega)), hov.2⟩
theorem off_putObj {M : Nat → Prop} (W : World) (l : Nat) (o' : Obj) (h : M l) : Off M W (W.putObj l o') :=
  ⟨rfl, rfl, rfl, by simp, fun k _ hk => World.putObj_heap_other (fun e => hk (by rw [e]; exact h))⟩
theorem find_end {b B1 : Nat} {w1 W6 Wf : World} {x : Sl} {v : Value} {e : Int} {D : Nat} (h : FindC b Wf x v e) (ho : Off (fun k => (k = b + 1 ∨ k = b + 1 + 1 ∨ k = b + 1 + 1 + 1) ∨ W6.heap.size ≤ k) W6 Wf) (h6 : Off (fun k => B1 ≤ k) w1 W6) (hD : W6.heap.size ≤ D) (hb : b + 1 + 1 + 1 < W6.heap.size) (hB : B1 ≤ W6.heap.size) (hK : Wf.heap[D]? = some (.deferred (some []))) :
    (Instr.takeDeferred D).run Tryz.prog Wf = .ok [] (Wf.putObj D (.deferred none)) ∧ FindC b (Wf.putObj D (.deferred none)) x v e ∧ Off (fun k => (k = b + 1 ∨ k = b + 1 + 1 ∨ k = b + 1 + 1 + 1) ∨ B1 ≤ k) w1 (Wf.putObj D (.deferred none)) := by
  have hz := ho.size
  have hp : Off (fun k => W6.heap.size ≤ k) Wf (Wf.putObj D (.deferred none)) := off_putObj _ _ _ hD
  refine ⟨run_takeDeferred hK, h.off hp (by omega) (by omega) (by omega) (by omega), ((h6.mono fun k e => .inl (.inr e)).trans ho fun k e => ?_).trans hp fun k e => .inl (.inr (by omega))⟩
  rcases e with e | e
  · exact .inl (.inl e)
  · exact .inl (.inr (by omega))
theorem findP_none {b nm : Str} (h : ∀ y ∈ slotsP b, hitP nm y = false) : findP b nm = none := by
  unfold findP
  rw [List.find?_eq_none]
  intro y hy e
  have := h y hy
  unfold hitP at this
  rw [this] at e; cases e
theorem findP_some {b nm : Str} {pre : List Sl} {x : Sl} (hp : pre ++ [x] <+: slotsP b) (h : ∀ y ∈ pre, hitP nm y = false) (hx : hitP nm x = true) : findP b nm = some x := by
  obtain ⟨t, ht⟩ := hp
  unfold findP
  rw [← ht, List.append_assoc, List.find?_append]
  have h1 : List.find? (fun x => decide (x.i ≠ 0) && decide (x.name = nm)) pre = none := by
    rw [List.find?_eq_none]
    intro y hy e
    have := h y hy
    unfold hitP at this
    rw [this] at e; cases e
  rw [h1]
  unfold hitP at hx
  rw [Option.none_or, List.singleton_append]
  exact List.find?_cons_of_pos (p := fun x : Sl => decide (x.i ≠ 0) && decide (x.name = nm)) hx
/-- Whichever operation comes up. -/
theorem wpAnyIn_pick {F : Fence} {n : Nat} {P : Program} {ops : Array Oper} {md : Region.Mode} {fuel : Nat} {Q : Exit → Act → World → Prop} {listed : Array Bool} {a : Act} {w : World} (l : List Nat) (hr : Region.ready md ops listed = l) (hl : l ≠ [])
    (h : ∀ j ∈ l, ∃ o, ops[j]? = some o ∧ o.guard = none ∧ ∀ K : Act → World → Prop, (∀ a w, wpAnyIn F n P md ops Q fuel (listed.setIfInBounds j true) a w → K a w) → o.wpIn F n P a w K Q) : wpAnyIn F n P md ops Q (fuel + 1) listed a w := by
  refine ⟨fun h0 => (by rw [hr] at h0; exact absurd h0 hl), fun i hi => ?_⟩
  rw [hr] at hi
  obtain ⟨o, ho, hg, h⟩ := h i hi
  unfold wpOpIn
  rw [ho]
  have hw : Region.wanted o (yielded ops a.tmps) = true := by
    unfold Region.wanted
    rw [hg]
  simp only
  rw [hw, if_pos rfl]
  exact h _ (fun _ _ h => h)
theorem off_from {β : Type} {M : Nat → Prop} {W0 : World} {B : Nat} (hM : ∀ k, B ≤ k → M k) : OwnFrom B (fun (_ : β) W => Off M W0 W) := fun _ _ _ _ hs hg hr => hs.grown hg (fun k e => .inl (hM k (hr k e).1))
set_option maxRecDepth 100000 in
set_option maxHeartbeats 1000000 in
theorem find_any' (s N : Nat) (i : Int) (nm : Str) (T : RS) (R : Reg) (w : World) (h : StI w s T R N) :
    Calls Tryz.prog 143 #[.pointer (some ⟨s, 0, none⟩), .int .i64 i, .string (bs nm)] w fun e w' => ∃ v, e = .returned (.tuple #[slV (findR T i nm).1, v, .int .i64 (findR T i nm).2.2]) ∧ StRd w s T R N (findR T i nm).2.1 v w' := by
  refine (callsIn_wide (n := 5)).1 ?_
  refine callsIn_of_wp_marks Tryz.func143 rfl trivial ?_ rfl
  simp only [Tryz.ntmps143, List.size_toArray, List.length_cons, List.length_nil, Nat.reduceAdd, Nat.reduceSub, Array.replicate_succ, Array.replicate_zero, List.push_toArray, List.append_toArray, List.nil_append, List.cons_append]
  refine wpIn_wide.2 ?_
  obtain ⟨q0, q1, q2, q3, z4⟩ := alloc4 w (.cells #[.string (bs nm)] 9) (.cells #[.int .i64 0, .string ⟨#[]⟩, .int .i64 0] 190) (.cells #[.slice none 0 0] 37) (.cells #[.int .i64 0] 27)
  obtain ⟨W4, hW4⟩ : ∃ W4, W4 = ((((w.alloc (.cells #[.string (bs nm)] 9)).alloc (.cells #[.int .i64 0, .string ⟨#[]⟩, .int .i64 0] 190)).alloc (.cells #[.slice none 0 0] 37)).alloc (.cells #[.int .i64 0] 27)) := ⟨_, rfl⟩
  rw [← hW4] at q0 q1 q2 q3 z4
  have hb4 : Below w.heap.size w W4 := by
    rw [hW4]
    exact ((((Below.refl _ _).alloc (Nat.le_refl _) _).alloc (by simp) _).alloc (by simp; omega) _).alloc (by simp; omega) _
  have hbl : (lookB T i).length ≤ 70656 := by
    unfold lookB
    by_cases h0 : lookE T i = 0
    · rw [if_pos h0]
      obtain ⟨m, c, C, F, _, _, _, h4, _⟩ := id h
      exact (h4.files _ (look_live (lookE_ok h0).1).1).2.size
    · rw [if_neg h0]; exact Nat.zero_le _
  have HBl := Lib.hid hbl
  clear hbl
  have hlk := look_any' s N i T R W4 (h.below hb4)
  have hRw : ∀ k, w.heap.size ≤ k → ¬ R.has k := fun k hk e => by have := h.lt k e; omega
  have hold : ∀ w1, Off R.m W4 w1 → ∀ k, w.heap.size ≤ k → k < W4.heap.size → w1.heap[k]? = W4.heap[k]? := fun w1 ho k h1 h2 => ho.block k h2 (fun e => hRw k h1 (.inl e))
  obtain ⟨ee, hee⟩ : ∃ e, e = lookE T i := ⟨_, rfl⟩
  rw [← hee] at hlk
  have HLk := Lib.hid hlk
  have HRw := Lib.hid hRw
  have HOld := Lib.hid hold
  have HB4 := Lib.hid hb4
  have HEe := Lib.hid hee
  have HQ := Lib.hid (⟨q0, q1, q2, q3, z4⟩ : _ ∧ _ ∧ _ ∧ _ ∧ _)
  have hnm : ∀ w, Calls Tryz.prog 203 #[.string (bs nm)] w fun e w' => e = .returned (.bool (nameOk nm)) ∧ BelowD w.heap.size w w' := fun w => isName_any nm w
  have HNm := Lib.hid hnm
  clear hlk hRw hold hb4 hee h q0 q1 q2 q3 z4 hnm
  go_wp2_with fail
  rw [← hW4]
  clear hW4
  refine HLk.out.mono ?_
  rintro e w1 ⟨v, rfl, R1, o1, g1, t1, f1, n1⟩
  obtain ⟨A, cv, rfl⟩ : ∃ A cv, v = .slice A (lookB T i).length cv := ownsRow_slice o1
  obtain ⟨q0, q1, q2, q3, z4⟩ := HQ.out
  have hz1 := f1.size
  have hh := fun k a b => HOld.out w1 f1 k a b
  have e0 := (hh w.heap.size (Nat.le_refl _) (by omega)).trans q0
  have e1 := (hh (w.heap.size + 1) (by omega) (by omega)).trans q1
  have e2 := (hh (w.heap.size + 1 + 1) (by omega) (by omega)).trans q2
  have e3 := (hh (w.heap.size + 1 + 1 + 1) (by omega) (by omega)).trans q3
  have hb15 : Below w1.heap.size w1 (w1.alloc (.cells #[.slice A (lookB T i).length cv] 37)) := (Below.refl _ _).alloc (Nat.le_refl _) _
  have e9 : (w1.alloc (.cells #[.slice A (lookB T i).length cv] 37)).heap[w1.heap.size]? = some (.cells #[.slice A (lookB T i).length cv] 37 (0, 0)) := heap_alloc_new _ _
  have hz5 : (w1.alloc (.cells #[.slice A (lookB T i).length cv] 37)).heap.size = w1.heap.size + 1 := World.size_alloc _ _
  have d0 := (hb15.block w.heap.size (by omega)).trans e0
  have d1 := (hb15.block (w.heap.size + 1) (by omega)).trans e1
  have d2 := (hb15.block (w.heap.size + 1 + 1) (by omega)).trans e2
  have d3 := (hb15.block (w.heap.size + 1 + 1 + 1) (by omega)).trans e3
  have hfc := FindC.of d1 d2 d3
  obtain ⟨⟨x1, x2, x3, x4, x5⟩, y1, y2, y3, y4, y5⟩ := id hfc
  have HFc := Lib.hid hfc
  clear hfc
  have cz : (w1.alloc (.cells #[.slice A (lookB T i).length cv] 37)).cell? ⟨w.heap.size, 0, none⟩ = some (.string (bs nm)) := by rw [cell_of_heap d0]; rfl
  obtain ⟨cs, hcs⟩ : ∃ cs, cs = w1.heap.size := ⟨_, rfl⟩
  have HD := Lib.hid (⟨d0, d1, d2, d3, e9, hz5, hz1, z4⟩ : _ ∧ _ ∧ _ ∧ _ ∧ _ ∧ _ ∧ _ ∧ _)
  have HS := Lib.hid (⟨o1, g1, t1, f1, n1, hb15⟩ : _ ∧ _ ∧ _ ∧ _ ∧ _ ∧ _)
  have hH : ∀ w2, BelowD (w1.alloc (.cells #[.slice A (lookB T i).length cv] 37)).heap.size (w1.alloc (.cells #[.slice A (lookB T i).length cv] 37)) w2 → w2.heap[w.heap.size]? = some (.cells #[.string (bs nm)] 9 (0, 0)) ∧ w2.heap[w.heap.size + 1]? = some (.cells #[.int .i64 0, .string ⟨#[]⟩, .int .i64 0] 190 (0, 0)) ∧
      w2.heap[w.heap.size + 1 + 1]? = some (.cells #[.slice none 0 0] 37 (0, 0)) ∧ w2.heap[w.heap.size + 1 + 1 + 1]? = some (.cells #[.int .i64 0] 27 (0, 0)) ∧ w2.heap[w1.heap.size]? = some (.cells #[.slice A (lookB T i).length cv] 37 (0, 0)) := fun w2 hb => by
    have hb := hb.1
    exact ⟨(hb.block _ (by omega)).trans d0, (hb.block _ (by omega)).trans d1, (hb.block _ (by omega)).trans d2, (hb.block _ (by omega)).trans d3, (hb.block _ (by omega)).trans e9⟩
  have HH := Lib.hid hH
  have hFin : ∀ (ob : Str) (ov : Value) (wx : World), (ob = lookB T i ∧ ov = .slice A (lookB T i).length cv) ∨ (ob = [] ∧ ov = .slice none 0 0) → Off (fun k => (k = w.heap.size + 1 ∨ k = w.heap.size + 1 + 1 ∨ k = w.heap.size + 1 + 1 + 1) ∨ w1.heap.size ≤ k) w1 wx → StRd w s T R N ob ov wx := fun ob ov wx h1 h2 => find_fin ⟨R1, o1, g1, t1, f1, n1⟩ HB4.out z4 HRw.out h1 h2
  have HFin := Lib.hid hFin
  clear hFin
  clear hh e0 e1 e2 e3 q0 q1 q2 q3 z4 hz1 o1 g1 t1 f1 n1 hb15 e9 hz5 d0 d1 d2 d3 hH
  by_cases h0 : ee = 0
  · have h0' : ((ee : Int) == 0) = true := by rw [h0]; rfl
    have HE0 := Lib.hid h0
    clear h0
    go_wp2_with fail
    refine (HNm.out _).mono ?_
    rintro e w2 ⟨rfl, hb2⟩
    have HB2 := Lib.hid hb2
    obtain ⟨d0, d1, d2, d3, d9⟩ := HH.out w2 hb2
    clear hb2
    by_cases hok : nameOk nm = true
    · clear x1 x2 x3 x4 x5 y1 y2 y3 y4 y5
      have hfc := FindC.of d1 d2 d3
      obtain ⟨⟨x1, x2, x3, x4, x5⟩, y1, y2, y3, y4, y5⟩ := id hfc
      have HFc := Lib.hid hfc
      have c9 : w2.cell? ⟨w1.heap.size, 0, none⟩ = some (.slice A (lookB T i).length cv) := by rw [cell_of_heap d9]; rfl
      clear hfc
      clear d0 d1 d2 d3 d9
      have HOk := Lib.hid hok
      rw [hok]
      clear hok
      go_wp2_with fail
      refine (slots_any _ _ _ _).mono ?_
      rintro e w3 ⟨rfl, rfl⟩
      go_wp2_with fail
      have hB2 := HB2.out.1
      obtain ⟨_, _, _, _, e9, hz5, hz1, z4⟩ := HD.out
      have hz2 := hB2.size
      have hbl := HBl.out
      obtain ⟨W6, hW6⟩ : ∃ W6, W6 = w2.alloc (.cells #[.slice A (lookB T i).length cv] 37) := ⟨_, rfl⟩
      rw [← hW6]
      have hb6 : Below w2.heap.size w2 W6 := by rw [hW6]; exact (Below.refl _ _).alloc (Nat.le_refl _) _
      have hz6 : W6.heap.size = w2.heap.size + 1 := by rw [hW6]; exact World.size_alloc _ _
      have hcB : W6.cell? ⟨w2.heap.size, 0, none⟩ = some (.slice A (lookB T i).length cv) := by rw [hW6, cell_of_heap (heap_alloc_new _ _)]; rfl
      have hnm6 : W6.cell? ⟨w.heap.size, 0, none⟩ = some (.string (bs nm)) := by rw [cell_of_heap ((hb6.block _ (by omega)).trans (HH.out w2 HB2.out).1)]; rfl
      have h96 : W6.cell? ⟨w1.heap.size, 0, none⟩ = some (.slice A (lookB T i).length cv) := by rw [cell_of_heap ((hb6.block _ (by omega)).trans (HH.out w2 HB2.out).2.2.2.2)]; rfl
      have hf6 : FindC w.heap.size W6 ⟨0, [], 0⟩ (.slice none 0 0) 0 := HFc.out.off (Off.of_below hb6 (fun _ => False)) (by omega) (fun e => e) (fun e => e) (fun e => e)
      have ho16 : Off (fun k => w1.heap.size ≤ k) w1 W6 := (((Off.refl _ w1).alloc _).step hB2).step hb6
      have hby : BytesI W6 (fun k => ¬ W6.heap.size ≤ k) (.slice A (lookB T i).length cv) (lookB T i) := by
        obtain ⟨o1, _⟩ := HS.out
        refine ((o1.bytes (by omega)).off ho16 fun k hk e => ?_).mono fun k _ hk => by omega
        have := o1.block hk
        omega
      clear hW6 x1 x2 x3 x4 x5 y1 y2 y3 y4 y5 c9 e9
      refine (wpIn_wide (n := 5)).1 ?_
      refine wpIn_rangeFunc_ownH (F := Fence.wide) rfl (by decide) (gf := 198) (lb := #[.pointer (some ⟨w2.heap.size, 0, none⟩)]) rfl trivial (enters_of Tryz.func198 (by kernel_rfl) rfl)
        (slots_stops _ (by decide) w2.heap.size (fun k => W6.heap.size ≤ k) _ (lookB T i) W6 (by omega) (by omega) (fun k hk => hk) hcB hby (by omega)) Off.then (fun W l o o' hl _ _ _ => off_putObj W l o' hl) (Below.refl _ _) (fun _ => rfl)
        (fun pre W => (∀ y ∈ pre, hitP nm y = false) ∧ Off (fun k => W6.heap.size ≤ k) W6 W)
        (fun c pre W => (c = .ret ∧ ∃ pre' x, pre = pre' ++ [x] ∧ (∀ y ∈ pre', hitP nm y = false) ∧ hitP nm x = true ∧ FindC w.heap.size W x (.slice A (lookB T i).length cv) 0) ∧ Off (fun k => (k = w.heap.size + 1 ∨ k = w.heap.size + 1 + 1 ∨ k = w.heap.size + 1 + 1 + 1) ∨ W6.heap.size ≤ k) W6 W)
        (OwnFrom.and (ownFrom_pure _ _) (off_from fun _ h => h))
        (fun c => fun pre A B row hs hg hr => by
          have ho : Off (fun k => W6.heap.size ≤ k) A B := (Off.refl _ A).grown hg (fun k e => .inl (hr k e).1)
          obtain ⟨⟨h1, pre', x, h2, h3, h4, h5⟩, h6⟩ := hs
          have := h6.size
          exact ⟨⟨h1, pre', x, h2, h3, h4, h5.off ho (by omega) (by omega) (by omega) (by omega)⟩, h6.then (ho.mono fun k e => .inl (.inr e))⟩)
        ⟨(fun y hy => by cases hy), Off.refl _ _⟩
        (fun x a' W => ∃ Bx, W6.heap.size ≤ Bx ∧ W.heap[Bx]? = some (.cells #[.int .i64 x.at_, .string (bs x.name), .int .i64 x.i] 190 (0, 0)) ∧ a' = { tmps := #[.pointer (some ⟨s, 0, none⟩), .int .i64 i, .string (bs nm), undef, undef, .pointer (some ⟨w.heap.size, 0, none⟩), .pointer (some ⟨w.heap.size + 1, 0, none⟩), .pointer (some ⟨w.heap.size + 1 + 1, 0, none⟩), .pointer (some ⟨w.heap.size + 1 + 1 + 1, 0, none⟩), .pointer (some ⟨w1.heap.size, 0, none⟩), .int .i64 ee, .pointer (some ⟨Bx, 0, none⟩), .tuple #[.slice A (lookB T i).length cv, .int .i64 ee], .pointer (some ⟨s, 0, none⟩), .int .i64 i, .tuple #[.slice A (lookB T i).length cv, .int .i64 ee], .slice A (lookB T i).length cv, .int .i64 ee, .int .i64 ee, .bool true, .bool true, .string (bs nm), .bool true, .bool false, .bool false, .int .i64 ee, .bool false, undef, undef, .slice A (lookB T i).length cv, .func (.func 198) #[] #[.pointer (some ⟨w2.heap.size, 0, none⟩)], slV x, undef, undef, undef, undef, undef, undef, undef, undef, undef, undef, undef, undef, undef], defers := [] })
        (fun x a' _ X Y row hs hg hr => by
          obtain ⟨Bx, h1, h2, h3⟩ := hs
          refine ⟨Bx, h1, ?_, h3⟩
          exact (hg.block Bx (Array.getElem?_eq_some_iff.1 h2).1 (fun e => by obtain ⟨_, o, ho, hc⟩ := hr Bx e.symm; rw [h2] at ho; cases ho; cases hc)).trans h2)
        ?assign ?body ?done ?stop
      case assign =>
        rintro l pre x W K ⟨h1, h2⟩ hK
        gi_wp2
        exact hK _ _ ((KeepsOthers.alloc _ _).from _) ((Off.refl _ W).alloc _) ⟨h1, h2.alloc _⟩ ⟨W.heap.size, h2.size, heap_alloc_new _ _, rfl⟩
      case body =>
        rintro l pre x a' W hl ⟨r, hr⟩ ⟨h1, h2⟩ ⟨Bx, hBx, hbx, rfl⟩ hlt
        have hz61 : w2.heap.size < W6.heap.size := by omega
        have hz51 : w1.heap.size < w2.heap.size := by omega
        clear hz6 hz5
        have hzW := h2.size
        have b0 : W.cell? ⟨Bx, 0, none⟩ = some (.int .i64 x.at_) := by rw [cell_of_heap hbx]; rfl
        have b1 : W.cell? ⟨Bx, 1, none⟩ = some (.string (bs x.name)) := by rw [cell_of_heap hbx]; rfl
        have b2 : W.cell? ⟨Bx, 2, none⟩ = some (.int .i64 x.i) := by rw [cell_of_heap hbx]; rfl
        have nmW := (h2.cell (p := ⟨w.heap.size, 0, none⟩) (by show w.heap.size < _; omega) (by show ¬ W6.heap.size ≤ w.heap.size; omega)).trans hnm6
        have c9W := (h2.cell (p := ⟨w1.heap.size, 0, none⟩) (by show w1.heap.size < _; omega) (by show ¬ W6.heap.size ≤ w1.heap.size; omega)).trans h96
        have hfW := hf6.off h2 (by omega) (by omega) (by omega) (by omega)
        obtain ⟨⟨x1, x2, x3, x4, x5⟩, y1, y2, y3, y4, y5⟩ := id hfW
        have HFW := Lib.hid hfW
        have H1 := Lib.hid h1
        have H2 := Lib.hid h2
        clear hr hfW h1 h2 hnm6 h96 hby hcB hb6 ho16 hf6 hB2 hlt
        by_cases hi : x.i = 0
        · have hi' : ((x.i : Int) != 0) = false := by rw [hi]; rfl
          gi_wp2
          exact ⟨(KeepsOthers.refl _).from _, Off.refl _ _, fun y hy => by
            rcases List.mem_append.1 hy with hy | hy
            · exact H1.out y hy
            · obtain rfl : y = x := by simpa using hy
              unfold hitP; rw [hi]; rfl, H2.out⟩
        · have hi' : ((x.i : Int) != 0) = true := by simp; exact hi
          have hkp : KeepsFrom W6.heap.size W (findSet w.heap.size W x (.slice A (lookB T i).length cv) 0).drew := ((((((KeepsOthers.setCell _ _ _).trans (KeepsOthers.setCell _ _ _)).trans (KeepsOthers.setCell _ _ _)).trans (KeepsOthers.setCell _ _ _)).trans (KeepsOthers.setCell _ _ _)).trans (KeepsOthers.drew _)).from _
          have hos : Off (fun k => (k = w.heap.size + 1 ∨ k = w.heap.size + 1 + 1 ∨ k = w.heap.size + 1 + 1 + 1) ∨ W6.heap.size ≤ k) W6 (findSet w.heap.size W x (.slice A (lookB T i).length cv) 0).drew := ((H2.out.mono (fun k e => .inl (.inr e))).then ((find_off w.heap.size W x (.slice A (lookB T i).length cv) 0).mono fun k e => .inl (.inl e))).drew
          have hfs : FindC w.heap.size (findSet w.heap.size W x (.slice A (lookB T i).length cv) 0).drew x (.slice A (lookB T i).length cv) 0 := (HFW.out.set x (.slice A (lookB T i).length cv) 0).drew (by have := (find_off w.heap.size W x (.slice A (lookB T i).length cv) 0).size; omega)
          unfold findSet at hkp hos hfs
          have HKp := Lib.hid hkp
          have HOs := Lib.hid hos
          have HFs := Lib.hid hfs
          clear hkp hos hfs
          gi_wp2
          · gi_region_with (fail)
            all_goals refine (by assumption : ∀ (a : Act) (w : World), Code.wpIn (Fence.wide.inRound l) (5 - 1 - 1) Tryz.prog Code.ret (Exit.inBlock 1 _) a w → _) _ _ ?_
            all_goals gi_wp2
            all_goals rename_i hhit _ _
            all_goals have hhit' : x.name = nm := eq_of_beq hhit
            all_goals have hh : hitP nm x = true := by unfold hitP; simp [hi, hhit']
            all_goals clear hhit hhit'
            all_goals exact ⟨HKp.out, ⟨rfl, pre, x, rfl, H1.out, hh, HFs.out⟩, HOs.out⟩
          · rename_i hne
            exact ⟨(KeepsOthers.refl _).from _, Off.refl _ _, fun y hy => by
              rcases List.mem_append.1 hy with hy | hy
              · exact H1.out y hy
              · obtain rfl : y = x := by simpa using hy
                unfold hitP
                have hne : ¬ y.name = nm := by simpa using hne
                simp [hne], H2.out⟩
      case done =>
        rintro D ys W hD rfl ⟨h1, h2⟩ hK
        have hzW := h2.size
        have c9W := (h2.cell (p := ⟨w1.heap.size, 0, none⟩) (by show w1.heap.size < _; omega) (by show ¬ W6.heap.size ≤ w1.heap.size; omega)).trans h96
        have hfW := hf6.off h2 (by omega) (by omega) (by omega) (by omega)
        obtain ⟨⟨x1, x2, x3, x4, x5⟩, y1, y2, y3, y4, y5⟩ := id hfW
        have HFW := Lib.hid hfW
        have H1 := Lib.hid h1
        have H2 := Lib.hid h2
        have HK := Lib.hid hK
        have hz61 : w2.heap.size < W6.heap.size := by omega
        have hz51 : w1.heap.size < w2.heap.size := by omega
        clear hz6 hz5 hfW h1 h2 hnm6 h96 hby hcB hb6 hf6 hB2 hK
        have hfs : FindC w.heap.size (findSet w.heap.size W ⟨0, [], 0⟩ (.slice A (lookB T i).length cv) 4).drew ⟨0, [], 0⟩ (.slice A (lookB T i).length cv) 4 := (HFW.out.set ⟨0, [], 0⟩ (.slice A (lookB T i).length cv) 4).drew (by have := (find_off w.heap.size W ⟨0, [], 0⟩ (.slice A (lookB T i).length cv) 4).size; omega)
        have hos : Off (fun k => (k = w.heap.size + 1 ∨ k = w.heap.size + 1 + 1 ∨ k = w.heap.size + 1 + 1 + 1) ∨ W6.heap.size ≤ k) W6 (findSet w.heap.size W ⟨0, [], 0⟩ (.slice A (lookB T i).length cv) 4).drew := ((H2.out.mono (fun k e => .inl (.inr e))).then ((find_off w.heap.size W ⟨0, [], 0⟩ (.slice A (lookB T i).length cv) 4).mono fun k e => .inl (.inl e))).drew
        have hks : (findSet w.heap.size W ⟨0, [], 0⟩ (.slice A (lookB T i).length cv) 4).drew.heap[D]? = some (.deferred (some [])) := ((find_off w.heap.size W ⟨0, [], 0⟩ (.slice A (lookB T i).length cv) 4).block D (Array.getElem?_eq_some_iff.1 HK.out).1 (by omega)).trans HK.out
        have hend := find_end hfs hos ho16 hD (by omega) (by omega) hks
        unfold findSet at hend
        have HEnd := Lib.hid hend
        have hfr : findR T i nm = (⟨0, [], 0⟩, lookB T i, 4) := by
          unfold findR
          rw [← HEe.out, if_neg (fun e => e HE0.out), if_neg (by rw [HOk.out]; decide), findP_none H1.out]
        have HFr := Lib.hid hfr
        clear hfs hos hks hend hfr ho16
        go_wp2_with fail
        refine (wpIn_wide (n := 5)).1 ?_
        refine wpIn_region_any rfl ?_
        refine wpAnyIn_pick [0, 1] (by kernel_rfl) (by decide) fun j hj => ?_
        rcases List.mem_cons.1 hj with rfl | hj
        · refine ⟨_, rfl, rfl, fun K1 hK1 => ?_⟩
          gi_wp2
          refine wpAnyIn_pick (fuel := 3) [1, 2] (by kernel_rfl) (by decide) fun j hj => ?_
          rcases List.mem_cons.1 hj with rfl | hj
          · refine ⟨_, rfl, rfl, fun K1 hK1 => ?_⟩
            gi_wp2
            refine wpAnyIn_next (j := 2) (by kernel_rfl) rfl rfl (fun K1 hK1 => ?_)
            gi_wp2
            refine wpAnyIn_next (j := 3) (by kernel_rfl) rfl rfl (fun K1 hK1 => ?_)
            gi_wp2
            refine wpAnyIn_next (j := 4) (by kernel_rfl) rfl rfl (fun K1 hK1 => ?_)
            gi_wp2
            refine wpAnyIn_done (by kernel_rfl) ?_ _
            refine (by assumption : ∀ (a : Act) (w : World), Code.wp Tryz.prog Code.ret _ a w → _) _ _ ?_
            go_wp2_with fail
            obtain ⟨e1, e2, e3⟩ := HEnd.out
            refine ⟨by simp, .inl ⟨_, _, rfl, e1, ?_⟩⟩
            obtain ⟨⟨c1, c2, c3, c4, c5⟩, _⟩ := e2
            refine ⟨_, results_find _ _ w.heap.size ⟨0, [], 0⟩ _ _ rfl rfl rfl c1 c2 c3 c4 c5, ?_⟩
            rw [HFr.out]
            exact ⟨_, rfl, HFin.out _ _ _ (.inl ⟨rfl, rfl⟩) e3⟩
          · obtain rfl : j = 2 := by simpa using hj
            refine ⟨_, rfl, rfl, fun K1 hK1 => ?_⟩
            gi_wp2
            refine wpAnyIn_next (j := 1) (by kernel_rfl) rfl rfl (fun K1 hK1 => ?_)
            gi_wp2
            refine wpAnyIn_next (j := 3) (by kernel_rfl) rfl rfl (fun K1 hK1 => ?_)
            gi_wp2
            refine wpAnyIn_next (j := 4) (by kernel_rfl) rfl rfl (fun K1 hK1 => ?_)
            gi_wp2
            refine wpAnyIn_done (by kernel_rfl) ?_ _
            refine (by assumption : ∀ (a : Act) (w : World), Code.wp Tryz.prog Code.ret _ a w → _) _ _ ?_
            go_wp2_with fail
            obtain ⟨e1, e2, e3⟩ := HEnd.out
            refine ⟨by simp, .inl ⟨_, _, rfl, e1, ?_⟩⟩
            obtain ⟨⟨c1, c2, c3, c4, c5⟩, _⟩ := e2
            refine ⟨_, results_find _ _ w.heap.size ⟨0, [], 0⟩ _ _ rfl rfl rfl c1 c2 c3 c4 c5, ?_⟩
            rw [HFr.out]
            exact ⟨_, rfl, HFin.out _ _ _ (.inl ⟨rfl, rfl⟩) e3⟩
        · obtain rfl : j = 1 := by simpa using hj
          refine ⟨_, rfl, rfl, fun K1 hK1 => ?_⟩
          gi_wp2
          refine wpAnyIn_next (j := 0) (by kernel_rfl) rfl rfl (fun K1 hK1 => ?_)
          gi_wp2
          refine wpAnyIn_next (j := 2) (by kernel_rfl) rfl rfl (fun K1 hK1 => ?_)
          gi_wp2
          refine wpAnyIn_next (j := 3) (by kernel_rfl) rfl rfl (fun K1 hK1 => ?_)
          gi_wp2
          refine wpAnyIn_next (j := 4) (by kernel_rfl) rfl rfl (fun K1 hK1 => ?_)
          gi_wp2
          refine wpAnyIn_done (by kernel_rfl) ?_ _
          refine (by assumption : ∀ (a : Act) (w : World), Code.wp Tryz.prog Code.ret _ a w → _) _ _ ?_
          go_wp2_with fail
          obtain ⟨e1, e2, e3⟩ := HEnd.out
          refine ⟨by simp, .inl ⟨_, _, rfl, e1, ?_⟩⟩
          obtain ⟨⟨c1, c2, c3, c4, c5⟩, _⟩ := e2
          refine ⟨_, results_find _ _ w.heap.size ⟨0, [], 0⟩ _ _ rfl rfl rfl c1 c2 c3 c4 c5, ?_⟩
          rw [HFr.out]
          exact ⟨_, rfl, HFin.out _ _ _ (.inl ⟨rfl, rfl⟩) e3⟩
      case stop =>
        rintro D c pre W hD hpre ⟨⟨rfl, pre', x, rfl, h1, h2, h3⟩, h4⟩ hK
        have hend := find_end h3 h4 ho16 hD (by omega) (by omega) hK
        have HEnd := Lib.hid hend
        have hfr : findR T i nm = (x, lookB T i, 0) := by
          unfold findR
          rw [← HEe.out, if_neg (fun e => e HE0.out), if_neg (by rw [HOk.out]; decide), findP_some hpre h1 h2]
        have HFr := Lib.hid hfr
        clear hK hend hfr h3 h4 hpre
        refine wpIn_wide.2 ?_
        go_wp2_with fail
        obtain ⟨e1, e2, e3⟩ := HEnd.out
        refine ⟨by simp, .inl ⟨_, _, rfl, e1, ?_⟩⟩
        obtain ⟨⟨c1, c2, c3, c4, c5⟩, _⟩ := e2
        refine ⟨_, results_find _ _ w.heap.size x _ _ rfl rfl rfl c1 c2 c3 c4 c5, ?_⟩
        rw [HFr.out]
        exact ⟨_, rfl, HFin.out _ _ _ (.inl ⟨rfl, rfl⟩) e3⟩
    · clear x1 x2 x3 x4 x5 y1 y2 y3 y4 y5
      have hfc := FindC.of d1 d2 d3
      obtain ⟨⟨x1, x2, x3, x4, x5⟩, y1, y2, y3, y4, y5⟩ := id hfc
      have HFc := Lib.hid hfc
      clear hfc
      clear d0 d1 d2 d3 d9
      have hok : nameOk nm = false := by simpa using hok
      rw [hok]
      go_wp2_with fail
      have hf := HFc.out.set ⟨0, [], 0⟩ (.slice none 0 0) 8
      obtain ⟨⟨c1, c2, c3, c4, c5⟩, _⟩ := id hf
      refine ⟨_, results_find _ _ w.heap.size ⟨0, [], 0⟩ _ _ rfl rfl rfl c1 c2 c3 c4 c5, ?_⟩
      have hfr : findR T i nm = (⟨0, [], 0⟩, [], 8) := by unfold findR; rw [← HEe.out, if_neg (fun e => e HE0.out), if_pos hok]
      rw [hfr]
      refine ⟨_, rfl, HFin.out _ _ _ (.inr ⟨rfl, rfl⟩) ?_⟩
      exact ((((Off.refl _ w1).alloc _).step HB2.out.1).then ((find_off w.heap.size _ ⟨0, [], 0⟩ (.slice none 0 0) 8).mono fun k e => .inl (.inl e)))
  · have h0' : ((ee : Int) == 0) = false := by simp; omega
    have HE0 := Lib.hid h0
    clear h0
    go_wp2_with fail
    have hf := HFc.out.set ⟨0, [], 0⟩ (.slice none 0 0) ee
    obtain ⟨⟨c1, c2, c3, c4, c5⟩, _⟩ := id hf
    refine ⟨_, results_find _ _ w.heap.size ⟨0, [], 0⟩ _ _ rfl rfl rfl c1 c2 c3 c4 c5, ?_⟩
    have hfr : findR T i nm = (⟨0, [], 0⟩, [], ee) := by unfold findR; rw [← HEe.out, if_pos HE0.out]
    rw [hfr]
    refine ⟨_, rfl, HFin.out _ _ _ (.inr ⟨rfl, rfl⟩) ?_⟩
    exact (((Off.refl _ w1).alloc _).then ((find_off w.heap.size _ ⟨0, [], 0⟩ (.slice none 0 0) ee).mono fun k e => .inl (.inl e)))
end Go.Proofs.YtakmplpfjcddiaaGreatDoor

namespace Go.Proofs.YtakmplpfjcddiaaGreatDoor
open Go.RowKit Go.Shelf Pa
attribute [local go_sem] bs_toList bs_size
theorem StStep.on {w w1 wx : World} {s N : Nat} {T : RS} {R : Reg} (h : StStep w s T R N w1) (hb : Below w1.heap.size w1 wx) : StStep w s T R N wx := by
  obtain ⟨R1, g1, t1, o1⟩ := h
  exact ⟨R1, g1.below hb, t1, o1.step hb⟩
set_option maxRecDepth 100000 in
set_option maxHeartbeats 2000000 in
theorem dfind_any (s N : Nat) (i : Int) (nm : Str) (T : RS) (R : Reg) (w : World) (h : StI w s T R N) :
    Calls Tryz.prog 140 #[.pointer (some ⟨s, 0, none⟩), .int .i64 i, .string (bs nm)] w fun e w' => e = .returned (.tuple #[.int .i64 (findR T i nm).1.i, .int .i64 (findR T i nm).2.2]) ∧ StStep w s T R N w' := by
  have hf := find_any' s N i nm T R w h
  obtain ⟨x, hx⟩ : ∃ x, x = (findR T i nm).1 := ⟨_, rfl⟩
  obtain ⟨ee, hee⟩ : ∃ ee, ee = (findR T i nm).2.2 := ⟨_, rfl⟩
  rw [← hx, ← hee] at hf ⊢
  have HF := Lib.hid hf
  clear hf hx hee h
  go_enter Tryz.func140, Tryz.ntmps140
  go_wp2_with fail
  refine HF.out.mono ?_
  rintro e w1 ⟨v, rfl, hr⟩
  have HR := Lib.hid hr.st
  have d := heap_alloc_new w1 (.cells #[.int .i64 x.at_, .string (bs x.name), .int .i64 x.i] 190)
  have c2 : (w1.alloc (.cells #[.int .i64 x.at_, .string (bs x.name), .int .i64 x.i] 190)).cell? ⟨w1.heap.size, 2, none⟩ = some (.int .i64 x.i) := by rw [cell_of_heap d]; rfl
  clear hr d
  go_wp2_with fail
  go_ret2
  exact ⟨rfl, HR.out.on ((Below.refl _ _).alloc (Nat.le_refl _) _)⟩
end Go.Proofs.YtakmplpfjcddiaaGreatDoor

namespace Go.Proofs.YtakmplpfjcddiaaGreatDoor
open Go.RowKit Go.Shelf Pa
attribute [local go_sem] bs_toList bs_size
/-- An entry's bytes. -/
def encS (nm : Str) (i : Nat) : Str := if i = 0 then List.replicate 64 0 else laidAt ((((List.replicate 64 (0 : UInt8)).set 2 (UInt8.ofNat (i / 256))).set 3 (UInt8.ofNat i)).set 4 (UInt8.ofNat nm.length)) 5 nm
theorem encS_length (nm : Str) (i : Nat) (h : nm.length ≤ 59) : (encS nm i).length = 64 := by
  unfold encS
  split
  · simp
  · rw [laidAt_length (by simp; omega)]; simp
theorem u8w (z : Nat) : IntKind.u8.wrap (z : Int) = (((UInt8.ofNat z).toNat : Nat) : Int) := by
  have h1 : (UInt8.ofNat z).toNat = z % 256 := UInt8.toNat_ofNat' ..
  rw [h1]
  simp [IntKind.wrap, IntKind.bits, IntKind.signed]
set_option maxRecDepth 100000 in
set_option maxHeartbeats 2000000 in
theorem sbytes_any (x : Sl) (hi : x.i < 65536) (hn : x.name.length ≤ 59) (w : World) : Calls Tryz.prog 144 #[slV x] w fun e w' => ∃ v, e = .returned v ∧ OwnB w' w.heap.size v (encS x.name x.i) ∧ Below w.heap.size w w' := by
  have hms : ∀ w1, (Instr.makeSlice 37 (.int .i64 64) (.int .i64 64)).run Tryz.prog w1 = .ok (.slice (some ⟨w1.heap.size, 0, none⟩) 64 64) (w1.alloc (.cells (madeCells #[.int .u8 0] 64) 5)) := run_make_row' (P := Tryz.prog) 37 5 (.int .u8 0) 1 Tryz.underlying37 info_u8 rfl .i64 .i64 64 (by omega) (by omega)
  go_enter Tryz.func144, Tryz.ntmps144
  have hb1 := heap_alloc_new w (.cells #[.int .i64 x.at_, .string (bs x.name), .int .i64 x.i] 190)
  by_cases h0 : x.i = 0
  · have h0' : decide (((x.i : Nat) : Int) > 0) = false := by rw [h0]; rfl
    go_wp2_with fail
    go_ret
    have hB := blk_zero (w.alloc (.cells #[.int .i64 x.at_, .string (bs x.name), .int .i64 0] 190)) 64 (by omega)
    have hE : encS x.name x.i = List.replicate 64 0 := by unfold encS; rw [if_pos h0]
    rw [hE]
    rw [World.size_alloc] at hB
    exact ⟨_, rfl, by have := hB.own (B := w.heap.size) (by omega) (by simp); simpa using this, ((Below.refl _ _).alloc (Nat.le_refl _) _).alloc (by simp) _⟩
  · have h0' : decide (((x.i : Nat) : Int) > 0) = true := by simp; omega
    obtain ⟨ii, hii⟩ : ∃ ii, ii = x.i := ⟨_, rfl⟩
    obtain ⟨nm, hnm⟩ : ∃ nm, nm = x.name := ⟨_, rfl⟩
    obtain ⟨W2, hW2⟩ : ∃ W2, W2 = (w.alloc (.cells #[.int .i64 x.at_, .string (bs x.name), .int .i64 x.i] 190)).alloc (.cells (madeCells #[.int .u8 0] 64) 5) := ⟨_, rfl⟩
    have hb12 : Below (w.heap.size + 1) (w.alloc (.cells #[.int .i64 x.at_, .string (bs x.name), .int .i64 x.i] 190)) W2 := by rw [hW2]; exact (Below.refl _ _).alloc (by simp) _
    have hq := (hb12.block w.heap.size (by omega)).trans hb1
    have hB := blk_zero (w.alloc (.cells #[.int .i64 x.at_, .string (bs x.name), .int .i64 x.i] 190)) 64 (by omega)
    rw [← hW2, World.size_alloc] at hB
    have hbw : Below w.heap.size w W2 := by rw [hW2]; exact ((Below.refl _ _).alloc (Nat.le_refl _) _).alloc (by simp) _
    rw [← hii, ← hnm] at hq
    rw [← hnm] at hn
    have k1 : W2.cell? ⟨w.heap.size, 1, none⟩ = some (.string (bs nm)) := by rw [cell_of_heap hq]; rfl
    have k2 : W2.cell? ⟨w.heap.size, 2, none⟩ = some (.int .i64 ii) := by rw [cell_of_heap hq]; rfl
    have a2 : (W2.cell? ⟨w.heap.size + 1, 2, none⟩).isSome = true := by rw [hB.cell (i := 2) (y := 0) (by simp)]; rfl
    have a3 : (W2.cell? ⟨w.heap.size + 1, 3, none⟩).isSome = true := by rw [hB.cell (i := 3) (y := 0) (by simp)]; rfl
    have a4 : (W2.cell? ⟨w.heap.size + 1, 4, none⟩).isSome = true := by rw [hB.cell (i := 4) (y := 0) (by simp)]; rfl
    have c2 := hB.cell (i := 2) (y := 0) (by simp)
    have c3 := hB.cell (i := 3) (y := 0) (by simp)
    have c4 := hB.cell (i := 4) (y := 0) (by simp)
    have f2 := hB.free 2
    have f3 := hB.free 3
    have f4 := hB.free 4
    have HB := Lib.hid hB
    have HBw := Lib.hid hbw
    have HI := Lib.hid hi
    have HN := Lib.hid hn
    have HII := Lib.hid hii
    have HNm := Lib.hid hnm
    have hE : encS nm ii = laidAt ((((List.replicate 64 (0 : UInt8)).set 2 (UInt8.ofNat (ii / 256))).set 3 (UInt8.ofNat ii)).set 4 (UInt8.ofNat nm.length)) 5 nm := by unfold encS; rw [if_neg (by rw [hii]; exact h0)]
    have HE := Lib.hid hE
    have HW2 := Lib.hid hW2
    clear hE hW2 hii hnm hB hbw hi hn hq hb12 hb1
    go_wp2_with fail
    rw [← HW2.out, ← HII.out]
    have HH0 := Lib.hid h0
    clear h0 h0' HW2
    have hmod : ∀ z : Nat, (z : Int) % 256 = ((z % 256 : Nat) : Int) := fun z => by omega
    go_region_held3 (fun w' => w'.cell? ⟨w.heap.size, 1, none⟩ = some (.string (bs nm)) ∧ w'.cell? ⟨w.heap.size, 2, none⟩ = some (.int .i64 ii)) ((first | assumption | go_keep)) (fail)
    rw [show (ii : Int) / 256 = ((ii / 256 : Nat) : Int) from by omega, u8w, u8w, u8w]
    have hB3 := ((HB.out.set 2 (UInt8.ofNat (ii / 256)) (by simp)).set 3 (UInt8.ofNat ii) (by simp)).set 4 (UInt8.ofNat nm.length) (by simp)
    have ho3 : Off (fun k => k = w.heap.size + 1) W2 ((((W2.setCell ⟨w.heap.size + 1, 2, none⟩ (.int .u8 (UInt8.ofNat (ii / 256)).toNat)).setCell ⟨w.heap.size + 1, 3, none⟩ (.int .u8 (UInt8.ofNat ii).toNat)).setCell ⟨w.heap.size + 1, 4, none⟩ (.int .u8 (UInt8.ofNat nm.length).toNat)).drew) :=
      ((((Off.refl (fun k => k = w.heap.size + 1) W2).setCell (p := ⟨w.heap.size + 1, 2, none⟩) (.inl rfl) _).setCell (p := ⟨w.heap.size + 1, 3, none⟩) (.inl rfl) _).setCell (p := ⟨w.heap.size + 1, 4, none⟩) (.inl rfl) _).drew
    obtain ⟨W3, hW3⟩ : ∃ W3, W3 = ((((W2.setCell ⟨w.heap.size + 1, 2, none⟩ (.int .u8 (UInt8.ofNat (ii / 256)).toNat)).setCell ⟨w.heap.size + 1, 3, none⟩ (.int .u8 (UInt8.ofNat ii).toNat)).setCell ⟨w.heap.size + 1, 4, none⟩ (.int .u8 (UInt8.ofNat nm.length).toNat)).drew) := ⟨_, rfl⟩
    have hB3' : Blk W3 (w.heap.size + 1) 64 ((((List.replicate 64 (0 : UInt8)).set 2 (UInt8.ofNat (ii / 256))).set 3 (UInt8.ofNat ii)).set 4 (UInt8.ofNat nm.length)) := hB3.keep (by rw [hW3]; rfl)
    rw [← hW3] at ho3 ⊢
    clear hB3 hW3
    have hbz := HBw.out.size
    have hlt2 := HB.out.lt
    have k3 := (ho3.cell (p := ⟨w.heap.size, 1, none⟩) (by show w.heap.size < _; omega) (by show ¬ w.heap.size = w.heap.size + 1; omega)).trans k1
    obtain ⟨x3, hx3⟩ : ∃ x3, x3 = ((((List.replicate 64 (0 : UInt8)).set 2 (UInt8.ofNat (ii / 256))).set 3 (UInt8.ofNat ii)).set 4 (UInt8.ofNat nm.length)) := ⟨_, rfl⟩
    rw [← hx3] at hB3'
    have hxl : x3.length = 64 := by rw [hx3]; simp
    have hB3d : Blk W3.drew (w.heap.size + 1) 64 x3 := hB3'.keep rfl
    have hnl : (bs nm).size = nm.length := bs_size nm
    have hbd : (bs nm).data.toList = nm := by simp [bs]
    have hcp : ∀ ty, (Builtin.copy_ #[37, 9] ty #[.slice (some ⟨w.heap.size + 1, 5, none⟩) 59 59, .string (bs nm)]).run Tryz.prog W3.drew = .ok (.int .i64 nm.length) (W3.drew.setCells (w.heap.size + 1) 5 (nm.map fun x => Value.int .u8 (UInt8.toNat x))) := fun ty => by
      have := run_copy_string (P := Tryz.prog) W3.drew 37 9 ty 5 (w.heap.size + 1) 5 59 59 (bs nm) Tryz.underlying37 (fun w => by kernel_rfl) (by rw [hnl]; exact HN.out)
        (fun j hj => by
          have hj : j < 59 := by have := HN.out; rw [hnl] at hj; omega
          rw [hB3d.cell (i := 5 + j) (List.getElem?_eq_getElem (by omega))]; rfl) (fun j hj => hB3d.free _)
      rw [hnl, hbd] at this
      exact this
    have hcpi := hcp 3
    obtain ⟨hB4, ho4⟩ := hB3d.cells 5 nm (by rw [hxl]; have := HN.out; omega)
    have hfin : OwnB (W3.drew.setCells (w.heap.size + 1) 5 (nm.map fun x => Value.int .u8 (UInt8.toNat x))) w.heap.size (.slice (some ⟨w.heap.size + 1, 0, none⟩) 64 64) (encS nm ii) ∧ Below w.heap.size w (W3.drew.setCells (w.heap.size + 1) 5 (nm.map fun x => Value.int .u8 (UInt8.toNat x))) := by
      rw [HE.out, ← hx3]
      have hl4 : (laidAt x3 5 nm).length = 64 := by rw [laidAt_length (by rw [hxl]; have := HN.out; omega)]; exact hxl
      refine ⟨?_, ?_⟩
      · have := hB4.own (B := w.heap.size) (by omega) (by intro e; rw [e] at hl4; cases hl4)
        rw [hl4] at this; exact this
      · exact (((Off.of_below HBw.out (fun k => k = w.heap.size + 1)).then ho3).drew.then ho4).below (Nat.le_refl _) (fun k e => by omega)
    have HFin := Lib.hid hfin
    clear hcp hfin hB4 ho4 hB3d hB3' hx3 ho3 k1 k2 c2 c3 c4 f2 f3 f4 hmod hnl hbd
    refine (by assumption : ∀ (a : Act) (w : World), Code.wp Tryz.prog (Code.region 4 _ _) _ a w → _) _ _ ?_
    go_region_with (fail)
    all_goals (go_wp2_with fail; go_ret; exact ⟨_, rfl, by rw [← HNm.out, ← HII.out]; exact HFin.out.1, HFin.out.2⟩)
end Go.Proofs.YtakmplpfjcddiaaGreatDoor

namespace Go.Proofs.YtakmplpfjcddiaaGreatDoor
open Go.RowKit Go.Shelf Pa
attribute [local go_sem] bs_toList bs_size Oper.semAt_some
/-- What Add hands back. -/
def addE (T : RS) (d : Int) (nm : Str) (i : Int) : Nat :=
  if lookE T d ≠ 0 then lookE T d else if (findR T d nm).2.2 ≠ 0 ∧ (findR T d nm).2.2 ≠ 4 then (findR T d nm).2.2 else if i < 1 ∨ 512 ≤ i then 2 else if (findR T d nm).2.2 = 0 then 5 else 0
/-- The first free entry. -/
def freeP (b : Str) : Option Sl := (slotsP b).find? fun x => decide (x.i = 0)
/-- Where the new entry is written. -/
def addAt (b : Str) : Nat := match freeP b with | some x => x.at_ | none => b.length
theorem findR_bytes {T : RS} {i : Int} {nm : Str} (h : (findR T i nm).2.2 = 0 ∨ (findR T i nm).2.2 = 4) : (findR T i nm).2.1 = lookB T i ∧ lookE T i = 0 ∨ lookE T i = 4 := by
  unfold findR at *
  by_cases h0 : lookE T i = 0
  · left
    rw [if_neg (fun e => e h0)] at h ⊢
    by_cases h1 : nameOk nm = false
    · rw [if_pos h1] at h; rcases h with h | h <;> cases h
    · rw [if_neg h1]; exact ⟨by split <;> rfl, h0⟩
  · rw [if_pos h0] at h
    rcases h with h | h
    · exact absurd h h0
    · exact .inr h
theorem findR_name {T : RS} {i : Int} {nm : Str} (h0 : lookE T i = 0) (h : (findR T i nm).2.2 = 0 ∨ (findR T i nm).2.2 = 4) : nm.length ≤ 59 := by
  have h1 : nameOk nm = true := by
    unfold findR at h
    rw [if_neg (fun e => e h0)] at h
    by_cases h1 : nameOk nm = false
    · rw [if_pos h1] at h; rcases h with h | h <;> cases h
    · simpa using h1
  unfold nameOk at h1
  simp at h1
  omega
theorem freeP_none {b : Str} (h : ∀ y ∈ slotsP b, y.i ≠ 0) : freeP b = none := by
  unfold freeP
  rw [List.find?_eq_none]
  intro y hy e
  exact h y hy (by simpa using e)
theorem freeP_some {b : Str} {pre : List Sl} {x : Sl} (hp : pre ++ [x] <+: slotsP b) (h : ∀ y ∈ pre, y.i ≠ 0) (hx : x.i = 0) : freeP b = some x := by
  obtain ⟨t, ht⟩ := hp
  unfold freeP
  have h1 : List.find? (fun x : Sl => decide (x.i = 0)) pre = none := by
    rw [List.find?_eq_none]
    intro y hy e
    exact h y hy (by simpa using e)
  rw [← ht, List.append_assoc, List.find?_append, h1, Option.none_or, List.singleton_append]
  exact List.find?_cons_of_pos (p := fun x : Sl => decide (x.i = 0)) (by simpa using hx)
theorem add_write {w w2 W : World} {s N dn at_ j D : Nat} {nm x0 : Str} {v2 : Value} {T T' : RS} {R : Reg} (hr : StRd w s T R N x0 v2 w2) (ho : Off (fun k => w2.heap.size ≤ k) w2 W) (hD : w2.heap.size ≤ D) (hK : W.heap[D]? = some (.deferred (some [])))
    (hl : T.live dn) (hn : nm.length ≤ 59) (hsz : at_ + 64 ≤ 70656) (hw : T.write dn at_ (encS nm j) = some T') (w9 : World) (v : Value) (hb : Below W.heap.size W w9) (hv : OwnB w9 W.heap.size v (encS nm j)) :
    Calls Tryz.prog 63 #[.pointer (some ⟨s, 0, none⟩), .int .i64 dn, .int .i64 at_, v] w9 fun e w' => e = .returned (.int .i64 0) ∧ (∀ k, w2.heap.size ≤ k → k < W.heap.size → w'.heap[k]? = W.heap[k]?) ∧ w'.heap[D]? = some (.deferred (some [])) ∧ StStep w s T' R N (w'.putObj D (.deferred none)) := by
  obtain ⟨R2, _, g2, t2, o2, _⟩ := hr
  have hz := ho.size
  have hz9 := hb.size
  have hDl : D < W.heap.size := (Array.getElem?_eq_some_iff.1 hK).1
  have ho9 : Off (fun k => w2.heap.size ≤ k) w2 w9 := ho.step hb
  have g9 : StI w9 s T R2 N := g2.off ho9 (fun k hk e => by have := g2.lt k hk; omega)
  have hlen := encS_length nm j hn
  have hne : encS nm j ≠ [] := fun e => by rw [e] at hlen; cases hlen
  refine (swrite_any s N dn at_ (encS nm j) v T T' R2 w9 g9 hl hne (by omega) ((hv.bytes (by omega)).mono fun k hk _ e => by
    have h1 := hv.block hk
    have h2 := g2.lt k (.inl e)
    omega) hw).mono ?_
  rintro e w' ⟨rfl, R3, g3, t3, o3⟩
  have hf : ¬ R2.has D := fun e => by have := g2.lt D e; omega
  have hz3 := o3.size
  have hD9 : w9.heap[D]? = some (.deferred (some [])) := (hb.block D hDl).trans hK
  have hp : Off (fun k => k = D) w' (w'.putObj D (.deferred none)) := off_putObj _ _ _ rfl
  refine ⟨rfl, fun k h1 h2 => (o3.block k (by omega) (fun e => by have := g2.lt k (.inl e); omega)).trans (hb.block k h2), (o3.block D (by omega) (fun e => hf (.inl e))).trans hD9, R3, g3.off hp (fun k hk e => by subst e; exact t3.free hf (by omega) hk), t2.trans t3 (by have := o2.size; omega), (((o2.trans ho9 fun k e => .inr (by have := o2.size; omega)).trans o3 t2.m).trans hp fun k e => .inr (by have := o2.size; omega))⟩
set_option maxRecDepth 100000 in
set_option maxHeartbeats 2000000 in
theorem dadd_any (s N : Nat) (d i : Int) (nm : Str) (T T' : RS) (R : Reg) (w : World) (h : StI w s T R N) (hw : if addE T d nm i = 0 then addAt (lookB T d) + 64 ≤ 70656 ∧ T.write d.toNat (addAt (lookB T d)) (encS nm i.toNat) = some T' else T' = T) :
    Calls Tryz.prog 78 #[.pointer (some ⟨s, 0, none⟩), .int .i64 d, .string (bs nm), .int .i64 i] w fun e w' => e = .returned (.int .i64 (addE T d nm i : Nat)) ∧ StStep w s T' R N w' := by
  refine (callsIn_wide (n := 5)).1 ?_
  refine callsIn_of_wp_marks Tryz.func78 rfl trivial ?_ rfl
  simp only [Tryz.ntmps78, List.size_toArray, List.length_cons, List.length_nil, Nat.reduceAdd, Nat.reduceSub, Array.replicate_succ, Array.replicate_zero, List.push_toArray, List.append_toArray, List.nil_append, List.cons_append]
  refine wpIn_wide.2 ?_
  have hbl : (lookB T d).length ≤ 70656 := by
    unfold lookB
    by_cases h0 : lookE T d = 0
    · rw [if_pos h0]
      obtain ⟨m, c, C, F, _, _, _, h4, _⟩ := id h
      exact (h4.files _ (look_live (lookE_ok h0).1).1).2.size
    · rw [if_neg h0]; exact Nat.zero_le _
  have HBl := Lib.hid hbl
  clear hbl
  have hlk := look_any' s N d T R w h
  obtain ⟨e1, he1⟩ : ∃ e, e = lookE T d := ⟨_, rfl⟩
  obtain ⟨ee, hee⟩ : ∃ e, e = (findR T d nm).2.2 := ⟨_, rfl⟩
  obtain ⟨x, hx⟩ : ∃ x, x = (findR T d nm).1 := ⟨_, rfl⟩
  have hfd : ∀ R1 w1, StI w1 s T R1 N → Calls Tryz.prog 143 #[.pointer (some ⟨s, 0, none⟩), .int .i64 d, .string (bs nm)] w1 fun e w' => ∃ v, e = .returned (.tuple #[slV x, v, .int .i64 ee]) ∧ StRd w1 s T R1 N (findR T d nm).2.1 v w' := fun R1 w1 h1 => by
    have := find_any' s N d nm T R1 w1 h1
    rw [← hx, ← hee] at this
    exact this
  rw [← he1] at hlk
  have hae : addE T d nm i = if e1 ≠ 0 then e1 else if ee ≠ 0 ∧ ee ≠ 4 then ee else if i < 1 ∨ 512 ≤ i then 2 else if ee = 0 then 5 else 0 := by unfold addE; rw [← he1, ← hee]
  have herr : ∀ (c : Nat) (w' : World), addE T d nm i = c → c ≠ 0 → StStep w s T R N w' → Ending.returned (Value.int .i64 (c : Nat)) = .returned (.int .i64 (addE T d nm i : Nat)) ∧ StStep w s T' R N w' := fun c w' h1 h2 h3 => by
    rw [h1, if_neg h2] at hw
    rw [h1, hw]
    exact ⟨rfl, h3⟩
  have HErr := Lib.hid herr
  clear herr
  have HLk := Lib.hid hlk
  have HFd := Lib.hid hfd
  have HAe := Lib.hid hae
  have HW := Lib.hid hw
  have HE1 := Lib.hid he1
  have HEe := Lib.hid hee
  clear hlk hfd hae hw he1 hee hx h
  go_wp2_with fail
  refine HLk.out.mono ?_
  rintro e w1 ⟨v1, rfl, hr1⟩
  by_cases h1 : e1 = 0
  · have h1' : ((e1 : Int) != 0) = false := by rw [h1]; rfl
    have HR1 := Lib.hid hr1.st
    have H1 := Lib.hid h1
    clear hr1 h1
    obtain ⟨R1, g1, t1, o1⟩ := HR1.out
    have hfd := HFd.out R1 w1 g1
    have HT1 := Lib.hid (⟨t1, o1⟩ : _ ∧ _)
    clear g1 t1 o1
    go_wp2_with fail
    refine hfd.mono ?_
    rintro e w2 ⟨v2, rfl, hr2⟩
    have HR2 := Lib.hid (StRd.from_ HT1.out.1 HT1.out.2 hr2)
    clear hr2 hfd
    by_cases h4 : ee ≠ 0 ∧ ee ≠ 4
    · have h4a : ((ee : Int) != 0) = true := by simp; exact h4.1
      have h4b : ((ee : Int) != 4) = true := by simp; omega
      have HH4 := Lib.hid h4
      clear h4
      go_wp2_with fail
      exact ⟨_, results_tmp rfl _ _ _, by exact HErr.out ee _ (by rw [HAe.out, if_neg (fun e => e H1.out), if_pos HH4.out]) HH4.out.1 (HR2.out.st.on ((Below.refl _ _).alloc (Nat.le_refl _) _))⟩
    · have h4' : ee = 0 ∨ ee = 4 := by omega
      have h4a : ((ee : Int) != 0) = true → ((ee : Int) != 4) = false := by
        rcases h4' with e | e
        · rw [e]; intro e; cases e
        · rw [e]; intro _; rfl
      have HH4 := Lib.hid h4'
      by_cases hi : i < 1 ∨ 512 ≤ i
      · have hI2 : addE T d nm i = 2 := by rw [HAe.out, if_neg (fun e => e H1.out), if_neg h4, if_pos hi]
        have HI2 := Lib.hid hI2
        have hfin : ∀ w', Below w2.heap.size w2 w' → Ending.returned (Value.int .i64 2) = .returned (.int .i64 (addE T d nm i : Nat)) ∧ StStep w s T' R N w' := fun w' hb => HErr.out 2 w' HI2.out (by decide) (HR2.out.st.on hb)
        have HFin := Lib.hid hfin
        clear hfin hI2 h4 h4'
        by_cases hee0 : ee = 0
        · have hq : ((ee : Int) != 0) = false := by rw [hee0]; rfl
          clear hee0 h4a
          by_cases hi1 : i < 1
          · have hq1 : decide (i < 1) = true := by simpa using hi1
            clear hi hi1
            go_wp2_with fail
            exact ⟨_, results_tmp rfl _ _ _, by exact HFin.out _ ((Below.refl _ _).alloc (Nat.le_refl _) _)⟩
          · have hq1 : decide (i < 1) = false := by simpa using hi1
            have hq2 : decide (i ≥ 512) = true := by simp; omega
            have hq3 : decide (512 ≤ i) = true := by simp; omega
            clear hi hi1
            go_wp2_with fail
            exact ⟨_, results_tmp rfl _ _ _, by exact HFin.out _ ((Below.refl _ _).alloc (Nat.le_refl _) _)⟩
        · have hq : ((ee : Int) != 0) = true := by simp; exact hee0
          have hq4 := h4a hq
          clear hee0 h4a
          by_cases hi1 : i < 1
          · have hq1 : decide (i < 1) = true := by simpa using hi1
            clear hi hi1
            go_wp2_with fail
            exact ⟨_, results_tmp rfl _ _ _, by exact HFin.out _ ((Below.refl _ _).alloc (Nat.le_refl _) _)⟩
          · have hq1 : decide (i < 1) = false := by simpa using hi1
            have hq2 : decide (i ≥ 512) = true := by simp; omega
            have hq3 : decide (512 ≤ i) = true := by simp; omega
            clear hi hi1
            go_wp2_with fail
            exact ⟨_, results_tmp rfl _ _ _, by exact HFin.out _ ((Below.refl _ _).alloc (Nat.le_refl _) _)⟩
      · have hq1 : decide (i < 1) = false := by simp; omega
        have hq2 : decide (i ≥ 512) = false := by simp; omega
        have hq3 : decide (512 ≤ i) = false := by simp; omega
        by_cases hee0 : ee = 0
        · have hq : ((ee : Int) != 0) = false := by rw [hee0]; rfl
          have hqe : ((ee : Int) == 0) = true := by rw [hee0]; rfl
          have hI5 : addE T d nm i = 5 := by rw [HAe.out, if_neg (fun e => e H1.out), if_neg h4, if_neg hi, if_pos hee0]
          have HI5 := Lib.hid hI5
          clear hee0 h4a h4 h4' hi hI5
          go_wp2_with fail
          exact ⟨_, results_tmp rfl _ _ _, by exact HErr.out 5 _ HI5.out (by decide) (HR2.out.st.on ((Below.refl _ _).alloc (Nat.le_refl _) _))⟩
        · have hq : ((ee : Int) != 0) = true := by simp; exact hee0
          have hqe : ((ee : Int) == 0) = false := by simp; omega
          have hq4 := h4a hq
          have hI0 : addE T d nm i = 0 := by rw [HAe.out, if_neg (fun e => e H1.out), if_neg h4, if_neg hi, if_neg hee0]
          have HI0 := Lib.hid hI0
          have HHi := Lib.hid hi
          obtain ⟨A, cv, rfl⟩ : ∃ A cv, v2 = .slice A (findR T d nm).2.1.length cv := by
            obtain ⟨_, o, _⟩ := HR2.out
            exact ownsRow_slice o
          clear hee0 h4a h4 h4' hi hI0
          go_wp2_with fail
          refine (slots_any _ _ _ _).mono ?_
          rintro e w3 ⟨rfl, rfl⟩
          go_wp2_with fail
          obtain ⟨dn, rfl⟩ : ∃ n : Nat, d = n := ⟨_, (look_live (lookE_ok (HE1.out.symm.trans H1.out)).1).2.1⟩
          obtain ⟨j, rfl⟩ : ∃ n : Nat, i = n := ⟨i.toNat, by have := HHi.out; omega⟩
          have hfr : (findR T dn nm).2.1 = lookB T dn := by
            rcases findR_bytes (T := T) (i := dn) (nm := nm) (by rw [← HEe.out]; exact HH4.out) with h | h
            · exact h.1
            · rw [← HE1.out, H1.out] at h; cases h
          rw [hfr]
          have hR2 := HR2.out
          rw [hfr] at hR2
          have hw := HW.out
          rw [if_pos HI0.out] at hw
          obtain ⟨hat, hwr⟩ := hw
          obtain ⟨W6, hW6⟩ : ∃ W6, W6 = ((w2.alloc (.cells #[.int .i64 x.at_, .string (bs x.name), .int .i64 x.i] 190)).alloc (.cells #[.int .i64 (lookB T dn).length] 3)).alloc (.cells #[.slice A (lookB T dn).length cv] 37) := ⟨_, rfl⟩
          rw [← hW6]
          obtain ⟨q0, q1, q2, z6⟩ := alloc3 w2 (.cells #[.int .i64 x.at_, .string (bs x.name), .int .i64 x.i] 190) (.cells #[.int .i64 (lookB T dn).length] 3) (.cells #[.slice A (lookB T dn).length cv] 37)
          rw [← hW6] at q0 q1 q2 z6
          have hb6 : Below w2.heap.size w2 W6 := by rw [hW6]; exact (((Below.refl _ _).alloc (Nat.le_refl _) _).alloc (by simp) _).alloc (by simp; omega) _
          have hz61 : w2.heap.size + 1 + 1 < W6.heap.size := by omega
          have hcB : W6.cell? ⟨w2.heap.size + 1 + 1, 0, none⟩ = some (.slice A (lookB T dn).length cv) := by rw [cell_of_heap q2]; rfl
          have bx6 : Boxed W6 (w2.heap.size + 1) 3 (.int .i64 (lookB T dn).length) := q1
          have hbl := HBl.out
          have hby : BytesI W6 (fun k => ¬ W6.heap.size ≤ k) (.slice A (lookB T dn).length cv) (lookB T dn) := by
            obtain ⟨_, o2, _⟩ := hR2
            refine ((o2.bytes (by omega)).off (Off.of_below hb6 (fun _ => False)) fun k hk e => e).mono fun k _ hk => by omega
          have HR2' := Lib.hid hR2
          have HWr := Lib.hid (⟨hat, hwr⟩ : _ ∧ _)
          clear hW6 hR2 hat hwr q0 q1 q2 z6 hfr
          refine (wpIn_wide (n := 5)).1 ?_
          refine wpIn_rangeFunc_ownH (F := Fence.wide) rfl (by decide) (gf := 198) (lb := #[.pointer (some ⟨w2.heap.size + 1 + 1, 0, none⟩)]) rfl trivial (enters_of Tryz.func198 (by kernel_rfl) rfl)
            (slots_stops _ (by decide) (w2.heap.size + 1 + 1) (fun k => W6.heap.size ≤ k) _ (lookB T dn) W6 hz61 (by omega) (fun k hk => hk) hcB hby (by omega)) Off.then (fun W l o o' hl _ _ _ => off_putObj W l o' hl) (Below.refl _ _) (fun _ => rfl)
            (fun pre W => (∀ y ∈ pre, y.i ≠ 0) ∧ Off (fun k => W6.heap.size ≤ k) W6 W)
            (fun c pre W => (c = .exit 1 ∧ ∃ pre' y, pre = pre' ++ [y] ∧ (∀ z ∈ pre', z.i ≠ 0) ∧ y.i = 0 ∧ Boxed W (w2.heap.size + 1) 3 (.int .i64 y.at_)) ∧ Off (fun k => k = w2.heap.size + 1 ∨ W6.heap.size ≤ k) W6 W)
            (OwnFrom.and (ownFrom_pure _ _) (off_from fun _ h => h))
            (fun c => fun pre X Y row hs hg hr => by
              have ho : Off (fun k => W6.heap.size ≤ k) X Y := (Off.refl _ X).grown hg (fun k e => .inl (hr k e).1)
              obtain ⟨⟨h1, pre', y, h2, h3, h4, h5⟩, h6⟩ := hs
              exact ⟨⟨h1, pre', y, h2, h3, h4, boxed_own _ _ (fun (_ : Unit) => Value.int .i64 y.at_) () X Y row h5 hg (fun r e => (hr r e).2)⟩, h6.then (ho.mono fun k e => .inl (.inr e))⟩)
            ⟨(fun y hy => by cases hy), Off.refl _ _⟩
            (fun y a' W => ∃ Bx, W6.heap.size ≤ Bx ∧ W.heap[Bx]? = some (.cells #[.int .i64 y.at_, .string (bs y.name), .int .i64 y.i] 190 (0, 0)) ∧ a' = { tmps := #[.pointer (some ⟨s, 0, none⟩), .int .i64 dn, .string (bs nm), .int .i64 j, undef, undef, undef, undef, .int .i64 0, v1, .int .i64 e1, .pointer (some ⟨w2.heap.size, 0, none⟩), .slice A (lookB T dn).length cv, .int .i64 ee, .pointer (some ⟨w2.heap.size + 1, 0, none⟩), .pointer (some ⟨Bx, 0, none⟩), .tuple #[v1, .int .i64 e1], .pointer (some ⟨s, 0, none⟩), .int .i64 dn, .tuple #[v1, .int .i64 e1], v1, .int .i64 e1, .int .i64 e1, .bool false, undef, .tuple #[slV x, .slice A (lookB T dn).length cv, .int .i64 ee], .pointer (some ⟨s, 0, none⟩), .int .i64 dn, .string (bs nm), .tuple #[slV x, .slice A (lookB T dn).length cv, .int .i64 ee], slV x, .slice A (lookB T dn).length cv, .int .i64 ee, .bool false, .int .i64 ee, .bool true, .bool true, .int .i64 ee, .bool false, .bool false, undef, .bool false, .int .i64 j, .bool false, .bool false, .int .i64 j, .bool false, .bool false, .bool false, .int .i64 ee, .bool false, .slice A (lookB T dn).length cv, .int .i64 (lookB T dn).length, .slice A (lookB T dn).length cv, .func (.func 198) #[] #[.pointer (some ⟨w2.heap.size + 1 + 1, 0, none⟩)], slV y, undef, undef, undef, undef, undef, undef, undef, undef, undef, undef, undef, undef, undef], defers := [] })
            (fun y a' _ X Y row hs hg hr => by
              obtain ⟨Bx, h1, h2, h3⟩ := hs
              refine ⟨Bx, h1, ?_, h3⟩
              exact (hg.block Bx (Array.getElem?_eq_some_iff.1 h2).1 (fun e => by obtain ⟨_, o, ho, hc⟩ := hr Bx e.symm; rw [h2] at ho; cases ho; cases hc)).trans h2)
            ?assign ?body ?done ?stop
          case assign =>
            rintro l pre y W K ⟨h1, h2⟩ hK
            gi_wp2
            exact hK _ _ ((KeepsOthers.alloc _ _).from _) ((Off.refl _ W).alloc _) ⟨h1, h2.alloc _⟩ ⟨W.heap.size, h2.size, heap_alloc_new _ _, rfl⟩
          case body =>
            rintro l pre y a' W hl ⟨r, hr⟩ ⟨h1, h2⟩ ⟨Bx, hBx, hbx, rfl⟩ hlt
            have hzW := h2.size
            have b0 : W.cell? ⟨Bx, 0, none⟩ = some (.int .i64 y.at_) := by rw [cell_of_heap hbx]; rfl
            have b2 : W.cell? ⟨Bx, 2, none⟩ = some (.int .i64 y.i) := by rw [cell_of_heap hbx]; rfl
            have bxW : Boxed W (w2.heap.size + 1) 3 (.int .i64 (lookB T dn).length) := (h2.block (w2.heap.size + 1) (by omega) (by omega)).trans bx6
            have f14 := bxW.frozen
            have c14 := bxW.cell
            have hkp : KeepsFrom W6.heap.size W (W.setCell ⟨w2.heap.size + 1, 0, none⟩ (.int .i64 y.at_)) := (KeepsOthers.setCell _ _ _).from _
            have hos : Off (fun k => k = w2.heap.size + 1 ∨ W6.heap.size ≤ k) W6 (W.setCell ⟨w2.heap.size + 1, 0, none⟩ (.int .i64 y.at_)) := (h2.mono fun k e => .inl (.inr e)).setCell (p := ⟨w2.heap.size + 1, 0, none⟩) (.inl (.inl rfl)) _
            have hbs := bxW.set (.int .i64 y.at_)
            have HKp := Lib.hid hkp
            have HOs := Lib.hid hos
            have HBs := Lib.hid hbs
            have H1 := Lib.hid h1
            have H2 := Lib.hid h2
            clear hr hkp hos hbs h1 h2 hby hcB hb6 hlt bxW bx6
            by_cases hi : y.i = 0
            · have hi' : ((y.i : Int) == 0) = true := by rw [hi]; rfl
              gi_wp2
              exact ⟨HKp.out, ⟨rfl, pre, y, rfl, H1.out, hi, HBs.out⟩, HOs.out⟩
            · have hi' : ((y.i : Int) == 0) = false := by simp; omega
              gi_wp2
              exact ⟨(KeepsOthers.refl _).from _, Off.refl _ _, fun z hz => by
                rcases List.mem_append.1 hz with hz | hz
                · exact H1.out z hz
                · obtain rfl : z = y := by simpa using hz
                  exact hi, H2.out⟩
          case done =>
            rintro D ys W hD rfl ⟨h1, h2⟩ hK
            have hbx : Boxed W (w2.heap.size + 1) 3 (.int .i64 (lookB T dn).length) := (h2.block (w2.heap.size + 1) (by omega) (by omega)).trans bx6
            have hat_ : (lookB T dn).length = addAt (lookB T dn) := by unfold addAt; rw [freeP_none h1]
            obtain ⟨at_, hate⟩ : ∃ a, a = (lookB T dn).length := ⟨_, rfl⟩
            rw [← hate] at hbx
            rw [← hate] at hat_
            have hoff : Off (fun k => k = w2.heap.size + 1 ∨ W6.heap.size ≤ k) W6 W := h2.mono fun k e => .inl (.inr e)
            clear h1 h2 hate
            go_wp2_with fail
            have hb0 : T.live dn := by have := (look_live (lookE_ok (HE1.out.symm.trans H1.out)).1).1; simpa using this
            have hnl : nm.length ≤ 59 := findR_name (T := T) (i := dn) (nm := nm) (HE1.out.symm.trans H1.out) (by rw [← HEe.out]; exact HH4.out)
            have hjl : j < 65536 := by have := HHi.out; omega
            have hoW : Off (fun k => w2.heap.size ≤ k) w2 W := (Off.of_below hb6 _).trans hoff (fun k e => .inl (by rcases e with e | e <;> omega))
            rw [← hat_] at HWr
            have hwr := fun w9 v => add_write (j := j) HR2'.out hoW (show w2.heap.size ≤ D by omega) hK hb0 hnl HWr.out.1 (by have := HWr.out.2; simpa using this) w9 v
            have hby9 : ∀ w, Calls Tryz.prog 144 #[.agg #[.int .i64 0, .string (bs nm), .int .i64 j]] w fun e w' => ∃ v, e = .returned v ∧ OwnB w' w.heap.size v (encS nm j) ∧ Below w.heap.size w w' := fun w => sbytes_any ⟨0, nm, j⟩ hjl hnl w
            have c14 := hbx.cell
            have hcW : ∀ w', Below W.heap.size W w' → w'.cell? ⟨w2.heap.size + 1, 0, none⟩ = some (.int .i64 at_) := fun w' hb => (hb.cell (p := ⟨w2.heap.size + 1, 0, none⟩) hbx.lt).trans c14
            have hbd : Below W.heap.size W W.drew := (Below.refl _ _).drew
            have hfin : Ending.returned (Value.int .i64 0) = .returned (.int .i64 (addE T dn nm j : Nat)) := by rw [HI0.out]; rfl
            have HBd := Lib.hid hbd
            have HLt := Lib.hid (show w2.heap.size + 1 < W.heap.size from hbx.lt)
            have HCW := Lib.hid hcW
            have HBy := Lib.hid hby9
            have HWr9 := Lib.hid hwr
            have HFin := Lib.hid hfin
            clear hb0 hnl hjl hoW hwr hby9 hcW hfin hbd hb6 hby hcB hoff hbx bx6 hat_ hbl HWr
            go_region_held3 (fun w' => w'.cell? ⟨w2.heap.size + 1, 0, none⟩ = some (.int .i64 at_))
              ((first | assumption | go_keep))
              (first
                | (go_at_call 144; refine (HBy.out _).mono ?_; rintro e w9 ⟨vb, rfl, ho9, hb9⟩; obtain ⟨A9, c9, rfl⟩ := ownsRow_slice ho9; have hb99 := HBd.out.trans hb9; have hc9 := HCW.out w9 hb99; have HWw := Lib.hid (HWr9.out w9 _ hb99 ho9); clear ho9 hb9 hb99)
                | (go_at_call 63; refine HWw.out.mono ?_; rintro e w10 ⟨rfl, hc10, hk10, hs10⟩; have hc10' : w10.cell? ⟨w2.heap.size + 1, 0, none⟩ = some (.int .i64 at_) := (World.cell?_of_block (w := W) (hc10 _ (by show w2.heap.size ≤ w2.heap.size + 1; omega) HLt.out)).trans (HCW.out W (Below.refl _ _)); have HS10 := Lib.hid (⟨hk10, hs10⟩ : _ ∧ _); clear hk10 hs10 hc10))
            go_wp2_with fail
            exact ⟨by simp, .inl ⟨_, _, rfl, run_takeDeferred HS10.out.1, ⟨_, results_tmp rfl _ _ _, by exact ⟨HFin.out, HS10.out.2⟩⟩⟩⟩
          case stop =>
            rintro D c pre W hD hpre ⟨⟨rfl, pre', y, rfl, h1, h2, h3⟩, h4⟩ hK
            have hat_ : y.at_ = addAt (lookB T dn) := by unfold addAt; rw [freeP_some hpre h1 h2]
            have hbx := h3
            have hoff := h4
            obtain ⟨at_, hate⟩ : ∃ a, a = y.at_ := ⟨_, rfl⟩
            rw [← hate] at hbx hat_
            clear h1 h2 h3 h4 hate hpre
            refine wpIn_wide.2 ?_
            go_wp2_with fail
            have hb0 : T.live dn := by have := (look_live (lookE_ok (HE1.out.symm.trans H1.out)).1).1; simpa using this
            have hnl : nm.length ≤ 59 := findR_name (T := T) (i := dn) (nm := nm) (HE1.out.symm.trans H1.out) (by rw [← HEe.out]; exact HH4.out)
            have hjl : j < 65536 := by have := HHi.out; omega
            have hoW : Off (fun k => w2.heap.size ≤ k) w2 W := (Off.of_below hb6 _).trans hoff (fun k e => .inl (by rcases e with e | e <;> omega))
            rw [← hat_] at HWr
            have hwr := fun w9 v => add_write (j := j) HR2'.out hoW (show w2.heap.size ≤ D by omega) hK hb0 hnl HWr.out.1 (by have := HWr.out.2; simpa using this) w9 v
            have hby9 : ∀ w, Calls Tryz.prog 144 #[.agg #[.int .i64 0, .string (bs nm), .int .i64 j]] w fun e w' => ∃ v, e = .returned v ∧ OwnB w' w.heap.size v (encS nm j) ∧ Below w.heap.size w w' := fun w => sbytes_any ⟨0, nm, j⟩ hjl hnl w
            have c14 := hbx.cell
            have hcW : ∀ w', Below W.heap.size W w' → w'.cell? ⟨w2.heap.size + 1, 0, none⟩ = some (.int .i64 at_) := fun w' hb => (hb.cell (p := ⟨w2.heap.size + 1, 0, none⟩) hbx.lt).trans c14
            have hbd : Below W.heap.size W W.drew := (Below.refl _ _).drew
            have hfin : Ending.returned (Value.int .i64 0) = .returned (.int .i64 (addE T dn nm j : Nat)) := by rw [HI0.out]; rfl
            have HBd := Lib.hid hbd
            have HLt := Lib.hid (show w2.heap.size + 1 < W.heap.size from hbx.lt)
            have HCW := Lib.hid hcW
            have HBy := Lib.hid hby9
            have HWr9 := Lib.hid hwr
            have HFin := Lib.hid hfin
            clear hb0 hnl hjl hoW hwr hby9 hcW hfin hbd hb6 hby hcB hoff hbx bx6 hat_ hbl HWr
            go_region_held3 (fun w' => w'.cell? ⟨w2.heap.size + 1, 0, none⟩ = some (.int .i64 at_))
              ((first | assumption | go_keep))
              (first
                | (go_at_call 144; refine (HBy.out _).mono ?_; rintro e w9 ⟨vb, rfl, ho9, hb9⟩; obtain ⟨A9, c9, rfl⟩ := ownsRow_slice ho9; have hb99 := HBd.out.trans hb9; have hc9 := HCW.out w9 hb99; have HWw := Lib.hid (HWr9.out w9 _ hb99 ho9); clear ho9 hb9 hb99)
                | (go_at_call 63; refine HWw.out.mono ?_; rintro e w10 ⟨rfl, hc10, hk10, hs10⟩; have hc10' : w10.cell? ⟨w2.heap.size + 1, 0, none⟩ = some (.int .i64 at_) := (World.cell?_of_block (w := W) (hc10 _ (by show w2.heap.size ≤ w2.heap.size + 1; omega) HLt.out)).trans (HCW.out W (Below.refl _ _)); have HS10 := Lib.hid (⟨hk10, hs10⟩ : _ ∧ _); clear hk10 hs10 hc10))
            go_wp2_with fail
            exact ⟨by simp, .inl ⟨_, _, rfl, run_takeDeferred HS10.out.1, ⟨_, results_tmp rfl _ _ _, by exact ⟨HFin.out, HS10.out.2⟩⟩⟩⟩
  · have h1' : ((e1 : Int) != 0) = true := by simp; exact h1
    have HR1 := Lib.hid hr1.st
    have H1 := Lib.hid h1
    clear hr1 h1
    go_wp2_with fail
    have hE : addE T d nm i = e1 := by rw [HAe.out, if_pos H1.out]
    have hT := HW.out
    rw [hE, if_neg H1.out] at hT
    exact ⟨_, results_tmp rfl _ _ _, by rw [hE]; rfl, by rw [hT]; exact HR1.out⟩
end Go.Proofs.YtakmplpfjcddiaaGreatDoor

namespace Go.Proofs.YtakmplpfjcddiaaGreatDoor
open Go.RowKit Go.Shelf Pa
attribute [local go_sem] bs_toList bs_size Oper.semAt_some
/-- How many entries are used. -/
def usedP (l : List Sl) : Nat := (l.filter fun x => decide (x.i ≠ 0)).length
theorem usedP_le (l : List Sl) : usedP l ≤ l.length := List.length_filter_le _ _
theorem usedP_snoc (l : List Sl) (x : Sl) : usedP (l ++ [x]) = if x.i = 0 then usedP l else usedP l + 1 := by
  unfold usedP
  rw [List.filter_append, List.length_append]
  by_cases h : x.i = 0 <;> simp [h]
/-- What Drop leaves. -/
def dropT (T : RS) (d : Int) (nm : Str) : Option RS := if usedP (slotsP (lookB T d)) = 1 then T.resize d.toNat 0 else T.write d.toNat (findR T d nm).1.at_ (encS [] 0)
theorem drop_resize {w w2 W : World} {s N dn D : Nat} {x0 : Str} {v2 : Value} {T T' : RS} {R : Reg} (hr : StRd w s T R N x0 v2 w2) (ho : Off (fun k => w2.heap.size ≤ k) w2 W) (hD : w2.heap.size ≤ D) (hK : W.heap[D]? = some (.deferred (some [])))
    (hl : T.live dn) (hne : 0 ≠ (T.file dn).bytes.length) (hw : T.resize dn 0 = some T') :
    Calls Tryz.prog 62 #[.pointer (some ⟨s, 0, none⟩), .int .i64 dn, .int .i64 0] W fun e w' => e = .returned (.int .i64 0) ∧ (∀ k, w2.heap.size ≤ k → k < W.heap.size → w'.heap[k]? = W.heap[k]?) ∧ w'.heap[D]? = some (.deferred (some [])) ∧ StStep w s T' R N (w'.putObj D (.deferred none)) := by
  obtain ⟨R2, _, g2, t2, o2, _⟩ := hr
  have hz := ho.size
  have hDl : D < W.heap.size := (Array.getElem?_eq_some_iff.1 hK).1
  have g9 : StI W s T R2 N := g2.off ho (fun k hk e => by have := g2.lt k hk; omega)
  refine (sresize_any s N dn 0 T T' R2 W g9 hl (by omega) hne hw).mono ?_
  rintro e w' ⟨rfl, R3, g3, t3, o3⟩
  have hf : ¬ R2.has D := fun e => by have := g2.lt D e; omega
  have hz3 := o3.size
  have hp : Off (fun k => k = D) w' (w'.putObj D (.deferred none)) := off_putObj _ _ _ rfl
  refine ⟨rfl, fun k h1 h2 => o3.block k (by omega) (fun e => by have := g2.lt k (.inl e); omega), (o3.block D (by omega) (fun e => hf (.inl e))).trans hK, R3, g3.off hp (fun k hk e => by subst e; exact t3.free hf (by omega) hk), t2.trans t3 (by have := o2.size; omega), (((o2.trans ho fun k e => .inr (by have := o2.size; omega)).trans o3 t2.m).trans hp fun k e => .inr (by have := o2.size; omega))⟩
set_option maxRecDepth 100000 in
set_option maxHeartbeats 2000000 in
theorem ddrop_any (s N : Nat) (d : Int) (nm : Str) (T T' : RS) (R : Reg) (w : World) (h : StI w s T R N) (hw : if (findR T d nm).2.2 = 0 then dropT T d nm = some T' ∧ (findR T d nm).1.at_ + 64 ≤ 70656 ∧ lookB T d ≠ [] else T' = T) :
    Calls Tryz.prog 89 #[.pointer (some ⟨s, 0, none⟩), .int .i64 d, .string (bs nm)] w fun e w' => e = .returned (.tuple #[.int .i64 (if (findR T d nm).2.2 = 0 then (findR T d nm).1.i else 0 : Nat), .int .i64 (findR T d nm).2.2]) ∧ StStep w s T' R N w' := by
  refine (callsIn_wide (n := 5)).1 ?_
  refine callsIn_of_wp_marks Tryz.func89 rfl trivial ?_ rfl
  simp only [Tryz.ntmps89, List.size_toArray, List.length_cons, List.length_nil, Nat.reduceAdd, Nat.reduceSub, Array.replicate_succ, Array.replicate_zero, List.push_toArray, List.append_toArray, List.nil_append, List.cons_append]
  refine wpIn_wide.2 ?_
  have hbl : (lookB T d).length ≤ 70656 := by
    unfold lookB
    by_cases h0 : lookE T d = 0
    · rw [if_pos h0]
      obtain ⟨m, c, C, F, _, _, _, h4, _⟩ := id h
      exact (h4.files _ (look_live (lookE_ok h0).1).1).2.size
    · rw [if_neg h0]; exact Nat.zero_le _
  have HBl := Lib.hid hbl
  clear hbl
  have hfd := find_any' s N d nm T R w h
  obtain ⟨ee, hee⟩ : ∃ e, e = (findR T d nm).2.2 := ⟨_, rfl⟩
  obtain ⟨x, hx⟩ : ∃ x, x = (findR T d nm).1 := ⟨_, rfl⟩
  have HX := Lib.hid hx
  rw [← hx, ← hee] at hfd hw ⊢
  obtain ⟨ri, hri⟩ : ∃ r, r = if ee = 0 then x.i else 0 := ⟨_, rfl⟩
  rw [← hri]
  have HRi := Lib.hid hri
  clear hri
  have HFd := Lib.hid hfd
  have HW := Lib.hid hw
  have HEe := Lib.hid hee
  clear hfd hw hee hx h
  go_wp2_with fail
  refine HFd.out.mono ?_
  rintro e w2 ⟨v2, rfl, hr2⟩
  have HR2 := Lib.hid hr2
  clear hr2
  by_cases h0 : ee = 0
  · have h0' : ((ee : Int) != 0) = false := by rw [h0]; rfl
    have H0 := Lib.hid h0
    obtain ⟨A, cv, rfl⟩ : ∃ A cv, v2 = .slice A (findR T d nm).2.1.length cv := by
      obtain ⟨_, o, _⟩ := HR2.out
      exact ownsRow_slice o
    clear h0
    go_wp2_with fail
    refine (slots_any _ _ _ _).mono ?_
    rintro e w3 ⟨rfl, rfl⟩
    go_wp2_with fail
    have hlk0 : lookE T d = 0 := by
      have := HEe.out
      unfold findR at this
      by_cases h : lookE T d = 0
      · exact h
      · rw [if_pos h] at this; exact absurd (this.symm.trans H0.out) h
    obtain ⟨dn, rfl⟩ : ∃ n : Nat, d = n := ⟨_, (look_live (lookE_ok hlk0).1).2.1⟩
    have hfr : (findR T dn nm).2.1 = lookB T dn := by
      rcases findR_bytes (T := T) (i := dn) (nm := nm) (.inl (by rw [← HEe.out]; exact H0.out)) with h | h
      · exact h.1
      · rw [hlk0] at h; cases h
    rw [hfr]
    have hR2 := HR2.out
    rw [hfr] at hR2
    obtain ⟨W6, hW6⟩ : ∃ W6, W6 = ((w2.alloc (.cells #[.int .i64 x.at_, .string (bs x.name), .int .i64 x.i] 190)).alloc (.cells #[.int .i64 0] 3)).alloc (.cells #[.slice A (lookB T dn).length cv] 37) := ⟨_, rfl⟩
    rw [← hW6]
    obtain ⟨q0, q1, q2, z6⟩ := alloc3 w2 (.cells #[.int .i64 x.at_, .string (bs x.name), .int .i64 x.i] 190) (.cells #[.int .i64 0] 3) (.cells #[.slice A (lookB T dn).length cv] 37)
    rw [← hW6] at q0 q1 q2 z6
    have hb6 : Below w2.heap.size w2 W6 := by rw [hW6]; exact (((Below.refl _ _).alloc (Nat.le_refl _) _).alloc (by simp) _).alloc (by simp; omega) _
    have hz61 : w2.heap.size + 1 + 1 < W6.heap.size := by omega
    have hcB : W6.cell? ⟨w2.heap.size + 1 + 1, 0, none⟩ = some (.slice A (lookB T dn).length cv) := by rw [cell_of_heap q2]; rfl
    have bx6 : Boxed W6 (w2.heap.size + 1) 3 (.int .i64 0) := q1
    have hbl := HBl.out
    have hby : BytesI W6 (fun k => ¬ (k = w2.heap.size + 1 ∨ W6.heap.size ≤ k)) (.slice A (lookB T dn).length cv) (lookB T dn) := by
      obtain ⟨_, o2, _⟩ := hR2
      refine ((o2.bytes (by omega)).off (Off.of_below hb6 (fun _ => False)) fun k hk e => e).mono fun k hk _ => by
        have := o2.block hk
        omega
    have HR2' := Lib.hid hR2
    have HQ0 := Lib.hid q0
    have HLk0 := Lib.hid hlk0
    clear hW6 hR2 q0 q1 q2 z6 hfr hlk0
    refine (wpIn_wide (n := 5)).1 ?_
    refine wpIn_rangeFunc_ownH (F := Fence.wide) rfl (by decide) (gf := 198) (lb := #[.pointer (some ⟨w2.heap.size + 1 + 1, 0, none⟩)]) rfl trivial (enters_of Tryz.func198 (by kernel_rfl) rfl)
      (slots_stops _ (by decide) (w2.heap.size + 1 + 1) (fun k => k = w2.heap.size + 1 ∨ W6.heap.size ≤ k) _ (lookB T dn) W6 hz61 (by omega) (fun k hk => .inr hk) hcB hby (by omega)) Off.then (fun W l o o' hl _ _ _ => off_putObj W l o' (.inr hl)) (Below.refl _ _) (fun _ => rfl)
      (fun pre W => Boxed W (w2.heap.size + 1) 3 (.int .i64 (usedP pre)) ∧ Off (fun k => k = w2.heap.size + 1 ∨ W6.heap.size ≤ k) W6 W)
      (fun _ _ _ => False)
      (OwnFrom.and (Own.from (boxed_own _ _ (fun pre => Value.int .i64 (usedP pre))) _) (off_from fun _ h => .inr h))
      (fun _ _ _ _ _ hs _ _ => hs)
      ⟨bx6, Off.refl _ _⟩
      (fun y a' W => ∃ Bx, W6.heap.size ≤ Bx ∧ W.heap[Bx]? = some (.cells #[.int .i64 y.at_, .string (bs y.name), .int .i64 y.i] 190 (0, 0)) ∧ a' = { tmps := #[.pointer (some ⟨s, 0, none⟩), .int .i64 dn, .string (bs nm), undef, undef, undef, .int .i64 0, .int .i64 0, .pointer (some ⟨w2.heap.size, 0, none⟩), .slice A (lookB T dn).length cv, .int .i64 ee, .pointer (some ⟨w2.heap.size + 1, 0, none⟩), .pointer (some ⟨Bx, 0, none⟩), .tuple #[slV x, .slice A (lookB T dn).length cv, .int .i64 ee], .pointer (some ⟨s, 0, none⟩), .int .i64 dn, .string (bs nm), .tuple #[slV x, .slice A (lookB T dn).length cv, .int .i64 ee], slV x, .slice A (lookB T dn).length cv, .int .i64 ee, .int .i64 ee, .bool false, undef, .slice A (lookB T dn).length cv, .func (.func 198) #[] #[.pointer (some ⟨w2.heap.size + 1 + 1, 0, none⟩)], slV y, undef, undef, undef, undef, undef, undef, undef, undef, undef, undef, undef, undef, undef, undef, undef, undef, undef, undef, undef, undef, undef, undef], defers := [] })
      (fun y a' _ X Y row hs hg hr => by
        obtain ⟨Bx, h1, h2, h3⟩ := hs
        refine ⟨Bx, h1, ?_, h3⟩
        exact (hg.block Bx (Array.getElem?_eq_some_iff.1 h2).1 (fun e => by obtain ⟨_, o, ho, hc⟩ := hr Bx e.symm; rw [h2] at ho; cases ho; cases hc)).trans h2)
      ?assign ?body ?done ?stop
    case assign =>
      rintro l pre y W K ⟨h1, h2⟩ hK
      gi_wp2
      exact hK _ _ ((KeepsOthers.alloc _ _).from _) ((Off.refl _ W).alloc _) ⟨h1.alloc _, h2.alloc _⟩ ⟨W.heap.size, h2.size, heap_alloc_new _ _, rfl⟩
    case body =>
      rintro l pre y a' W hl ⟨r, hr⟩ ⟨h1, h2⟩ ⟨Bx, hBx, hbx, rfl⟩ hlt
      have hzW := h2.size
      have b2 : W.cell? ⟨Bx, 2, none⟩ = some (.int .i64 y.i) := by rw [cell_of_heap hbx]; rfl
      have f14 := h1.frozen
      have c14 := h1.cell
      have hule : usedP pre ≤ 2000 := by
        have := usedP_le pre
        rw [slotsP_length] at hlt
        omega
      obtain ⟨u, hu⟩ : ∃ u, u = usedP pre := ⟨_, rfl⟩
      rw [← hu] at c14 hule
      have hwr : IntKind.i64.wrap ((u : Int) + 1) = (u : Int) + 1 := IntWalk.i64_in _ (by omega)
      have hkp : KeepsFrom W6.heap.size W (W.setCell ⟨w2.heap.size + 1, 0, none⟩ (.int .i64 ((u : Int) + 1))) := (KeepsOthers.setCell _ _ _).from _
      have hos : Off (fun k => k = w2.heap.size + 1 ∨ W6.heap.size ≤ k) W (W.setCell ⟨w2.heap.size + 1, 0, none⟩ (.int .i64 ((u : Int) + 1))) := (Off.refl _ W).setCell (p := ⟨w2.heap.size + 1, 0, none⟩) (.inl (.inl rfl)) _
      have hbs := h1.set (.int .i64 ((u : Int) + 1))
      have HKp := Lib.hid hkp
      have HOs := Lib.hid hos
      have HBs := Lib.hid hbs
      have H1 := Lib.hid h1
      have H2 := Lib.hid h2
      have HU := Lib.hid hu
      clear hr hkp hos hbs h1 h2 hby hcB hb6 hlt bx6 hu
      by_cases hi : y.i = 0
      · have hi' : ((y.i : Int) != 0) = false := by rw [hi]; rfl
        gi_wp2
        exact ⟨(KeepsOthers.refl _).from _, Off.refl _ _, by rw [usedP_snoc, if_pos hi]; exact H1.out, H2.out⟩
      · have hi' : ((y.i : Int) != 0) = true := by simp; exact hi
        gi_wp2
        exact ⟨HKp.out, HOs.out, by rw [usedP_snoc, if_neg hi, ← HU.out]; exact HBs.out, H2.out.then HOs.out⟩
    case done =>
      rintro D ys W hD rfl ⟨h1, hoff⟩ hK
      have hb0 : T.live dn := by have := (look_live (lookE_ok HLk0.out).1).1; simpa using this
      have hoW : Off (fun k => w2.heap.size ≤ k) w2 W := (Off.of_below hb6 _).trans hoff (fun k e => .inl (by rcases e with e | e <;> omega))
      have hT := HW.out
      rw [if_pos H0.out] at hT
      obtain ⟨hT1, hT2, hT3⟩ := hT
      obtain ⟨u, hu⟩ : ∃ u, u = usedP (slotsP (lookB T dn)) := ⟨_, rfl⟩
      unfold dropT at hT1
      rw [← hu] at h1 hT1
      have c14 := h1.cell
      have hx0 : W.heap[w2.heap.size]? = some (.cells #[.int .i64 x.at_, .string (bs x.name), .int .i64 x.i] 190 (0, 0)) := (hoff.block w2.heap.size (by omega) (by rintro (e | e) <;> omega)).trans HQ0.out
      have hzW := hoff.size
      by_cases hu1 : u = 1
      · have hu1' : ((u : Int) == 1) = true := by rw [hu1]; rfl
        rw [if_pos hu1] at hT1
        have hrs := drop_resize HR2'.out hoW (show w2.heap.size ≤ D by omega) hK hb0 (fun e => hT3 (by unfold lookB; rw [if_pos HLk0.out]; exact List.length_eq_zero_iff.1 (by simpa using e.symm))) (by simpa using hT1)
        have HRs := Lib.hid hrs
        have HX0 := Lib.hid hx0
        have hlw : w2.heap.size < W.heap.size := by omega
        have HLw := Lib.hid hlw
        clear hrs hx0 hb0 hoW hT1 hT2 hT3 hu h1 hb6 hby hcB hoff bx6 hbl hu1 hlw
        go_wp2_with fail
        refine HRs.out.mono ?_
        rintro e w10 ⟨rfl, hc10, hk10, hs10⟩
        have ct2 : w10.cell? ⟨w2.heap.size, 2, none⟩ = some (.int .i64 x.i) := by rw [cell_of_heap ((hc10 _ (Nat.le_refl _) HLw.out).trans HX0.out)]; rfl
        have HS10 := Lib.hid (⟨hk10, hs10⟩ : _ ∧ _)
        clear hc10 hk10 hs10
        go_wp2_with fail
        exact ⟨by simp, .inl ⟨_, _, rfl, run_takeDeferred HS10.out.1, ⟨_, results_tmp2 rfl _ _ _, by rw [HRi.out, if_pos H0.out, H0.out]; exact ⟨rfl, HS10.out.2⟩⟩⟩⟩
      · have hu1' : ((u : Int) == 1) = false := by simp; omega
        rw [if_neg hu1, ← HX.out] at hT1
        have hwr := fun w9 v => add_write (nm := []) (j := 0) HR2'.out hoW (show w2.heap.size ≤ D by omega) hK hb0 (by simp) hT2 (by simpa using hT1) w9 v
        have hby9 : ∀ w, Calls Tryz.prog 144 #[.agg #[.int .i64 0, .string ⟨#[]⟩, .int .i64 0]] w fun e w' => ∃ v, e = .returned v ∧ OwnB w' w.heap.size v (encS [] 0) ∧ Below w.heap.size w w' := fun w => sbytes_any ⟨0, [], 0⟩ (by decide) (by simp) w
        have ct0 : W.cell? ⟨w2.heap.size, 0, none⟩ = some (.int .i64 x.at_) := by rw [cell_of_heap hx0]; rfl
        have ct2 : W.cell? ⟨w2.heap.size, 2, none⟩ = some (.int .i64 x.i) := by rw [cell_of_heap hx0]; rfl
        have hlw : w2.heap.size < W.heap.size := by omega
        have hcW : ∀ w', Below W.heap.size W w' → w'.cell? ⟨w2.heap.size, 0, none⟩ = some (.int .i64 x.at_) ∧ w'.cell? ⟨w2.heap.size, 2, none⟩ = some (.int .i64 x.i) := fun w' hb => ⟨(hb.cell (p := ⟨w2.heap.size, 0, none⟩) hlw).trans ct0, (hb.cell (p := ⟨w2.heap.size, 2, none⟩) hlw).trans ct2⟩
        have hbd : Below W.heap.size W W.drew := (Below.refl _ _).drew
        have HBd := Lib.hid hbd
        have HX0 := Lib.hid hx0
        have HCW := Lib.hid hcW
        have HBy := Lib.hid hby9
        have HWr9 := Lib.hid hwr
        have HLw := Lib.hid hlw
        clear hx0 hb0 hoW hT1 hT2 hT3 hu h1 hb6 hby hcB hoff bx6 hbl hu1 hlw hbd hcW hby9 hwr
        go_wp2_with fail
        go_region_held3 (fun w' => w'.cell? ⟨w2.heap.size, 0, none⟩ = some (.int .i64 x.at_) ∧ w'.cell? ⟨w2.heap.size, 2, none⟩ = some (.int .i64 x.i))
          ((first | assumption | go_keep))
          (first
            | (go_at_call 144; go_split_ands; refine (HBy.out _).mono ?_; rintro e w9 ⟨vb, rfl, ho9, hb9⟩; obtain ⟨A9, c9, rfl⟩ := ownsRow_slice ho9; have hb99 := HBd.out.trans hb9; have hc9 := HCW.out w9 hb99; have HWw := Lib.hid (HWr9.out w9 _ hb99 ho9); clear ho9 hb9 hb99)
            | (go_at_call 63; go_split_ands; refine HWw.out.mono ?_; rintro e w10 ⟨rfl, hc10, hk10, hs10⟩; have hc10' : w10.cell? ⟨w2.heap.size, 0, none⟩ = some (.int .i64 x.at_) ∧ w10.cell? ⟨w2.heap.size, 2, none⟩ = some (.int .i64 x.i) := ⟨by rw [cell_of_heap ((hc10 _ (Nat.le_refl _) HLw.out).trans HX0.out)]; rfl, by rw [cell_of_heap ((hc10 _ (Nat.le_refl _) HLw.out).trans HX0.out)]; rfl⟩; have HS10 := Lib.hid (⟨hk10, hs10⟩ : _ ∧ _); clear hk10 hs10 hc10))
        obtain ⟨ct0', ct2'⟩ : w10.cell? ⟨w2.heap.size, 0, none⟩ = some (.int .i64 x.at_) ∧ w10.cell? ⟨w2.heap.size, 2, none⟩ = some (.int .i64 x.i) := by assumption
        go_wp2_with fail
        exact ⟨by simp, .inl ⟨_, _, rfl, run_takeDeferred HS10.out.1, ⟨_, results_tmp2 rfl _ _ _, by rw [HRi.out, if_pos H0.out, H0.out]; exact ⟨rfl, HS10.out.2⟩⟩⟩⟩
    case stop =>
      rintro D c pre W _ _ h _
      exact h.elim
  · have h0' : ((ee : Int) != 0) = true := by simp; exact h0
    have H0 := Lib.hid h0
    clear h0
    go_wp2_with fail
    have hT := HW.out
    rw [if_neg H0.out] at hT
    refine ⟨_, results_tmp2 rfl _ _ _, ?_⟩
    rw [HRi.out, if_neg H0.out, hT]
    exact ⟨rfl, HR2.out.st.on ((Below.refl _ _).alloc (Nat.le_refl _) _)⟩
end Go.Proofs.YtakmplpfjcddiaaGreatDoor

namespace Go.Proofs.YtakmplpfjcddiaaGreatDoor
open Go.RowKit Go.Shelf Pa
attribute [local go_sem] bs_toList bs_size Oper.semAt_some
/-- Strings of one's own. -/
def OwnS (w : World) (B : Nat) (v : Value) (l : List Str) : Prop := w.ownsRow B 9 1 v l.length (l.map encStr)
/-- The names of the used entries, in their order. -/
def namesP (l : List Sl) : List Str := (l.filter fun x => decide (x.i ≠ 0)).map (·.name)
/-- What List hands back. -/
def listP (b : Str) : List Str := (namesP (slotsP b)).mergeSort fun x y => decide (x ≤ y)
theorem namesP_hit (pre : List Sl) (x : Sl) (h : x.i ≠ 0) : namesP (pre ++ [x]) = namesP pre ++ [x.name] := by simp [namesP, h]
theorem namesP_miss (pre : List Sl) (x : Sl) (h : x.i = 0) : namesP (pre ++ [x]) = namesP pre := by simp [namesP, h]
theorem namesP_le (l : List Sl) : (namesP l).length ≤ l.length := by unfold namesP; rw [List.length_map]; exact List.length_filter_le _ _
theorem info_str : (Tryz.prog.info? 9).map (fun i => (i.zero, i.size, i.bytes)) = some (some (.string ⟨#[]⟩), 1, 16) := by kernel_rfl
theorem row_base {w : World} {B B' : Nat} {e : TypeId} {k n : Nat} {v : Value} {xs : List Value} (h : w.ownsRow B e k v n xs) (hB : B' ≤ B) : w.ownsRow B' e k v n xs := by
  obtain ⟨h1, h⟩ := h
  exact ⟨h1, h.imp id fun ⟨g, cap, cur, e1, e2, e3⟩ => ⟨g, cap, cur, e1, by omega, e3⟩⟩
theorem sortS_any {B : Nat} {v : Value} {l : List Str} {w : World} (h : OwnS w B v l) (hl : l.length < 4611686018427387904) : Calls Tryz.prog 136 #[v] w fun e w' => e = .returned (.tuple #[]) ∧ OwnS w' B v (l.mergeSort fun x y => decide (x ≤ y)) ∧ w.grownBy w' v.ownBlock := by
  have hlen : (l.mergeSort fun x y => decide (x ≤ y)).length = l.length := List.length_mergeSort _
  unfold OwnS at *
  rcases h.2 with ⟨rfl, h0⟩ | ⟨g, cap, cur, rfl, hbase, hb, h1, h2, h3, h4⟩
  · have hl0 : l = [] := List.length_eq_zero_iff.1 h0
    subst hl0
    refine (Tryz.slices_Sort_string_none none 0 w).mono ?_
    rintro e w' ⟨rfl, rfl⟩
    exact ⟨rfl, by simpa using h, ⟨rfl, rfl, rfl, Nat.le_refl _, fun _ _ _ => rfl⟩⟩
  · refine (Tryz.slices_Sort_string g 0 cap l w (holds_of_block hb (by simpa using h4)) (Array.getElem?_eq_some_iff.1 hb).1 hl).mono ?_
    rintro e w' ⟨rfl, n, os, rfl⟩
    refine ⟨rfl, ?_, grownBy_sorted _⟩
    have := ownsRow_sorted (n := n) (os := os) (ss := l) (ts := l.mergeSort fun x y => decide (x ≤ y)) hlen hbase hb h1 h2 h3
    rw [hlen]
    exact this
set_option maxRecDepth 100000 in
set_option maxHeartbeats 2000000 in
theorem dlist_any (s N : Nat) (d : Int) (T : RS) (R : Reg) (w : World) (h : StI w s T R N) :
    Calls Tryz.prog 70 #[.pointer (some ⟨s, 0, none⟩), .int .i64 d] w fun e w' => ∃ v, e = .returned (.tuple #[v, .int .i64 (lookE T d)]) ∧ OwnS w' w.heap.size v (listP (lookB T d)) ∧ ∃ R', StI w' s T R' N ∧ R.To R' w.heap.size ∧ Off R.m w w' ∧ ∀ k, v.ownBlock = some k → ¬ R'.has k := by
  refine (callsIn_wide (n := 5)).1 ?_
  refine callsIn_of_wp_marks Tryz.func70 rfl trivial ?_ rfl
  simp only [Tryz.ntmps70, List.size_toArray, List.length_cons, List.length_nil, Nat.reduceAdd, Nat.reduceSub, Array.replicate_succ, Array.replicate_zero, List.push_toArray, List.append_toArray, List.nil_append, List.cons_append]
  refine wpIn_wide.2 ?_
  have hbl : (lookB T d).length ≤ 70656 := by
    unfold lookB
    by_cases h0 : lookE T d = 0
    · rw [if_pos h0]
      obtain ⟨m, c, C, F, _, _, _, h4, _⟩ := id h
      exact (h4.files _ (look_live (lookE_ok h0).1).1).2.size
    · rw [if_neg h0]; exact Nat.zero_le _
  have HBl := Lib.hid hbl
  clear hbl
  have hlk := look_any' s N d T R w h
  obtain ⟨e1, he1⟩ : ∃ e, e = lookE T d := ⟨_, rfl⟩
  have hnil : e1 ≠ 0 → lookB T d = [] := fun h0 => by unfold lookB; rw [if_neg (by rw [← he1]; exact h0)]
  rw [← he1] at hlk ⊢
  have HLk := Lib.hid hlk
  have HNil := Lib.hid hnil
  clear hlk he1 h hnil
  go_wp2_with fail
  refine HLk.out.mono ?_
  rintro e w2 ⟨v2, rfl, hr2⟩
  obtain ⟨A, cv, rfl⟩ : ∃ A cv, v2 = .slice A (lookB T d).length cv := by
    obtain ⟨_, o, _⟩ := hr2
    exact ownsRow_slice o
  have HR2 := Lib.hid hr2
  clear hr2
  by_cases h0 : e1 = 0
  · have h0' : ((e1 : Int) != 0) = false := by rw [h0]; rfl
    have H0 := Lib.hid h0
    clear h0
    go_wp2_with fail
    refine (slots_any _ _ _ _).mono ?_
    rintro e w3 ⟨rfl, rfl⟩
    go_wp2_with fail
    obtain ⟨W6, hW6⟩ : ∃ W6, W6 = (w2.alloc (.cells #[.slice none 0 0] 42)).alloc (.cells #[.slice A (lookB T d).length cv] 37) := ⟨_, rfl⟩
    rw [← hW6]
    obtain ⟨q1, q2, z6⟩ := alloc2 w2 (.cells #[.slice none 0 0] 42) (.cells #[.slice A (lookB T d).length cv] 37)
    rw [← hW6] at q1 q2 z6
    have hb6 : Below w2.heap.size w2 W6 := by rw [hW6]; exact ((Below.refl _ _).alloc (Nat.le_refl _) _).alloc (by simp) _
    have hz61 : w2.heap.size + 1 < W6.heap.size := by omega
    have hcB : W6.cell? ⟨w2.heap.size + 1, 0, none⟩ = some (.slice A (lookB T d).length cv) := by rw [cell_of_heap q2]; rfl
    have bx6 : Boxed W6 w2.heap.size 42 (.slice none 0 0) := q1
    have hbl := HBl.out
    have hby : BytesI W6 (fun k => ¬ (k = w2.heap.size ∨ W6.heap.size ≤ k)) (.slice A (lookB T d).length cv) (lookB T d) := by
      obtain ⟨_, o2, _⟩ := HR2.out
      refine ((o2.bytes (by omega)).off (Off.of_below hb6 (fun _ => False)) fun k hk e => e).mono fun k hk _ => by
        have := o2.block hk
        omega
    obtain ⟨i0, hi0, hz0, hz1, hz2⟩ := info_parts info_str
    clear hW6 q1 q2 z6
    refine (wpIn_wide (n := 5)).1 ?_
    refine wpIn_rangeFunc_ownH (F := Fence.wide) rfl (by decide) (gf := 198) (lb := #[.pointer (some ⟨w2.heap.size + 1, 0, none⟩)]) rfl trivial (enters_of Tryz.func198 (by kernel_rfl) rfl)
      (slots_stops _ (by decide) (w2.heap.size + 1) (fun k => k = w2.heap.size ∨ W6.heap.size ≤ k) _ (lookB T d) W6 hz61 (by omega) (fun k hk => .inr hk) hcB hby (by omega)) Off.then (fun W l o o' hl _ _ _ => off_putObj W l o' (.inr hl)) (Below.refl _ _) (fun _ => rfl)
      (fun pre W => (∃ v, Boxed W w2.heap.size 42 v ∧ W.ownsRow W6.heap.size 9 1 v (namesP pre).length ((namesP pre).map encStr) ∧ True) ∧ Off (fun k => k = w2.heap.size ∨ W6.heap.size ≤ k) W6 W)
      (fun _ _ _ => False)
      (OwnFrom.and (Own.from (holdsRow_own W6.heap.size w2.heap.size 42 9 1 (fun pre => (namesP pre).length) (fun pre => (namesP pre).map encStr) (fun pre v => True)) _) (off_from fun _ h => .inr h))
      (fun _ _ _ _ _ hs _ _ => hs)
      ⟨⟨_, bx6, World.ownsRow_nil _ _ _ _, trivial⟩, Off.refl _ _⟩
      (fun y a' W => ∃ Bx, W6.heap.size ≤ Bx ∧ W.heap[Bx]? = some (.cells #[.int .i64 y.at_, .string (bs y.name), .int .i64 y.i] 190 (0, 0)) ∧ a' = { tmps := #[.pointer (some ⟨s, 0, none⟩), .int .i64 d, undef, undef, .slice none 0 0, .int .i64 0, .slice A (lookB T d).length cv, .int .i64 e1, .pointer (some ⟨w2.heap.size, 0, none⟩), .pointer (some ⟨Bx, 0, none⟩), .tuple #[.slice A (lookB T d).length cv, .int .i64 e1], .pointer (some ⟨s, 0, none⟩), .int .i64 d, .tuple #[.slice A (lookB T d).length cv, .int .i64 e1], .slice A (lookB T d).length cv, .int .i64 e1, .int .i64 e1, .bool false, undef, .slice A (lookB T d).length cv, .func (.func 198) #[] #[.pointer (some ⟨w2.heap.size + 1, 0, none⟩)], slV y, undef, undef, undef, undef, undef, undef, undef, undef, undef, undef, undef], defers := [] })
      (fun y a' _ X Y row hs hg hr => by
        obtain ⟨Bx, h1, h2, h3⟩ := hs
        refine ⟨Bx, h1, ?_, h3⟩
        exact (hg.block Bx (Array.getElem?_eq_some_iff.1 h2).1 (fun e => by obtain ⟨_, o, ho, hc⟩ := hr Bx e.symm; rw [h2] at ho; cases ho; cases hc)).trans h2)
      ?assign ?body ?done ?stop
    case assign =>
      rintro l pre y W K ⟨⟨v, h1, h2, h3⟩, h4⟩ hK
      gi_wp2
      exact hK _ _ ((KeepsOthers.alloc _ _).from _) ((Off.refl _ W).alloc _) ⟨⟨v, h1.alloc _, h2.alloc _, h3⟩, h4.alloc _⟩ ⟨W.heap.size, h4.size, heap_alloc_new _ _, rfl⟩
    case body =>
      rintro l pre y a' W hl ⟨r, hr⟩ ⟨⟨v, hv, hrow, _⟩, h4⟩ ⟨Bx, hBx, hbx, rfl⟩ hlt
      have hzW := h4.size
      have b1 : W.cell? ⟨Bx, 1, none⟩ = some (.string (bs y.name)) := by rw [cell_of_heap hbx]; rfl
      have b2 : W.cell? ⟨Bx, 2, none⟩ = some (.int .i64 y.i) := by rw [cell_of_heap hbx]; rfl
      have hc := hv.cell
      have hpl : (namesP pre).length ≤ 2000 := by
        have := namesP_le pre
        rw [slotsP_length] at hlt
        omega
      clear hr hb6 hby hcB bx6
      by_cases hi : y.i = 0
      · have hi' : ((y.i : Int) != 0) = false := by rw [hi]; rfl
        have HR := Lib.hid (⟨hv, hrow, h4⟩ : _ ∧ _ ∧ _)
        clear hv hrow h4
        gi_wp2
        exact ⟨(KeepsOthers.refl _).from _, Off.refl _ _, ⟨v, HR.out.1, by rw [namesP_miss _ _ hi]; exact HR.out.2.1, trivial⟩, HR.out.2.2⟩
      · have hi' : ((y.i : Int) != 0) = true := by simp; exact hi
        gi_wp2_with (gi_at_builtin; refine wpListIn_append_own _ rfl _ _ 42 rfl W6.heap.size 9 i0 (.string ⟨#[]⟩) 1 16 Tryz.underlying42 hi0 hz0 hz1 hz2 rfl (by decide) _ _ _ rfl (hrow.alloc _) ⟨W.heap.size, 0, none⟩ 1 1 [encStr y.name] rfl rfl (cell_one_new _ _ _) (by simp [Value.oneCell']) (by unfold maxLen; omega) (by omega) (by simp; omega) ?_; intro v' w1 hown' hgrow _; obtain ⟨g', cap', rfl⟩ := ownsRow_succ hown'; obtain ⟨hv1, hv2, hr2, hk2, hb2⟩ := hv.appended (by decide) (row_base hrow (by omega)) (show w2.heap.size ≤ W.heap.size by omega) (Nat.le_refl _) (row_base hown' (show w2.heap.size ≤ W6.heap.size by omega)) hgrow; have hc1 := hv1.cell; have hf1 := hv1.frozen)
        have hr' := hown'.kept (grownBy_setCell' w1 w2.heap.size (.slice (some ⟨g', 0, none⟩) ((namesP pre).length + 1) cap')) (.inr (hv1.not_row (by decide) hown').symm)
        have hoff : Off (fun k => k = w2.heap.size ∨ W6.heap.size ≤ k) W (w1.setCell ⟨w2.heap.size, 0, none⟩ (.slice (some ⟨g', 0, none⟩) ((namesP pre).length + 1) cap')) := (((Off.refl _ W).alloc _).grown hgrow (fun k e => .inl (.inr (World.ownsRow.lt hrow k e).1))).setCell (p := ⟨w2.heap.size, 0, none⟩) (.inl (.inl rfl)) _
        exact ⟨hk2.from _, hoff, ⟨_, hv2, by rw [namesP_hit pre y hi]; simpa using hr', trivial⟩, h4.then hoff⟩
    case done =>
      rintro D ys W hD rfl ⟨⟨v, hv, hrow, _⟩, h4⟩ hK
      have hzW := h4.size
      have hc := hv.cell
      have hpl : (namesP (slotsP (lookB T d))).length ≤ 2000 := by
        have := namesP_le (slotsP (lookB T d))
        rw [slotsP_length] at this
        omega
      have hst := sortS_any (w := W) (B := W6.heap.size) (v := v) (l := namesP (slotsP (lookB T d))) hrow (by omega)
      have HSt := Lib.hid hst
      have HV := Lib.hid (⟨hv, hrow, h4, hK, hb6⟩ : _ ∧ _ ∧ _ ∧ _ ∧ _)
      clear hst hv hrow h4 hK hb6 hby hcB bx6
      go_wp2_with fail
      refine HSt.out.mono ?_
      rintro e w4 ⟨rfl, hs4, hg4⟩
      obtain ⟨hv, hrow, h4, hK, hb6⟩ := HV.out
      have hv4 := hv.kept hg4 (hv.not_row (by decide) hrow)
      have hc4 := hv4.cell
      have hDw : D < W.heap.size := (Array.getElem?_eq_some_iff.1 hK).1
      have hK4 : w4.heap[D]? = some (.deferred (some [])) := (hg4.block D hDw (fun e => by
        rcases hrow.2 with ⟨rfl, _⟩ | ⟨g, cap, cur, rfl, _, hb, _⟩
        · cases e
        · have : D = g := by simpa [Value.ownBlock] using e
          subst this
          rw [hK] at hb; cases hb)).trans hK
      have ho4 : Off (fun k => k = w2.heap.size ∨ W6.heap.size ≤ k) W w4 := (Off.refl _ W).grown hg4 (fun k e => .inl (.inr (World.ownsRow.lt hrow k e).1))
      have ho5 : Off (fun k => w2.heap.size ≤ k) w2 (w4.putObj D (.deferred none)) := ((Off.of_below hb6 (fun k => w2.heap.size ≤ k)).trans ((h4.then ho4).then (off_putObj w4 D (.deferred none) (.inr hD))) (fun k e => .inl (by rcases e with e | e <;> omega)))
      have hown : OwnS (w4.putObj D (.deferred none)) w.heap.size v (listP (lookB T d)) := ownsRow_putObj (row_base hs4 (by have := HR2.out; obtain ⟨_, _, _, _, o1, _⟩ := this; have := o1.size; omega)) _ hK4 rfl
      have hblk : ∀ k, v.ownBlock = some k → W6.heap.size ≤ k := fun k e => (World.ownsRow.lt hrow k e).1
      have HEnd := Lib.hid (⟨hK4, ho5, hown, hblk⟩ : _ ∧ _ ∧ _ ∧ _)
      clear hv hrow h4 hK hb6 hv4 hK4 ho4 ho5 hown hblk hs4 hg4
      go_wp2_with fail
      obtain ⟨R1, _, g1, t1, o1, _⟩ := HR2.out
      obtain ⟨hK4, ho5, hown, hblk⟩ := HEnd.out
      exact ⟨by simp, .inl ⟨_, _, rfl, run_takeDeferred hK4, ⟨_, results_tmp2 rfl _ _ _, v, by rw [H0.out]; rfl, hown, R1, g1.off ho5 (fun k hk e => by have := g1.lt k hk; omega), t1, o1.trans ho5 (fun k e => .inr (by have := o1.size; omega)), fun k hk e => by have := g1.lt k e; have := hblk k hk; omega⟩⟩⟩
    case stop =>
      rintro D c pre W _ _ h _
      exact h.elim
  · have h0' : ((e1 : Int) != 0) = true := by simp; exact h0
    have H0 := Lib.hid h0
    clear h0
    go_wp2_with fail
    obtain ⟨R1, _, g1, t1, o1, _⟩ := HR2.out
    refine ⟨_, results_tmp2 rfl _ _ _, _, rfl, ?_, R1, g1, t1, o1, fun k hk => by cases hk⟩
    rw [HNil.out H0.out]
    have hl : listP [] = [] := by simp [listP, namesP, slotsP]
    rw [hl]
    exact (World.ownsRow_nil _ _ _ _ : World.ownsRow w2 w.heap.size 9 1 (.slice none 0 0) 0 [])
end Go.Proofs.YtakmplpfjcddiaaGreatDoor
