/-
  Arguments opened: slices of bytes, of changes, of layers.
-/
import Derived.Test.YtjolgckkoidhgaaDoorFoldW
import Derived.ProofKit
import Derived.Deep.Slices
namespace Go.Proofs.YtjolgckkoidhgaaDoor
open Go.RowKit Go.Shelf Pa
open Go.ChangeShapes Go.WideShapes Go.Deep

section
variable {H : Type} {enc : TypeId × Value → H} {w : World} {base : Nat} {spare : Nat → Bool} {held : Bool}

theorem spot_none {a : Addr} {v : Value} (h : w.cell? (a.add 0) = some v) : a.spot = none := by
  simpa [Addr.add] using World.cell?_spot h
/-- No slice in it is greater than may be reached. -/
def Small (t : TypeId) (d : DataW H) : Prop := ∀ n ∈ d.weights Tryd.prog t, n ≤ reachBytes
theorem Small.slice {t e : TypeId} {elems sp : List (DataW H)} (h : Small t (.slice elems sp)) (ht : Tryd.prog.underlying t = some (.slice e)) : elems.length * Tryd.prog.bytesOf e ≤ 140737488351232 ∧ ∀ d ∈ elems, Small e d := by
  have hall : ∀ (l : List (DataW H)) d, d ∈ l → ∀ n ∈ d.weights Tryd.prog e, n ∈ DataW.weightsAll Tryd.prog e l := by
    intro l
    induction l with
    | nil => intro d hd; cases hd
    | cons x l ih =>
      intro d hd n hn
      rw [DataW.weightsAll, List.mem_append]
      rcases List.mem_cons.1 hd with rfl | hd
      · exact .inl hn
      · exact .inr (ih d hd n hn)
  refine ⟨?_, fun d hd n hn => ?_⟩
  · have := h ((elems.length + sp.length) * Tryd.prog.bytesOf e) (by simp [DataW.weights, ht])
    have h2 : elems.length * Tryd.prog.bytesOf e ≤ (elems.length + sp.length) * Tryd.prog.bytesOf e := Nat.mul_le_mul_right _ (by omega)
    unfold reachBytes at this
    omega
  · refine h n ?_
    simp only [DataW.weights, ht]
    exact List.mem_cons_of_mem _ (List.mem_append_left _ (hall elems d hd n hn))
theorem Small.field {t : TypeId} {fs : Array Field} {parts : List (DataW H)} (h : Small t (.agg parts)) (ht : Tryd.prog.underlying t = some (.struct fs)) {j : Nat} {f : Field} {d : DataW H} (hf : fs[j]? = some f) (hd : parts[j]? = some d) : Small f.type d := by
  intro n hn
  refine h n ?_
  simp only [DataW.weights, ht]
  exact DataW.weights_mem_each (by rw [List.getElem?_map]; simp [hf]) hd n hn
theorem add_flat (b o j : Nat) : (⟨b, o, none⟩ : Addr).add j = ⟨b, o + j, none⟩ := by
  unfold Addr.add
  split
  · rename_i h; subst h; rfl
  · rfl

theorem bytes_open {fuel : Nat} {v : Value} {x : DataW H × List MemPlace} (h : DataW.trod enc Tryd.prog w base spare held fuel 33 [v] = some x) (hs : Small 33 x.1) : ∃ d, BytesAt w w.heap.size v d := by
  rcases open_ints Tryd.underlying33 Tryd.underlying5 (by kernel_rfl) h with ⟨hcs, _⟩ | ⟨a, len, cap, zs, hcs, _, hl, hm, hz, hx, hc, hwf⟩
  · obtain rfl : v = .slice none 0 0 := by injection hcs
    exact ⟨[], BytesAt.nil _ _ _ _⟩
  · obtain rfl : v = .slice (some a) len cap := by injection hcs
    have hsl : len ≤ 140737488355328 := by
      rw [hx] at hs
      have := (Small.slice hs Tryd.underlying33).1
      have hb1 : Tryd.prog.bytesOf 5 = 1 := by kernel_rfl
      rw [hb1] at this
      have hz2 : len ≤ zs.length := by rw [hz]; split <;> omega
      simp [lits] at this
      omega
    have hzl : len ≤ zs.length := by rw [hz]; split <;> omega
    refine ⟨(zs.take len).map fun z => UInt8.ofNat z.toNat, some a, cap, by simp; omega, ⟨by simp; omega, by simp; omega⟩, fun hn => ?_⟩
    have h0 : 0 < len := by
      rcases Nat.eq_zero_or_pos len with h | h
      · subst h; simp at hn
      · exact h
    have hsp := spot_none (hc 0 (by omega))
    obtain ⟨b, o, s⟩ := a
    obtain rfl : s = none := hsp
    refine ⟨b, o, rfl, ?_, fun i y hy => ?_⟩
    · have := hc 0 (by omega)
      exact World.block_lt_of_cell? w _ this
    · rw [List.getElem?_map, Option.map_eq_some_iff] at hy
      obtain ⟨z, hz1, rfl⟩ := hy
      have hi : i < len := by have := (List.getElem?_eq_some_iff.1 hz1).1; simp at this; omega
      rw [List.getElem?_take_of_lt hi] at hz1
      have hcell := hc i (by omega)
      rw [add_flat] at hcell
      have hzd : zs.getD i 0 = z := by rw [List.getD_eq_getElem?_getD, hz1]; rfl
      rw [hzd] at hcell
      rw [hcell]
      have hw := hwf z (List.mem_of_getElem? hz1)
      have hb : 0 ≤ z ∧ z ≤ 255 := by
        simp [Lit.wf] at hw
        have h1 : IntKind.u8.min = 0 := by decide
        have h2 : IntKind.u8.max = 255 := by decide
        omega
      congr 2
      have : (UInt8.ofNat z.toNat).toNat = z.toNat := by
        rw [UInt8.toNat_ofNat']
        omega
      omega

theorem list3 {α : Type} : ∀ {l : List α}, l.length = 3 → ∃ a b c, l = [a, b, c]
  | [a, b, c], _ => ⟨a, b, c, rfl⟩
theorem list5 {α : Type} : ∀ {l : List α}, l.length = 5 → ∃ a b c d e, l = [a, b, c, d, e]
  | [a, b, c, d, e], _ => ⟨a, b, c, d, e, rfl⟩
theorem list7 {α : Type} : ∀ {l : List α}, l.length = 7 → ∃ a b c d e f g, l = [a, b, c, d, e, f, g]
  | [a, b, c, d, e, f, g], _ => ⟨a, b, c, d, e, f, g, rfl⟩

set_option maxRecDepth 100000 in
theorem entry_open {fuel : Nat} {cs : List Value} {x : DataW H × List MemPlace} (h : DataW.trod enc Tryd.prog w base spare held fuel 35 cs = some x) (hs : Small 35 x.1) :
    ∃ (nm : Str) (k m : Int) (lk d : Str) (dv : Value), cs = [.string (bs nm), .int .i64 k, .int .i64 m, .string (bs lk), dv] ∧ BytesAt w w.heap.size dv d := by
  obtain ⟨xs, n, _, hx, hcl, hxl, hf⟩ := DataW.trod_struct Tryd.underlying35 h
  have hcl5 : cs.length = 5 := hcl.trans (by kernel_rfl)
  obtain ⟨v0, v1, v2, v3, v4, rfl⟩ := list5 hcl5
  obtain ⟨y0, y1, y2, y3, y4, rfl⟩ := list5 (show xs.length = 5 from hxl)
  have e0 := hf 0 _ rfl
  have e1 := hf 1 _ rfl
  have e2 := hf 2 _ rfl
  have e3 := hf 3 _ rfl
  have e4 := hf 4 _ rfl
  simp only [List.getElem?_cons_zero, List.getElem?_cons_succ] at e0 e1 e2 e3 e4
  obtain ⟨s0, h0, _, _⟩ := DataW.trod_string Tryd.underlying9 e0
  obtain ⟨n1, h1, _, _⟩ := DataW.trod_int Tryd.underlying32 e1
  obtain ⟨n2, h2, _, _⟩ := DataW.trod_int Tryd.underlying3 e2
  obtain ⟨s3, h3, _, _⟩ := DataW.trod_string Tryd.underlying9 e3
  rw [hx] at hs
  obtain ⟨d, hd⟩ := bytes_open e4 (Small.field (j := 4) hs Tryd.underlying35 rfl rfl)
  obtain rfl : v0 = .string s0 := by injection h0
  obtain rfl : v1 = .int .i64 n1 := by injection h1
  obtain rfl : v2 = .int .i64 n2 := by injection h2
  obtain rfl : v3 = .string s3 := by injection h3
  exact ⟨s0.data.toList, n1, n2, s3.data.toList, d, v4, by rw [bs_of, bs_of], hd⟩

set_option maxRecDepth 100000 in
theorem change_open {fuel : Nat} {cs : List Value} {x : DataW H × List MemPlace} (h : DataW.trod enc Tryd.prog w base spare held fuel 37 cs = some x) (hs : Small 37 x.1) :
    ∃ (c : Ch) (dv : Value), cs = [.int .i64 c.kind, .string (bs c.path), .string (bs c.name), .int .i64 c.nkind, .int .i64 c.mode, .string (bs c.link), dv] ∧ BytesAt w w.heap.size dv c.data := by
  obtain ⟨xs, n, _, hx, hcl, hxl, hf⟩ := DataW.trod_struct Tryd.underlying37 h
  have hcl7 : cs.length = 7 := hcl.trans (by kernel_rfl)
  obtain ⟨v0, v1, v2, v3, v4, v5, v6, rfl⟩ := list7 hcl7
  obtain ⟨y0, y1, y2, rfl⟩ := list3 (show xs.length = 3 from hxl)
  have e0 := hf 0 _ rfl
  have e1 := hf 1 _ rfl
  have e2 := hf 2 _ rfl
  simp only [List.getElem?_cons_zero, List.getElem?_cons_succ] at e0 e1 e2
  obtain ⟨n0, h0, _, _⟩ := DataW.trod_int Tryd.underlying31 e0
  obtain ⟨s1, h1, _, _⟩ := DataW.trod_string Tryd.underlying9 e1
  rw [hx] at hs
  obtain ⟨nm, k, m, lk, d, dv, h2, hd⟩ := entry_open e2 (Small.field (j := 2) hs Tryd.underlying37 rfl rfl)
  obtain rfl : v0 = .int .i64 n0 := by injection h0
  obtain rfl : v1 = .string s1 := by injection h1
  injection h2 with g2 h2
  injection h2 with g3 h2
  injection h2 with g4 h2
  injection h2 with g5 h2
  injection h2 with g6 h2
  subst g2 g3 g4 g5 g6
  exact ⟨⟨n0, s1.data.toList, nm, k, m, lk, d⟩, _, by rw [bs_of], hd⟩

/-- Out of facts on each place: a list. -/
theorem list_of {α : Type} [Inhabited α] {p : Nat → α → Prop} (n : Nat) (h : ∀ i, i < n → ∃ a, p i a) : ∃ l : List α, l.length = n ∧ ∀ i a, l[i]? = some a → p i a := by
  induction n with
  | zero => exact ⟨[], rfl, fun i a h => by simp at h⟩
  | succ n ih =>
    obtain ⟨l, hl, hp⟩ := ih fun i hi => h i (by omega)
    obtain ⟨a, ha⟩ := h n (by omega)
    refine ⟨l ++ [a], by simp [hl], fun i b hb => ?_⟩
    by_cases hi : i < l.length
    · rw [List.getElem?_append_left hi] at hb
      exact hp i b hb
    · have hie : i = n := by
        have := (List.getElem?_eq_some_iff.1 hb).1
        simp at this; omega
      subst hie
      rw [List.getElem?_append_right (by omega), hl] at hb
      simp at hb
      subst hb
      exact ha
instance : Inhabited Ch := ⟨⟨0, [], [], 0, 0, [], []⟩⟩

theorem changes_open {fuel : Nat} {v : Value} {x : DataW H × List MemPlace} (h : DataW.trod enc Tryd.prog w base spare held fuel 22 [v] = some x) (hs : Small 22 x.1) : ∃ cs, ChsAt w w.heap.size v cs := by
  rcases open_slice Tryd.underlying22 h with ⟨hcs, _⟩ | ⟨a, len, cap, m, n, D, Pl, hcs, _, hl, hm, hmm, hx, hi⟩
  · obtain rfl : v = .slice none 0 0 := by injection hcs
    exact ⟨[], none, 0, rfl, ⟨Nat.le_refl _, by simp⟩, fun h => absurd rfl h⟩
  · obtain rfl : v = .slice (some a) len cap := by injection hcs
    have hC : Tryd.prog.cellsOf 37 = 7 := by kernel_rfl
    have hlm : len ≤ m := by rw [hmm]; split <;> omega
    rw [hx] at hs
    obtain ⟨hsz, hsm⟩ := Small.slice hs Tryd.underlying22
    have hB : Tryd.prog.bytesOf 37 = 96 := by kernel_rfl
    rw [hB] at hsz
    simp only [List.length_map, List.length_range] at hsz
    have hcells : ∀ i, i < len → ∃ c : Ch, ∃ dv, BytesAt w w.heap.size dv c.data ∧ ∀ j u, [Value.int .i64 c.kind, .string (bs c.path), .string (bs c.name), .int .i64 c.nkind, .int .i64 c.mode, .string (bs c.link), dv][j]? = some u → w.cell? (a.add (i * 7 + j)) = some u := by
      intro i hil
      obtain ⟨cs', hc, ht⟩ := hi i (by omega)
      rw [hC] at hc
      obtain ⟨_, _, hat⟩ := World.cells?_some hc
      obtain ⟨c, dv, rfl, hd⟩ := change_open ht (hsm (D i) (List.mem_map.2 ⟨i, List.mem_range.2 hil, rfl⟩))
      refine ⟨c, dv, hd, fun j u hj => ?_⟩
      have hj7 : j < 7 := (List.getElem?_eq_some_iff.1 hj).1
      rw [← Go.Deep.add_add, hat j hj7, hj]
    obtain ⟨cs, hcl, hcp⟩ := list_of len hcells
    refine ⟨cs, some a, cap, by rw [hcl], by rw [hcl]; omega, fun hn => ?_⟩
    have h0 : 0 < len := by
      rw [← hcl]
      exact List.length_pos_iff.2 hn
    obtain ⟨c0, dv0, _, hc0⟩ := hcells 0 h0
    have hcell0 := hc0 0 _ rfl
    have hsp := spot_none (w := w) hcell0
    obtain ⟨b, o, s⟩ := a
    obtain rfl : s = none := hsp
    refine ⟨b, o, rfl, World.block_lt_of_cell? w _ (by rw [add_flat] at hcell0; exact hcell0), fun i c hci => ?_⟩
    obtain ⟨dv, hd, hc⟩ := hcp i c hci
    simp only [add_flat, ← Nat.add_assoc] at hc
    exact ⟨dv, hd, hc 0 _ rfl, hc 1 _ rfl, hc 2 _ rfl, hc 3 _ rfl, hc 4 _ rfl, hc 5 _ rfl, hc 6 _ rfl⟩

theorem layers_open {fuel : Nat} {v : Value} {x : DataW H × List MemPlace} (h : DataW.trod enc Tryd.prog w base spare held fuel 45 [v] = some x) (hs : Small 45 x.1) : ∃ ls, LaysAt w w.heap.size v ls := by
  rcases open_slice Tryd.underlying45 h with ⟨hcs, _⟩ | ⟨a, len, cap, m, n, D, Pl, hcs, _, hl, hm, hmm, hx, hi⟩
  · obtain rfl : v = .slice none 0 0 := by injection hcs
    exact ⟨[], none, 0, rfl, ⟨Nat.le_refl _, by simp⟩, fun h => absurd rfl h⟩
  · obtain rfl : v = .slice (some a) len cap := by injection hcs
    have hC : Tryd.prog.cellsOf 22 = 1 := by kernel_rfl
    have hlm : len ≤ m := by rw [hmm]; split <;> omega
    rw [hx] at hs
    obtain ⟨hsz, hsm⟩ := Small.slice hs Tryd.underlying45
    have hB : Tryd.prog.bytesOf 22 = 24 := by kernel_rfl
    rw [hB] at hsz
    simp only [List.length_map, List.length_range] at hsz
    have hcells : ∀ i, i < len → ∃ cs : List Ch, ∃ lv, ChsAt w w.heap.size lv cs ∧ w.cell? (a.add i) = some lv := by
      intro i hil
      obtain ⟨cs', hc, ht⟩ := hi i (by omega)
      rw [hC, Nat.mul_one] at hc
      obtain ⟨_, hl1, hat⟩ := World.cells?_some hc
      match cs', hl1 with
      | [lv], _ =>
        obtain ⟨cs, hcs⟩ := changes_open ht (hsm (D i) (List.mem_map.2 ⟨i, List.mem_range.2 hil, rfl⟩))
        refine ⟨cs, lv, hcs, ?_⟩
        have := hat 0 (by omega)
        rw [Go.Deep.add_add] at this
        simpa using this
    obtain ⟨ls, hcl, hcp⟩ := list_of len hcells
    refine ⟨ls, some a, cap, by rw [hcl], by rw [hcl]; omega, fun hn => ?_⟩
    have h0 : 0 < len := by
      rw [← hcl]
      exact List.length_pos_iff.2 hn
    obtain ⟨_, lv0, _, hcell0⟩ := hcells 0 h0
    have hsp := spot_none (w := w) hcell0
    obtain ⟨b, o, s⟩ := a
    obtain rfl : s = none := hsp
    refine ⟨b, o, rfl, World.block_lt_of_cell? w _ (by rw [add_flat] at hcell0; exact hcell0), fun i cs hci => ?_⟩
    obtain ⟨lv, hch, hc⟩ := hcp i cs hci
    rw [add_flat] at hc
    exact ⟨lv, hch, hc⟩
end
end Go.Proofs.YtjolgckkoidhgaaDoor
