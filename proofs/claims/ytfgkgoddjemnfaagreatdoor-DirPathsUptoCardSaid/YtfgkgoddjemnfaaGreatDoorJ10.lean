/-
  Both stores side by side, with rows of one's own aside that stay: the calls of dir in these words.
  The walk over the law DirOrder: it answers true of all names.
  Arguments opened: slices of texts, of deeds.
  The walk over the law DirNone: it answers true of every number and text.
-/
import Derived.Test.YtfgkgoddjemnfaaGreatDoorJ9
import Derived.Deep.Cut
import Derived.Deep.CutBlock
import Derived.Laws.Cover1
import Derived.ProofKit
import Derived.Deep.Slices
set_option linter.unusedVariables false
set_option linter.unusedSimpArgs false
set_option linter.deprecated false
namespace Go.Proofs.YtfgkgoddjemnfaaGreatDoor
open Go.RowKit Go.Shelf Pa
attribute [local go_sem] bs_toList bs_size

/-- As Pair; the blocks of Z are no part of either store. -/
def PairZ (B : Nat) (w : World) (s r : Nat) (T U K : RS) (N : Nat) (Z : Nat → Prop) : Prop := ∃ R Q, StI w s T R N ∧ RefI w r U K Q ∧ (∀ k, R.has k → ¬ Q.has k) ∧ (∀ k, R.has k → B ≤ k) ∧ (∀ k, Q.has k → B ≤ k) ∧ B ≤ w.heap.size ∧ ∀ k, Z k → ¬ R.has k ∧ ¬ Q.has k ∧ k < w.heap.size
/-- What stays: all below B, and the blocks of Z. -/
structure KeptZ (B : Nat) (Z : Nat → Prop) (w w' : World) : Prop where
  below : Below B w w'
  z : ∀ k, Z k → w'.heap[k]? = w.heap[k]?
theorem KeptZ.refl (B : Nat) (Z : Nat → Prop) (w : World) : KeptZ B Z w w := ⟨Below.refl _ _, fun _ _ => rfl⟩
theorem KeptZ.trans {B : Nat} {Z : Nat → Prop} {a b c : World} (h : KeptZ B Z a b) (k : KeptZ B Z b c) : KeptZ B Z a c := ⟨h.below.trans k.below, fun j hj => (k.z j hj).trans (h.z j hj)⟩
theorem Pair.z {B : Nat} {w : World} {s r : Nat} {T U K : RS} {N : Nat} (h : Pair B w s r T U K N) : PairZ B w s r T U K N (fun _ => False) := by
  obtain ⟨R, Q, h1, h2, h3, h4, h5, h6⟩ := h
  exact ⟨R, Q, h1, h2, h3, h4, h5, h6, fun _ e => e.elim⟩
theorem PairZ.pair {B : Nat} {w : World} {s r : Nat} {T U K : RS} {N : Nat} {Z : Nat → Prop} (h : PairZ B w s r T U K N Z) : Pair B w s r T U K N := by
  obtain ⟨R, Q, h1, h2, h3, h4, h5, h6, _⟩ := h
  exact ⟨R, Q, h1, h2, h3, h4, h5, h6⟩
theorem PairZ.left {B : Nat} {w : World} {s r : Nat} {T U K : RS} {N : Nat} {Z : Nat → Prop} (h : PairZ B w s r T U K N Z) : ∃ R, StI w s T R N ∧ ∀ w' R' T' N', StI w' s T' R' N' → R.To R' w.heap.size → Off R.m w w' → ∀ Z' : Nat → Prop, (∀ k, Z' k → Z k ∨ (¬ R'.has k ∧ w.heap.size ≤ k ∧ k < w'.heap.size)) → PairZ B w' s r T' U K N' Z' ∧ KeptZ B Z w w' := by
  obtain ⟨R, Q, h1, h2, hd, hR, hQ, hB, hZ⟩ := h
  refine ⟨R, h1, fun w' R' T' N' g t o Z' hZ' => ⟨⟨R', Q, g, h2.off o (fun k hk e => hd k (.inl e) hk), fun k hk e => ?_, fun k hk => ?_, hQ, Nat.le_trans hB o.size, fun k hk => ?_⟩, o.below hB (fun k hk => hR k (.inl hk)), fun k hk => ?_⟩⟩
  · rcases t.has hk with hk | hk
    · exact hd k hk e
    · have := h2.lt k e; omega
  · rcases t.has hk with hk | hk
    · exact hR k hk
    · omega
  · rcases hZ' k hk with hk | ⟨a, b, c⟩
    · obtain ⟨a, b, c⟩ := hZ k hk
      exact ⟨t.free a c, b, Nat.lt_of_lt_of_le c o.size⟩
    · exact ⟨a, fun e => by have := h2.lt k e; omega, c⟩
  · obtain ⟨a, b, c⟩ := hZ k hk
    exact o.block k c (fun e => a (.inl e))
theorem PairZ.step {B : Nat} {w : World} {s r : Nat} {T U K : RS} {N : Nat} {Z : Nat → Prop} (h : PairZ B w s r T U K N Z) : ∃ R, StI w s T R N ∧ ∀ w' T' N', StStep w s T' R N' w' → PairZ B w' s r T' U K N' Z ∧ KeptZ B Z w w' := by
  obtain ⟨R, g, hl⟩ := h.left
  exact ⟨R, g, fun w' T' N' ⟨R', g', t, o⟩ => hl w' R' T' N' g' t o Z (fun k hk => .inl hk)⟩
theorem PairZ.right {B : Nat} {w : World} {s r : Nat} {T U K : RS} {N : Nat} {Z : Nat → Prop} (h : PairZ B w s r T U K N Z) : ∃ Q, RefI w r U K Q ∧ ∀ w' U' K', RefStep w r U' K' Q w' → PairZ B w' s r T U' K' N Z ∧ KeptZ B Z w w' := by
  obtain ⟨R, Q, h1, h2, hd, hR, hQ, hB, hZ⟩ := h
  refine ⟨Q, h2, fun w' U' K' ⟨Q', g, t, o⟩ => ⟨⟨R, Q', h1.off o (fun k hk e => hd k hk (.inl e)), g, fun k hk e => ?_, hR, fun k hk => ?_, Nat.le_trans hB o.size, fun k hk => ?_⟩, o.below hB (fun k hk => hQ k (.inl hk)), fun k hk => ?_⟩⟩
  · rcases t.has e with e | e
    · exact hd k hk e
    · have := h1.lt k hk; omega
  · rcases t.has hk with hk | hk
    · exact hQ k hk
    · omega
  · obtain ⟨a, b, c⟩ := hZ k hk
    exact ⟨a, t.free b c, Nat.lt_of_lt_of_le c o.size⟩
  · obtain ⟨a, b, c⟩ := hZ k hk
    exact o.block k c (fun e => b (.inl e))
theorem PairZ.below {B : Nat} {w w' : World} {s r : Nat} {T U K : RS} {N : Nat} {Z : Nat → Prop} (h : PairZ B w s r T U K N Z) (hb : Below w.heap.size w w') : PairZ B w' s r T U K N Z ∧ KeptZ B Z w w' := by
  obtain ⟨R, Q, h1, h2, hd, hR, hQ, hB, hZ⟩ := h
  exact ⟨⟨R, Q, h1.below hb, h2.below hb, hd, hR, hQ, Nat.le_trans hB hb.size, fun k hk => ⟨(hZ k hk).1, (hZ k hk).2.1, Nat.lt_of_lt_of_le (hZ k hk).2.2 hb.size⟩⟩, hb.mono hB, fun k hk => hb.block k (hZ k hk).2.2⟩
theorem row_kept {w w' : World} {B k n : Nat} {e : TypeId} {v : Value} {xs : List Value} {Z : Nat → Prop} (h : w.ownsRow B e k v n xs) (hz : ∀ k, Z k → w'.heap[k]? = w.heap[k]?) (hm : ∀ k, v.ownBlock = some k → Z k) : w'.ownsRow B e k v n xs := by
  obtain ⟨h1, h⟩ := id h
  refine ⟨h1, ?_⟩
  rcases h with hn | ⟨g, cap, cur, rfl, hB, hg, hr⟩
  · exact .inl hn
  · exact .inr ⟨g, cap, cur, rfl, hB, (hz g (hm g rfl)).trans hg, hr⟩

theorem paddZ_any (B s r N L : Nat) (d i : Int) (nm : Str) (T U K : RS) (u : Nat → List Ent) (Z : Nat → Prop) (w : World) (h : PairZ B w s r T U K N Z) (hd : DirU T u L) (hL : L ≤ 60) :
    Calls Tryz.prog 13 #[.pointer (some ⟨s, 0, none⟩), .int .i64 d, .string (bs nm), .int .i64 i] w fun e w' => e = .returned (.int .i64 (addE T d nm i : Nat)) ∧ PairZ B w' s r (addT T d nm i) U K N Z ∧ KeptZ B Z w w' := by
  obtain ⟨R, g, hl⟩ := h.step
  obtain ⟨C, hr, ht⟩ := g.rel
  refine (dadd_any s N d i nm T (addT T d nm i) R w g ?_).mono ?_
  · by_cases he : addE T d nm i = 0
    · rw [if_pos he]
      exact (hd.add hr ht hL he).1
    · rw [if_neg he]; unfold addT; rw [if_neg he]
  · rintro e w' ⟨rfl, hst⟩
    exact ⟨rfl, hl w' _ _ hst⟩
theorem PairZ.dir {B s r N L : Nat} {d i : Int} {nm : Str} {T U K : RS} {u : Nat → List Ent} {Z : Nat → Prop} {w : World} (h : PairZ B w s r T U K N Z) (hd : DirU T u L) (hL : L ≤ 60) : DirU (addT T d nm i) (addU T u d nm i) (L + 1) := h.pair.dir hd hL
theorem plistZ_any (B s r N : Nat) (d : Int) (T U K : RS) (Z : Nat → Prop) (w : World) (h : PairZ B w s r T U K N Z) :
    Calls Tryz.prog 14 #[.pointer (some ⟨s, 0, none⟩), .int .i64 d] w fun e w' => ∃ v, e = .returned (.tuple #[v, .int .i64 (lookE T d)]) ∧ OwnS w' w.heap.size v (listP (lookB T d)) ∧ PairZ B w' s r T U K N (fun k => Z k ∨ v.ownBlock = some k) ∧ KeptZ B Z w w' := by
  obtain ⟨R, g, hl⟩ := h.left
  refine (dlist_any s N d T R w g).mono ?_
  rintro e w' ⟨v, rfl, ho, R', g', t', o', hn⟩
  refine ⟨v, rfl, ho, hl w' R' T N g' t' o' _ fun k hk => ?_⟩
  rcases hk with hk | hk
  · exact .inl hk
  · exact .inr ⟨hn k hk, World.ownsRow.lt ho k hk⟩
theorem pfindZ_any (B s r N : Nat) (d : Int) (nm : Str) (T U K : RS) (Z : Nat → Prop) (w : World) (h : PairZ B w s r T U K N Z) :
    Calls Tryz.prog 16 #[.pointer (some ⟨s, 0, none⟩), .int .i64 d, .string (bs nm)] w fun e w' => e = .returned (.tuple #[.int .i64 (findR T d nm).1.i, .int .i64 (findR T d nm).2.2]) ∧ PairZ B w' s r T U K N Z ∧ KeptZ B Z w w' := by
  obtain ⟨R, g, hl⟩ := h.step
  refine (dfind_any s N d nm T R w g).mono ?_
  rintro e w' ⟨rfl, hst⟩
  exact ⟨rfl, hl w' _ _ hst⟩
theorem pemptyZ_any (B s r N : Nat) (d : Int) (T U K : RS) (Z : Nat → Prop) (w : World) (h : PairZ B w s r T U K N Z) :
    Calls Tryz.prog 18 #[.pointer (some ⟨s, 0, none⟩), .int .i64 d] w fun e w' => e = .returned (.tuple #[.bool (decide (lookE T d = 0) && (listP (lookB T d)).isEmpty), .int .i64 (lookE T d)]) ∧ PairZ B w' s r T U K N Z ∧ KeptZ B Z w w' := by
  obtain ⟨R, g, hl⟩ := h.step
  refine (dempty_any s N d T R w g).mono ?_
  rintro e w' ⟨rfl, hst⟩
  exact ⟨rfl, hl w' _ _ hst⟩
theorem pdropZ_any (B s r N L : Nat) (d : Int) (nm : Str) (T U K : RS) (u : Nat → List Ent) (Z : Nat → Prop) (w : World) (h : PairZ B w s r T U K N Z) (hd : DirU T u L) (hL : L ≤ 60) :
    Calls Tryz.prog 17 #[.pointer (some ⟨s, 0, none⟩), .int .i64 d, .string (bs nm)] w fun e w' => e = .returned (.tuple #[.int .i64 (if (findR T d nm).2.2 = 0 then (findR T d nm).1.i else 0 : Nat), .int .i64 (findR T d nm).2.2]) ∧ PairZ B w' s r (drpT T d nm) U K N Z ∧ KeptZ B Z w w' := by
  obtain ⟨R, g, hl⟩ := h.step
  obtain ⟨C, hr, ht⟩ := g.rel
  refine (ddrop_any s N d nm T (drpT T d nm) R w g ?_).mono ?_
  · by_cases he : (findR T d nm).2.2 = 0
    · rw [if_pos he]
      exact (hd.drop hr ht hL he).1
    · rw [if_neg he]; unfold drpT; rw [if_neg he]
  · rintro e w' ⟨rfl, hst⟩
    exact ⟨rfl, hl w' _ _ hst⟩
/-- What Drop leaves of the entries. -/
def drpU (T : RS) (u : Nat → List Ent) (d : Int) (nm : Str) : Nat → List Ent := if (findR T d nm).2.2 = 0 then fun j => if j = d.toNat then (u j).erase (nm, (findR T d nm).1.i) else u j else u
theorem PairZ.dirDrop {B s r N L : Nat} {d : Int} {nm : Str} {T U K : RS} {u : Nat → List Ent} {Z : Nat → Prop} {w : World} (h : PairZ B w s r T U K N Z) (hd : DirU T u L) (hL : L ≤ 60) : DirU (drpT T d nm) (drpU T u d nm) L ∧ ((findR T d nm).2.2 = 0 → (nm, (findR T d nm).1.i) ∈ u d.toNat) := by
  obtain ⟨R, g, _⟩ := h.step
  obtain ⟨C, hr, ht⟩ := g.rel
  unfold drpU
  by_cases he : (findR T d nm).2.2 = 0
  · rw [if_pos he]
    obtain ⟨_, a, b⟩ := hd.drop hr ht hL he
    exact ⟨a, fun _ => b⟩
  · rw [if_neg he]
    unfold drpT
    rw [if_neg he]
    exact ⟨hd, fun e => absurd e he⟩
/-- s.Map().Cache().Commit(). -/
theorem pcommitZ_any (B s r N : Nat) (T U K : RS) (Z : Nat → Prop) (w : World) (h : PairZ B w s r T U K N Z) (hN : N + 1000 < 1000000000) : ∃ m c,
    Calls Tryz.prog 21 #[.pointer (some ⟨s, 0, none⟩)] w (fun e w' => e = .returned (.pointer (some ⟨m, 0, none⟩)) ∧ w = w') ∧
    Calls Tryz.prog 22 #[.pointer (some ⟨m, 0, none⟩)] w (fun e w' => e = .returned (.pointer (some ⟨c, 0, none⟩)) ∧ w = w') ∧
    Calls Tryz.prog 23 #[.pointer (some ⟨c, 0, none⟩)] w fun e w' => e = .returned (.int .i64 0) ∧ PairZ B w' s r T U K (N + 206) Z ∧ KeptZ B Z w w' := by
  obtain ⟨R, g, hl⟩ := h.step
  obtain ⟨m, c, h1, h2, h3⟩ := scommit_any s N T R w g hN
  refine ⟨m, c, h1, h2, h3.mono ?_⟩
  rintro e w' ⟨rfl, hst⟩
  exact ⟨rfl, hl w' _ _ hst⟩

/-- Membership behind an Add of inode 5. -/
theorem addU_mem {T : RS} {u : Nat → List Ent} {L : Nat} (h : DirU T u L) {d : Int} (hd : d = 1 ∨ d = 3) (nm : Str) {i : Int} (hi : 1 ≤ i ∧ i < 512) : (∀ x, x ∈ (addU T u d nm i d.toNat).map (·.1) ↔ x ∈ (u d.toNat).map (·.1) ∨ (x = nm ∧ nameOk nm = true)) ∧ ∀ j, j ≠ d.toNat → addU T u d nm i j = u j := by
  have h0 : lookE T d = 0 := (h.look0 d).2 hd
  have ha := h.addE d i nm
  rw [if_neg (fun e => e h0), if_neg (show ¬ (i < 1 ∨ 512 ≤ i) by omega)] at ha
  unfold addU
  by_cases h1 : nameOk nm = false
  · rw [if_pos h1] at ha
    rw [if_neg (by rw [ha]; decide)]
    exact ⟨fun x => ⟨.inl, fun h => h.elim id fun h => by rw [h1] at h; cases h.2⟩, fun _ _ => rfl⟩
  · rw [if_neg h1] at ha
    have h1 : nameOk nm = true := by simpa using h1
    rcases fnd_two (u d.toNat) nm with ⟨i, hm, e⟩ | ⟨hn, e⟩
    · rw [e, if_pos rfl] at ha
      rw [if_neg (by rw [ha]; decide)]
      refine ⟨fun x => ⟨.inl, fun h => h.elim id fun h => ?_⟩, fun _ _ => rfl⟩
      rw [h.1]; exact List.mem_map.2 ⟨_, hm, rfl⟩
    · rw [e, if_neg (by decide)] at ha
      rw [if_pos ha]
      refine ⟨fun x => ?_, fun j hj => if_neg hj⟩
      show x ∈ (if d.toNat = d.toNat then (nm, i.toNat) :: u d.toNat else u d.toNat).map (·.1) ↔ _
      rw [if_pos rfl, List.map_cons, List.mem_cons]
      constructor
      · rintro (h | h)
        · exact .inr ⟨h, h1⟩
        · exact .inl h
      · rintro (h | h)
        · exact .inr h
        · exact .inl h.1

end Go.Proofs.YtfgkgoddjemnfaaGreatDoor

namespace Go.Proofs.YtfgkgoddjemnfaaGreatDoor
open Go.RowKit Go.Shelf Pa
attribute [local go_sem] bs_toList bs_size

/-- Texts that are an argument. -/
def TextsIn (w : World) (v : Value) (ls : List Str) : Prop := StrsAt w w.heap.size v ls ∧ ls.length ≤ 8796093022208

/-- The names of a list of entries are just those that are names among some texts. -/
def NamesOf (u : List Ent) (l : List Str) : Prop := ∀ x, x ∈ u.map (·.1) ↔ x ∈ l ∧ nameOk x = true
theorem NamesOf.nil : NamesOf [] [] := fun x => by simp
theorem NamesOf.snoc {u u' : List Ent} {l : List Str} {nm : Str} (h : NamesOf u l) (hu : ∀ x, x ∈ u'.map (·.1) ↔ x ∈ u.map (·.1) ∨ (x = nm ∧ nameOk nm = true)) : NamesOf u' (l ++ [nm]) := fun x => by
  rw [hu, h x, List.mem_append, List.mem_singleton]
  constructor
  · rintro (⟨a, b⟩ | ⟨a, b⟩)
    · exact ⟨.inl a, b⟩
    · exact ⟨.inr a, by rw [a]; exact b⟩
  · rintro ⟨a | a, b⟩
    · exact .inl ⟨a, b⟩
    · exact .inr ⟨a, by rw [← a]; exact b⟩
theorem NamesOf.cons {u u' : List Ent} {l : List Str} {nm : Str} (h : NamesOf u l) (hu : ∀ x, x ∈ u'.map (·.1) ↔ x ∈ u.map (·.1) ∨ (x = nm ∧ nameOk nm = true)) : NamesOf u' (nm :: l) := fun x => by
  rw [hu, h x, List.mem_cons]
  constructor
  · rintro (⟨a, b⟩ | ⟨a, b⟩)
    · exact ⟨.inr a, b⟩
    · exact ⟨.inl a, by rw [a]; exact b⟩
  · rintro ⟨a | a, b⟩
    · exact .inr ⟨a, by rw [← a]; exact b⟩
    · exact .inl ⟨a, b⟩
theorem namesOf_perm {u v : List Ent} {l : List Str} (h : NamesOf u l) (k : NamesOf v l) (hu : (u.map (·.1)).Nodup) (hv : (v.map (·.1)).Nodup) : (u.map (·.1)).Perm (v.map (·.1)) :=
  (List.perm_ext_iff_of_nodup hu hv).2 fun x => (h x).trans (k x).symm
/-- A sorted list of texts, each once, rises. -/
theorem sorted_rises {l : List Str} (hn : l.Nodup) (k : Nat) (x y : Str) (hx : (l.mergeSort fun x y => decide (x ≤ y))[k]? = some x) (hy : (l.mergeSort fun x y => decide (x ≤ y))[k + 1]? = some y) : Op.bytesLess x y = true := by
  have ht : ∀ x y z : Str, decide (x ≤ y) = true → decide (y ≤ z) = true → decide (x ≤ z) = true := fun x y z h1 h2 => by
    simp only [decide_eq_true_eq] at *; exact List.le_trans h1 h2
  have htot : ∀ x y : Str, (decide (x ≤ y) || decide (y ≤ x)) = true := fun x y => by
    rcases List.le_total x y with h | h <;> simp [h]
  have h1 := List.pairwise_mergeSort ht htot l
  have h2 : (l.mergeSort fun x y => decide (x ≤ y)).Nodup := (List.mergeSort_perm l _).nodup_iff.2 hn
  obtain ⟨a1, a2⟩ := List.getElem?_eq_some_iff.1 hx
  obtain ⟨b1, b2⟩ := List.getElem?_eq_some_iff.1 hy
  have h3 := List.pairwise_iff_getElem.1 h1 k (k + 1) a1 b1 (by omega)
  have h4 := List.pairwise_iff_getElem.1 h2 k (k + 1) a1 b1 (by omega)
  rw [a2, b2] at h3 h4
  simp only [decide_eq_true_eq] at h3
  rcases bless_tri x y with h | h | h
  · exact h
  · exact absurd h h4
  · exact absurd ((bless_lt y x).1 h) (List.not_lt.2 h3)

theorem StrsAt.drewN {w : World} {B : Nat} {v : Value} {l : List Str} (h : StrsAt w B v l) (q : Nat) : StrsAt (w.drewN q) B v l := h
/-- What stands while names are added to 1. -/
def Ord1 (B : Nat) (s r : Nat) (ls : List Str) (k : Nat) (wx : World) : Prop := ∃ T u, PairZ B wx s r T T0 T0 206 (fun _ => False) ∧ DirU T u k ∧ NamesOf (u 1) (ls.take k) ∧ u 3 = []
theorem Ord1.step {B s r k : Nat} {ls : List Str} {nm : Str} {wx : World} (h : Ord1 B s r ls k wx) (hk : k < 30) (hnm : ls[k]? = some nm) : Calls Tryz.prog 13 #[.pointer (some ⟨s, 0, none⟩), .int .i64 1, .string (bs nm), .int .i64 5] wx fun e w' => (∃ v, e = .returned v) ∧ Ord1 B s r ls (k + 1) w' ∧ Below B wx w' := by
  obtain ⟨T, u, h1, h2, h3, h4⟩ := h
  refine (paddZ_any B s r 206 k 1 5 nm T T0 T0 u _ wx h1 h2 (by omega)).mono ?_
  rintro e w' ⟨rfl, hp, hkz⟩
  obtain ⟨m1, m2⟩ := addU_mem h2 (d := 1) (.inl rfl) nm (i := 5) (by omega)
  refine ⟨⟨_, rfl⟩, ⟨_, _, hp, h1.dir h2 (by omega), ?_, ?_⟩, hkz.below⟩
  · rw [List.take_add_one, hnm]
    exact h3.snoc m1
  · rw [m2 3 (by decide)]; exact h4
/-- What stands while names are added to 3, from behind. -/
def Ord3 (B : Nat) (s r : Nat) (ls : List Str) (k : Nat) (wx : World) : Prop := ∃ T u, PairZ B wx s r T T0 T0 206 (fun _ => False) ∧ DirU T u (30 + (30 - min 30 k)) ∧ NamesOf (u 1) (ls.take 30) ∧ NamesOf (u 3) ((ls.take 30).drop k)
theorem Ord3.step {B s r k : Nat} {ls : List Str} {nm : Str} {wx : World} (h : Ord3 B s r ls (k + 1) wx) (hk : k < 30) (hnm : ls[k]? = some nm) : Calls Tryz.prog 13 #[.pointer (some ⟨s, 0, none⟩), .int .i64 3, .string (bs nm), .int .i64 5] wx fun e w' => (∃ v, e = .returned v) ∧ Ord3 B s r ls k w' ∧ Below B wx w' := by
  obtain ⟨T, u, h1, h2, h3, h4⟩ := h
  refine (paddZ_any B s r 206 _ 3 5 nm T T0 T0 u _ wx h1 h2 (by omega)).mono ?_
  rintro e w' ⟨rfl, hp, hkz⟩
  obtain ⟨m1, m2⟩ := addU_mem h2 (d := 3) (.inr rfl) nm (i := 5) (by omega)
  refine ⟨⟨_, rfl⟩, ⟨_, _, hp, (h1.dir h2 (by omega)).more (by omega), ?_, ?_⟩, hkz.below⟩
  · rw [m2 1 (by decide)]; exact h3
  · have hk30 : k < (ls.take 30).length := by
      have := (List.getElem?_eq_some_iff.1 hnm).1
      rw [List.length_take]; omega
    have he : (ls.take 30)[k] = nm := by
      have h1 : (ls.take 30)[k]? = some nm := by rw [List.getElem?_take_of_lt hk]; exact hnm
      exact (List.getElem?_eq_some_iff.1 h1).2
    rw [List.drop_eq_getElem_cons hk30, he]
    exact h4.cons m1
theorem Ord3.far {B s r k : Nat} {ls : List Str} {wx : World} (h : Ord3 B s r ls (k + 1) wx) (hk : 30 ≤ k) : Ord3 B s r ls k wx := by
  obtain ⟨T, u, h1, h2, h3, h4⟩ := h
  refine ⟨T, u, h1, h2.more (by omega), h3, ?_⟩
  rw [List.drop_eq_nil_of_le (by rw [List.length_take]; omega)] at h4 ⊢
  exact h4
theorem Ord1.turn {B s r k : Nat} {ls : List Str} {wx : World} (h : Ord1 B s r ls k wx) (hk : k ≤ 30) (hl : k = 30 ∨ ls.length ≤ k) : Ord3 B s r ls ls.length wx := by
  obtain ⟨T, u, h1, h2, h3, h4⟩ := h
  refine ⟨T, u, h1, h2.more (by omega), ?_, ?_⟩
  · rcases hl with rfl | hl
    · exact h3
    · rw [List.take_of_length_le hl] at h3
      rw [List.take_of_length_le (by omega)]; exact h3
  · rw [h4, List.drop_eq_nil_of_le (by rw [List.length_take]; omega)]
    exact NamesOf.nil
/-- Both lists, at the end. -/
theorem Ord3.lists {B s r : Nat} {ls : List Str} {wx : World} (h : Ord3 B s r ls 0 wx) : ∃ T l, PairZ B wx s r T T0 T0 206 (fun _ => False) ∧ (lookE T 1 = 0 ∧ lookE T 3 = 0) ∧ listP (lookB T 1) = l ∧ listP (lookB T 3) = l ∧ l.length ≤ 60 ∧ ∀ k x y, l[k]? = some x → l[k + 1]? = some y → Op.bytesLess x y = true := by
  obtain ⟨T, u, h1, h2, h3, h4⟩ := h
  rw [List.drop_zero] at h4
  have l1 : lookE T 1 = 0 := (h2.look0 1).2 (.inl rfl)
  have l3 : lookE T 3 = 0 := (h2.look0 3).2 (.inr rfl)
  refine ⟨T, _, h1, ⟨l1, l3⟩, h2.list l1, ?_, ?_, ?_⟩
  · rw [h2.list l3]
    exact sort_perm (namesOf_perm h4 h3 (h2.nodup 3) (h2.nodup 1))
  · rw [List.length_mergeSort, List.length_map]
    have := h2.len 1
    show (u 1).length ≤ 60
    omega
  · exact fun k x y => sorted_rises (h2.nodup 1) k x y

set_option maxRecDepth 100000 in
set_option maxHeartbeats 4000000 in
theorem dirOrder_any (ls : List Str) (v : Value) (w : World) (hm : MaxOk w) (h : TextsIn w v ls) :
    Calls Tryz.prog 3 #[v] w fun e w' => e = .returned (.bool true) ∧ Below w.heap.size w w' := by
  obtain ⟨hs, hn⟩ := h
  obtain ⟨A, c, rfl, hc, hf⟩ := hs
  have HF := Lib.hid hf
  have HM := Lib.hid hm
  clear hf hm
  go_enter Tryz.func3, Tryz.ntmps3
  go_wp2_with fail
  refine (opened_any w).mono ?_
  rintro e w1 ⟨s, r, rfl, hP, hb⟩
  have HP := Lib.hid hP
  have HB := Lib.hid hb
  have hlive := live_any w1 (HM.out.grow HB.out)
  have HLive := Lib.hid hlive
  clear hP hb hlive
  go_wp2_with fail
  refine HLive.out.mono ?_
  rintro e w2 ⟨rfl, hb2⟩
  have h1 : Ord1 w.heap.size s r ls 0 w2 := ⟨T0, fun _ => [], (HP.out.below hb2).z, DirU.zero, by rw [List.take_zero]; exact NamesOf.nil, rfl⟩
  have hbw : Below w.heap.size w w2 := HB.out.trans (hb2.mono HB.out.size)
  have H2 := Lib.hid (⟨h1, hbw⟩ : _ ∧ _)
  clear h1 hbw hb2 HLive HP HB
  go_upto_block 0 with fail
  go_cut [6] (fun s6 wx => Ord3 w.heap.size s r ls ls.length wx ∧ Below w.heap.size w wx)
  case first =>
    go_wp2_with fail
    go_loopg [6] 30 (fun gg i wx => ∃ k : Nat, i = .int .i64 k ∧ gg = 30 - k ∧ k ≤ 30 ∧ k ≤ ls.length ∧ Ord1 w.heap.size s r ls k wx ∧ Below w.heap.size w wx)
    case atStart => exact ⟨0, rfl, rfl, Nat.zero_le _, Nat.zero_le _, H2.out.1, H2.out.2⟩
    case round =>
      obtain ⟨k, rfl, rfl, hk, hkl, hO, hb⟩ := hrel
      by_cases hlt : k < ls.length
      · have hlt' : decide ((k : Int) < (ls.length : Int)) = true := by simp; omega
        by_cases h30 : k < 30
        · have h30' : decide ((k : Int) < 30) = true := by simp; omega
          obtain ⟨b, o, rfl, hbl, hcs⟩ := HF.out (by rintro rfl; simp at hlt)
          have hcell := (hb.cell (p := ⟨b, o + k, none⟩) hbl).trans (hcs k _ (List.getElem?_eq_getElem hlt))
          obtain ⟨nm, hnm⟩ : ∃ nm, nm = ls[k] := ⟨_, rfl⟩
          rw [← hnm] at hcell
          have hst := hO.step h30 (show ls[k]? = some nm by rw [hnm]; exact List.getElem?_eq_getElem hlt)
          have HSt := Lib.hid hst
          have HBw := Lib.hid hb
          clear hst hO hb hcs hnm
          go_wp2_with fail
          refine HSt.out.mono ?_
          rintro e w3 ⟨⟨v3, rfl⟩, hO3, hb3⟩
          have HO := Lib.hid (⟨hO3, HBw.out.trans hb3⟩ : _ ∧ _)
          clear hO3 hb3 HSt HBw
          go_wp2_with fail
          go_roundg (30 - (k + 1))
          case measure => omega
          case rel => exact ⟨k + 1, by go_num, rfl, h30, hlt, HO.out.1, HO.out.2⟩
        · obtain rfl : k = 30 := by omega
          have h30' : decide (((30 : Nat) : Int) < 30) = false := by decide
          have HO := Lib.hid (⟨hO.turn (by omega) (.inl rfl), hb⟩ : _ ∧ _)
          clear hO hb
          go_wp2_with fail
          go_meet
          exact HO.out
      · have hlt' : decide ((k : Int) < (ls.length : Int)) = false := by simp; omega
        have HO := Lib.hid (⟨hO.turn (by omega) (.inr (by omega)), hb⟩ : _ ∧ _)
        clear hO hb
        go_wp2_with fail
        go_meet
        exact HO.out
  case rest =>
    obtain ⟨hO, hb⟩ := hcut
    have H3 := Lib.hid (⟨hO, hb⟩ : _ ∧ _)
    clear hO hb H2
    go_wp2_with fail
    go_loopg [7] (ls.length + 1) (fun gg i wx => ∃ k : Nat, i = .int .i64 ((k : Int) - 1) ∧ gg = k + 1 ∧ k ≤ ls.length ∧ Ord3 w.heap.size s r ls k wx ∧ Below w.heap.size w wx)
    case atStart => exact ⟨ls.length, by go_num, rfl, Nat.le_refl _, H3.out.1, H3.out.2⟩
    case round =>
      obtain ⟨k, rfl, rfl, hkl, hO, hb⟩ := hrel
      cases k with
      | succ k =>
        rw [show ((k + 1 : Nat) : Int) - 1 = (k : Int) from by omega]
        have h0' : decide ((0 : Int) ≤ (k : Int)) = true := by simp
        by_cases h30 : k < 30
        · have h30' : decide ((k : Int) < 30) = true := by simp; omega
          have hlt : k < ls.length := by omega
          obtain ⟨b, o, rfl, hbl, hcs⟩ := HF.out (by rintro rfl; simp at hlt)
          have hcell := (hb.cell (p := ⟨b, o + k, none⟩) hbl).trans (hcs k _ (List.getElem?_eq_getElem hlt))
          obtain ⟨nm, hnm⟩ : ∃ nm, nm = ls[k] := ⟨_, rfl⟩
          rw [← hnm] at hcell
          have hst := hO.step h30 (show ls[k]? = some nm by rw [hnm]; exact List.getElem?_eq_getElem hlt)
          have HSt := Lib.hid hst
          have HBw := Lib.hid hb
          clear hst hO hb hcs hnm
          go_wp2_with fail
          refine HSt.out.mono ?_
          rintro e w3 ⟨⟨v3, rfl⟩, hO3, hb3⟩
          have HO := Lib.hid (⟨hO3, HBw.out.trans hb3⟩ : _ ∧ _)
          clear hO3 hb3 HSt HBw
          go_wp2_with fail
          go_roundg (k + 1)
          case measure => omega
          case rel => exact ⟨k, by go_num, rfl, by omega, HO.out.1, HO.out.2⟩
        · have h30' : decide ((k : Int) < 30) = false := by simp; omega
          have HO := Lib.hid (⟨hO.far (by omega), hb⟩ : _ ∧ _)
          clear hO hb
          go_wp2_with fail
          go_roundg (k + 1)
          case measure => omega
          case rel => exact ⟨k, by go_num, rfl, by omega, HO.out.1, HO.out.2⟩
      | zero =>
        obtain ⟨T, l, hP, ⟨l1, l3⟩, e1, e3, hl60, hrise⟩ := hO.lists
        have hli := plistZ_any w.heap.size s r 206 1 T T0 T0 _ wr hP
        rw [l1, e1] at hli
        have HLi := Lib.hid hli
        have HB := Lib.hid hb
        have HRise := Lib.hid hrise
        have HT := Lib.hid (⟨l3, e3⟩ : _ ∧ _)
        clear hli hP hb hrise l1 l3 e1 e3 hO H3
        go_wp2_with fail
        refine HLi.out.mono ?_
        rintro e w4 ⟨v1, rfl, ho1, hP1, hk1⟩
        have hli := plistZ_any w.heap.size s r 206 3 T T0 T0 _ w4 hP1
        rw [HT.out.1, HT.out.2] at hli
        have HLi3 := Lib.hid hli
        have HO1 := Lib.hid (⟨ho1, hk1⟩ : _ ∧ _)
        clear hli hP1 ho1 hk1 HLi
        go_wp2_with fail
        refine HLi3.out.mono ?_
        rintro e w5 ⟨v2, rfl, ho2, hP2, hk2⟩
        have hs1 : StrsAt w5 w5.heap.size v1 l := OwnS.strs (row_kept HO1.out.1 hk2.z (fun k hk => .inr hk))
        have hs2 : StrsAt w5 w5.heap.size v2 l := ho2.strs
        have hb5 : Below w.heap.size w w5 := (HB.out.trans HO1.out.2.below).trans hk2.below
        have hst := fun q => sameTexts_any l l v1 v2 _ _ (w5.drewN q) (hs1.drewN q) (hs2.drewN q) (by omega)
        obtain ⟨A1, c1, rfl, _, hf1⟩ := hs1
        obtain ⟨A2, c2, rfl, _, _⟩ := hs2
        have HSt := Lib.hid hst
        have HF1 := Lib.hid hf1
        have HB5 := Lib.hid hb5
        clear hst hf1 hb5 hk2 hP2 ho2 HLi3 HO1
        go_wp2_with fail
        go_loopg [12] l.length (fun gg i wx => ∃ k : Nat, i = .int .i64 k ∧ gg = l.length + 1 - k ∧ 1 ≤ k ∧ k ≤ l.length + 1 ∧ ∃ q, wx = w5.drewN q)
        case atStart => exact ⟨1, rfl, rfl, by omega, by omega, 0, rfl⟩
        case round =>
          obtain ⟨k, rfl, rfl, hk1, hk2, q, hq⟩ := hrel
          by_cases hlt : k < l.length
          · obtain ⟨j, hj⟩ : ∃ j, j + 1 = k := ⟨k - 1, by omega⟩
            have hlt' : decide ((k : Int) < (l.length : Int)) = true := by simp; omega
            obtain ⟨b, o, rfl, hbl, hcs⟩ := HF1.out (by rintro rfl; simp at hlt)
            have hjl : j < l.length := by omega
            have hx := List.getElem?_eq_getElem hjl
            have hy := List.getElem?_eq_getElem hlt
            have k1 : wr.cell? ⟨b, o + j, none⟩ = _ := (by rw [hq]; rfl : wr.cell? ⟨b, o + j, none⟩ = w5.cell? ⟨b, o + j, none⟩).trans (hcs j _ hx)
            have k2 : wr.cell? ⟨b, o + k, none⟩ = _ := (by rw [hq]; rfl : wr.cell? ⟨b, o + k, none⟩ = w5.cell? ⟨b, o + k, none⟩).trans (hcs k _ hy)
            have hless := HRise.out j _ _ hx (by rw [hj]; exact hy)
            generalize l[j] = x at k1 hless
            generalize l[k] = y at k2 hless
            have HQ := Lib.hid hq
            have hw2 : IntKind.i64.wrap ((k : Int) - 1) = (j : Int) := by rw [IntWalk.i64_in _ (by omega)]; omega
            have hk60 : k < 60 := by omega
            have HJ := Lib.hid hj
            clear hq hx hy hcs hj
            go_wp2_with fail
            go_quiet (fail)
            go_wp2_with fail
            go_roundg (l.length + 1 - (k + 1))
            case measure => omega
            case rel => exact ⟨k + 1, by go_num, rfl, by omega, by omega, q + nq, by rw [HQ.out]; exact World.drewN_drewN _ _ _⟩
          · have hlt' : decide ((k : Int) < (l.length : Int)) = false := by simp; omega
            subst hq
            go_wp2_with (go_at_call 15; refine (HSt.out q).mono ?_; rintro e w6 ⟨rfl, q2, rfl⟩)
            go_ret
            exact ⟨ret_bool (by simp), below_drewN HB5.out (q + q2)⟩

end Go.Proofs.YtfgkgoddjemnfaaGreatDoor

namespace Go.Proofs.YtfgkgoddjemnfaaGreatDoor
open Go.RowKit Go.Shelf Pa
open Go.ChangeShapes Go.WideShapes Go.Deep

section
variable {H : Type} {enc : TypeId × Value → H} {w : World} {base : Nat} {spare : Nat → Bool} {held : Bool}

theorem spot_none {a : Addr} {v : Value} (h : w.cell? (a.add 0) = some v) : a.spot = none := by
  simpa [Addr.add] using World.cell?_spot h
/-- No slice in it is greater than may be reached. -/
def Small (t : TypeId) (d : DataW H) : Prop := ∀ n ∈ d.weights Tryz.prog t, n ≤ reachBytes
theorem Small.slice {t e : TypeId} {elems sp : List (DataW H)} (h : Small t (.slice elems sp)) (ht : Tryz.prog.underlying t = some (.slice e)) : elems.length * Tryz.prog.bytesOf e ≤ 140737488351232 ∧ ∀ d ∈ elems, Small e d := by
  have hall : ∀ (l : List (DataW H)) d, d ∈ l → ∀ n ∈ d.weights Tryz.prog e, n ∈ DataW.weightsAll Tryz.prog e l := by
    intro l
    induction l with
    | nil => intro d hd; cases hd
    | cons x l ih =>
      intro d hd n hn
      rw [DataW.weightsAll, List.mem_append]
      rcases List.mem_cons.1 hd with rfl | hd
      · exact .inl hn
      · exact .inr (ih d hd n hn)
  refine ⟨?_, fun d hd n hn => ?_⟩
  · have := h ((elems.length + sp.length) * Tryz.prog.bytesOf e) (by simp [DataW.weights, ht])
    have h2 : elems.length * Tryz.prog.bytesOf e ≤ (elems.length + sp.length) * Tryz.prog.bytesOf e := Nat.mul_le_mul_right _ (by omega)
    unfold reachBytes at this
    omega
  · refine h n ?_
    simp only [DataW.weights, ht]
    exact List.mem_cons_of_mem _ (List.mem_append_left _ (hall elems d hd n hn))
theorem Small.field {t : TypeId} {fs : Array Field} {parts : List (DataW H)} (h : Small t (.agg parts)) (ht : Tryz.prog.underlying t = some (.struct fs)) {j : Nat} {f : Field} {d : DataW H} (hf : fs[j]? = some f) (hd : parts[j]? = some d) : Small f.type d := by
  intro n hn
  refine h n ?_
  simp only [DataW.weights, ht]
  exact DataW.weights_mem_each (by rw [List.getElem?_map]; simp [hf]) hd n hn
theorem add_flat (b o j : Nat) : (⟨b, o, none⟩ : Addr).add j = ⟨b, o + j, none⟩ := by
  unfold Addr.add
  split
  · rename_i h; subst h; rfl
  · rfl

theorem list4 {α : Type} : ∀ {l : List α}, l.length = 4 → ∃ a b c d, l = [a, b, c, d]
  | [a, b, c, d], _ => ⟨a, b, c, d, rfl⟩
/-- Out of facts on each place: a list. -/
theorem list_of {α : Type} [Inhabited α] {p : Nat → α → Prop} (n : Nat) (h : ∀ i, i < n → ∃ a, p i a) : ∃ l : List α, l.length = n ∧ ∀ i a, l[i]? = some a → p i a := by
  induction n with
  | zero => exact ⟨[], rfl, fun i a h => by simp at h⟩
  | succ n ih =>
    obtain ⟨l, hl, hp⟩ := ih fun i hi => h i (by omega)
    obtain ⟨a, ha⟩ := h n (by omega)
    refine ⟨l ++ [a], by simp [hl], fun i b hb => ?_⟩
    by_cases hi : i < l.length
    · rw [List.getElem?_append_left hi] at hb
      exact hp i b hb
    · have hie : i = n := by
        have := (List.getElem?_eq_some_iff.1 hb).1
        simp at this; omega
      subst hie
      rw [List.getElem?_append_right (by omega), hl] at hb
      simp at hb
      subst hb
      exact ha

theorem texts_open {fuel : Nat} {v : Value} {x : DataW H × List MemPlace} (h : DataW.trod enc Tryz.prog w base spare held fuel 22 [v] = some x) (hs : Small 22 x.1) : ∃ ls, TextsIn w v ls := by
  rcases open_slice Tryz.underlying22 h with ⟨hcs, _⟩ | ⟨a, len, cap, m, n, D, Pl, hcs, _, hl, hm, hmm, hx, hi⟩
  · obtain rfl : v = .slice none 0 0 := by injection hcs
    exact ⟨[], StrsAt.nil _ _ _ _, by simp⟩
  · obtain rfl : v = .slice (some a) len cap := by injection hcs
    have hC : Tryz.prog.cellsOf 9 = 1 := by kernel_rfl
    have hlm : len ≤ m := by rw [hmm]; split <;> omega
    rw [hx] at hs
    obtain ⟨hsz, hsm⟩ := Small.slice hs Tryz.underlying22
    have hB : Tryz.prog.bytesOf 9 = 16 := by kernel_rfl
    rw [hB] at hsz
    simp only [List.length_map, List.length_range] at hsz
    have hcells : ∀ i, i < len → ∃ s : Str, w.cell? (a.add i) = some (.string (bs s)) := by
      intro i hil
      obtain ⟨cs', hc, ht⟩ := hi i (by omega)
      rw [hC, Nat.mul_one] at hc
      obtain ⟨_, hl1, hat⟩ := World.cells?_some hc
      match cs', hl1 with
      | [lv], _ =>
        obtain ⟨s0, h0, _, _⟩ := DataW.trod_string Tryz.underlying9 ht
        obtain rfl : lv = .string s0 := by injection h0
        refine ⟨s0.data.toList, ?_⟩
        have := hat 0 (by omega)
        rw [Go.Deep.add_add] at this
        rw [bs_of]
        simpa using this
    obtain ⟨ls, hcl, hcp⟩ := list_of len hcells
    refine ⟨ls, ⟨some a, cap, by rw [hcl], by rw [hcl]; omega, fun hn => ?_⟩, by rw [hcl]; omega⟩
    have h0 : 0 < len := by
      rw [← hcl]
      exact List.length_pos_iff.2 hn
    obtain ⟨_, hcell0⟩ := hcells 0 h0
    have hsp := spot_none (w := w) hcell0
    obtain ⟨b, o, s⟩ := a
    obtain rfl : s = none := hsp
    refine ⟨b, o, rfl, World.block_lt_of_cell? w _ (by rw [add_flat] at hcell0; exact hcell0), fun i cs hci => ?_⟩
    have hc := hcp i cs hci
    rw [add_flat] at hc
    exact hc
end
end Go.Proofs.YtfgkgoddjemnfaaGreatDoor

namespace Go.Proofs.YtfgkgoddjemnfaaGreatDoor
open Go.RowKit Go.Shelf Pa
attribute [local go_sem] bs_toList bs_size

set_option maxRecDepth 100000 in
set_option maxHeartbeats 2000000 in
theorem dirNone_any (n : Int) (p : Str) (w : World) (hm : MaxOk w) :
    Calls Tryz.prog 4 #[.int .i64 n, .string (bs p)] w fun e w' => e = .returned (.bool true) ∧ Below w.heap.size w w' := by
  have HM := Lib.hid hm
  clear hm
  go_enter Tryz.func4, Tryz.ntmps4
  go_wp2_with fail
  refine (dfind_nil n p _).mono ?_
  rintro e w1 ⟨rfl, hb1⟩
  have HB1 := Lib.hid hb1
  clear hb1
  go_wp2_with fail
  refine (ddrop_nil n p _).mono ?_
  rintro e w2 ⟨rfl, hb2⟩
  have HB2 := Lib.hid (HB1.out.trans (hb2.mono HB1.out.size))
  clear hb2 HB1
  go_wp2_with fail
  refine (dlist_nil n _).mono ?_
  rintro e w3 ⟨rfl, hb3⟩
  have HB3 := Lib.hid (HB2.out.trans (hb3.mono HB2.out.size))
  clear hb3 HB2
  go_wp2_with fail
  refine (dempty_nil n _).mono ?_
  rintro e w4 ⟨rfl, hb4⟩
  have HB4 := Lib.hid (HB3.out.trans (hb4.mono HB3.out.size))
  have hlive := live_any w4 (HM.out.grow HB4.out)
  have HLive := Lib.hid hlive
  clear hb4 HB3 hlive
  go_wp2_with (first
    | (go_at_call 12; refine HLive.out.mono ?_; rintro e w5 ⟨rfl, hb5⟩; have HB5 := Lib.hid (HB4.out.trans (hb5.mono HB4.out.size)); clear hb5)
    | (go_at_call 13; refine (dadd_nil n n p _).mono ?_; rintro e w6 ⟨rfl, hb6⟩))
  go_ret
  exact ⟨rfl, HB5.out.trans (hb6.mono HB5.out.size)⟩

end Go.Proofs.YtfgkgoddjemnfaaGreatDoor
