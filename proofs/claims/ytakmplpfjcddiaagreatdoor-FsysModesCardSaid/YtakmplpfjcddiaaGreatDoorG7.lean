/-
  The walk over Make of the map: a file system's pages are laid (where there is room).
  Resizing and writing, in plain Lean: what the pages become stands for what the document says.
  A file system that was just made, and the making of an inode, in plain Lean.
  The walk over Resize: a file gets so many bytes (where there is room).
  A store of inodes in memory that stands for what the document says; the contracts of its calls in those words.
  Read at a store that stands for what the document says: the cases in which nothing is read, and all of them.
  The walk over look: a directory's bytes.
  What directories do, in plain Lean: entries as bytes and back, a name's entry, adding and dropping.
  A region that draws its order, whose first operations only read, and whose others wait for all of them: one walk of the order of the text serves (inside a fence
  The walk over the iterator of a directory's entries.
  strings.ContainsAny(s, "/\x00") at every text s, also where its bytes are no valid runes.
-/
import Derived.Test.YtakmplpfjcddiaaGreatDoorG6
import Derived.Sort.QuietThIn
import Derived.TacticsIn
import Derived.Sort.BigQuietIn
import Derived.RangeFuncNested
import Derived.RangeFuncBound
import Derived.RangeFuncCalls
import Derived.RangeFuncLeaves
import Derived.Shelf.Abstract
import Derived.Shelf.RegionOpen
import Derived.WalkKit
import Derived.OwnWalkIn
import Derived.TacticsInMore
import Derived.LoopNIn
import Derived.LoopIn
import Derived.Sort.LoopGhostIn
import Derived.Laws.BytesString
import Derived.Laws.IdiomStrings
import Derived.Lib.MapLaws
import Derived.Lib.DecodeN
import Derived.Laws.RangeAny
import Derived.Deep.QuietTactic
import Derived.BigQuiet
import Derived.WalkSmall
set_option linter.unusedVariables false
set_option linter.unusedSimpArgs false
set_option linter.deprecated false
namespace Go.Proofs.YtakmplpfjcddiaaGreatDoor
open Go.RowKit Go.Shelf Pa Go.Maps
attribute [local go_sem] bs_toList bs_size
/-- A page on which the first bits are set. -/
def onB : Nat → Str
  | 0 => pageZ
  | k + 1 => turnB (onB k) k
theorem onB_length (k : Nat) : (onB k).length = 512 := by
  induction k with
  | zero => exact pageZ_length
  | succ k ih => show (turnB (onB k) k).length = 512; rw [turnB_length]; exact ih
theorem bitAt_pageZ (j : Nat) : bitAt pageZ j = false := by
  unfold bitAt pageZ
  rw [List.getD_eq_getElem?_getD, List.getElem?_replicate]
  split <;> simp
theorem bitAt_onB (k j : Nat) (hk : k ≤ 4096) : bitAt (onB k) j = decide (j < k) := by
  induction k with
  | zero => show bitAt pageZ j = _; rw [bitAt_pageZ]; simp
  | succ k ih =>
    show bitAt (turnB (onB k) k) j = _
    rw [bitAt_turnB (by rw [onB_length]; omega), ih (by omega)]
    by_cases h : j = k
    · subst h
      rw [if_pos rfl, ih (by omega)]
      simp
    · rw [if_neg h]
      simp only [decide_eq_decide]
      omega
/-- What is laid on a page. -/
def layX (P ino n : Nat) : Str := if n = 2 then onB (alFirst ino) else if n = 1 then turnB pageZ 0 else if n = 0 then superB P ino else pageZ
theorem layX_length (P ino n : Nat) : (layX P ino n).length = 512 := by
  unfold layX
  split
  · exact onB_length _
  · split
    · rw [turnB_length]; exact pageZ_length
    · split
      · exact superB_length _ _
      · exact pageZ_length
/-- The first k pages are written. -/
def Ca.laid (C : Ca) (P ino : Nat) : Nat → Ca
  | 0 => C
  | k + 1 => (Ca.laid C P ino k).set k (layX P ino k)
theorem Ca.laid_G (C : Ca) (P ino k : Nat) : (C.laid P ino k).G = C.G := by
  induction k with
  | zero => rfl
  | succ k ih => exact ih
abbrev slB (g : Nat) : Value := .slice (some ⟨g, 0, none⟩) 512 512
/-- Pages under way: a row of blocks of one's own. -/
structure LayI (w0 : World) (B : Nat) (u : Value) (gs : List Nat) (φ : Nat → Str) (wx : World) : Prop where
  row : OwnL wx B 37 u (gs.map slB)
  nd : gs.Nodup
  blk : ∀ i g, gs[i]? = some g → Blk wx g 512 (φ i) ∧ (φ i).length = 512 ∧ B ≤ g ∧ u.ownBlock ≠ some g
  below : Below B w0 wx
theorem LayI.off {w0 : World} {B : Nat} {u : Value} {gs : List Nat} {φ : Nat → Str} {wx w2 : World} {M : Nat → Prop} (h : LayI w0 B u gs φ wx) (ho : Off M wx w2) (hM : ∀ k, M k → u.ownBlock ≠ some k ∧ k ∉ gs) (hb : Below B w0 w2) : LayI w0 B u gs φ w2 :=
  ⟨h.row.off ho (fun k hk e => (hM k e).1 hk), h.nd, fun i g hg => by
    obtain ⟨h1, h2⟩ := h.blk i g hg
    exact ⟨h1.keep (ho.block g h1.lt (fun e => (hM g e).2 (List.mem_of_getElem? hg))), h2⟩, hb⟩
/-- A byte is written. -/
theorem LayI.set {w0 : World} {B : Nat} {u : Value} {gs : List Nat} {φ : Nat → Str} {wx : World} (h : LayI w0 B u gs φ wx) {i g : Nat} (hg : gs[i]? = some g) (j : Nat) (y : UInt8) (hj : j < 512) (hB : B ≤ w0.heap.size) : LayI w0 B u gs (fun n => if n = i then (φ i).set j y else φ n) (wx.setCell ⟨g, j, none⟩ (.int .u8 y.toNat)) := by
  obtain ⟨h1, h2, h3, h4⟩ := h.blk i g hg
  have ho : Off (fun k => k = g) wx (wx.setCell ⟨g, j, none⟩ (.int .u8 y.toNat)) := (Off.refl (fun k => k = g) wx).setCell (p := ⟨g, j, none⟩) (.inl rfl) _
  refine ⟨h.row.off ho (fun k hk e => h4 (e ▸ hk)), h.nd, fun i' g' hg' => ?_, h.below.setCell (p := ⟨g, j, none⟩) h3 _⟩
  by_cases e : i' = i
  · subst e
    rw [hg] at hg'
    cases hg'
    simp only [if_true]
    exact ⟨h1.set j y (by rw [h2]; exact hj), by rw [List.length_set]; exact h2, h3, h4⟩
  · simp only [if_neg e]
    obtain ⟨k1, k2⟩ := h.blk i' g' hg'
    have hne : g' ≠ g := fun e2 => e (by
      have := (List.getElem?_inj (List.getElem?_eq_some_iff.1 hg').1 h.nd).1 (hg'.trans (by rw [e2]; exact hg.symm))
      exact this)
    exact ⟨k1.keep (ho.block g' k1.lt hne), k2⟩
/-- A page of zeros more. -/
theorem LayI.push {w0 : World} {B : Nat} {u v' : Value} {gs : List Nat} {φ : Nat → Str} {wx w6 : World} (h : LayI w0 B u gs φ wx) (hB : B ≤ w0.heap.size) {tmp : Obj} (hφ : φ gs.length = pageZ)
    (h1 : w6.ownsRow B 37 1 v' (gs.length + 1) (gs.map slB ++ [slB wx.heap.size])) (h2 : ((wx.alloc (.cells (madeCells #[.int .u8 0] 512) 5)).alloc tmp).grownBy w6 u.ownBlock) (h3 : v'.ownBlock = u.ownBlock ∨ v'.ownBlock = some (wx.heap.size + 1 + 1)) :
    LayI w0 B v' (gs ++ [wx.heap.size]) φ w6 := by
  have hs := h.below.size
  have hnew := blk_zero wx 512 (by omega)
  have hb1 : Below wx.heap.size wx ((wx.alloc (.cells (madeCells #[.int .u8 0] 512) 5)).alloc tmp) := ((Below.refl _ _).alloc (Nat.le_refl _) _).alloc (by simp) _
  have hb2 : Below (wx.heap.size + 1) (wx.alloc (.cells (madeCells #[.int .u8 0] 512) 5)) ((wx.alloc (.cells (madeCells #[.int .u8 0] 512) 5)).alloc tmp) := (Below.refl _ _).alloc (by simp) _
  have hnew2 := hnew.below hb2 (Nat.lt_succ_self _)
  have ho : Off (fun k => u.ownBlock = some k) ((wx.alloc (.cells (madeCells #[.int .u8 0] 512) 5)).alloc tmp) w6 := (Off.refl _ _).grown h2 (fun k e => .inl e)
  have hub : ∀ k, u.ownBlock = some k → B ≤ k ∧ k < wx.heap.size := fun k hk => h.row.block hk
  refine ⟨?_, ?_, fun i g hg => ?_, (h.below.trans (hb1.mono (Nat.le_trans hB hs))).grown h2 (by simp; omega) (fun k e => (hub k e).1)⟩
  · unfold OwnL
    rw [List.length_map, List.length_append, List.length_singleton, List.map_append]; exact h1
  · refine nodup_snoc h.nd fun hm => ?_
    obtain ⟨i, hi⟩ := List.getElem?_of_mem hm
    have := (h.blk i _ hi).1.lt
    omega
  · rw [List.getElem?_append] at hg
    split at hg
    · obtain ⟨k1, k2, k3, k4⟩ := h.blk i g hg
      refine ⟨(k1.below hb1 k1.lt).keep (ho.block g (Nat.lt_of_lt_of_le k1.lt hb1.size) k4), k2, k3, fun e => ?_⟩
      rcases h3 with h3 | h3
      · exact k4 (h3 ▸ e)
      · rw [h3] at e; injection e with e; have := k1.lt; omega
    · rename_i hge
      have hi : i = gs.length := by
        have := (List.getElem?_eq_some_iff.1 hg).1
        rw [List.length_singleton] at this
        omega
      subst hi
      rw [Nat.sub_self] at hg
      cases hg
      rw [hφ]
      refine ⟨hnew2.keep (ho.block _ (by simp; omega) (fun e => by have := (hub _ e).2; omega)), pageZ_length, by omega, fun e => ?_⟩
      rcases h3 with h3 | h3
      · rw [h3] at e; have := (hub _ e).2; omega
      · rw [h3] at e; injection e with e; omega
theorem LayI.at {w0 : World} {B : Nat} {u : Value} {gs : List Nat} {φ : Nat → Str} {wx : World} (h : LayI w0 B u gs φ wx) (h0 : gs ≠ []) : ∃ g c, u = .slice (some ⟨g, 0, none⟩) gs.length c ∧ gs.length ≤ c ∧ ∀ i b, gs[i]? = some b → wx.cell? ⟨g, i, none⟩ = some (slB b) := by
  obtain ⟨g, c, e, _, _, h3, h4, _⟩ := h.row.at (by simpa using h0)
  rw [List.length_map] at e h3
  exact ⟨g, c, e, h3, fun i b hb => h4 i _ (by rw [List.getElem?_map, hb]; rfl)⟩
theorem amay_any (P ino : Nat) (w : World) (h : 8 ≤ ino ∧ ino ≤ 512 ∧ ino % 8 = 0 ∧ P ≤ 4096 ∧ alFirst ino < P) : Calls Tryz.prog 169 #[.int .i64 P, .int .i64 ino] w fun e w' => e = .returned (.bool true) ∧ w = w' := by
  obtain ⟨h1, h2, h3, h4, h5⟩ := h
  unfold alFirst at h5
  have a1 : decide ((8 : Int) ≤ (ino : Int)) = true := by simp; omega
  have a2 : decide ((ino : Int) ≤ 512) = true := by simp; omega
  have a3 : ((ino : Int)).tmod 8 = 0 := by rw [show ((8 : Int)) = ((8 : Nat) : Int) from rfl, tmod_nat, h3]; rfl
  have a3' : ((ino : Int)) % 8 = 0 := by omega
  have a4 : decide ((P : Int) ≤ 4096) = true := by simp; omega
  obtain ⟨q, hq⟩ : ∃ q, q = ino / 8 := ⟨_, rfl⟩
  have a5 : ((ino : Int)).tdiv 8 = (q : Int) := by rw [show ((8 : Int)) = ((8 : Nat) : Int) from rfl, tdiv_nat, hq]
  have a5' : ((ino : Int)) / 8 = (q : Int) := by omega
  have a6 : IntKind.i64.wrap (3 + (q : Int)) = 3 + (q : Int) := IntWalk.i64_in _ (by omega)
  have a7 : decide ((3 : Int) + (q : Int) < (P : Int)) = true := by simp; omega
  have a11 : wrap64 (q : Int) = (q : Int) := by unfold wrap64; omega
  have a12 : wrap64 (3 + (q : Int)) = 3 + (q : Int) := by unfold wrap64; omega
  have a8 : decide (8 ≤ ino) = true := by simp; omega
  have a9 : decide (ino ≤ 512) = true := by simp; omega
  have a10 : decide (P ≤ 4096) = true := by simp; omega
  have HQ := Lib.hid hq
  clear hq h1 h2 h3 h4 h5
  go_enter Tryz.func169, Tryz.ntmps169
  go_wp2_with fail
  go_ret
  exact ⟨rfl, rfl⟩
end Go.Proofs.YtakmplpfjcddiaaGreatDoor

namespace Go.Proofs.YtakmplpfjcddiaaGreatDoor
open Go.RowKit Go.Shelf Pa
theorem set_same (T : RS) (j : Nat) : T.set j (T.file j) = T := by
  have h : T.l.set j (T.file j) = T.l := by
    refine List.ext_getElem? fun i => ?_
    rw [List.getElem?_set]
    by_cases e : j = i
    · subst e
      rw [if_pos rfl]
      unfold RS.file
      by_cases hj : j < T.l.length
      · rw [if_pos hj, List.getD_eq_getElem?_getD, List.getElem?_eq_getElem hj]; rfl
      · rw [if_neg hj, List.getElem?_eq_none (by omega)]
    · rw [if_neg e]
  unfold RS.set
  rw [h]
theorem Rel.mid {C : Ca} {T : RS} {ex : Nat → Prop} {j : Nat} (h : Rel C T ex) (hx : ∀ k, ex k → k = j) (hl : T.live j) : Mid C T j (T.file j) :=
  ⟨by rw [set_same]; exact h.mono hx, hl, by rw [h.ino]; exact RS.live_lt hl⟩
/-- The end of a resize: the bytes are as they shall be. -/
theorem Mid.fit {C : Ca} {T : RS} {j sz size : Nat} {f : RF} {b : Str} (h : Mid C T j f) (hd : f.data.length = npg size) (hb : f.bytes = b.take (512 * npg size)) (hbl : b.length = sz) (hsz : size ≤ 70656) :
    ∃ C', tailZ (opnS f j sz, C) sz size = some (opnS f j sz, C') ∧ Rel C' (T.set j { f with bytes := fitTo b size }) (fun k => k = j) ∧ (C'.G = C.G ∧ C'.most = C.most) := by
  have hok := h.ok
  have hl2 : (fitTo b size).length ≤ 512 * f.data.length := by rw [fitTo_length, hd]; unfold npg; omega
  have hpg : ∀ i, i < npg size → (512 * i + 512 ≤ size ∨ b.length ≤ size) → pageOf (fitTo b size) i = pageOf f.bytes i := by
    intro i hi hor
    rw [hb, pageOf_take hi]
    rcases hor with h1 | h1
    · exact pageOf_fit h1
    · refine pageOf_congr fun q hq => ?_
      by_cases e : 512 * i + q < size
      · exact fitTo_getD _ _ _ e
      · rw [List.getD_eq_getElem?_getD, List.getD_eq_getElem?_getD, List.getElem?_eq_none (by rw [fitTo_length]; omega), List.getElem?_eq_none (by omega)]
  unfold tailZ
  by_cases ht : size < sz ∧ 0 < size % 512
  · rw [if_pos ht]
    simp only
    have hk : npg size - 1 < f.data.length := by rw [hd]; unfold npg; omega
    have hn : (opnS f j sz).slot (npg size - 1) = f.data.getD (npg size - 1) 0 := opnS_slot _ _ _ _
    have hm : f.data.getD (npg size - 1) 0 ∈ f.pgs := pgs_data (getD_mem hk)
    have hnp := (hok.2.own _ hm).2.1
    rw [hn, h.rel.rm.w _ hnp]
    refine ⟨_, rfl, ?_, rfl, rfl⟩
    have hpage := hok.2.bytes _ hk
    have := h.rel.setData (j := j) (k := npg size - 1) (nb := fitTo b size) (x := (C.rd (f.data.getD (npg size - 1) 0)).take (size % 512) ++ List.replicate (512 - size % 512) 0) h.live rfl (by rw [h.file]; exact hk) ?_ (by rw [fitTo_length]; exact hsz) (by rw [h.file]; exact hl2) (fun i hi hik => by
      rw [h.file] at hi ⊢
      rw [hd] at hi; exact hpg i (by omega) (.inl (by unfold npg at hik hi; omega)))
    · rw [h.file, RS.set_set] at this; exact this
    · rw [hpage]
      refine pageOf_ext ?_ fun q hq => ?_
      · rw [List.length_append, List.length_take, pageOf_length, List.length_replicate]; omega
      · by_cases e : q < size % 512
        · rw [List.getElem?_append_left (by rw [List.length_take, pageOf_length]; omega), List.getElem?_take_of_lt e, pageOf_getElem? _ _ _ hq, hb]
          have e2 : 512 * (npg size - 1) + q < size := by unfold npg; omega
          rw [fitTo_getD _ _ _ e2, List.getD_eq_getElem?_getD, List.getD_eq_getElem?_getD, List.getElem?_take_of_lt (by unfold npg; omega)]
        · rw [List.getElem?_append_right (by rw [List.length_take, pageOf_length]; omega), List.getElem?_replicate, if_pos (by rw [List.length_take, pageOf_length]; omega), List.getD_eq_getElem?_getD, List.getElem?_eq_none (by rw [fitTo_length]; unfold npg; omega)]; rfl
  · rw [if_neg ht]
    refine ⟨C, rfl, ?_, rfl, rfl⟩
    have hF : FOk C (T.set j f) { f with bytes := fitTo b size } := { hok.2 with
      size := by show (fitTo b size).length ≤ 70656; rw [fitTo_length]; exact hsz
      len := hl2
      bytes := fun k hk => by
        have hk : k < npg size := by rw [← hd]; exact hk
        show C.rd (f.data.getD k 0) = pageOf (fitTo b size) k
        rw [hpg k hk (by
          by_cases e : size < sz
          · left
            have : size % 512 = 0 := by omega
            unfold npg at hk; omega
          · right; omega)]
        exact hok.2.bytes k (by rw [hd]; exact hk)
      own := fun m hm => hok.2.own m hm
      nodup := hok.2.nodup
      ind := hok.2.ind }
    have := h.rel.file (j := j) (f' := { f with bytes := fitTo b size }) h.live rfl hok.1 hF fun m hm => .inl (by rw [h.file]; exact hm)
    rw [RS.set_set] at this; exact this
theorem npg_le {a : Nat} (h : a ≤ 70656) : npg a ≤ 138 := by unfold npg; omega
/-- What a resize leaves. -/
structure Resized (T T' : RS) (j size : Nat) : Prop where
  i : T'.i = T.i
  len : T'.l.length = T.l.length
  like : (T.file j).like (T'.file j)
  bytes : (T'.file j).bytes = fitTo (T.file j).bytes size
  rest : ∀ k, k ≠ j → T'.file k = T.file k
  tight : T'.Tight
theorem Rel.resize {C : Ca} {T : RS} {ex : Nat → Prop} {j size : Nat} (h : Rel C T ex) (hx : ∀ k, ex k → k = j) (ht : T.Tight) (hl : T.live j) (hsz : size ≤ 70656) : match T.resize j size with
    | none => resizeP T.inodes (opnOf (T.file j) j, C) size = none
    | some T' => ∃ C', resizeP T.inodes (opnOf (T.file j) j, C) size = some (opnOf (T'.file j) j, C') ∧ Rel C' T' (fun k => k = j) ∧ (C'.G = C.G ∧ C'.most = C.most) ∧ Resized T T' j size := by
  have hM := h.mid hx hl
  have hok := hM.ok
  have htj := ht j
  obtain ⟨f, hf⟩ : ∃ f, f = T.file j := ⟨_, rfl⟩
  rw [← hf] at hM hok htj ⊢
  have h0 : opnOf f j = opnS f j f.bytes.length := rfl
  have hlen0 := hok.2.size
  have hg := hM.growsN (sz := f.bytes.length) (npg size - f.data.length) (by have := npg_le hsz; have := npg_le hlen0; omega)
  unfold RS.resize resizeP
  rw [← hf, h0]
  have hs0 : (opnS f j f.bytes.length).size = f.bytes.length := rfl
  simp only [hs0]
  rw [htj] at hg
  rw [htj]
  cases hr : rgrowN (npg size - npg f.bytes.length) (T, f) with
  | none => rw [hr] at hg; simp only at hg; rw [hg]
  | some s1 =>
    rw [hr] at hg
    simp only at hg
    obtain ⟨C1, e1, m1, g1, l1, b1, t1, k1⟩ := hg
    rw [e1]
    simp only
    obtain ⟨C2, e2, m2, g2, l2, b2, t2, k2⟩ := m1.shrinksN (sz := f.bytes.length) (s1.2.data.length - npg size) (by omega)
    have hi1 : s1.1.inodes = T.inodes := by unfold RS.inodes; rw [t1.2]
    rw [hi1] at e2
    have hsame : growN (npg f.bytes.length) (npg size - npg f.bytes.length) (opnS f j f.bytes.length, C) = some (opnS s1.2 j f.bytes.length, C1) := e1
    have hshr : shrinkN T.inodes (npg f.bytes.length) (npg f.bytes.length - npg size) (opnS s1.2 j f.bytes.length, C1) = some (opnS (rshrinkN (s1.2.data.length - npg size) s1).2 j f.bytes.length, C2) := by
      by_cases hle : npg size ≤ npg f.bytes.length
      · have e : s1.2.data.length = npg f.bytes.length := by omega
        rw [e] at e2 ⊢; exact e2
      · have e : s1.2.data.length - npg size = 0 := by omega
        have e3 : npg f.bytes.length - npg size = 0 := by omega
        rw [e] at e2 ⊢
        rw [e3]
        have e4 := e2
        unfold shrinkN at e4 ⊢
        exact e4
    rw [hshr]
    simp only
    have hl3 : (rshrinkN (s1.2.data.length - npg size) s1).2.data.length = npg size := by
      show (rshrinkN (s1.2.data.length - npg size) (s1.1, s1.2)).2.data.length = npg size
      rw [l2]; omega
    have hb3 : (rshrinkN (s1.2.data.length - npg size) s1).2.bytes = f.bytes.take (512 * npg size) := by
      show (rshrinkN (s1.2.data.length - npg size) (s1.1, s1.2)).2.bytes = _
      rw [b2, b1]
      by_cases hle : npg size ≤ npg f.bytes.length
      · congr 2; omega
      · rw [List.take_of_length_le (by rw [show s1.2.data.length - (s1.2.data.length - npg size) = s1.2.data.length from by omega]; unfold npg at *; omega), List.take_of_length_le (by unfold npg at *; omega)]
    obtain ⟨C3, e4, r4, g4⟩ := m2.fit (sz := f.bytes.length) (size := size) (b := f.bytes) hl3 hb3 rfl hsz
    have e4' : tailZ (opnS (rshrinkN (s1.2.data.length - npg size) s1).2 j f.bytes.length, C2) f.bytes.length size = some (opnS (rshrinkN (s1.2.data.length - npg size) s1).2 j f.bytes.length, C3) := e4
    rw [e4']
    simp only
    have hlt3 := m2.lt
    have hfile := fun k => file_set (rshrinkN (s1.2.data.length - npg size) s1).1 j k { (rshrinkN (s1.2.data.length - npg size) s1).2 with bytes := fitTo f.bytes size } hlt3
    refine ⟨C3, ?_, r4, ⟨g4.1.trans (g2.1.trans g1.1), g4.2.trans (g2.2.trans g1.2)⟩, ?_⟩
    · rw [hfile, if_pos rfl]
      have : opnOf { (rshrinkN (s1.2.data.length - npg size) s1).2 with bytes := fitTo f.bytes size } j = { opnS (rshrinkN (s1.2.data.length - npg size) s1).2 j f.bytes.length with size := size } := by
        unfold opnS opnOf
        simp only [fitTo_length]
      rw [this]
    · have hl4 : (rshrinkN (s1.2.data.length - npg size) s1).1.l = T.l := t2.1.trans t1.1
      have hrest : ∀ k, k ≠ j → (RS.set (rshrinkN (s1.2.data.length - npg size) s1).1 j { (rshrinkN (s1.2.data.length - npg size) s1).2 with bytes := fitTo f.bytes size }).file k = T.file k := fun k hk => by
        rw [hfile, if_neg hk]
        unfold RS.file
        rw [hl4]
      refine ⟨t2.2.trans t1.2, ?_, ?_, ?_, hrest, fun k => ?_⟩
      · show (List.set _ _ _).length = _
        rw [List.length_set, hl4]
      · rw [hfile, if_pos rfl, ← hf]
        have := k1.trans k2
        exact ⟨this.kind, this.mode, this.links⟩
      · rw [hfile, if_pos rfl, ← hf]
      · by_cases hk : k = j
        · rw [hk, hfile, if_pos rfl]
          show (rshrinkN (s1.2.data.length - npg size) s1).2.data.length = npg (fitTo f.bytes size).length
          rw [fitTo_length, hl3]
        · rw [hrest k hk]; exact ht k
theorem laidAt_split {b x y : Str} {a : Nat} (h : a + (x ++ y).length ≤ b.length) : laidAt (laidAt b a x) (a + x.length) y = laidAt b a (x ++ y) := by
  rw [List.length_append] at h
  refine List.ext_getElem? fun i => ?_
  rw [laidAt_getElem? _ _ _ _ (by rw [laidAt_length (by omega)]; omega), laidAt_getElem? _ _ _ _ (by omega), laidAt_getElem? _ _ _ _ (by rw [List.length_append]; omega), List.length_append]
  by_cases h1 : a + x.length ≤ i ∧ i < a + x.length + y.length
  · rw [if_pos h1, if_pos (by omega), List.getElem?_append_right (by omega)]
    congr 1; omega
  · rw [if_neg h1]
    by_cases h2 : a ≤ i ∧ i < a + x.length
    · rw [if_pos h2, if_pos (by omega), List.getElem?_append_left (by omega)]
    · rw [if_neg h2, if_neg (by omega)]
theorem laidAt_getD {b x : Str} {a i : Nat} (h : a + x.length ≤ b.length) : (laidAt b a x).getD i 0 = if a ≤ i ∧ i < a + x.length then x.getD (i - a) 0 else b.getD i 0 := by
  rw [List.getD_eq_getElem?_getD, laidAt_getElem? _ _ _ _ h]
  split
  · rw [List.getD_eq_getElem?_getD]
  · rw [List.getD_eq_getElem?_getD]
theorem Rel.lay {j : Nat} {o : Opn} (fuel : Nat) : ∀ {C : Ca} {T : RS} {at_ : Nat} {b : Str}, Rel C T (fun k => k = j) → T.live j → at_ + b.length ≤ (T.file j).bytes.length → b.length ≤ fuel → (∀ k, o.slot k = (T.file j).data.getD k 0) →
    ∃ C', layP o fuel C at_ b = some C' ∧ Rel C' (T.set j { T.file j with bytes := laidAt (T.file j).bytes at_ b }) (fun k => k = j) ∧ (C'.G = C.G ∧ C'.most = C.most) := by
  have hnil : ∀ {C : Ca} {T : RS} {at_ : Nat}, Rel C T (fun k => k = j) → Rel C (T.set j { T.file j with bytes := laidAt (T.file j).bytes at_ [] }) (fun k => k = j) := fun {C T at_} h => by
    have : ({ T.file j with bytes := laidAt (T.file j).bytes at_ [] } : RF) = T.file j := by
      have e : laidAt (T.file j).bytes at_ [] = (T.file j).bytes := by unfold laidAt; simp
      rw [e]
    rw [this, set_same]; exact h
  induction fuel with
  | zero =>
    intro C T at_ b h hl ha hb ho
    have : b = [] := List.length_eq_zero_iff.1 (by omega)
    subst this
    exact ⟨C, rfl, hnil h, rfl, rfl⟩
  | succ fuel ih =>
    intro C T at_ b h hl ha hb ho
    unfold layP
    by_cases hb0 : b = []
    · subst hb0
      rw [if_pos rfl]
      exact ⟨C, rfl, hnil h, rfl, rfl⟩
    · rw [if_neg hb0]
      have hpos := List.length_pos_iff.2 hb0
      have hfo := (h.files j hl).2
      have hlen := hfo.len
      have hkd : at_ / 512 < (T.file j).data.length := by omega
      have hm : (T.file j).data.getD (at_ / 512) 0 ∈ (T.file j).pgs := pgs_data (getD_mem hkd)
      have hnp := (hfo.own _ hm).2.1
      obtain ⟨m, hmd⟩ : ∃ m, m = min (512 - at_ % 512) b.length := ⟨_, rfl⟩
      rw [ho, h.rm.w _ hnp, ← hmd]
      simp only
      have hpage := hfo.bytes _ hkd
      obtain ⟨nb, hnb⟩ : ∃ nb, nb = laidAt (T.file j).bytes at_ (b.take m) := ⟨_, rfl⟩
      have htk : (b.take m).length = m := by rw [List.length_take]; omega
      have hnl : nb.length = (T.file j).bytes.length := by rw [hnb, laidAt_length (by rw [htk]; omega)]
      have hx : over (C.rd ((T.file j).data.getD (at_ / 512) 0)) (at_ % 512) b = pageOf nb (at_ / 512) := by
        rw [hpage]
        have hov : over (pageOf (T.file j).bytes (at_ / 512)) (at_ % 512) b = laidAt (pageOf (T.file j).bytes (at_ / 512)) (at_ % 512) (b.take m) := by
          unfold over
          rw [pageOf_length]
          congr 1
          rw [hmd]
          by_cases e : 512 - at_ % 512 ≤ b.length
          · rw [Nat.min_eq_left e]
          · rw [List.take_of_length_le (by omega), List.take_of_length_le (by omega)]
        rw [hov]
        refine pageOf_ext (by rw [laidAt_length (by rw [htk, pageOf_length]; omega), pageOf_length]) fun q hq => ?_
        rw [laidAt_getElem? _ _ _ _ (by rw [htk, pageOf_length]; omega), htk, hnb, laidAt_getD (by rw [htk]; omega), htk]
        by_cases e : at_ % 512 ≤ q ∧ q < at_ % 512 + m
        · rw [if_pos e, if_pos (by omega), List.getElem?_eq_getElem (by rw [htk]; omega), List.getD_eq_getElem?_getD, List.getElem?_eq_getElem (by rw [htk]; omega)]
          simp only [Option.getD_some]
          congr 2; omega
        · rw [if_neg e, if_neg (by omega), pageOf_getElem? _ _ _ hq]
      have hset := h.setData (j := j) (k := at_ / 512) (nb := nb) hl rfl hkd hx (by rw [hnl]; exact hfo.size) (by rw [hnl]; exact hlen) (fun i hi hik => by
        rw [hnb]
        refine pageOf_congr fun q hq => ?_
        rw [laidAt_getD (by rw [htk]; omega), if_neg (by rw [htk]; omega)])
      have hlt : j < T.l.length := by rw [h.ino]; exact RS.live_lt hl
      have hfile : (T.set j { T.file j with bytes := nb }).file j = { T.file j with bytes := nb } := by rw [file_set _ _ _ _ hlt, if_pos rfl]
      obtain ⟨C', e1, r1, g1⟩ := ih (at_ := at_ + m) (b := b.drop m) hset hl (by rw [hfile]; show at_ + m + (b.drop m).length ≤ nb.length; rw [hnl, List.length_drop]; omega) (by rw [List.length_drop]; omega) (fun k => by rw [hfile]; exact ho k)
      refine ⟨C', e1, ?_, g1⟩
      rw [hfile, RS.set_set] at r1
      have e2 : laidAt nb (at_ + m) (b.drop m) = laidAt (T.file j).bytes at_ b := by
        have := laidAt_split (b := (T.file j).bytes) (x := b.take m) (y := b.drop m) (a := at_) (by rw [List.take_append_drop]; exact ha)
        rw [htk, List.take_append_drop, ← hnb] at this; exact this
      rw [show ({ ({ T.file j with bytes := nb } : RF) with bytes := laidAt ({ T.file j with bytes := nb } : RF).bytes (at_ + m) (b.drop m) } : RF) = { T.file j with bytes := laidAt (T.file j).bytes at_ b } from by rw [← e2]] at r1
      exact r1
/-- All of a write: the pages, then the record. -/
theorem Rel.write {C : Ca} {T T' : RS} {j at_ : Nat} {b : Str} (h : Rel C T (fun _ => False)) (ht : T.Tight) (hl : T.live j) (hsz : at_ + b.length ≤ 70656) (hw : T.write j at_ b = some T') :
    ∃ o1 C1 C2 C', resizeP T.inodes (opnOf (T.file j) j, C) (max (T.file j).bytes.length (at_ + b.length)) = some (o1, C1) ∧ layP o1 b.length C1 at_ b = some C2 ∧ C2.save o1 = some C' ∧ Rel C' T' (fun _ => False) ∧ (C'.G = C.G ∧ C'.most = C.most) ∧ (C1.G = C.G ∧ C2.G = C.G) ∧ T'.Tight ∧ T'.i = T.i ∧ (∀ k, k ≠ j → T'.file k = T.file k) ∧ (T.file j).like (T'.file j) ∧ (T'.file j).bytes = laidAt (fitTo (T.file j).bytes (max (T.file j).bytes.length (at_ + b.length))) at_ b ∧ o1 = opnOf (T'.file j) j ∧ (T'.file j).bytes.length = max (T.file j).bytes.length (at_ + b.length) := by
  have hfo := (h.files j hl).2
  have hmx : max (T.file j).bytes.length (at_ + b.length) ≤ 70656 := by have := hfo.size; omega
  have hr := h.resize (j := j) (size := max (T.file j).bytes.length (at_ + b.length)) (fun _ e => e.elim) ht hl hmx
  unfold RS.write at hw
  cases hT : T.resize j (max (T.file j).bytes.length (at_ + b.length)) with
  | none => rw [hT] at hw; cases hw
  | some T1 =>
    rw [hT] at hw hr
    simp only at hw hr
    obtain ⟨C1, e1, r1, g1, z1⟩ := hr
    have hw := (Option.some.inj hw).symm
    have hl1 : T1.live j := by
      have := hl
      unfold RS.live at this ⊢
      rw [z1.i]; exact this
    have hlt1 : j < T1.l.length := by rw [r1.ino]; exact RS.live_lt hl1
    have hb1 := z1.bytes
    have hblen : (T1.file j).bytes.length = max (T.file j).bytes.length (at_ + b.length) := by rw [hb1, fitTo_length]
    obtain ⟨C2, e2, r2, g2⟩ := r1.lay (o := opnOf (T1.file j) j) b.length (at_ := at_) (b := b) hl1 (by rw [hblen]; omega) (Nat.le_refl _) (fun k => opnOf_slot _ _ _)
    rw [← hw] at r2
    have hfile := fun k => file_set T1 j k { T1.file j with bytes := laidAt (T1.file j).bytes at_ b } hlt1
    rw [← hw] at hfile
    have hl2 : T'.live j := by rw [hw]; exact hl1
    obtain ⟨C3, e3, r3, g3, m3⟩ := r2.save hl2
    have hfj := hfile j
    rw [if_pos rfl] at hfj
    have hlay : (laidAt (T1.file j).bytes at_ b).length = (T1.file j).bytes.length := laidAt_length (by rw [hblen]; omega)
    have hopn : opnOf (T'.file j) j = opnOf (T1.file j) j := by
      rw [hfj]
      unfold opnOf
      simp only [hlay]
    rw [hopn] at e3
    refine ⟨_, C1, C2, C3, e1, e2, e3, r3.mono (fun k e => e.2 e.1), ⟨g3.trans (g2.1.trans g1.1), m3.trans (g2.2.trans g1.2)⟩, ⟨g1.1, g2.1.trans g1.1⟩, fun k => ?_, ?_, fun k hk => ?_, ?_, ?_, hopn.symm, ?_⟩
    · rw [hfile]
      split
      · show (T1.file j).data.length = npg (laidAt (T1.file j).bytes at_ b).length
        rw [hlay]; exact z1.tight j
      · exact z1.tight k
    · rw [hw]; exact z1.i
    · rw [hfile, if_neg hk]; exact z1.rest k hk
    · rw [hfj]; exact ⟨z1.like.kind, z1.like.mode, z1.like.links⟩
    · rw [hfj]
      show laidAt (T1.file j).bytes at_ b = _
      rw [hb1]
    · rw [hfj]
      show (laidAt (T1.file j).bytes at_ b).length = _
      rw [hlay]; exact hblen
end Go.Proofs.YtakmplpfjcddiaaGreatDoor

namespace Go.Proofs.YtakmplpfjcddiaaGreatDoor
open Go.RowKit Go.Shelf Pa
theorem laid_rd (C : Ca) (P ino k n : Nat) : (C.laid P ino k).rd n = if n < k then layX P ino n else C.rd n := by
  induction k with
  | zero => rw [if_neg (by omega)]; rfl
  | succ k ih =>
    show ((C.laid P ino k).set k (layX P ino k)).rd n = _
    rw [Ca.rd_set]
    by_cases e : n = k
    · subst e; rw [if_pos rfl, if_pos (by omega)]
    · rw [if_neg e, ih]
      by_cases e2 : n < k
      · rw [if_pos e2, if_pos (by omega)]
      · rw [if_neg e2, if_neg (by omega)]
theorem laid_rm {C : Ca} (h : C.Rm) (P ino k : Nat) (hk : k ≤ C.G.pages) : (C.laid P ino k).Rm := by
  induction k with
  | zero => exact h
  | succ k ih => exact (ih (by omega)).set (by rw [Ca.laid_G]; omega) (layX_length _ _ _)
def RS.fresh (P ino : Nat) : RS := ⟨List.replicate (alFirst ino) true ++ List.replicate (P - alFirst ino) false, true :: List.replicate (ino - 1) false, List.replicate ino RF.none⟩
theorem fresh_i (P ino : Nat) (h : 1 ≤ ino) : (RS.fresh P ino).i.length = ino := by show (true :: List.replicate (ino - 1) false).length = ino; rw [List.length_cons, List.length_replicate]; omega
theorem fresh_file (P ino j : Nat) : (RS.fresh P ino).file j = RF.none := by
  unfold RS.file RS.fresh
  rw [List.getD_eq_getElem?_getD, List.getElem?_replicate]
  split <;> rfl
theorem fresh_getI (P ino j : Nat) : (RS.fresh P ino).i.getD j false = decide (j = 0) := by
  show (true :: List.replicate (ino - 1) false).getD j false = _
  cases j with
  | zero => rfl
  | succ j =>
    rw [List.getD_eq_getElem?_getD, List.getElem?_cons_succ, List.getElem?_replicate]
    split <;> simp
theorem fresh_getP (P ino n : Nat) (hn : n < P) : (RS.fresh P ino).p.getD n false = decide (n < alFirst ino) := by
  show (List.replicate (alFirst ino) true ++ List.replicate (P - alFirst ino) false).getD n false = _
  rw [List.getD_eq_getElem?_getD]
  by_cases h : n < alFirst ino
  · rw [List.getElem?_append_left (by rw [List.length_replicate]; exact h), List.getElem?_replicate, if_pos h]; simp [h]
  · rw [List.getElem?_append_right (by rw [List.length_replicate]; omega), List.getElem?_replicate, List.length_replicate, if_pos (by omega)]; simp [h]
theorem rel_fresh {C : Ca} {ino : Nat} (hrm : C.Rm) (hall : ∀ n, n < C.G.pages → (C.rd n).length = 512) (hm : 8 ≤ ino ∧ ino ≤ 512 ∧ ino % 8 = 0 ∧ C.G.pages ≤ 4096 ∧ alFirst ino < C.G.pages) : Rel (C.laid C.G.pages ino (alFirst ino)) (RS.fresh C.G.pages ino) (fun _ => False) := by
  have hil := fresh_i C.G.pages ino (by omega)
  have hf3 : 4 ≤ alFirst ino := by unfold alFirst; omega
  have hnl : ∀ j, ¬ (RS.fresh C.G.pages ino).live j := fun j hj => by
    have h1 := hj.2
    rw [fresh_getI] at h1
    have : j = 0 := by simpa using h1
    have := hj.1
    omega
  refine { rm := laid_rm hrm _ _ _ (by omega), np := ?_, npl := by rw [Ca.laid_G]; exact hm.2.2.2.1, ino := ?_, ino8 := ?_, len := fun n hn => ?_, pb := fun n hn => ?_, ib := fun j hj => ?_, sys := fun n hn => ?_, zero := by rw [fresh_getI]; rfl, off := fun j _ => fresh_file _ _ _, files := fun j hj => absurd hj (hnl j), apart := fun j k n hj => ?_, rcd := fun j hj => absurd hj (hnl j) }
  · rw [Ca.laid_G]
    show (List.replicate (alFirst ino) true ++ List.replicate (C.G.pages - alFirst ino) false).length = _
    rw [List.length_append, List.length_replicate, List.length_replicate]; omega
  · rw [hil]; exact List.length_replicate ..
  · rw [hil, Ca.laid_G]; exact ⟨hm.2.2.1, hm.1, hm.2.1, hm.2.2.2.2⟩
  · rw [Ca.laid_G] at hn
    rw [laid_rd]
    split
    · exact layX_length _ _ _
    · exact hall n hn
  · rw [Ca.laid_G] at hn
    rw [laid_rd, if_pos (by omega), fresh_getP _ _ _ hn]
    show bitAt (layX C.G.pages ino 2) n = _
    unfold layX
    rw [if_pos rfl, bitAt_onB _ _ (by omega)]
  · rw [laid_rd, if_pos (by omega), fresh_getI]
    show bitAt (layX C.G.pages ino 1) j = _
    unfold layX
    rw [if_neg (by decide), if_pos rfl, bitAt_turnB (by rw [pageZ_length]; decide), bitAt_pageZ]
    by_cases h : j = 0
    · subst h; rfl
    · rw [if_neg h, bitAt_pageZ]; simp [h]
  · have hn : n < alFirst (RS.fresh C.G.pages ino).i.length := hn
    rw [hil] at hn
    rw [fresh_getP _ _ _ (by omega)]; simpa using hn
  · rw [fresh_file] at hj; cases hj
theorem fresh_tight (P ino : Nat) : (RS.fresh P ino).Tight := fun j => by rw [fresh_file]; rfl
/-- A new file. -/
def RF.new (k md : Nat) : RF := ⟨k, md, 1, [], [], 0⟩
def RS.mkI (T : RS) (j k md : Nat) : RS := { T with i := T.i.set j true, l := T.l.set j (RF.new k md) }
theorem newF_ok (C : Ca) (T : RS) (k md : Nat) (hk : k ≤ 3) (hm : md ≤ 4095) : FOk C T (RF.new k md) :=
  ⟨hk, hm, (by show 1 ≤ 65535; decide), (by show 0 ≤ 70656; decide), (by show 0 ≤ 138; decide), (by show 0 ≤ 512 * 0; decide), (by show 0 = 0 ↔ 0 ≤ 10; decide), fun n hn => (by cases hn), List.nodup_nil, fun q hq => (by cases hq)⟩
theorem opnOf_new (k md j : Nat) : opnOf (RF.new k md) j = { Opn.none with kind := k, mode := md, links := 1, i := j } := rfl
theorem Rel.mkInode {C : Ca} {T : RS} (h : Rel C T (fun _ => False)) {j k md : Nat} (ht : takeB T.i = some j) (hk : 1 ≤ k ∧ k ≤ 3) (hmd : md ≤ 4095) :
    ∃ C1 C2, C.inode T.inodes = some (j, C1) ∧ C1.save { Opn.none with kind := k, mode := md, links := 1, i := j } = some C2 ∧ Rel C2 (T.mkI j k md) (fun _ => False) ∧ C1.G = C.G ∧ (C2.G = C.G ∧ C2.most = C.most) ∧ j < T.inodes ∧ 1 ≤ j := by
  obtain ⟨t1, t2, t3⟩ := takeB_some ht
  have hs := h.small
  have hl1 := h.len 1 (by omega)
  have h512 := h.ino8.2.2.1
  have hj1 : 1 ≤ j := by
    rcases Nat.eq_zero_or_pos j with e | e
    · rw [e, h.zero] at t2; cases t2
    · exact e
  have hrd : ∀ m, m ≠ 1 → (C.set 1 (turnB (C.rd 1) j)).rd m = C.rd m := fun m hm => by rw [Ca.rd_set, if_neg hm]
  have hget : ∀ m, (T.i.set j true).getD m false = if m = j then true else T.i.getD m false := fun m => getD_setB _ _ _ _ t1
  have hlive : ∀ m, (T.mkI j k md).live m ↔ (m = j ∨ T.live m) := fun m => by
    unfold RS.live RS.mkI
    simp only [hget]
    by_cases e : m = j
    · subst e; simp [hj1]
    · simp [e]
  have hjl : j < T.l.length := by rw [h.ino]; exact t1
  have hfile : ∀ m, (T.mkI j k md).file m = if m = j then RF.new k md else T.file m := fun m => by
    have := file_set T j m (RF.new k md) hjl
    exact this
  have hpg : ∀ a m, m ∈ ((T.mkI j k md).file a).pgs → T.live a ∧ m ∈ (T.file a).pgs ∧ a ≠ j := fun a m hm => by
    rw [hfile] at hm
    by_cases e : a = j
    · rw [if_pos e] at hm; cases hm
    · rw [if_neg e] at hm
      exact ⟨h.owner hm, hm, e⟩
  have hino : (T.mkI j k md).i.length = T.i.length := List.length_set ..
  have hfirst : (T.mkI j k md).first = T.first := by unfold RS.first; rw [hino]
  have hrel : Rel (C.set 1 (turnB (C.rd 1) j)) (T.mkI j k md) (fun m => m = j) := by
    refine { rm := h.rm.set (by omega) (by rw [turnB_length]; exact hl1), np := h.np, npl := h.npl, ino := ?_, ino8 := by rw [hino]; exact h.ino8, len := fun m hm => ?_, pb := fun m hm => ?_, ib := fun m hm => ?_, sys := fun m hm => ?_, zero := ?_, off := fun m hm => ?_, files := fun m hm => ?_, apart := fun a b m ha hb => ?_, rcd := fun m hm he => ?_ }
    · show (T.l.set j _).length = (T.i.set j true).length
      rw [List.length_set, List.length_set]; exact h.ino
    · rw [Ca.rd_set]
      split
      · rw [turnB_length]; exact hl1
      · exact h.len m hm
    · rw [hrd _ (by decide)]; exact h.pb m hm
    · show bitAt _ m = (T.i.set j true).getD m false
      have hm : m < T.i.length := by rw [hino] at hm; exact hm
      rw [Ca.rd_set, if_pos rfl, bitAt_turnB (by rw [hl1]; omega), hget, h.ib j t1, t2]
      split
      · rfl
      · exact h.ib m hm
    · rw [hfirst] at hm; exact h.sys m hm
    · show (T.i.set j true).getD 0 false = true
      rw [hget, if_neg (by omega)]; exact h.zero
    · rw [hfile, if_neg (fun e => hm ((hlive m).2 (.inl e)))]
      exact h.off m (fun e => hm ((hlive m).2 (.inr e)))
    · rw [hfile]
      split
      · exact ⟨hk.1, newF_ok _ _ _ _ hk.2 hmd⟩
      · rename_i e
        have hm2 : T.live m := ((hlive m).1 hm).resolve_left e
        have hf := h.files m hm2
        refine ⟨hf.1, { hf.2 with own := fun n hn => ?_, bytes := fun q hq => ?_ }⟩
        · rw [hfirst]; exact hf.2.own n hn
        · rw [hrd _ (by have := (h.table_free hm2 (pgs_data (getD_mem hq))).1; omega)]; exact hf.2.bytes q hq
    · obtain ⟨_, a2, _⟩ := hpg a m ha
      obtain ⟨_, b2, _⟩ := hpg b m hb
      exact h.apart a b m a2 b2
    · have hm2 : T.live m := ((hlive m).1 hm).resolve_left he
      rw [hfile, if_neg he]
      have := h.rcd m hm2 (fun e => e)
      refine ⟨by rw [hrd _ (by omega)]; exact this.1, fun h0 => ?_⟩
      rw [hrd _ (by have := (h.table_free hm2 (pgs_ind h0)).1; omega)]; exact this.2 h0
  obtain ⟨C2, e2, r2, g2, m2⟩ := hrel.save (j := j) ((hlive j).2 (.inl rfl))
  rw [hfile, if_pos rfl, opnOf_new] at e2
  refine ⟨_, C2, ?_, e2, r2.mono (fun k e => e.2 e.1), rfl, ⟨g2, m2⟩, t1, hj1⟩
  unfold Ca.inode
  rw [h.ibits, ht]
  simp only
  rw [h.rm.fits (l := [1]) (fun m hm => by
    have : m = 1 := by simpa using hm
    omega), if_pos rfl]
theorem mkI_tight {T : RS} (ht : T.Tight) {j k md : Nat} (hj : j < T.l.length) : (T.mkI j k md).Tight := fun m => by
  have := file_set T j m (RF.new k md) hj
  rw [show (T.mkI j k md).file m = (T.set j (RF.new k md)).file m from rfl, this]
  split
  · show 0 = npg 0; decide
  · exact ht m
/-- What the bytes of a file's pages are. -/
theorem Rel.bytes {C : Ca} {T : RS} {ex : Nat → Prop} (h : Rel C T ex) {j : Nat} (hl : T.live j) (ht : T.Tight) (at_ n : Nat) : ((C.allP (opnOf (T.file j) j)).drop at_).take (min n ((T.file j).bytes.length - at_)) = ((T.file j).bytes.drop at_).take n := by
  obtain ⟨f, hf⟩ : ∃ f, f = T.file j := ⟨_, rfl⟩
  have hfo := (h.files j hl).2
  have htj := ht j
  rw [← hf] at hfo htj ⊢
  have hsz : (opnOf f j).size = f.bytes.length := rfl
  have hpl : ∀ k, k < npg f.bytes.length → C.rd ((opnOf f j).slot k) = pageOf f.bytes k := fun k hk => by
    rw [opnOf_slot]; exact hfo.bytes k (by rw [htj]; exact hk)
  have hA : ∀ i, i < f.bytes.length → (C.allP (opnOf f j))[i]? = f.bytes[i]? := fun i hi => by
    have hk : i / 512 < npg f.bytes.length := by unfold npg; omega
    have h1 := flat512_at (fun k => C.rd ((opnOf f j).slot k)) (npg f.bytes.length) (i / 512) hk (fun k hk => by rw [hpl k hk]; exact pageOf_length _ _)
    have h2 := congrArg (fun l => l[i % 512]?) h1
    rw [List.getElem?_take_of_lt (by omega), List.getElem?_drop, show 512 * (i / 512) + i % 512 = i from by omega, hpl _ hk, pageOf_getElem? _ _ _ (by omega), show 512 * (i / 512) + i % 512 = i from by omega] at h2
    unfold Ca.allP
    rw [hsz, h2, List.getD_eq_getElem?_getD, List.getElem?_eq_getElem hi]; rfl
  refine List.ext_getElem? fun i => ?_
  rw [List.getElem?_take, List.getElem?_take]
  by_cases hi : i < min n (f.bytes.length - at_)
  · rw [if_pos hi, if_pos (by omega), List.getElem?_drop, List.getElem?_drop]
    exact hA _ (by omega)
  · rw [if_neg hi]
    split
    · rw [List.getElem?_drop, List.getElem?_eq_none (by omega)]
    · rfl
end Go.Proofs.YtakmplpfjcddiaaGreatDoor

namespace Go.Proofs.YtakmplpfjcddiaaGreatDoor
open Go.RowKit Go.Shelf Pa
attribute [local go_sem] bs_toList bs_size
set_option maxRecDepth 100000 in
set_option maxHeartbeats 4000000 in
theorem resize1_any (b0 bo bz s m c ino size : Nat) (o o1 : Opn) (C C1 C2 : Ca) (R : Reg) (F : List (Nat × Obj)) (w : World) (h : Held w F c C R) (hm : (m, mapO c ino) ∈ F) (hs : (s, storeO m) ∈ F) (hi : ino ≤ 512) (h8 : ino % 8 = 0) (hp : alFirst ino < C.G.pages)
    (q0 : w.heap[b0]? = some (.cells #[.pointer (some ⟨s, 0, none⟩)] 52 (0, 0))) (qo : OpnAt w bo o) (qz : w.heap[bz]? = some (.cells #[.int .i64 size] 3 (0, 0))) (r0 : ¬ R.has b0) (ro : ¬ R.has bo) (n0 : b0 ≠ bo)
    (hsz : size ≤ 70656) (hos : o.size ≤ 70656) (hrs : resizeP ino (o, C) size = some (o1, C1)) (hsv : C1.save o1 = some C2) (hG1 : C1.G = C.G)
    (htl : 0 < size → o1.slot (npg size - 1) < C.G.pages) (hoi : o1.i < ino) (hon : o1.ind < C.G.pages) (hol : o1.Len) :
    Calls Tryz.prog 122 #[.pointer (some ⟨b0, 0, none⟩), .pointer (some ⟨bo, 0, none⟩), .pointer (some ⟨bz, 0, none⟩)] w fun e w' => e = .returned (.tuple #[]) ∧ StepX w F c C2 R (fun k => k = bo) w' := by
  have hre := resize_any s m c ino bo size o o1 C C1 R F w h hm hs hi (by unfold alFirst at hp; omega) qo ro hos hsz hrs htl
  have k0 : w.cell? ⟨b0, 0, none⟩ = some (.pointer (some ⟨s, 0, none⟩)) := cell_of_heap q0 0
  have kz : w.cell? ⟨bz, 0, none⟩ = some (.int .i64 size) := cell_of_heap qz 0
  have l0 := (Array.getElem?_eq_some_iff.1 q0).1
  have hnext : ∀ w1, OcI w F c R bo o1 C1 w1 → w1.cell? ⟨b0, 0, none⟩ = some (.pointer (some ⟨s, 0, none⟩)) ∧ OpnAt w1 bo o1 ∧ Calls Tryz.prog 124 #[.pointer (some ⟨s, 0, none⟩), OpnV o1] w1 fun e w' => e = .returned (.tuple #[]) ∧ StepX w F c C2 R (fun k => k = bo) w' := by
    intro w1 ⟨R1, g1, t1, f1, q1, b1⟩
    refine ⟨cell_of_heap ((f1.block _ l0 (fun e => by rcases e with e | e; exact r0 (.inl e); exact n0 e)).trans q0) 0, q1, ?_⟩
    refine (save_any s m c ino o1 C1 C2 R1 F w1 g1 hm hs hi h8 (by rw [hG1]; omega) hol hoi (by rw [hG1]; exact hon) hsv).mono ?_
    rintro e w2 ⟨rfl, R2, g2, t2, f2⟩
    exact ⟨rfl, R2, g2, t1.trans t2 f1.size, f1.trans f2 (fun k e => by
      rcases t1.m k e with e | e
      · exact .inl (.inl e)
      · exact .inr e)⟩
  have HRe := Lib.hid hre
  have HNx := Lib.hid hnext
  clear hre hnext h hm hs q0 qo qz r0 ro hrs hsv htl
  go_enter Tryz.func122, Tryz.ntmps122
  go_wp2_with fail
  refine HRe.out.mono ?_
  rintro e w1 ⟨rfl, hI1⟩
  obtain ⟨a1, a2, a3⟩ := HNx.out w1 hI1
  have HO := Lib.hid a2
  have HSv := Lib.hid a3
  clear hI1 a2 a3
  go_wp2_with (refine wpList_load_row rfl 171 _ rfl bo rfl 171 (cellsO o1).toArray (0, 0) _ HO.out.1 Tryz.underlying171 rfl HO.out.info ?_)
  refine HSv.out.mono ?_
  rintro e w2 ⟨rfl, hs2⟩
  have HS2 := Lib.hid hs2
  clear hs2
  go_wp2_with fail
  go_end0
  exact ⟨rfl, HS2.out⟩
theorem alloc2 (w : World) (o0 o1 : Obj) : ((w.alloc o0).alloc o1).heap[w.heap.size]? = some o0 ∧ ((w.alloc o0).alloc o1).heap[w.heap.size + 1]? = some o1 ∧ ((w.alloc o0).alloc o1).heap.size = w.heap.size + 1 + 1 := by
  have s1 : (w.alloc o0).heap.size = w.heap.size + 1 := World.size_alloc _ _
  refine ⟨?_, alloc_at _ _ _ s1.symm, by rw [World.size_alloc, s1]⟩
  rw [alloc_old _ _ _ (by omega)]; exact alloc_at _ _ _ rfl
set_option maxRecDepth 100000 in
set_option maxHeartbeats 4000000 in
theorem irs_any (s m c ino i size : Nat) (o o1 : Opn) (C C1 C2 : Ca) (R : Reg) (F : List (Nat × Obj)) (w : World) (h : Held w F c C R) (hm : (m, mapO c ino) ∈ F) (hs : (s, storeO m) ∈ F) (hi : ino ≤ 512) (h8 : ino % 8 = 0) (hp : alFirst ino < C.G.pages)
    (hvv : ∀ j, 1 ≤ j → j < ino → bitAt (C.rd 1) j = true → (C.recd j).ind < C.G.pages) (hlo : C.loadR ino i = (o, 0)) (hlen : o.Len) (hsz : size ≤ 70656) (hos : o.size ≤ 70656) (hne : size ≠ o.size)
    (hrs : resizeP ino (o, C) size = some (o1, C1)) (hsv : C1.save o1 = some C2) (hG1 : C1.G = C.G)
    (htl : 0 < size → o1.slot (npg size - 1) < C.G.pages) (hoi : o1.i < ino) (hon : o1.ind < C.G.pages) (hol : o1.Len) :
    Calls Tryz.prog 62 #[.pointer (some ⟨s, 0, none⟩), .int .i64 i, .int .i64 size] w fun e w' => e = .returned (.int .i64 0) ∧ Step w F c C2 R w' := by
  have hmf : ∀ (fn : Fn) (first cap : Array Value) (w : World), (Instr.makeFunc fn first cap).run Tryz.prog w = .ok (.func fn first cap) w := fun _ _ _ _ => rfl
  obtain ⟨p0, p1, z0⟩ := alloc2 w (.cells #[.pointer (some ⟨s, 0, none⟩)] 52) (.cells #[.int .i64 size] 3)
  obtain ⟨W0, hW0⟩ : ∃ W0, W0 = ((w.alloc (.cells #[.pointer (some ⟨s, 0, none⟩)] 52)).alloc (.cells #[.int .i64 size] 3)) := ⟨_, rfl⟩
  rw [← hW0] at p0 p1 z0
  have hb0 : Below w.heap.size w W0 := by
    rw [hW0]
    exact ((Below.refl _ _).alloc (Nat.le_refl _) _).alloc (by simp) _
  have h0 := h.below hb0
  have hld := load_any s m c ino i C R F W0 h0 hm hs hi hp hvv
  rw [hlo] at hld
  have ks0 : W0.cell? ⟨w.heap.size, 0, none⟩ = some (.pointer (some ⟨s, 0, none⟩)) := cell_of_heap p0 0
  have ha0 : decide ((size : Int) < 0) = false := by simp
  have ha1 : decide ((70656 : Int) < (size : Int)) = false := by simp; omega
  have ha3 : ((size : Int) == (o.size : Int)) = false := by simp; omega
  have HLd := Lib.hid hld
  have hmain : ∀ w1, Step W0 F c C R w1 → ∃ W3, W3 = (w1.alloc (.cells Tryz.zeroCells171 171)).setRow w1.heap.size (cellsO o).toArray ∧ W3.cell? ⟨w.heap.size, 0, none⟩ = some (.pointer (some ⟨s, 0, none⟩)) ∧ W3.cell? ⟨w.heap.size + 1, 0, none⟩ = some (.int .i64 size) ∧ W3.cell? ⟨w1.heap.size, 3, none⟩ = some (.int .i64 o.size) ∧
      Calls Tryz.prog 121 #[.pointer (some ⟨s, 0, none⟩), .func (.func 122) #[] #[.pointer (some ⟨w.heap.size, 0, none⟩), .pointer (some ⟨w1.heap.size, 0, none⟩), .pointer (some ⟨w.heap.size + 1, 0, none⟩)]] W3 fun e w' => e = .returned (.int .i64 0) ∧ Step w F c C2 R w' := by
    intro w1 ⟨R1, g1, t1, f1⟩
    have hop := opened_i s h hb0 g1 t1 f1 hlen
    obtain ⟨W3, hW3⟩ : ∃ W3, W3 = (w1.alloc (.cells Tryz.zeroCells171 171)).setRow w1.heap.size (cellsO o).toArray := ⟨_, rfl⟩
    have hO3 : OpnAt W3 w1.heap.size o := by rw [hW3]; exact (opn_new w1).row o hlen
    rw [← hW3] at hop
    obtain ⟨W5, hW5⟩ : ∃ W5, W5 = (W3.alloc (.cells #[.pointer (some ⟨s, 0, none⟩)] 52)).alloc (.cells #[.int .i64 0] 27) := ⟨_, rfl⟩
    rw [← hW5] at hop
    obtain ⟨n1, n2, n3, n4⟩ := hop.new
    refine ⟨W3, hW3, cell_of_heap ((hop.old3 _ (Nat.le_refl _) (by omega)).trans p0) 0, cell_of_heap ((hop.old3 _ (by omega) (by omega)).trans p1) 0, hO3.size, ?_⟩
    have hwr := resize1_any w.heap.size w1.heap.size (w.heap.size + 1) s m c ino size o o1 C C1 C2 R1 F W5 hop.held hm hs hi h8 hp ((hop.old w.heap.size (Nat.le_refl _) (by omega)).1.trans p0) hop.opn ((hop.old (w.heap.size + 1) (by omega) (by omega)).1.trans p1) (hop.old w.heap.size (Nat.le_refl _) (by omega)).2 n1 (by omega) hsz hos hrs hsv hG1 htl hoi hon hol
    have htr := try_any s 122 #[.pointer (some ⟨w.heap.size, 0, none⟩), .pointer (some ⟨w1.heap.size, 0, none⟩), .pointer (some ⟨w.heap.size + 1, 0, none⟩)] W3
      (fun w6 => StepX W5 F c C2 R1 (fun k => k = w1.heap.size) w6 ∧ w6.heap[W3.heap.size + 1]? = some (.cells #[.int .i64 0] 27 (0, 0)))
      (enters_of Tryz.func122 (by kernel_rfl) rfl)
      (by
        rw [← hW5]
        refine hwr.mono ?_
        rintro e w6 ⟨rfl, hx6⟩
        refine ⟨rfl, hx6, ?_⟩
        obtain ⟨R6, _, _, o6⟩ := hx6
        rw [o6.block _ (by omega) (fun e => by
          rcases e with e | e
          · exact hop.err.2 (.inl e)
          · omega)]
        exact hop.err.1)
      (fun w6 hh => hh.2)
    refine htr.mono ?_
    rintro e w9 ⟨rfl, w6, ⟨⟨R6, g6, t6, o6⟩, _⟩, rfl⟩
    have hw5 : w.heap.size ≤ W5.heap.size := hop.off.size
    have oX : Off (fun k => k = W3.heap.size + 1) w6 (w6.setCell ⟨W3.heap.size + 1, 0, none⟩ (.int .i64 0)) := (Off.refl (fun k => k = W3.heap.size + 1) w6).setCell (p := ⟨W3.heap.size + 1, 0, none⟩) (.inl rfl) _
    refine ⟨rfl, R6, g6.off oX (fun k hk e => ?_), hop.tw.trans t6 hw5, ((hop.off).trans o6 (fun k e => ?_)).trans oX (fun k e => .inr (by omega))⟩
    · exact t6.free hop.err.2 (by omega) (e ▸ hk)
    · rcases e with e | e
      · exact hop.tw.m k e
      · right; omega
  have HMain := Lib.hid hmain
  have HLen := Lib.hid hlen
  clear hld hmain hlen h0 p0 p1 h hm hs hvv hlo hrs hsv htl hb0
  go_enter Tryz.func62, Tryz.ntmps62
  go_wp2_with fail
  rw [← hW0]
  clear hW0
  refine HLd.out.mono ?_
  rintro e w1 ⟨rfl, hs1⟩
  obtain ⟨W3, hW3, a1, a2, a3, htr⟩ := HMain.out w1 hs1
  have hst := opn_store (opn_new w1) o HLen.out
  rw [← hW3] at hst
  have hl144 := cellsO_length HLen.out
  have HTr := Lib.hid htr
  clear hW3 hs1 htr
  go_wp2_with fail
  refine HTr.out.mono ?_
  rintro e w2 ⟨rfl, hs2⟩
  have HS2 := Lib.hid hs2
  clear hs2
  go_wp2_with fail
  go_ret
  exact ⟨rfl, HS2.out⟩
end Go.Proofs.YtakmplpfjcddiaaGreatDoor

namespace Go.Proofs.YtakmplpfjcddiaaGreatDoor
open Go.RowKit Go.Shelf Pa
attribute [local go_sem] bs_toList bs_size
/-- A store stands for T; at most N ops have been done to its disk. -/
def StI (w : World) (s : Nat) (T : RS) (R : Reg) (N : Nat) : Prop :=
  ∃ m c C F, Held w F c C R ∧ (m, mapO c T.inodes) ∈ F ∧ (s, storeO m) ∈ F ∧ Rel C T (fun _ => False) ∧ T.Tight ∧ C.G.D.wait = [] ∧ C.G.D.ops.length ≤ N
def StStep (w : World) (s : Nat) (T' : RS) (R : Reg) (N : Nat) (w' : World) : Prop := ∃ R', StI w' s T' R' N ∧ R.To R' w.heap.size ∧ Off R.m w w'
/-- Bytes of one's own are handed back; nothing turns. -/
def StRd (w : World) (s : Nat) (T : RS) (R : Reg) (N : Nat) (x : Str) (v : Value) (w' : World) : Prop := ∃ R', OwnB w' w.heap.size v x ∧ StI w' s T R' N ∧ R.To R' w.heap.size ∧ Off R.m w w' ∧ ∀ k, v.ownBlock = some k → ¬ R'.has k
theorem StI.lt {w : World} {s : Nat} {T : RS} {R : Reg} {N : Nat} (h : StI w s T R N) : ∀ k, R.has k → k < w.heap.size := by obtain ⟨_, _, _, _, h, _⟩ := h; exact h.lt
theorem StI.apart {w : World} {s : Nat} {T : RS} {R : Reg} {N : Nat} (h : StI w s T R N) : ∀ k, R.m k → ¬ R.i k := by obtain ⟨_, _, _, _, h, _⟩ := h; exact h.apart
theorem StI.off {w w' : World} {s : Nat} {T : RS} {R : Reg} {N : Nat} {J : Nat → Prop} (h : StI w s T R N) (ho : Off J w w') (hd : ∀ k, R.has k → ¬ J k) : StI w' s T R N := by
  obtain ⟨m, c, C, F, h1, h2⟩ := h
  exact ⟨m, c, C, F, h1.off ho hd, h2⟩
theorem StI.below {w w' : World} {s : Nat} {T : RS} {R : Reg} {N : Nat} (h : StI w s T R N) (hb : Below w.heap.size w w') : StI w' s T R N := h.off (Off.of_below hb (fun _ => False)) (fun _ _ e => e)
theorem StI.more {w : World} {s : Nat} {T : RS} {R : Reg} {N N' : Nat} (h : StI w s T R N) (hn : N ≤ N') : StI w s T R N' := by
  obtain ⟨m, c, C, F, h1, h2, h3, h4, h5, h6, h7⟩ := h
  exact ⟨m, c, C, F, h1, h2, h3, h4, h5, h6, by omega⟩
theorem StStep.refl {w : World} {s : Nat} {T : RS} {R : Reg} {N : Nat} (h : StI w s T R N) : StStep w s T R N w := ⟨R, h, Reg.To.refl _ _, Off.refl _ _⟩
theorem StStep.below {w w' : World} {s : Nat} {T : RS} {R : Reg} {N : Nat} (h : StI w s T R N) (hb : Below w.heap.size w w') : StStep w s T R N w' := ⟨R, h.below hb, Reg.To.refl _ _, Off.of_below hb _⟩
theorem StStep.trans {w w1 w2 : World} {s : Nat} {T2 : RS} {R R1 : Reg} {N : Nat} (ht : R.To R1 w.heap.size) (ho : Off R.m w w1) (h2 : StStep w1 s T2 R1 N w2) : StStep w s T2 R N w2 := by
  obtain ⟨R2, h3, t2, o2⟩ := h2
  exact ⟨R2, h3, ht.trans t2 ho.size, ho.trans o2 ht.m⟩
theorem StStep.step {w w1 w2 : World} {s : Nat} {T1 : RS} {R : Reg} {N : Nat} (h : StStep w s T1 R N w1) (hb : Below w1.heap.size w1 w2) : StStep w s T1 R N w2 := by
  obtain ⟨R1, h1, t1, o1⟩ := h
  exact ⟨R1, h1.below hb, t1, o1.step hb⟩
theorem StRd.st {w w' : World} {s : Nat} {T : RS} {R : Reg} {N : Nat} {x : Str} {v : Value} (h : StRd w s T R N x v w') : StStep w s T R N w' := by
  obtain ⟨R', _, h2, h3, h4, _⟩ := h
  exact ⟨R', h2, h3, h4⟩
theorem Rel.recInd {C : Ca} {T : RS} (h : Rel C T (fun _ => False)) : ∀ j, 1 ≤ j → j < T.inodes → bitAt (C.rd 1) j = true → (C.recd j).ind < C.G.pages := by
  intro j h1 h2 h3
  have hs := h.small
  rw [h.ib j h2] at h3
  have hl : T.live j := ⟨h1, h3⟩
  obtain ⟨r1, _⟩ := h.rcd j hl (fun e => e)
  have hf := (h.files j hl).2
  unfold Ca.recd
  rw [r1, show decI (encI (opnOf (T.file j) j)) j = { opnOf (T.file j) j with more := List.replicate 128 0 } from decI_encI (hf.fit h.npl j)]
  show (opnOf (T.file j) j).ind < _
  rw [opnOf_ind]
  by_cases h0 : (T.file j).ind = 0
  · omega
  · exact (h.table_free hl (pgs_ind h0)).2
theorem Rel.loadR {C : Ca} {T : RS} (h : Rel C T (fun _ => False)) (i : Int) : C.loadR T.inodes i = (if T.look i = 0 then opnOf (T.file i.toNat) i.toNat else Opn.none, T.look i) := by
  unfold Ca.loadR
  rw [h.load i (fun e => e)]
  by_cases h0 : T.look i = 0
  · rw [if_pos h0, if_pos h0, h0]
  · rw [if_neg h0, if_neg h0]
theorem look_live {T : RS} {i : Int} (h : T.look i = 0) : T.live i.toNat ∧ i = (i.toNat : Int) ∧ i.toNat < T.inodes ∧ (T.file i.toNat).kind ≠ 0 := by
  unfold RS.look at h
  by_cases h1 : i < 1 ∨ (T.inodes : Int) ≤ i
  · rw [if_pos h1] at h; cases h
  · rw [if_neg h1] at h
    by_cases h2 : T.i.getD i.toNat false = false ∨ (T.file i.toNat).kind = 0
    · rw [if_pos h2] at h; cases h
    · refine ⟨⟨by omega, ?_⟩, by omega, by omega, fun e => h2 (.inr e)⟩
      cases hb : T.i.getD i.toNat false with
      | true => rfl
      | false => exact absurd (.inl hb) h2
theorem Rel.lookLive {C : Ca} {T : RS} {ex : Nat → Prop} (h : Rel C T ex) {j : Nat} (hl : T.live j) : T.look (j : Int) = 0 := by
  unfold RS.look
  have h1 := RS.live_lt hl
  have h2 := hl.1
  have h3 := (h.files j hl).1
  rw [if_neg (by unfold RS.inodes; omega), if_neg]
  rintro (h4 | h4)
  · rw [Int.toNat_natCast] at h4; rw [hl.2] at h4; cases h4
  · rw [Int.toNat_natCast] at h4; omega
theorem opnOf_len {C : Ca} {T : RS} {f : RF} (h : FOk C T f) (hn : C.G.pages ≤ 4096) (j : Nat) : (opnOf f j).Len := ⟨(h.fit hn j).pages, (h.more hn j).1⟩
theorem loadR_len {C : Ca} {T : RS} (h : Rel C T (fun _ => False)) (i : Int) : (C.loadR T.inodes i).1.Len := by
  rw [h.loadR]
  show (if T.look i = 0 then opnOf (T.file i.toNat) i.toNat else Opn.none).Len
  split
  · rename_i h0
    exact opnOf_len (h.files _ (look_live h0).1).2 h.npl _
  · exact Opn.none_len
/-- What Get hands back. -/
def getR (T : RS) (i : Int) : Opn := if T.look i = 0 then opnOf (T.file i.toNat) i.toNat else Opn.none
theorem sget_any (s N : Nat) (i : Int) (T : RS) (R : Reg) (w : World) (h : StI w s T R N) :
    Calls Tryz.prog 107 #[.pointer (some ⟨s, 0, none⟩), .int .i64 i] w fun e w' => e = .returned (.tuple #[.agg (cellsI (getR T i)).toArray, .int .i64 (T.look i : Nat)]) ∧ StStep w s T R N w' := by
  obtain ⟨m, c, C, F, h1, h2, h3, h4, h5, h6, h7⟩ := h
  refine (get0_any s m c T.inodes i C R F w h1 h2 h3 h4.ino8.2.2.1 h4.ino8.2.2.2 h4.recInd (loadR_len h4 i)).mono ?_
  rintro e w' ⟨rfl, R', k1, k2, k3⟩
  rw [h4.loadR]
  exact ⟨rfl, R', ⟨m, c, C, F, k1, h2, h3, h4, h5, h6, h7⟩, k2, k3⟩
theorem swrite_any (s N j at_ : Nat) (b : Str) (v : Value) (T T' : RS) (R : Reg) (w : World) (h : StI w s T R N) (hl : T.live j) (hb : b ≠ []) (hsz : at_ + b.length ≤ 70656) (hv : BytesI w (fun k => ¬ R.m k) v b) (hw : T.write j at_ b = some T') :
    Calls Tryz.prog 63 #[.pointer (some ⟨s, 0, none⟩), .int .i64 j, .int .i64 at_, v] w fun e w' => e = .returned (.int .i64 0) ∧ StStep w s T' R N w' := by
  obtain ⟨m, c, C, F, h1, h2, h3, h4, h5, h6, h7⟩ := h
  obtain ⟨o1, C1, C2, C3, a1, a2, a3, a4, a5, a6, a7, a8, a9, a10, a11, a12, a13⟩ := h4.write h5 hl hsz hw
  have hlk := h4.lookLive hl
  have hlo := h4.loadR (j : Int)
  rw [hlk, if_pos rfl, Int.toNat_natCast] at hlo
  have hfo := (h4.files j hl).2
  have hl' : T'.live j := by unfold RS.live; rw [a8]; exact hl
  have hfo' := (a4.files j hl').2
  have hG3 : C3.G.pages = C.G.pages := by rw [a5.1]
  have hnpl := h4.npl
  have hs := h4.small
  have ho1s : o1.size = max (T.file j).bytes.length (at_ + b.length) := by rw [a12]; exact a13
  have hino : T'.inodes = T.inodes := by unfold RS.inodes; rw [a8]
  refine (iwr_any s m c T.inodes j at_ v b (opnOf (T.file j) j) o1 C C1 C2 C3 R F w h1 h2 h3 h4.ino8.2.2.1 h4.ino8.1 h4.ino8.2.2.2 h4.recInd hlo (opnOf_len hfo hnpl j) hv hb hsz hfo.size a1 a2 a3 a6.1 ?_ ?_ ?_ ?_ ho1s).mono ?_
  · intro k hk
    rw [ho1s] at hk
    rw [a12, opnOf_slot, ← hG3]
    exact (hfo'.own _ (pgs_data (getD_mem (by rw [a7 j, a13]; exact hk)))).2.1
  · rw [a12]; exact RS.live_lt hl
  · rw [a12, opnOf_ind, ← hG3]
    by_cases h0 : (T'.file j).ind = 0
    · rw [h0, hG3]; omega
    · exact (hfo'.own _ (pgs_ind h0)).2.1
  · rw [a12]; exact opnOf_len hfo' a4.npl j
  · rintro e w' ⟨rfl, R', k1, k2, k3⟩
    exact ⟨rfl, R', ⟨m, c, C3, F, k1, by rw [hino]; exact h2, h3, a4, a7, by rw [a5.1]; exact h6, by rw [a5.1]; exact h7⟩, k2, k3⟩
theorem sresize_any (s N j size : Nat) (T T' : RS) (R : Reg) (w : World) (h : StI w s T R N) (hl : T.live j) (hsz : size ≤ 70656) (hne : size ≠ (T.file j).bytes.length) (hw : T.resize j size = some T') :
    Calls Tryz.prog 62 #[.pointer (some ⟨s, 0, none⟩), .int .i64 j, .int .i64 size] w fun e w' => e = .returned (.int .i64 0) ∧ StStep w s T' R N w' := by
  obtain ⟨m, c, C, F, h1, h2, h3, h4, h5, h6, h7⟩ := h
  have hr := h4.resize (j := j) (size := size) (fun _ e => e.elim) h5 hl hsz
  rw [hw] at hr
  obtain ⟨C1, a1, a2, a3, a4⟩ := hr
  have hl' : T'.live j := by unfold RS.live; rw [a4.i]; exact hl
  obtain ⟨C2, b1, b2, b3, b4⟩ := a2.save hl'
  have hlk := h4.lookLive hl
  have hlo := h4.loadR (j : Int)
  rw [hlk, if_pos rfl, Int.toNat_natCast] at hlo
  have hfo := (h4.files j hl).2
  have hfo' := (a2.files j hl').2
  have hG3 : C1.G.pages = C.G.pages := by rw [a3.1]
  have hnpl := h4.npl
  have hs := h4.small
  have hino : T'.inodes = T.inodes := by unfold RS.inodes; rw [a4.i]
  have hbl : (T'.file j).bytes.length = size := by rw [a4.bytes, fitTo_length]
  refine (irs_any s m c T.inodes j size (opnOf (T.file j) j) (opnOf (T'.file j) j) C C1 C2 R F w h1 h2 h3 h4.ino8.2.2.1 h4.ino8.1 h4.ino8.2.2.2 h4.recInd hlo (opnOf_len hfo hnpl j) hsz hfo.size hne a1 b1 a3.1 ?_ (RS.live_lt hl) ?_ (opnOf_len hfo' a2.npl j)).mono ?_
  · intro h0
    rw [opnOf_slot, ← hG3]
    exact (hfo'.own _ (pgs_data (getD_mem (by rw [a4.tight j, hbl]; unfold npg; omega)))).2.1
  · rw [opnOf_ind, ← hG3]
    by_cases h0 : (T'.file j).ind = 0
    · rw [h0, hG3]; omega
    · exact (hfo'.own _ (pgs_ind h0)).2.1
  · rintro e w' ⟨rfl, R', k1, k2, k3⟩
    exact ⟨rfl, R', ⟨m, c, C2, F, k1, by rw [hino]; exact h2, h3, b2.mono (fun k e => e.2 e.1), a4.tight, by rw [b3, a3.1]; exact h6, by rw [b3, a3.1]; exact h7⟩, k2, k3⟩
theorem smake_any (s N j k md : Nat) (T : RS) (R : Reg) (w : World) (h : StI w s T R N) (ht : takeB T.i = some j) (hk : 1 ≤ k ∧ k ≤ 3) (hmd : md ≤ 4095) :
    Calls Tryz.prog 110 #[.pointer (some ⟨s, 0, none⟩), .int .i64 k, .int .i64 md] w fun e w' => e = .returned (.tuple #[.int .i64 j, .int .i64 0]) ∧ StStep w s (T.mkI j k md) R N w' := by
  obtain ⟨m, c, C, F, h1, h2, h3, h4, h5, h6, h7⟩ := h
  obtain ⟨C1, C2, a1, a2, a3, a4, a5, a6, a7⟩ := h4.mkInode ht hk hmd
  have hino : (T.mkI j k md).inodes = T.inodes := List.length_set ..
  refine (make_any s m c T.inodes k md j C C1 C2 R F w h1 h2 h3 h4.ino8.2.2.1 h4.ino8.1 (Nat.le_of_lt h4.ino8.2.2.2) hk hmd a1 a6 a2 a4).mono ?_
  rintro e w' ⟨rfl, R', k1, k2, k3⟩
  exact ⟨rfl, R', ⟨m, c, C2, F, k1, by rw [hino]; exact h2, h3, a3, mkI_tight h5 (by rw [h4.ino]; exact a6), by rw [a5.1]; exact h6, by rw [a5.1]; exact h7⟩, k2, k3⟩
theorem CacheAt.safe {w : World} {c : Nat} {C : Ca} {R : Reg} (h : CacheAt w c C R) : C.G.D.safe.length = C.G.D.first.length := by
  obtain ⟨_, p, _, _, h⟩ := h
  obtain ⟨a, came, RD, _, hD, _, _⟩ := h.log.cells
  exact hD.ok.len
end Go.Proofs.YtakmplpfjcddiaaGreatDoor

namespace Go.Proofs.YtakmplpfjcddiaaGreatDoor
open Go.RowKit Go.Shelf Pa
attribute [local go_sem] bs_toList bs_size
set_option maxRecDepth 100000 in
set_option maxHeartbeats 2000000 in
theorem ireadN_any (s m c ino at_ n e0 : Nat) (i : Int) (o : Opn) (C : Ca) (R : Reg) (F : List (Nat × Obj)) (w : World) (h : Held w F c C R) (hm : (m, mapO c ino) ∈ F) (hs : (s, storeO m) ∈ F) (hi : ino ≤ 512) (hp : alFirst ino < C.G.pages)
    (hv : ∀ j, 1 ≤ j → j < ino → bitAt (C.rd 1) j = true → (C.recd j).ind < C.G.pages) (hlo : C.loadR ino i = (o, e0)) (hlen : o.Len) (hc : e0 ≠ 0 ∨ (e0 = 0 ∧ o.size ≤ at_)) :
    Calls Tryz.prog 133 #[.pointer (some ⟨s, 0, none⟩), .int .i64 i, .int .i64 at_, .int .i64 n] w fun e w' => e = .returned (.tuple #[.slice none 0 0, .int .i64 e0]) ∧ Step w F c C R w' := by
  have hld := load_any s m c ino i C R F w h hm hs hi hp hv
  rw [hlo] at hld
  have ha0 : decide ((at_ : Int) < 0) = false := by simp
  have hn0 : decide ((n : Int) < 0) = false := by simp
  have HLd := Lib.hid hld
  have HLen := Lib.hid hlen
  clear hld hlen h hm hs hv hlo
  go_enter Tryz.func133, Tryz.ntmps133
  go_wp2_with fail
  refine HLd.out.mono ?_
  rintro e w1 ⟨rfl, hs1⟩
  have hst := opn_store (opn_new w1) o HLen.out
  obtain ⟨W3, hW3⟩ : ∃ W3, W3 = (w1.alloc (.cells Tryz.zeroCells171 171)).setRow w1.heap.size (cellsO o).toArray := ⟨_, rfl⟩
  rw [← hW3] at hst
  have hO3 : OpnAt W3 w1.heap.size o := by rw [hW3]; exact (opn_new w1).row o HLen.out
  have ho3 : Off (fun k => k = w1.heap.size) w1 W3 := by
    rw [hW3]
    exact ((Off.refl (fun k => k = w1.heap.size) w1).alloc _).trans (off_setRow _ _ _) (fun k e => .inl e)
  have hl144 := cellsO_length HLen.out
  have hsz3 := hO3.size
  have hfin : Step w F c C R W3 := by
    obtain ⟨R1, g1, t1, o1⟩ := hs1
    have hz := o1.size
    exact ⟨R1, g1.off ho3 (fun k hk e => by have := g1.lt _ hk; omega), t1, o1.trans ho3 (fun k e => .inr (by omega))⟩
  have HFin := Lib.hid hfin
  clear hW3 hO3 ho3 hfin hs1
  by_cases he : e0 = 0
  · subst he
    have hge : decide (o.size ≤ at_) = true := by simp; omega
    have hge2 : decide ((o.size : Int) ≤ (at_ : Int)) = true := by simp; omega
    clear hc
    go_wp2_with fail
    go_ret2
    exact ⟨rfl, HFin.out⟩
  · have he' : ((e0 : Int) != 0) = true := by simp; exact he
    clear hc he
    go_wp2_with fail
    go_ret2
    exact ⟨rfl, HFin.out⟩
/-- What Read hands back. -/
def readR (T : RS) (i : Int) (at_ n : Nat) : Str := if T.look i = 0 then ((T.file i.toNat).bytes.drop at_).take n else []
theorem stread_any (s N at_ n : Nat) (i : Int) (T : RS) (R : Reg) (w : World) (h : StI w s T R N) (hn : n ≤ 1000000) (hn0 : T.look i = 0 → at_ < (T.file i.toNat).bytes.length → 0 < n) :
    Calls Tryz.prog 133 #[.pointer (some ⟨s, 0, none⟩), .int .i64 i, .int .i64 at_, .int .i64 n] w fun e w' => ∃ v, e = .returned (.tuple #[v, .int .i64 (T.look i : Nat)]) ∧ StRd w s T R N (readR T i at_ n) v w' := by
  obtain ⟨m, c, C, F, h1, h2, h3, h4, h5, h6, h7⟩ := h
  have hnil : readR T i at_ n = [] → ∀ w', Step w F c C R w' → StRd w s T R N (readR T i at_ n) (.slice none 0 0) w' := fun e w' ⟨R', k1, k2, k3⟩ => by
    rw [e]
    exact ⟨R', World.ownsRow_nil _ _ _ _, ⟨m, c, C, F, k1, h2, h3, h4, h5, h6, h7⟩, k2, k3, fun k hk => by cases hk⟩
  have hlo := h4.loadR i
  by_cases h0 : T.look i = 0
  · obtain ⟨hl, hij, hlt, _⟩ := look_live h0
    rw [h0, if_pos rfl] at hlo
    have hfo := (h4.files _ hl).2
    have hnpl := h4.npl
    by_cases hat : at_ < (T.file i.toNat).bytes.length
    · have hrd := iread_any s m c T.inodes i.toNat at_ n (opnOf (T.file i.toNat) i.toNat) C R F w h1 h2 h3 h4.ino8.2.2.1 h4.ino8.2.2.2 h4.recInd (by rw [← hij]; exact hlo) (opnOf_len hfo hnpl _) hfo.size (fun k hk => by
        rw [opnOf_slot]
        exact (hfo.own _ (pgs_data (getD_mem (by rw [h5]; exact hk)))).2.1) hat hn (hn0 h0 hat)
      rw [← hij] at hrd
      refine hrd.mono ?_
      rintro e w' ⟨v, rfl, R', k1, k2, k3, k4, k5⟩
      rw [show (opnOf (T.file i.toNat) i.toNat).size = (T.file i.toNat).bytes.length from rfl, h4.bytes hl h5] at k1
      refine ⟨v, by rw [h0]; rfl, R', ?_, ⟨m, c, C, F, k2, h2, h3, h4, h5, h6, h7⟩, k3, k4, k5⟩
      unfold readR
      rw [if_pos h0]; exact k1
    · refine (ireadN_any s m c T.inodes at_ n 0 i _ C R F w h1 h2 h3 h4.ino8.2.2.1 h4.ino8.2.2.2 h4.recInd hlo (opnOf_len hfo hnpl _) (.inr ⟨rfl, by show (T.file i.toNat).bytes.length ≤ at_; omega⟩)).mono ?_
      rintro e w' ⟨rfl, hst⟩
      refine ⟨_, by rw [h0], hnil ?_ w' hst⟩
      unfold readR
      rw [if_pos h0, List.drop_eq_nil_of_le (by omega)]; exact List.take_nil
  · rw [if_neg h0] at hlo
    refine (ireadN_any s m c T.inodes at_ n (T.look i) i _ C R F w h1 h2 h3 h4.ino8.2.2.1 h4.ino8.2.2.2 h4.recInd hlo Opn.none_len (.inl h0)).mono ?_
    rintro e w' ⟨rfl, hst⟩
    refine ⟨_, rfl, hnil ?_ w' hst⟩
    unfold readR
    rw [if_neg h0]
end Go.Proofs.YtakmplpfjcddiaaGreatDoor

namespace Go.Proofs.YtakmplpfjcddiaaGreatDoor
open Go.RowKit Go.Shelf Pa
attribute [local go_sem] bs_toList bs_size
theorem OwnB.base {w : World} {B B' : Nat} {v : Value} {x : Str} (h : OwnB w B v x) (hB : B' ≤ B) : OwnB w B' v x := by
  obtain ⟨h1, h⟩ := h
  exact ⟨h1, h.imp id fun ⟨g, cap, cur, e1, e2, e3⟩ => ⟨g, cap, cur, e1, by omega, e3⟩⟩
theorem StRd.from_ {w w1 w' : World} {s : Nat} {T : RS} {R R1 : Reg} {N : Nat} {x : Str} {v : Value} (ht : R.To R1 w.heap.size) (ho : Off R.m w w1) (h : StRd w1 s T R1 N x v w') : StRd w s T R N x v w' := by
  obtain ⟨R2, h1, h2, h3, h4, h5⟩ := h
  exact ⟨R2, h1.base ho.size, h2, ht.trans h3 ho.size, ho.trans h4 ht.m, h5⟩
/-- The error of a look at a directory; its bytes. -/
def lookE (T : RS) (i : Int) : Nat := if T.look i ≠ 0 then T.look i else if (T.file i.toNat).kind ≠ 2 then 10 else 0
def lookB (T : RS) (i : Int) : Str := if lookE T i = 0 then (T.file i.toNat).bytes else []
theorem lookE_ok {T : RS} {i : Int} (h : lookE T i = 0) : T.look i = 0 ∧ (T.file i.toNat).kind = 2 := by
  unfold lookE at h
  by_cases h1 : T.look i = 0
  · rw [if_neg (fun e => e h1)] at h
    by_cases h2 : (T.file i.toNat).kind = 2
    · exact ⟨h1, h2⟩
    · rw [if_pos h2] at h; cases h
  · rw [if_pos h1] at h; exact absurd h h1
set_option maxRecDepth 100000 in
set_option maxHeartbeats 2000000 in
theorem look_any' (s N : Nat) (i : Int) (T : RS) (R : Reg) (w : World) (h : StI w s T R N) :
    Calls Tryz.prog 134 #[.pointer (some ⟨s, 0, none⟩), .int .i64 i] w fun e w' => ∃ v, e = .returned (.tuple #[v, .int .i64 (lookE T i : Nat)]) ∧ StRd w s T R N (lookB T i) v w' := by
  have hge := sget_any s N i T R w h
  have hlen : (getR T i).Len := by
    obtain ⟨m, c, C, F, _, _, _, h4, _⟩ := h
    have := loadR_len h4 i
    rw [h4.loadR] at this
    exact this
  have hsz : T.look i = 0 → (T.file i.toNat).bytes.length ≤ 70656 := fun h0 => by
    obtain ⟨m, c, C, F, _, _, _, h4, _⟩ := h
    exact (h4.files _ (look_live h0).1).2.size
  have hnil : ∀ w1, StStep w s T R N w1 → ∀ wx, Below w1.heap.size w1 wx ∨ Off (fun k => k = w1.heap.size) w1 wx → lookB T i = [] → StRd w s T R N (lookB T i) (.slice none 0 0) wx := fun w1 ⟨R1, g1, t1, o1⟩ wx ho e => by
    rw [e]
    have hz := o1.size
    have ho' : Off (fun k => k = w1.heap.size) w1 wx := by
      rcases ho with ho | ho
      · exact Off.of_below ho _
      · exact ho
    exact ⟨R1, World.ownsRow_nil _ _ _ _, g1.off ho' (fun k hk e => by have := g1.lt _ hk; omega), t1, o1.trans ho' (fun k e => .inr (by omega)), fun k hk => by cases hk⟩
  obtain ⟨o, ho⟩ : ∃ o, o = getR T i := ⟨_, rfl⟩
  rw [← ho] at hge hlen
  have HGe := Lib.hid hge
  have HLen := Lib.hid hlen
  have HNil := Lib.hid hnil
  have HO := Lib.hid ho
  clear hge hlen hnil h ho
  go_enter Tryz.func134, Tryz.ntmps134
  go_wp2_with fail
  refine HGe.out.mono ?_
  rintro e w1 ⟨rfl, hs1⟩
  have hc0 := alloc_at w1 (.cells #[.int .i64 0, .int .i64 0, .int .i64 0, .int .i64 0, .int .i64 0, .int .i64 0, .int .i64 0, .int .i64 0, .int .i64 0, .int .i64 0, .int .i64 0, .int .i64 0, .int .i64 0, .int .i64 0, .int .i64 0] 94) _ rfl
  have hst := inode_store hc0 rfl o HLen.out
  obtain ⟨W3, hW3⟩ : ∃ W3, W3 = (w1.alloc (.cells #[.int .i64 0, .int .i64 0, .int .i64 0, .int .i64 0, .int .i64 0, .int .i64 0, .int .i64 0, .int .i64 0, .int .i64 0, .int .i64 0, .int .i64 0, .int .i64 0, .int .i64 0, .int .i64 0, .int .i64 0] 94)).setRow w1.heap.size (cellsI o).toArray := ⟨_, rfl⟩
  rw [← hW3] at hst
  have hrow : W3.heap[w1.heap.size]? = some (.cells (cellsI o).toArray 94 (0, 0)) := by rw [hW3]; exact heap_setRow _ _ _ _ hc0
  have ho3 : Off (fun k => k = w1.heap.size) w1 W3 := by
    rw [hW3]
    exact ((Off.refl (fun k => k = w1.heap.size) w1).alloc _).trans (off_setRow _ _ _) (fun k e => .inl e)
  have hk3 : W3.cell? ⟨w1.heap.size, 0, none⟩ = some (.int .i64 o.kind) := by rw [cell_of_heap hrow]; rfl
  have hs3 : W3.cell? ⟨w1.heap.size, 3, none⟩ = some (.int .i64 o.size) := by rw [cell_of_heap hrow]; rfl
  have hl15 := cellsI_length HLen.out
  have HO3 := Lib.hid ho3
  have HS1 := Lib.hid hs1
  clear hc0 hW3 hrow ho3 hs1
  by_cases h0 : T.look i = 0
  · have hok : o = opnOf (T.file i.toNat) i.toNat := by rw [HO.out]; unfold getR; rw [if_pos h0]
    have hkd : o.kind = (T.file i.toNat).kind := by rw [hok]; rfl
    have hsd : o.size = (T.file i.toNat).bytes.length := by rw [hok]; rfl
    rw [hkd] at hk3
    rw [hsd] at hs3
    have hsz0 := hsz h0
    obtain ⟨kd, hkde⟩ : ∃ k, k = (T.file i.toNat).kind := ⟨_, rfl⟩
    obtain ⟨sz, hsze⟩ : ∃ k, k = (T.file i.toNat).bytes.length := ⟨_, rfl⟩
    rw [← hkde] at hk3
    rw [← hsze] at hs3 hsz0
    by_cases hk2 : kd = 2
    · have hk2' : ((kd : Int) != 2) = false := by rw [hk2]; rfl
      have hE : lookE T i = 0 := by unfold lookE; rw [if_neg (fun e => e h0), if_neg (fun e => e (by rw [← hkde]; exact hk2))]
      have hB : lookB T i = readR T i 0 sz := by
        unfold lookB readR
        rw [if_pos hE, if_pos h0, List.drop_zero, hsze, List.take_length]
      have hrd : ∃ R1, R.To R1 w.heap.size ∧ Off R.m w W3 ∧ Calls Tryz.prog 133 #[.pointer (some ⟨s, 0, none⟩), .int .i64 i, .int .i64 0, .int .i64 sz] W3 fun e w' => ∃ v, e = .returned (.tuple #[v, .int .i64 (T.look i : Nat)]) ∧ StRd W3 s T R1 N (readR T i 0 sz) v w' := by
        obtain ⟨R1, g1, t1, o1⟩ := HS1.out
        have hz := o1.size
        exact ⟨R1, t1, o1.trans HO3.out (fun k e => .inr (by omega)), stread_any s N 0 sz i T R1 W3 (g1.off HO3.out (fun k hk e => by have := g1.lt _ hk; omega)) (by omega) (fun _ hlt => by omega)⟩
      obtain ⟨R1, t1, o1, hrd⟩ := hrd
      rw [h0] at hrd
      have HRd := Lib.hid hrd
      have HT := Lib.hid (⟨t1, o1⟩ : _ ∧ _)
      have HE := Lib.hid hE
      have HB := Lib.hid hB
      have HH0 := Lib.hid h0
      clear hrd t1 o1 hE hB hkd hsd hok hkde hsze hsz hk2
      rw [h0]
      clear h0
      go_wp2_with fail
      refine HRd.out.mono ?_
      rintro e w2 ⟨v, rfl, hr⟩
      have HF := Lib.hid (StRd.from_ HT.out.1 HT.out.2 hr)
      clear hr
      go_wp2_with fail
      go_ret2
      exact ⟨v, by rw [HE.out]; rfl, by rw [HB.out]; exact HF.out⟩
    · have hk2' : ((kd : Int) != 2) = true := by simp; omega
      have hE : lookE T i = 10 := by unfold lookE; rw [if_neg (fun e => e h0), if_pos (by rw [← hkde]; exact hk2)]
      have hB : lookB T i = [] := by unfold lookB; rw [if_neg (by rw [hE]; decide)]
      have HF := Lib.hid (HNil.out w1 HS1.out W3 (.inr HO3.out) hB)
      have HE := Lib.hid hE
      clear hE hB hkd hsd hok hkde hsze hsz hk2
      rw [h0]
      clear h0
      go_wp2_with fail
      go_ret2
      exact ⟨_, by rw [HE.out]; rfl, HF.out⟩
  · have hE : lookE T i = T.look i := by unfold lookE; rw [if_pos h0]
    have hB : lookB T i = [] := by unfold lookB; rw [if_neg (by rw [hE]; exact h0)]
    have HF := Lib.hid (HNil.out w1 HS1.out W3 (.inr HO3.out) hB)
    have h0' : (((T.look i : Nat) : Int) != 0) = true := by simp; exact h0
    have HE := Lib.hid hE
    clear hE hB hsz h0
    go_wp2_with fail
    go_ret2
    exact ⟨_, by rw [HE.out]; rfl, HF.out⟩
end Go.Proofs.YtakmplpfjcddiaaGreatDoor

namespace Go.Proofs.YtakmplpfjcddiaaGreatDoor
open Go.RowKit Go.Shelf Pa
/-- An entry: its place, its name, its inode (0: it is free). -/
structure Sl where
  at_ : Nat
  name : Str
  i : Nat
def decS (b : Str) (k : Nat) : Sl := ⟨64 * k, ((b.drop (64 * k + 5)).take (min (b.getD (64 * k + 4) 0).toNat 59)), getN ((b.drop (64 * k)).take 4)⟩
/-- The entries of a directory's bytes. -/
def slotsP (b : Str) : List Sl := (List.range (b.length / 64)).map (decS b)
theorem slotsP_length (b : Str) : (slotsP b).length = b.length / 64 := by simp [slotsP]
theorem slotsP_take (b : Str) (k : Nat) (h : k < b.length / 64) : (slotsP b).take (k + 1) = (slotsP b).take k ++ [decS b k] := by
  have h2 : (slotsP b)[k]? = some (decS b k) := by unfold slotsP; rw [List.getElem?_map, List.getElem?_range h]; rfl
  rw [List.take_add_one, h2]; rfl
end Go.Proofs.YtakmplpfjcddiaaGreatDoor

namespace Go.Proofs.YtakmplpfjcddiaaGreatDoor
open Go
section
variable {F : Fence} {n : Nat} {P : Program} {ops : Array Oper} {md : Region.Mode}
/-- What an operation waits for. -/
def aftQ (md : Region.Mode) (ops : Array Oper) (j : Nat) : List Nat := match ops[j]? with | some o => (o.after.toList.filter (Region.binds md)).map (·.on) | none => []
/-- .. and what these wait for, from the later ones down. -/
def passQ (md : Region.Mode) (ops : Array Oper) : Nat → List Nat → List Nat
  | 0, s => s
  | k + 1, s => passQ md ops k (if s.contains k then s ++ aftQ md ops k else s)
def depQ (md : Region.Mode) (ops : Array Oper) (q : Nat) : Bool := (List.range ops.size).all fun j => decide (j < q) || (List.range q).all fun i => (passQ md ops ops.size (aftQ md ops j)).contains i
def lowQ (md : Region.Mode) (ops : Array Oper) : Bool := (List.range ops.size).all fun j => (aftQ md ops j).all fun i => decide (i < j)
/-- What is listed waits for nothing that is not. -/
def ClosedQ (md : Region.Mode) (ops : Array Oper) (listed : Array Bool) : Prop := ∀ j, listed.getD j false = true → ∀ i ∈ aftQ md ops j, listed.getD i false = true
theorem passQ_listed {listed : Array Bool} (hc : ClosedQ md ops listed) : ∀ (k : Nat) (s : List Nat), (∀ i ∈ s, listed.getD i false = true) → ∀ i ∈ passQ md ops k s, listed.getD i false = true
  | 0, _, h => h
  | k + 1, s, h => by
    unfold passQ
    refine passQ_listed hc k _ fun i hi => ?_
    split at hi
    · rename_i hk
      rcases List.mem_append.1 hi with hi | hi
      · exact h i hi
      · exact hc k (h k (by simpa using hk)) i hi
    · exact h i hi
theorem aftQ_mem {j : Nat} {o : Oper} (ho : ops[j]? = some o) {i : Nat} : i ∈ aftQ md ops j ↔ ∃ e ∈ o.after, Region.binds md e = true ∧ e.on = i := by
  unfold aftQ
  rw [ho]
  simp only [List.mem_map, List.mem_filter, Array.mem_toList_iff, and_assoc]
theorem ready_after {listed : Array Bool} {j : Nat} (h : j ∈ Region.ready md ops listed) : ∀ i ∈ aftQ md ops j, listed.getD i false = true := by
  obtain ⟨_, o, ho, hall⟩ := mem_ready.1 h
  intro i hi
  obtain ⟨e, he, hb, rfl⟩ := (aftQ_mem ho).1 hi
  exact hall e he hb
theorem depQ_spec {q : Nat} (h : depQ md ops q = true) {listed : Array Bool} (hc : ClosedQ md ops listed) {j : Nat} (hj : q ≤ j) (hr : j ∈ Region.ready md ops listed) : ∀ i, i < q → listed.getD i false = true := by
  obtain ⟨_, o, ho, _⟩ := mem_ready.1 hr
  have hlt : j < ops.size := (Array.getElem?_eq_some_iff.1 ho).1
  unfold depQ at h
  rw [List.all_eq_true] at h
  have h1 := h j (List.mem_range.2 hlt)
  simp only [Bool.or_eq_true, decide_eq_true_eq, List.all_eq_true, List.mem_range, List.contains_iff_mem] at h1
  rcases h1 with h1 | h1
  · omega
  · intro i hi
    exact passQ_listed hc _ _ (ready_after hr) i (h1 i hi)
theorem ClosedQ.set {listed : Array Bool} (hc : ClosedQ md ops listed) {j : Nat} (hr : j ∈ Region.ready md ops listed) : ClosedQ md ops (listed.setIfInBounds j true) := by
  intro k hk i hi
  refine getD_set_true ?_
  by_cases e : j = k
  · subst e; exact ready_after hr i hi
  · rw [getD_set_ne false e] at hk; exact hc k hk i hi
theorem size_lt_of_unlisted {listed : Array Bool} {j : Nat} (h : listed.getD j true = false) : j < listed.size := by
  rcases Nat.lt_or_ge j listed.size with h1 | h1
  · exact h1
  · rw [Array.getD_eq_getD_getElem?, Array.getElem?_eq_none h1] at h; cases h
theorem wpAnyIn_pre {ops' : Array Oper} {q r : Nat} {w0 : World} {Q : Exit → Act → World → Prop} {LQ : Array Bool} (hro : F.round = none) (hops : ∀ j, j < q → ops'[j]? = ops[j]?) (hops2 : ops'.size = q) (hg : ∀ (j : Nat) (o : Oper), ops[j]? = some o → o.guard = none)
    (hdep : depQ md ops q = true) (hlow : lowQ md ops = true) (hLQ : ∀ i, i < q → LQ.getD i false = true) (hLQ2 : ∀ i, q ≤ i → i < ops.size → LQ.getD i true = false) (hLQs : LQ.size = ops.size) :
    ∀ (fuel : Nat) (listed : Array Bool) (rest : List Nat) (a : Act), listed.size = ops.size → rest.Nodup → rest.length = fuel → (∀ i, i < q → (i ∈ rest ↔ listed.getD i true = false)) → (∀ i ∈ rest, i < q) → (∀ i, q ≤ i → i < ops.size → listed.getD i true = false) → ClosedQ md ops listed →
      wpAnyQIn F n P md ops' (fun w' => w' = w0) (fun a' => wpAnyIn F n P md ops Q r LQ a' w0) fuel listed a → wpAnyIn F n P md ops Q (fuel + r) listed a w0 := by
  intro fuel
  induction fuel with
  | zero =>
    intro listed rest a hs hnd hlen hrest hrq hun hc h
    have hr : rest = [] := List.length_eq_zero_iff.1 hlen
    subst hr
    have hL : listed = LQ := by
      refine Array.ext (by rw [hs, hLQs]) fun i h1 h2 => ?_
      by_cases hi : i < q
      · have e1 : ¬ listed.getD i true = false := fun e => by have := (hrest i hi).2 e; cases this
        have e2 := hLQ i hi
        rw [Array.getD_eq_getD_getElem?, Array.getElem?_eq_getElem h1] at e1
        rw [Array.getD_eq_getD_getElem?, Array.getElem?_eq_getElem h2] at e2
        simp at e1 e2
        rw [e1, e2]
      · have e1 := hun i (by omega) (by omega)
        have e2 := hLQ2 i (by omega) (by omega)
        rw [Array.getD_eq_getD_getElem?, Array.getElem?_eq_getElem h1] at e1
        rw [Array.getD_eq_getD_getElem?, Array.getElem?_eq_getElem h2] at e2
        simp at e1 e2
        rw [e1, e2]
    rw [Nat.zero_add, hL]
    exact h.2
  | succ fuel ih =>
    intro listed rest a hs hnd hlen hrest hrq hun hc h
    obtain ⟨i0, hi0⟩ : ∃ i0, i0 ∈ rest := List.exists_mem_of_length_pos (by omega)
    have hi0q := hrq i0 hi0
    have hi0u := (hrest i0 hi0q).1 hi0
    have hrd : ∀ j, j ∈ Region.ready md ops listed → j < q := fun j hj => by
      rcases Nat.lt_or_ge j q with h1 | h1
      · exact h1
      · have := depQ_spec hdep hc h1 hj i0 hi0q
        rw [Array.getD_eq_getD_getElem?] at this hi0u
        cases hx : listed[i0]? with
        | none => rw [hx] at hi0u; cases hi0u
        | some b => rw [hx] at this hi0u; simp at this hi0u; rw [this] at hi0u; cases hi0u
    have hrd2 : ∀ j, j < q → (j ∈ Region.ready md ops listed ↔ j ∈ Region.ready md ops' listed) := fun j hj => by
      rw [mem_ready, mem_ready, hops j hj]
    rw [show fuel + 1 + r = (fuel + r) + 1 from by omega]
    refine ⟨fun h0 => ?_, fun j hj => ?_⟩
    · exfalso
      have h1 : Region.ready md ops' listed = [] := by
        rw [List.eq_nil_iff_forall_not_mem]
        intro j hj
        have hjq : j < q := by
          obtain ⟨_, o, ho, _⟩ := mem_ready.1 hj
          have := (Array.getElem?_eq_some_iff.1 ho).1
          omega
        have := (hrd2 j hjq).2 hj
        rw [h0] at this; cases this
      -- nothing is ready, though i0 is not listed: the least that is not listed would be
      have hex : ∀ m, m < q → listed.getD m true = false → False := by
        intro m
        induction m using Nat.strongRecOn with
        | _ m ihm =>
          intro hm hu
          have hml := size_lt_of_unlisted hu
          obtain ⟨o, ho⟩ : ∃ o, ops[m]? = some o := ⟨_, Array.getElem?_eq_getElem (by omega)⟩
          have hin : m ∈ Region.ready md ops listed := by
            rw [mem_ready]
            refine ⟨hu, o, ho, fun e he hb => ?_⟩
            have hlt : e.on < m := by
              unfold lowQ at hlow
              rw [List.all_eq_true] at hlow
              have h2 := hlow m (List.mem_range.2 (by omega))
              rw [List.all_eq_true] at h2
              simpa using h2 e.on ((aftQ_mem ho).2 ⟨e, he, hb, rfl⟩)
            have hlt2 : e.on < listed.size := by omega
            cases hv : listed[e.on]'hlt2 with
            | true => rw [Array.getD_eq_getD_getElem?, Array.getElem?_eq_getElem hlt2, hv]; rfl
            | false => exact (ihm e.on hlt (by omega) (by rw [Array.getD_eq_getD_getElem?, Array.getElem?_eq_getElem hlt2, hv]; rfl)).elim
          rw [h0] at hin; cases hin
      exact hex i0 hi0q hi0u
    · have hjq := hrd j hj
      have hj' := (hrd2 j hjq).1 hj
      have hju := (mem_ready.1 hj).1
      have hq := h.2 j hj'
      obtain ⟨o, ho⟩ : ∃ o, ops[j]? = some o := by
        obtain ⟨_, o, ho, _⟩ := mem_ready.1 hj
        exact ⟨o, ho⟩
      unfold qOpIn at hq
      rw [hops j hjq, ho] at hq
      simp only at hq
      have hw : ∀ t t', Region.wanted o (yielded ops' t) = true ∧ Region.wanted o (yielded ops t') = true := fun t t' => by
        unfold Region.wanted
        rw [hg j o ho]
        exact ⟨rfl, rfl⟩
      rw [(hw a.tmps a.tmps).1, if_pos rfl] at hq
      unfold wpOpIn
      rw [ho]
      simp only
      rw [(hw a.tmps a.tmps).2, if_pos rfl]
      refine Oper.wpIn_of_quiet (C := fun w' => w' = w0) hro rfl (fun a' w' hw' hk => ?_) hq.1 hq.2
      subst hw'
      refine ih (listed.setIfInBounds j true) (rest.erase j) a' (by rw [Array.size_setIfInBounds]; exact hs) (hnd.erase j) (by rw [List.length_erase_of_mem ((hrest j hjq).2 hju)]; omega) (fun i hi => ?_) (fun i hi => hrq i (List.mem_of_mem_erase hi)) (fun i hi hi2 => ?_) (hc.set hj) hk
      · rw [hnd.mem_erase_iff]
        by_cases e : i = j
        · subst e
          have : (listed.setIfInBounds i true).getD i true = true := by
            rw [Array.getD_eq_getD_getElem?, Array.getElem?_setIfInBounds_self_of_lt (size_lt_of_unlisted hju)]; rfl
          rw [this]; simp
        · rw [getD_set_ne true (fun e2 => e e2.symm), hrest i hi]
          simp [e]
      · rw [getD_set_ne true (by omega)]; exact hun i hi hi2
/-- **The first q operations only read: one walk of the order of the text serves; the others come behind them all.** -/
theorem wpIn_region_pre {id q r : Nat} {Q : Exit → Act → World → Prop} {a : Act} {w : World} {l : List Oper} (hro : F.round = none) (hm : P.follows .mixedOrders = true) (hqr : l.length = q + r)
    (hns : Region.noSelect (l.take q).toArray = true) (hB : Region.lexFrom .any (l.take q).toArray q 0 (Array.replicate (q + r) false) = true) (hg : l.all (fun o => o.guard.isNone) = true) (hdep : depQ .any l.toArray q = true) (hlow : lowQ .any l.toArray = true)
    (h : wpQuietIn F n P (l.take q).toArray (fun w' => w' = w.drew) (fun a' => wpAnyIn F n P .any l.toArray Q r (Array.replicate q true ++ Array.replicate r false) a' w.drew) (l.take q) a) : (Code.region id l.toArray true).wpIn F n P Q a w := by
  refine wpIn_region_any hm ?_
  have hsz : l.toArray.size = q + r := by rw [List.size_toArray, hqr]
  have hlen : (l.take q).length = q := by rw [List.length_take]; omega
  have hQ := wpAnyQIn_lex (F := F) (n := n) (P := P) (C := fun w' => w' = w.drew) (md := .any) (Q := fun a' => wpAnyIn F n P .any l.toArray Q r (Array.replicate q true ++ Array.replicate r false) a' w.drew) hns (l.take q) 0 (Array.replicate (q + r) false) a (fun j => by rw [Nat.zero_add, List.getElem?_toArray]) (by rw [hlen]; exact hB) h
  rw [hlen] at hQ
  have := wpAnyIn_pre (F := F) (n := n) (P := P) (md := .any) (ops := l.toArray) (ops' := (l.take q).toArray) (q := q) (r := r) (w0 := w.drew) (Q := Q) (LQ := Array.replicate q true ++ Array.replicate r false) hro
    (fun j hj => by rw [List.getElem?_toArray, List.getElem?_toArray, List.getElem?_take_of_lt hj]) (by rw [List.size_toArray, hlen])
    (fun j o ho => by
      rw [List.getElem?_toArray] at ho
      have h1 := (List.all_eq_true.1 hg) o (List.mem_of_getElem? ho)
      simpa using h1)
    hdep hlow
    (fun i hi => by rw [Array.getD_eq_getD_getElem?, Array.getElem?_append_left (by simpa using hi), Array.getElem?_replicate, if_pos hi]; rfl)
    (fun i hi hi2 => by rw [Array.getD_eq_getD_getElem?, Array.getElem?_append_right (by simpa using hi), Array.getElem?_replicate, if_pos (by simp; omega)]; rfl)
    (by simp [hqr])
    q (Array.replicate (q + r) false) (List.range q) a (by simp [hqr]) List.nodup_range List.length_range
    (fun i hi => by rw [List.mem_range, Array.getD_eq_getD_getElem?, Array.getElem?_replicate, if_pos (by omega)]; simp [hi])
    (fun i hi => List.mem_range.1 hi)
    (fun i hi hi2 => by rw [Array.getD_eq_getD_getElem?, Array.getElem?_replicate, if_pos (by omega)]; rfl)
    (fun j hj => by
      rw [Array.getD_eq_getD_getElem?, Array.getElem?_replicate] at hj
      split at hj <;> cases hj)
    hQ
  rw [hsz]
  exact this
/-- One operation alone may come up. -/
theorem wpAnyIn_next {fuel j : Nat} {o : Oper} {Q : Exit → Act → World → Prop} {listed : Array Bool} {a : Act} {w : World} (hr : Region.ready md ops listed = [j]) (ho : ops[j]? = some o) (hg : o.guard = none)
    (h : ∀ K : Act → World → Prop, (∀ a w, wpAnyIn F n P md ops Q fuel (listed.setIfInBounds j true) a w → K a w) → o.wpIn F n P a w K Q) : wpAnyIn F n P md ops Q (fuel + 1) listed a w := by
  refine ⟨fun h0 => (by rw [hr] at h0; cases h0), fun i hi => ?_⟩
  rw [hr] at hi
  obtain rfl : i = j := by simpa using hi
  unfold wpOpIn
  rw [ho]
  have hw : Region.wanted o (yielded ops a.tmps) = true := by
    unfold Region.wanted
    rw [hg]
  simp only
  rw [hw, if_pos rfl]
  exact h _ (fun _ _ h => h)
end
end Go.Proofs.YtakmplpfjcddiaaGreatDoor

namespace Go.Proofs.YtakmplpfjcddiaaGreatDoor
open Go.RowKit Go.Shelf Pa
open Go.RowKit (wrap64)
attribute [local go_sem] bs_toList bs_size Oper.semAt_some
/-- An entry as it is handed to a round. -/
abbrev slV (x : Sl) : Value := .agg #[.int .i64 x.at_, .string (bs x.name), .int .i64 x.i]
theorem or_join (n : Nat) (s : Nat) (x : UInt8) (hs : s ≤ 24) (hn : n % 2 ^ (s + 8) = 0) (hb : n < 4294967296) : bits .or .i64 (n : Int) ((x.toNat * 2 ^ s : Nat) : Int) = ((n + x.toNat * 2 ^ s : Nat) : Int) := by
  have hx := UInt8.toNat_lt x
  have h1 : x.toNat * 2 ^ s < 2 ^ (s + 8) := by
    rw [Nat.pow_add, Nat.mul_comm]
    exact Nat.mul_lt_mul_of_pos_left (by simpa using hx) (Nat.two_pow_pos s)
  have h2 : 2 ^ (s + 8) ≤ 2 ^ 32 := Nat.pow_le_pow_right (by decide) (by omega)
  rw [i64_or_nat _ _ (by omega) (by omega), nat_join (s + 8) n _ hn h1]
theorem or4 (a b c d : UInt8) : bits .or .i64 (bits .or .i64 (bits .or .i64 (wrap64 (wrap64 (a.toNat : Int) * 16777216)) (wrap64 (wrap64 (b.toNat : Int) * 65536))) (wrap64 (wrap64 (c.toNat : Int) * 256))) (wrap64 (d.toNat : Int)) = ((getN [a, b, c, d] : Nat) : Int) := by
  have ha := UInt8.toNat_lt a
  have hb := UInt8.toNat_lt b
  have hc := UInt8.toNat_lt c
  have hd := UInt8.toNat_lt d
  have w : ∀ n : Nat, n < 4294967296 → wrap64 (n : Int) = (n : Int) := fun n h => by unfold wrap64; omega
  rw [w a.toNat (by omega), w b.toNat (by omega), w c.toNat (by omega), w d.toNat (by omega)]
  rw [show ((a.toNat : Int) * 16777216) = ((a.toNat * 16777216 : Nat) : Int) from by omega, show ((b.toNat : Int) * 65536) = ((b.toNat * 2 ^ 16 : Nat) : Int) from by omega, show ((c.toNat : Int) * 256) = ((c.toNat * 2 ^ 8 : Nat) : Int) from by omega]
  rw [w _ (by omega), w _ (by omega), w _ (by omega)]
  rw [or_join (a.toNat * 16777216) 16 b (by omega) (by omega) (by omega), or_join _ 8 c (by omega) (by omega) (by omega)]
  rw [show ((d.toNat : Int)) = ((d.toNat * 2 ^ 0 : Nat) : Int) from by omega, or_join _ 0 d (by omega) (by omega) (by omega)]
  unfold getN
  simp only [List.foldl_cons, List.foldl_nil]
  omega
theorem run_bytes_text {w : World} {g o c : Nat} {s : Str} (hc : ∀ j y, s[j]? = some y → w.cell? ⟨g, o + j, none⟩ = some (.int .u8 (UInt8.toNat y))) : (convert 37 9 (.slice (some ⟨g, o, none⟩) s.length c)).run Tryz.prog w = .ok (.string (bs s)) w := by
  have := run_convert_bytes_back (P := Tryz.prog) w 37 9 5 ⟨g, o, none⟩ c s Tryz.underlying37 Tryz.underlying5 Tryz.underlying9 (by
    intro j hj
    have h1 := hc j _ (List.getElem?_eq_getElem hj)
    by_cases hj0 : j = 0
    · subst hj0; simpa [Addr.add] using h1
    · simpa [Addr.add, hj0] using h1)
  exact this
set_option maxRecDepth 100000 in
set_option maxHeartbeats 1000000 in
theorem slots1_in (n : Nat) (hn : 1 ≤ n) (l Bn : Nat) (M : Nat → Prop) (v : Value) (b : Str) (J Jx : List Sl → World → Prop)
    (hY : ∀ pre x W, J pre W → pre.length < (slotsP b).length → YieldAt Fence.wide (n - 1) Tryz.prog l #[slV x] W fun e W' =>
      (e = .returned (.bool true) ∧ J (pre ++ [x]) W' ∧ Off M W W') ∨ (e = .returned (.bool false) ∧ Jx (pre ++ [x]) W'))
    (W : World) (hBn : W.cell? ⟨Bn, 0, none⟩ = some v) (hBl : Bn < W.heap.size) (hBm : ¬ M Bn) (hb : BytesI W (fun k => ¬ M k) v b) (hl : b.length ≤ 100000) (h0 : J [] W) (hJd : ∀ pre W, J pre W → J pre W.drew) :
    CallsIn Fence.wide n Tryz.prog 198 #[.func (.yield l) #[] #[], .pointer (some ⟨Bn, 0, none⟩)] W fun e W' => (∃ v, e = .returned v) ∧
      ((∃ ys, ys = slotsP b ∧ J ys W') ∨ (∃ pre, pre <+: slotsP b ∧ Jx pre W')) := by
  obtain ⟨A, c, rfl, ⟨hc, _⟩, hcells⟩ := id hb
  refine callsIn_of_wp Tryz.func198 rfl trivial ?_ rfl
  simp only [Tryz.ntmps198, List.size_toArray, List.length_cons, List.length_nil, Nat.reduceAdd, Nat.reduceSub, Array.replicate_succ, Array.replicate_zero, List.push_toArray, List.append_toArray, List.nil_append, List.cons_append]
  have HY := Lib.hid hY
  have HJd := Lib.hid hJd
  have HB := Lib.hid hb
  have HC := Lib.hid hcells
  clear hY hJd hb hcells
  gi_wp2
  gi_loopg [3] (b.length / 64) (fun g i wr => ∃ k : Nat, i = .int .i64 (64 * k : Nat) ∧ g = b.length / 64 - k ∧ k ≤ b.length / 64 ∧ J ((slotsP b).take k) wr ∧ Off M W wr)
  case atStart => exact ⟨0, rfl, rfl, Nat.zero_le _, by rw [List.take_zero]; exact h0, Off.refl _ _⟩
  case round =>
    obtain ⟨k, rfl, rfl, hk, hJ, hbw⟩ := hrel
    have cB := (hbw.cell (p := ⟨Bn, 0, none⟩) hBl hBm).trans hBn
    by_cases hlt : k < b.length / 64
    · obtain ⟨at_, hat⟩ : ∃ a, a = 64 * k := ⟨_, rfl⟩
      have hlen : at_ + 64 ≤ b.length := by omega
      have hle' : decide ((at_ : Int) + 64 ≤ (b.length : Int)) = true := by simp; omega
      have hw1 : IntKind.i64.wrap ((at_ : Int) + 64) = (at_ : Int) + 64 := IntWalk.i64_in _ (by omega)
      obtain ⟨g, o, rfl, ⟨hg, hgM⟩, hcell⟩ := HC.out (by intro e; rw [e] at hlen; simp at hlen)
      have hx : ∀ j, j < 64 → ∃ y, b[at_ + j]? = some y ∧ wr.cell? ⟨g, o + at_ + j, none⟩ = some (.int .u8 (UInt8.toNat y)) := fun j hj => by
        have h1 : b[at_ + j]? = some b[at_ + j] := List.getElem?_eq_getElem (by omega)
        exact ⟨_, h1, by rw [Nat.add_assoc]; exact (hbw.cell (p := ⟨g, o + (at_ + j), none⟩) hg hgM).trans (hcell _ _ h1)⟩
      obtain ⟨y4, e4, c4⟩ := hx 4 (by decide)
      obtain ⟨y0, e0, c0⟩ := hx 0 (by decide)
      obtain ⟨y1, e1, c1⟩ := hx 1 (by decide)
      obtain ⟨y2, e2, c2⟩ := hx 2 (by decide)
      obtain ⟨y3, e3, c3⟩ := hx 3 (by decide)
      rw [Nat.add_zero] at c0
      obtain ⟨nn, hnn⟩ : ∃ q, q = min y4.toNat 59 := ⟨_, rfl⟩
      have hmin : min ((y4.toNat : Nat) : Int) 59 = (nn : Int) := by omega
      have hn59 : nn ≤ 59 := by omega
      have hw4 : IntKind.i64.wrap ((y4.toNat : Nat) : Int) = ((y4.toNat : Nat) : Int) := IntWalk.i64_in _ (by have := UInt8.toNat_lt y4; omega)
      have hw5 : IntKind.i64.wrap (5 + (nn : Int)) = 5 + (nn : Int) := IntWalk.i64_in _ (by omega)
      have hc64 : at_ + 64 ≤ c := by omega
      have hcn : ¬ c = at_ := by omega
      rw [← hat]
      have HAt := Lib.hid hat
      have HX := Lib.hid hx
      have HCell := Lib.hid hcell
      have HNn := Lib.hid hnn
      obtain ⟨nm, hnm⟩ : ∃ nm, nm = (b.drop (at_ + 5)).take nn := ⟨_, rfl⟩
      have hnml : nm.length = nn := by rw [hnm, List.length_take, List.length_drop]; omega
      have hcv : (convert 37 9 (.slice (some ⟨g, o + at_ + 5, none⟩) nn (c - at_ - 5))).run Tryz.prog wr.drew = .ok (.string (bs nm)) wr.drew := by
        rw [← hnml]
        refine run_bytes_text fun j y hj => ?_
        have hjl : j < nn := by rw [← hnml]; exact (List.getElem?_eq_some_iff.1 hj).1
        rw [hnm, List.getElem?_take_of_lt hjl, List.getElem?_drop] at hj
        show wr.cell? _ = _
        rw [show o + at_ + 5 + j = o + (at_ + 5 + j) from by omega]
        exact (hbw.cell (p := ⟨g, o + (at_ + 5 + j), none⟩) hg hgM).trans (HCell.out _ _ hj)
      obtain ⟨ii, hii⟩ : ∃ ii, ii = getN [y0, y1, y2, y3] := ⟨_, rfl⟩
      have hor : bits .or .i64 (bits .or .i64 (bits .or .i64 (wrap64 (wrap64 (y0.toNat : Int) * 16777216)) (wrap64 (wrap64 (y1.toNat : Int) * 65536))) (wrap64 (wrap64 (y2.toNat : Int) * 256))) (wrap64 (y3.toNat : Int)) = ((ii : Nat) : Int) := by rw [hii]; exact or4 y0 y1 y2 y3
      have HOr := Lib.hid hor
      clear hor
      have hdec : decS b k = ⟨at_, nm, ii⟩ := by
        unfold decS
        have e4' : b.getD (64 * k + 4) 0 = y4 := by rw [← HAt.out, List.getD_eq_getElem?_getD, e4]; rfl
        have e03 : (b.drop (64 * k)).take 4 = [y0, y1, y2, y3] := by
          refine List.ext_getElem? fun j => ?_
          rw [List.getElem?_take, ← HAt.out, List.getElem?_drop]
          rw [Nat.add_zero] at e0
          match j with
          | 0 => simpa using e0
          | 1 => simpa using e1
          | 2 => simpa using e2
          | 3 => simpa using e3
          | n + 4 => simp; omega
        rw [e4', e03, ← HNn.out, ← HAt.out, ← hnm, ← hii]
      have hJn : ∀ W, J ((slotsP b).take k ++ [⟨at_, nm, ii⟩]) W → J ((slotsP b).take (k + 1)) W := fun W hj => by rw [slotsP_take b k hlt, hdec]; exact hj
      have hJp : ∀ W, Jx ((slotsP b).take k ++ [⟨at_, nm, ii⟩]) W → ∃ pre, pre <+: slotsP b ∧ Jx pre W := fun W hj => ⟨_, by rw [← hdec, ← slotsP_take b k hlt]; exact List.take_prefix _ _, hj⟩
      obtain ⟨fn, tmps, assign, body, hy, hR⟩ := HY.out ((slotsP b).take k) ⟨at_, nm, ii⟩ wr.drew (HJd.out _ _ hJ) (by rw [List.length_take, slotsP_length]; omega)
      have HJn := Lib.hid hJn
      have HJp := Lib.hid hJp
      have HBw := Lib.hid hbw
      have hR2 : RoundIn Fence.wide (n - 1) Tryz.prog l fn tmps assign body wr.drew fun e W' => ∃ bb, e = .returned (.bool bb) ∧ ((bb = true ∧ J ((slotsP b).take k ++ [⟨at_, nm, ii⟩]) W' ∧ Off M wr.drew W') ∨ (bb = false ∧ Jx ((slotsP b).take k ++ [⟨at_, nm, ii⟩]) W')) := hR.mono fun e W' hh => by
        rcases hh with ⟨h1, h2⟩ | ⟨h1, h2⟩
        · exact ⟨true, h1, .inl ⟨rfl, h2⟩⟩
        · exact ⟨false, h1, .inr ⟨rfl, h2⟩⟩
      have HR := Lib.hid hR2
      clear hR2
      have hend : IntKind.i64.wrap ((at_ : Int) + 64) = ((at_ + 64 : Nat) : Int) := by rw [IntWalk.i64_in _ (by omega)]; omega
      have HEnd := Lib.hid hend
      clear hat hcell hnn hnm hnml hii hdec hx hJn hJp e0 e1 e2 e3 e4 hR hJ hbw hend
      gi_wp2
      refine wpIn_region_pre (q := 30) (r := 2) rfl (by kernel_rfl) rfl (by kernel_rfl) (by kernel_rfl) (by kernel_rfl) (by kernel_rfl) (by kernel_rfl) ?_
      simp only [List.take_succ_cons, List.take_zero]
      repeat (gi_big_quiet_step (fail))
      refine wpQuietIn_nil ?_
      rw [HOr.out]
      refine wpAnyIn_next (j := 30) (by kernel_rfl) rfl rfl (fun K1 hK1 => ?_)
      gi_wp2
      refine HR.out.mono ?_
      rintro e W3 ⟨bb, rfl, hh⟩
      have HJ3 := Lib.hid hh
      clear hh
      refine hK1 _ _ ?_
      refine wpAnyIn_next (j := 31) (by kernel_rfl) rfl rfl (fun K2 hK2 => ?_)
      gi_wp2
      refine wpAnyIn_done (by kernel_rfl) ?_ _
      cases bb with
      | true =>
        obtain ⟨h1, h2⟩ : J ((slotsP b).take k ++ [⟨at_, nm, ii⟩]) W3 ∧ Off M wr.drew W3 := by
          rcases HJ3.out with ⟨_, h⟩ | ⟨h, _⟩
          · exact h
          · cases h
        have HJ4 := Lib.hid (HJn.out _ h1)
        have HB4 := Lib.hid ((HBw.out.drew).then h2)
        clear h1 h2
        gi_wp2
        gi_roundg (b.length / 64 - (k + 1))
        case measure => omega
        case rel => exact ⟨k + 1, by show Value.int .i64 ((at_ : Int) + 64) = .int .i64 ((64 * (k + 1) : Nat) : Int); congr 1; have := HAt.out; omega, rfl, hlt, HJ4.out, HB4.out⟩
      | false =>
        obtain h1 : Jx ((slotsP b).take k ++ [⟨at_, nm, ii⟩]) W3 := by
          rcases HJ3.out with ⟨h, _⟩ | ⟨_, h⟩
          · cases h
          · exact h
        have HP4 := Lib.hid (HJp.out _ h1)
        clear h1
        gi_wp2
        refine bodyPost_ret (results_none rfl _ _ _) rfl ?_
        exact ⟨⟨_, rfl⟩, .inr HP4.out⟩
    · obtain rfl : k = b.length / 64 := by omega
      have hle' : decide (((64 * (b.length / 64) : Nat) : Int) + 64 ≤ (b.length : Int)) = false := by simp; omega
      obtain ⟨q, hq⟩ : ∃ q, q = 64 * (b.length / 64) := ⟨_, rfl⟩
      rw [← hq] at hle' ⊢
      have hw1 : IntKind.i64.wrap ((q : Int) + 64) = (q : Int) + 64 := IntWalk.i64_in _ (by omega)
      rw [show (slotsP b).take (b.length / 64) = slotsP b from List.take_of_length_le (by rw [slotsP_length]; exact Nat.le_refl _)] at hJ
      have HJ4 := Lib.hid hJ
      have HQ := Lib.hid hq
      clear hJ hq
      gi_wp2
      go_end0
      exact ⟨⟨_, rfl⟩, .inl ⟨_, rfl, HJ4.out⟩⟩
/-- The entries' iterator hands out just the entries, in their order. -/
theorem slots_stops (n : Nat) (hn : 1 ≤ n) (Bn : Nat) (M : Nat → Prop) (v : Value) (b : Str) (w : World) (hBl : Bn < w.heap.size) (hBm : ¬ M Bn) (hM : ∀ k, w.heap.size ≤ k → M k) (hc : w.cell? ⟨Bn, 0, none⟩ = some v) (hb : BytesI w (fun k => ¬ M k) v b) (hl : b.length ≤ 100000) :
    SeqStopsK Fence.wide n Tryz.prog 198 #[.pointer (some ⟨Bn, 0, none⟩)] (fun x : Sl => #[slV x]) (Off M) (fun ys => ys = slotsP b) (fun pre => pre <+: slotsP b) (slotsP b).length w := fun l J Jx W hW hJ hJx hY h0 => by
  have ho : Off (fun _ => False) w W := Off.of_below hW _
  exact slots1_in n hn l Bn M v b J Jx hY W ((hW.cell (p := ⟨Bn, 0, none⟩) hBl).trans hc) (Nat.lt_of_lt_of_le hBl hW.size) hBm (hb.off ho (fun _ _ e => e)) hl h0 (fun pre W1 h => hJ pre W1 W1.drew none h ⟨rfl, rfl, rfl, Nat.le_refl _, fun _ _ _ => rfl⟩ (fun r e => by cases e))
theorem slots_any (A : Option Addr) (n c : Nat) (w : World) : Calls Tryz.prog 135 #[.slice A n c] w fun e w' => e = .returned (.func (.func 198) #[] #[.pointer (some ⟨w.heap.size, 0, none⟩)]) ∧ w' = w.alloc (.cells #[.slice A n c] 37) := by
  have hmf : ∀ (fn : Fn) (first cap : Array Value) (w : World), (Instr.makeFunc fn first cap).run Tryz.prog w = .ok (.func fn first cap) w := fun _ _ _ _ => rfl
  go_enter Tryz.func135, Tryz.ntmps135
  go_wp2
  go_ret
  exact ⟨rfl, rfl⟩
end Go.Proofs.YtakmplpfjcddiaaGreatDoor

namespace Go.Proofs.YtakmplpfjcddiaaGreatDoor
open Go.RowKit Go.Shelf Pa
def two : ByteArray := ⟨#[47, 0]⟩
/-- Is a byte one of the two? -/
def isBad (x : UInt8) : Bool := x == 47 || x == 0
/-- What a rune of a text is: its one byte, if that is below 128; else it is 128 at least, and its bytes are. -/
theorem decode_two (s : ByteArray) (i : Nat) (hi : i < s.size) :
    ((s[i]'hi).toNat < 128 ∧ Utf8.decode s i = ((s[i]'hi).toNat, 1)) ∨
    (128 ≤ (Utf8.decode s i).1 ∧ ((Utf8.decode s i).1 < 55296 ∨ 57344 ≤ (Utf8.decode s i).1 ∧ (Utf8.decode s i).1 ≤ 1114111) ∧ 1 ≤ (Utf8.decode s i).2 ∧ i + (Utf8.decode s i).2 ≤ s.size ∧
      ∀ j (hj : j < s.size), i ≤ j → j < i + (Utf8.decode s i).2 → 128 ≤ (s[j]'hj).toNat) := by
  have hg : ∀ k (hk : k < s.size), s.get! k = s[k]'hk := fun k hk => by
    show s.data[k]! = _
    rw [getElem!_pos s.data k hk]; rfl
  rw [Lib.decode_at]
  have e0 := hg i hi
  rcases Lib.decodeN_shape (s.size - i) (s.get! i).toNat (s.get! (i + 1)).toNat (s.get! (i + 2)).toNat (s.get! (i + 3)).toNat with h | h | h | h | h
  · left; rw [e0] at h ⊢; exact h
  · obtain ⟨h0, hn, h1, hc, e⟩ := h
    right; rw [e]
    refine ⟨hc, by omega, by omega, by show i + 2 ≤ _; omega, fun j hj h1' h2' => ?_⟩
    have : j = i ∨ j = i + 1 := by have : j < i + 2 := h2'; omega
    rcases this with rfl | rfl
    · rw [← hg _ hj]; omega
    · rw [← hg _ hj]; omega
  · obtain ⟨h0, hn, h1, h2, hc, hv, e⟩ := h
    right; rw [e]
    refine ⟨by show 128 ≤ _; omega, by show _ ∨ _; omega, by show 1 ≤ 3; omega, by show i + 3 ≤ _; omega, fun j hj h1' h2' => ?_⟩
    have : j = i ∨ j = i + 1 ∨ j = i + 2 := by have : j < i + 3 := h2'; omega
    rcases this with rfl | rfl | rfl <;> (rw [← hg _ hj]; omega)
  · obtain ⟨h0, hn, h1, h2, h3, hc, hv, e⟩ := h
    right; rw [e]
    refine ⟨by show 128 ≤ _; omega, by show _ ∨ _; omega, by show 1 ≤ 4; omega, by show i + 4 ≤ _; omega, fun j hj h1' h2' => ?_⟩
    have : j = i ∨ j = i + 1 ∨ j = i + 2 ∨ j = i + 3 := by have : j < i + 4 := h2'; omega
    rcases this with rfl | rfl | rfl | rfl <;> (rw [← hg _ hj]; omega)
  · by_cases ha : (s[i]'hi).toNat < 128
    · left
      refine ⟨ha, ?_⟩
      unfold Lib.decodeN
      rw [e0, if_pos ha]
    · right; rw [h]
      refine ⟨by show 128 ≤ 65533; omega, by show _ ∨ _; omega, by show 1 ≤ 1; omega, by show i + 1 ≤ _; omega, fun j hj h1' h2' => ?_⟩
      have : j = i := by have : j < i + 1 := h2'; omega
      subst this
      omega
/-- The bytes of a rune above 127. -/
theorem encode_high (c : Nat) (h : 128 ≤ c) (hv : c < 55296 ∨ 57344 ≤ c ∧ c ≤ 1114111) :
    (∃ a b : UInt8, Utf8.encode (c : Int) = ⟨#[a, b]⟩ ∧ 128 ≤ b.toNat) ∨ (∃ a b d : UInt8, Utf8.encode (c : Int) = ⟨#[a, b, d]⟩) ∨ ∃ a b d e : UInt8, Utf8.encode (c : Int) = ⟨#[a, b, d, e]⟩ := by
  have hval : Utf8.valid (c : Int) = true := by
    unfold Utf8.valid
    simp only [Bool.or_eq_true, Bool.and_eq_true, decide_eq_true_eq]
    omega
  unfold Utf8.encode
  simp only [hval, if_true, Int.toNat_natCast]
  rw [if_neg (by omega)]
  split
  · left
    refine ⟨_, _, rfl, ?_⟩
    rw [UInt8.toNat_ofNat']
    omega
  · split
    · right; left; exact ⟨_, _, _, rfl⟩
    · right; right; exact ⟨_, _, _, _, rfl⟩
set_option maxRecDepth 100000 in
set_option maxHeartbeats 800000 in
theorem indexRune_err (w : World) :
    Calls Tryz.prog 304 #[.string two, .int .i32 65533] w fun e w' => e = .returned (.int .i64 (-1)) ∧ BelowD w.heap.size w w' := by
  unfold two
  go_enter Tryz.func304, Tryz.ntmps304
  go_wp2_with fail
  go_loopg [5, 6] 2 (fun g _ _ wx => ∃ i : Nat, i + g = 2 ∧ wx = w.iter ⟨#[47, 0]⟩ i)
  case atStart => exact ⟨0, by omega, rfl⟩
  case round =>
    obtain ⟨i, hig, rfl⟩ := hrel
    cases gk with
    | zero =>
      obtain rfl : i = 2 := by omega
      have hnx := run_next_end (P := Tryz.prog) w ⟨#[47, 0]⟩ 2
      go_wp2
      go_ret
      exact ⟨rfl, (BelowD.refl _ _).alloc (Nat.le_refl _) _⟩
    | succ g =>
      have hi : i = 0 ∨ i = 1 := by omega
      rcases hi with rfl | rfl
      · have hnx := fun ty => run_next_ascii (P := Tryz.prog) w ⟨#[47, 0]⟩ 0 ty (by decide) (by decide)
        go_wp2
        go_roundg g
        case measure => omega
        case rel => exact ⟨1, by omega, rfl⟩
      · have hnx := fun ty => run_next_ascii (P := Tryz.prog) w ⟨#[47, 0]⟩ 1 ty (by decide) (by decide)
        go_wp2
        go_roundg g
        case measure => omega
        case rel => exact ⟨2, by omega, rfl⟩
set_option maxRecDepth 100000 in
set_option maxHeartbeats 800000 in
theorem indexRune_high (c : Nat) (w : World) (h : 128 ≤ c) (hv : c < 55296 ∨ 57344 ≤ c ∧ c ≤ 1114111) (hne : c ≠ 65533) :
    Calls Tryz.prog 304 #[.string two, .int .i32 c] w fun e w' => e = .returned (.int .i64 (-1)) ∧ BelowD w.heap.size w w' := by
  have h1 : (0 : Int) ≤ c := by omega
  have h2 : ¬ ((c : Int) < 128) := by omega
  have h3 : ((c : Int) == 65533) = false := by simp; omega
  have hvr : Calls Tryz.prog 315 #[.int .i32 c] w fun e w' => e = .returned (.bool true) ∧ w' = w := by
    have hval : Lib.validRune (c : Int) = true := by
      unfold Lib.validRune
      simp
      omega
    rw [← hval]
    exact Tryz.utf8_ValidRune c w
  have h4 := encode_high c h hv
  clear h hv hne
  unfold two
  rcases h4 with ⟨a, b, he, hb⟩ | ⟨a, b, d, he⟩ | ⟨a, b, d, e', he⟩
  · have hb1 : ((0 : Int) != (b.toNat : Int)) = true := by rw [bne_iff_ne]; omega
    have hb2 : ((0 : Int) == (b.toNat : Int)) = false := by rw [beq_eq_false_iff_ne]; omega
    have hix : Lib.indexByte ([] : List UInt8) b = -1 := rfl
    have i1 : ∀ h, (⟨#[47, 0]⟩ : ByteArray)[1]'h = 0 := fun _ => rfl
    have i2 : ∀ h, (⟨#[a, b]⟩ : ByteArray)[1]'h = b := fun _ => rfl
    have hz : ((0 : UInt8).toNat : Int) = 0 := rfl
    go_enter Tryz.func304, Tryz.ntmps304
    go_wp2_with (go_at_call 315; refine hvr.mono ?_; rintro e w' ⟨rfl, rfl⟩)
    go_step3
    go_wp2_with fail
    apply wp_loop_once
    go_wp2_with fail
    go_step3
    go_wp2_with fail
    go_region
    all_goals go_wp2_with fail
    have hb0 : BelowD w'.heap.size w' w'.drew := (BelowD.refl _ _).drew
    generalize w'.drew = W1 at hb0 ⊢
    have hcon : ∀ W : World, Calls Tryz.prog 314 #[.string ByteArray.empty, .int .u8 b.toNat] W fun e w' => e = .returned (.int .i64 (-1)) ∧ w' = W := fun W => by
      have := Tryz.strings_IndexByte ByteArray.empty (b.toNat : Int) W
      simpa [Lib.indexByte] using this
    have hw2 : IntKind.i64.wrap 2 = 2 := by decide
    go_quiet ((go_at_call 314; exact Calls.quiet_of_same (hcon _)))
    go_wp2_with fail
    simp only [Exit.noGoto_ret, Exit.inBlock]
    go_wp2
    simp only [Exit.noGoto_ret, Exit.inBlock]
    go_wp2
    go_ret
    exact ⟨rfl, belowD_drewN hb0 _⟩
  · go_enter Tryz.func304, Tryz.ntmps304
    go_wp2_with (go_at_call 315; refine hvr.mono ?_; rintro e w' ⟨rfl, rfl⟩)
    go_step3
    go_wp2_with fail
    apply wp_loop_once
    go_wp2
    rw [Exit.noGoto_ret]
    go_ret
    exact ⟨rfl, BelowD.refl _ _⟩
  · go_enter Tryz.func304, Tryz.ntmps304
    go_wp2_with (go_at_call 315; refine hvr.mono ?_; rintro e w' ⟨rfl, rfl⟩)
    go_step3
    go_wp2_with fail
    apply wp_loop_once
    go_wp2
    rw [Exit.noGoto_ret]
    go_ret
    exact ⟨rfl, BelowD.refl _ _⟩
/-- strings.IndexRune at the two bytes. -/
theorem indexRune_any (s : ByteArray) (i : Nat) (hi : i < s.size) (w : World) :
    Calls Tryz.prog 304 #[.string two, .int .i32 ((Utf8.decode s i).1 : Nat)] w fun e w' => ∃ r : Int, e = .returned (.int .i64 r) ∧ BelowD w.heap.size w w' ∧ (0 ≤ r ↔ isBad (s[i]'hi) = true) ∧ -1 ≤ r ∧ r ≤ 1 := by
  rcases decode_two s i hi with ⟨h1, e⟩ | ⟨h1, h2, h3, h4, h5⟩
  · rw [e]
    refine (Tryz.strings_IndexRune_ascii two ((s[i]'hi).toNat : Int) w (by omega) (by omega)).mono ?_
    rintro e w' ⟨rfl, rfl⟩
    refine ⟨_, rfl, BelowD.refl _ _, ?_, ?_⟩
    · have hx : ((((s[i]'hi).toNat : Int)).toNat.toUInt8) = s[i]'hi := by simp
      rw [hx]
      generalize s[i]'hi = x
      show 0 ≤ Lib.indexByte [47, 0] x ↔ _
      unfold isBad
      by_cases h47 : x = 47
      · subst h47; simp [Lib.indexByte]
      · by_cases h0 : x = 0
        · subst h0; decide
        · simp [Lib.indexByte, h47, h0, Ne.symm h47, Ne.symm h0]
    · have hx : ((((s[i]'hi).toNat : Int)).toNat.toUInt8) = s[i]'hi := by simp
      rw [hx]
      generalize s[i]'hi = x
      show -1 ≤ Lib.indexByte [47, 0] x ∧ Lib.indexByte [47, 0] x ≤ 1
      by_cases h47 : x = 47
      · subst h47; decide
      · by_cases h0 : x = 0
        · subst h0; decide
        · simp [Lib.indexByte, Ne.symm h47, Ne.symm h0]
  · have hb := h5 i hi (Nat.le_refl _) (by omega)
    have hbad : isBad (s[i]'hi) = false := by
      unfold isBad
      simp only [Bool.or_eq_false_iff, beq_eq_false_iff_ne]
      constructor <;> (intro e; rw [e] at hb; simp at hb)
    rw [hbad]
    have fin : Calls Tryz.prog 304 #[.string two, .int .i32 ((Utf8.decode s i).1 : Nat)] w fun e w' => e = .returned (.int .i64 (-1)) ∧ BelowD w.heap.size w w' := by
      by_cases he : (Utf8.decode s i).1 = 65533
      · rw [he]; exact indexRune_err w
      · exact indexRune_high _ w h1 h2 he
    exact fin.mono fun e w' ⟨a, b⟩ => ⟨-1, a, b, by simp, by omega, by omega⟩
end Go.Proofs.YtakmplpfjcddiaaGreatDoor
