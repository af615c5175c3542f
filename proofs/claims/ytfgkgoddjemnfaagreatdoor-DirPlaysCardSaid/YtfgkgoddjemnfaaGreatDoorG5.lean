/-
  What the document says of the growing and shrinking of a file and of writing, in plain Lean; the pages of a cache keep standing for it.
  A file grows and shrinks page by page, in plain Lean: the pages keep standing for what the document says.
  Resizing and writing, in plain Lean: what the pages become stands for what the document says.
  The walk over resize: a file grows or shrinks (where there is room).
  The walk over the function that Write hands to try: bytes are written over a file's pages.
  The walk over Write: bytes are written at a place of a file (where there is room).
  The walk over Resize: a file gets so many bytes (where there is room).
  What directories do, in plain Lean: entries as bytes and back, a name's entry, adding and dropping.
  A region that draws its order, whose first operations only read, and whose others wait for all of them: one walk of the order of the text serves (inside a fence
-/
import Derived.Test.YtfgkgoddjemnfaaGreatDoorG4
import Derived.Laws.IdiomCopy
import Derived.Sort.QuietThIn
import Derived.TacticsIn
set_option linter.unusedVariables false
set_option linter.unusedSimpArgs false
set_option linter.deprecated false
namespace Go.Proofs.YtfgkgoddjemnfaaGreatDoor
open Go.RowKit Go.Shelf Pa
/-- A page is taken; one is free again. -/
def RS.takeP (T : RS) : Option (Nat × RS) := match takeB T.p with | none => none | some n => some (n, { T with p := T.p.set n true })
def RS.freeP (T : RS) (n : Nat) : RS := { T with p := T.p.set n false }
abbrev TF := RS × RF
def rgrow1 (s : TF) : Option TF :=
  match (if s.2.data.length = 10 ∧ s.2.ind = 0 then (match s.1.takeP with | none => none | some (n, T) => some (T, { s.2 with ind := n })) else some s) with
  | none => none
  | some s1 => match s1.1.takeP with | none => none | some (n, T) => some (T, { s1.2 with data := s1.2.data ++ [n] })
def rgrowN : Nat → TF → Option TF
  | 0, s => some s
  | n + 1, s => match rgrow1 s with | none => none | some s1 => rgrowN n s1
def rshrink1 (s : TF) : TF :=
  let T1 := s.1.freeP (s.2.data.getD (s.2.data.length - 1) 0)
  let f1 : RF := { s.2 with data := s.2.data.dropLast, bytes := s.2.bytes.take (512 * (s.2.data.length - 1)) }
  if s.2.data.length - 1 = 10 then (T1.freeP s.2.ind, { f1 with ind := 0 }) else (T1, f1)
def rshrinkN : Nat → TF → TF
  | 0, s => s
  | n + 1, s => rshrinkN n (rshrink1 s)
/-- Bytes as so many: the first ones, then zeros. -/
def fitTo (b : Str) (n : Nat) : Str := b.take n ++ List.replicate (n - b.length) 0
theorem fitTo_length (b : Str) (n : Nat) : (fitTo b n).length = n := by unfold fitTo; rw [List.length_append, List.length_take, List.length_replicate]; omega
theorem fitTo_getD (b : Str) (n i : Nat) (h : i < n) : (fitTo b n).getD i 0 = b.getD i 0 := by
  unfold fitTo
  rw [List.getD_eq_getElem?_getD, List.getD_eq_getElem?_getD]
  by_cases hi : i < b.length
  · rw [List.getElem?_append_left (by rw [List.length_take]; omega), List.getElem?_take_of_lt h]
  · rw [List.getElem?_append_right (by rw [List.length_take]; omega), List.getElem?_replicate, if_pos (by rw [List.length_take]; omega), List.getElem?_eq_none (l := b) (by omega)]; rfl
def RS.resize (T : RS) (j size : Nat) : Option RS :=
  match rgrowN (npg size - (T.file j).data.length) (T, T.file j) with
  | none => none
  | some s1 => some ((rshrinkN (s1.2.data.length - npg size) s1).1.set j { (rshrinkN (s1.2.data.length - npg size) s1).2 with bytes := fitTo (T.file j).bytes size })
def RS.write (T : RS) (j at_ : Nat) (b : Str) : Option RS :=
  match T.resize j (max (T.file j).bytes.length (at_ + b.length)) with
  | none => none
  | some T1 => some (T1.set j { T1.file j with bytes := laidAt (T1.file j).bytes at_ b })
/-- Every file has just the pages that its bytes need. -/
def RS.Tight (T : RS) : Prop := ∀ j, (T.file j).data.length = npg (T.file j).bytes.length
theorem FOk.same {C : Ca} {T T' : RS} {f : RF} (h : FOk C T f) (hp : T'.p = T.p) (hi : T'.i.length = T.i.length) : FOk C T' f := by
  have hown : ∀ n ∈ f.pgs, T'.first ≤ n ∧ n < C.G.pages ∧ T'.p.getD n false = true := fun n hn => by
    have h1 := h.own n hn
    refine ⟨?_, h1.2.1, ?_⟩
    · show alFirst T'.i.length ≤ n; rw [hi]; exact h1.1
    · rw [hp]; exact h1.2.2
  exact { h with own := hown }
/-- A file turns; its pages are its own or nobody's. -/
theorem Rel.file {C : Ca} {T : RS} {ex : Nat → Prop} (h : Rel C T ex) {j : Nat} {f' : RF} (hl : T.live j) (he : ex j) (hk : 1 ≤ f'.kind) (hf : FOk C T f') (hp : ∀ n ∈ f'.pgs, n ∈ (T.file j).pgs ∨ ∀ k, n ∉ (T.file k).pgs) : Rel C (T.set j f') ex := by
  have hlt : j < T.l.length := by rw [h.ino]; exact RS.live_lt hl
  have hfile := fun k => file_set T j k f' hlt
  refine { h with ino := by show (T.l.set j f').length = _; rw [List.length_set]; exact h.ino, off := fun k hk => ?_, files := fun k hk' => ?_, apart := fun a b n ha hb => ?_, rcd := fun k hk hx => ?_ }
  · rw [hfile, if_neg (fun e => hk (by rw [e]; exact hl))]; exact h.off k hk
  · rw [hfile]
    split
    · exact ⟨hk, hf.same rfl rfl⟩
    · exact ⟨(h.files k hk').1, (h.files k hk').2.same rfl rfl⟩
  · rw [hfile] at ha hb
    by_cases ea : a = j
    · by_cases eb : b = j
      · rw [ea, eb]
      · rw [if_pos ea] at ha
        rw [if_neg eb] at hb
        rcases hp n ha with h1 | h1
        · rw [ea]; exact h.apart j b n h1 hb
        · exact absurd hb (h1 b)
    · rw [if_neg ea] at ha
      by_cases eb : b = j
      · rw [if_pos eb] at hb
        rcases hp n hb with h1 | h1
        · rw [eb]; exact h.apart a j n ha h1
        · exact absurd ha (h1 a)
      · rw [if_neg eb] at hb
        exact h.apart a b n ha hb
  · have hkj : k ≠ j := fun e => hx (e ▸ he)
    rw [hfile, if_neg hkj]; exact h.rcd k hk hx
/-- A page of a file's bytes is written. -/
theorem Rel.setData {C : Ca} {T : RS} {ex : Nat → Prop} (h : Rel C T ex) {j k : Nat} {nb x : Str} (hl : T.live j) (he : ex j) (hk : k < (T.file j).data.length) (hx : x = pageOf nb k) (h1 : nb.length ≤ 70656) (h2 : nb.length ≤ 512 * (T.file j).data.length)
    (hr : ∀ i, i < (T.file j).data.length → i ≠ k → pageOf nb i = pageOf (T.file j).bytes i) : Rel (C.set ((T.file j).data.getD k 0) x) (T.set j { T.file j with bytes := nb }) ex := by
  have hm : (T.file j).data.getD k 0 ∈ (T.file j).pgs := pgs_data (getD_mem hk)
  obtain ⟨hf, hnp⟩ := h.table_free hl hm
  have hs := h.small
  have hxl : x.length = 512 := by rw [hx]; exact pageOf_length _ _
  have hlt : j < T.l.length := by rw [h.ino]; exact RS.live_lt hl
  obtain ⟨n, hn⟩ : ∃ n, n = (T.file j).data.getD k 0 := ⟨_, rfl⟩
  rw [← hn] at hm hf hnp ⊢
  have hrd : ∀ m, m ≠ n → (C.set n x).rd m = C.rd m := fun m hm => by rw [Ca.rd_set, if_neg hm]
  have hfo := (h.files j hl).2
  have hdn : ∀ i, i < (T.file j).data.length → i ≠ k → (T.file j).data.getD i 0 ≠ n := fun i hi hik e => by
    have hnd : (T.file j).data.Nodup := by
      have := hfo.nodup
      unfold RF.pgs at this
      split at this
      · exact this
      · exact (List.nodup_append.1 this).1
    rw [hn, List.getD_eq_getElem?_getD, List.getD_eq_getElem?_getD, List.getElem?_eq_getElem hi, List.getElem?_eq_getElem hk] at e
    exact hik ((List.getElem?_inj hi hnd).1 (by rw [List.getElem?_eq_getElem hi, List.getElem?_eq_getElem hk]; exact congrArg some e))
  have hin : (T.file j).ind ≠ 0 → (T.file j).ind ≠ n := fun hi e => by
    have hnd := hfo.nodup
    unfold RF.pgs at hnd
    rw [if_neg hi, List.nodup_append] at hnd
    exact hnd.2.2 n (by rw [hn]; exact getD_mem hk) _ (by simp) e.symm
  have hfile := fun i => file_set T j i { T.file j with bytes := nb } hlt
  have hpgs : ∀ i, ((T.set j { T.file j with bytes := nb }).file i).pgs = (T.file i).pgs := fun i => by
    rw [hfile]
    split
    · rename_i e; rw [e]; rfl
    · rfl
  refine { h with rm := h.rm.set hnp hxl, ino := by show (T.l.set j _).length = _; rw [List.length_set]; exact h.ino, len := fun m hm => ?_, pb := fun m hm => ?_, ib := fun m hm => ?_, off := fun i hi => ?_, files := fun i hi => ?_, apart := fun a b m ha hb => ?_, rcd := fun i hi hx => ?_ }
  · rw [Ca.rd_set]
    split
    · exact hxl
    · exact h.len m hm
  · rw [hrd _ (by omega)]; exact h.pb m hm
  · rw [hrd _ (by omega)]; exact h.ib m hm
  · rw [hfile, if_neg (fun e => hi (by rw [e]; exact hl))]; exact h.off i hi
  · rw [hfile]
    by_cases e : i = j
    · rw [if_pos e]
      refine ⟨(h.files j hl).1, { hfo with size := h1, len := h2, bytes := fun q hq => ?_, own := fun m hm => hfo.own m hm }⟩
      show (C.set n x).rd ((T.file j).data.getD q 0) = pageOf nb q
      by_cases hqk : q = k
      · rw [hqk, ← hn, Ca.rd_set, if_pos rfl, hx]
      · rw [hrd _ (hdn q hq hqk), hr q hq hqk]; exact hfo.bytes q hq
    · rw [if_neg e]
      refine ⟨(h.files i hi).1, { (h.files i hi).2 with bytes := fun q hq => ?_, own := fun m hm => (h.files i hi).2.own m hm }⟩
      rw [hrd _ (fun e2 => e (h.apart i j n (by rw [← e2]; exact pgs_data (getD_mem hq)) hm))]; exact (h.files i hi).2.bytes q hq
  · rw [hpgs] at ha hb; exact h.apart a b m ha hb
  · have hij : i ≠ j := fun e => hx (e ▸ he)
    rw [hfile, if_neg hij]
    have h3 := h.rcd i hi hx
    refine ⟨?_, fun h0 => ?_⟩
    · have hlt : i < T.i.length := RS.live_lt hi
      have h8 := h.ino8.1
      have : 3 + i / 8 < T.first := by unfold RS.first alFirst; omega
      rw [hrd _ (by omega)]; exact h3.1
    · rw [hrd _ (fun e => hij (h.apart i j _ (pgs_ind h0) (by rw [e]; exact hm)))]; exact h3.2 h0
/-- The inode that is open, midway: its size is as it was. -/
def opnS (f : RF) (j sz : Nat) : Opn := { opnOf f j with size := sz }
theorem opnS_ind (f : RF) (j sz : Nat) : (opnS f j sz).ind = f.ind := opnOf_ind f j
theorem opnS_slot (f : RF) (j sz k : Nat) : (opnS f j sz).slot k = f.data.getD k 0 := opnOf_slot f j k
theorem padTo_snoc {N : Nat} {l : List Nat} (n : Nat) (h : l.length < N) : padTo N (l ++ [n]) = (padTo N l).set l.length n := by
  unfold padTo
  rw [List.set_append_right _ _ (Nat.le_refl _), Nat.sub_self, show N - l.length = (N - (l.length + 1)) + 1 from by omega, List.replicate_succ, List.set_cons_zero, List.length_append, List.length_singleton, List.append_assoc]; rfl
theorem padTo_snoc0 {N : Nat} {l : List Nat} (h : l.length < N) : padTo N (l ++ [0]) = padTo N l := by
  unfold padTo
  rw [show N - l.length = (N - (l.length + 1)) + 1 from by omega, List.replicate_succ, List.length_append, List.length_singleton, List.append_assoc]; rfl
theorem padTo_pop {N : Nat} {l : List Nat} {x : Nat} (h : l.length < N) : (padTo N (l ++ [x])).set l.length 0 = padTo N l := by
  rw [padTo_snoc _ h, List.set_set, ← padTo_snoc _ h, padTo_snoc0 h]
theorem opnS_push (f : RF) (j sz n : Nat) (h : f.data.length < 138) : opnS { f with data := f.data ++ [n] } j sz = (opnS f j sz).setSlot f.data.length n := by
  unfold Opn.setSlot
  by_cases hk : f.data.length < 10
  · rw [if_pos hk]
    have h1 : (f.data ++ [n]).take 10 = f.data ++ [n] := List.take_of_length_le (by rw [List.length_append, List.length_singleton]; omega)
    have h2 : f.data.take 10 = f.data := List.take_of_length_le (by omega)
    have h3 : (f.data ++ [n]).drop 10 = [] := List.drop_eq_nil_of_le (by rw [List.length_append, List.length_singleton]; omega)
    have h4 : f.data.drop 10 = [] := List.drop_eq_nil_of_le (by omega)
    unfold opnS opnOf
    simp only [h1, h2, h3, h4]
    rw [padTo_snoc n hk, List.set_append_left _ _ (by rw [padTo_length (by omega)]; exact hk)]
  · rw [if_neg hk]
    have h1 : (f.data ++ [n]).take 10 = f.data.take 10 := List.take_append_of_le_length (by omega)
    have h2 : (f.data ++ [n]).drop 10 = f.data.drop 10 ++ [n] := List.drop_append_of_le_length (by omega)
    unfold opnS opnOf
    simp only [h1, h2]
    rw [padTo_snoc n (by rw [List.length_drop]; omega), List.length_drop]
theorem opnS_pop (f : RF) (j sz : Nat) (h0 : f.data ≠ []) (h : f.data.length ≤ 138) (b : Str) : opnS { f with data := f.data.dropLast, bytes := b } j sz = (opnS f j sz).setSlot (f.data.length - 1) 0 := by
  obtain ⟨l, x, hlx⟩ : ∃ l x, f.data = l ++ [x] := ⟨f.data.dropLast, f.data.getLast h0, (List.dropLast_concat_getLast h0).symm⟩
  have hlen : f.data.length - 1 = l.length := by rw [hlx, List.length_append, List.length_singleton]; omega
  have hll : l.length < 138 := by rw [hlx, List.length_append, List.length_singleton] at h; omega
  rw [hlen]
  unfold Opn.setSlot
  by_cases hk : l.length < 10
  · rw [if_pos hk]
    have h1 : (l ++ [x]).take 10 = l ++ [x] := List.take_of_length_le (by rw [List.length_append, List.length_singleton]; omega)
    have h2 : l.take 10 = l := List.take_of_length_le (by omega)
    have h3 : (l ++ [x]).drop 10 = [] := List.drop_eq_nil_of_le (by rw [List.length_append, List.length_singleton]; omega)
    have h4 : l.drop 10 = [] := List.drop_eq_nil_of_le (by omega)
    unfold opnS opnOf
    simp only [hlx, List.dropLast_concat, h1, h2, h3, h4]
    rw [List.set_append_left _ _ (by rw [padTo_length (by rw [List.length_append, List.length_singleton]; omega)]; exact hk), padTo_pop hk]
  · rw [if_neg hk]
    have h1 : (l ++ [x]).take 10 = l.take 10 := List.take_append_of_le_length (by omega)
    have h2 : (l ++ [x]).drop 10 = l.drop 10 ++ [x] := List.drop_append_of_le_length (by omega)
    unfold opnS opnOf
    simp only [hlx, List.dropLast_concat, h1, h2]
    rw [show l.length - 10 = (l.drop 10).length from by rw [List.length_drop], padTo_pop (by rw [List.length_drop]; omega)]
theorem opnS_setInd (f : RF) (j sz n : Nat) : opnS { f with ind := n } j sz = (opnS f j sz).setInd n := by
  unfold opnS opnOf Opn.setInd
  simp only
  congr 1
  have h : (padTo 10 (f.data.take 10)).length = 10 := padTo_length (by rw [List.length_take]; omega)
  rw [List.set_append_right _ _ (by omega), h]; rfl
theorem RS.set_set (T : RS) (j : Nat) (f g : RF) : (T.set j f).set j g = T.set j g := by unfold RS.set; simp only [List.set_set]
end Go.Proofs.YtfgkgoddjemnfaaGreatDoor

namespace Go.Proofs.YtfgkgoddjemnfaaGreatDoor
open Go.RowKit Go.Shelf Pa
theorem nodup_snoc {l : List Nat} {n : Nat} (h : l.Nodup) (hn : n ∉ l) : (l ++ [n]).Nodup := by
  rw [List.nodup_append]
  refine ⟨h, by simp, fun a ha b hb e => hn ?_⟩
  have hb : b = n := by simpa using hb
  rw [← hb, ← e]; exact ha
theorem nodup_snoc_inv {l : List Nat} {n : Nat} (h : (l ++ [n]).Nodup) : l.Nodup ∧ n ∉ l := by
  rw [List.nodup_append] at h
  exact ⟨h.1, fun hn => h.2.2 n hn n (by simp) rfl⟩
theorem getD_setB (l : List Bool) (n m : Nat) (b : Bool) (hn : n < l.length) : (l.set n b).getD m false = if m = n then b else l.getD m false := by
  rw [List.getD_eq_getElem?_getD, List.getElem?_set]
  by_cases e : n = m
  · subst e; rw [if_pos rfl, if_pos hn, if_pos rfl]; rfl
  · rw [if_neg e, if_neg (fun e2 => e e2.symm), List.getD_eq_getElem?_getD]
theorem pageOf_congr {a b : Str} {k : Nat} (h : ∀ i, i < 512 → a.getD (512 * k + i) 0 = b.getD (512 * k + i) 0) : pageOf a k = pageOf b k :=
  pageOf_ext (pageOf_length _ _) fun i hi => by rw [pageOf_getElem? _ _ _ hi, h i hi]
theorem pageOf_take {b : Str} {k m : Nat} (h : k < m) : pageOf (b.take (512 * m)) k = pageOf b k :=
  pageOf_congr fun i hi => by rw [List.getD_eq_getElem?_getD, List.getD_eq_getElem?_getD, List.getElem?_take_of_lt (by omega)]
theorem pageOf_fit {b : Str} {k n : Nat} (h : 512 * k + 512 ≤ n) : pageOf (fitTo b n) k = pageOf b k :=
  pageOf_congr fun i hi => fitTo_getD b n _ (by omega)
/-- The same kind, mode, links. -/
structure RF.like (f g : RF) : Prop where
  kind : g.kind = f.kind
  mode : g.mode = f.mode
  links : g.links = f.links
theorem RF.like.refl (f : RF) : f.like f := ⟨rfl, rfl, rfl⟩
theorem RF.like.trans {f g h : RF} (a : f.like g) (b : g.like h) : f.like h := ⟨b.kind.trans a.kind, b.mode.trans a.mode, b.links.trans a.links⟩
theorem FOk.push {C : Ca} {T : RS} {f : RF} (h : FOk C T f) {n i' : Nat} (hn : T.first ≤ n ∧ n < C.G.pages ∧ T.p.getD n false = true) (hnf : n ∉ f.pgs) (hi : (f.data.length ≠ 10 ∧ i' = f.ind) ∨ (f.data.length = 10 ∧ i' ≠ 0 ∧ (T.first ≤ i' ∧ i' < C.G.pages ∧ T.p.getD i' false = true) ∧ i' ∉ f.pgs ∧ i' ≠ n)) (hz : C.rd n = pageZ) (hb : f.bytes.length ≤ 512 * f.data.length) (hd : f.data.length < 138) :
    FOk C T { f with data := f.data ++ [n], ind := i' } ∧ ∀ m ∈ ({ f with data := f.data ++ [n], ind := i' } : RF).pgs, m ∈ f.pgs ∨ m = n ∨ (f.data.length = 10 ∧ m = i') := by
  have hl : (f.data ++ [n]).length = f.data.length + 1 := by rw [List.length_append, List.length_singleton]
  have hmem : ∀ m ∈ ({ f with data := f.data ++ [n], ind := i' } : RF).pgs, m ∈ f.pgs ∨ m = n ∨ (f.data.length = 10 ∧ m = i') := by
    intro m hm
    have h1 : m ∈ f.data ++ [n] ∨ (i' ≠ 0 ∧ m = i') := by
      unfold RF.pgs at hm
      split at hm
      · exact .inl hm
      · rename_i h0
        rcases List.mem_append.1 hm with hm | hm
        · exact .inl hm
        · exact .inr ⟨h0, by simpa using hm⟩
    rcases h1 with h1 | ⟨h0, h1⟩
    · rcases List.mem_append.1 h1 with h1 | h1
      · exact .inl (pgs_data h1)
      · exact .inr (.inl (by simpa using h1))
    · rcases hi with ⟨_, e⟩ | ⟨e, _⟩
      · left; rw [h1, e]; exact pgs_ind (e ▸ h0)
      · exact .inr (.inr ⟨e, h1⟩)
  refine ⟨{ h with few := by rw [hl]; omega, len := by show f.bytes.length ≤ 512 * (f.data ++ [n]).length; rw [hl]; omega, ind := ?_, own := fun m hm => ?_, nodup := ?_, bytes := fun k hk => ?_ }, hmem⟩
  · show i' = 0 ↔ (f.data ++ [n]).length ≤ 10
    rw [hl]
    rcases hi with ⟨h1, rfl⟩ | ⟨h1, h2, _⟩
    · have := h.ind; omega
    · omega
  · rcases hmem m hm with h1 | h1 | ⟨h0, h1⟩
    · exact h.own m h1
    · rw [h1]; exact hn
    · rcases hi with ⟨e, _⟩ | ⟨_, _, e, _⟩
      · exact absurd h0 e
      · rw [h1]; exact e
  · have hnd := h.nodup
    have hnd2 : n ∉ f.data := fun e => hnf (pgs_data e)
    rcases hi with ⟨h1, rfl⟩ | ⟨h1, h2, _, h3, h4⟩
    · unfold RF.pgs at hnd ⊢
      show (if f.ind = 0 then f.data ++ [n] else f.data ++ [n] ++ [f.ind]).Nodup
      by_cases h0 : f.ind = 0
      · rw [if_pos h0] at hnd ⊢
        exact nodup_snoc hnd hnd2
      · rw [if_neg h0] at hnd ⊢
        obtain ⟨a1, a2⟩ := nodup_snoc_inv hnd
        refine nodup_snoc (nodup_snoc a1 hnd2) fun e => ?_
        rcases List.mem_append.1 e with e | e
        · exact a2 e
        · have e : f.ind = n := by simpa using e
          exact hnf (e ▸ pgs_ind h0)
    · have h0 : f.ind = 0 := h.ind.2 (by omega)
      unfold RF.pgs at hnd ⊢
      rw [if_pos h0] at hnd
      show (if i' = 0 then f.data ++ [n] else f.data ++ [n] ++ [i']).Nodup
      rw [if_neg h2]
      refine nodup_snoc (nodup_snoc hnd hnd2) fun e => ?_
      rcases List.mem_append.1 e with e | e
      · exact h3 (pgs_data e)
      · exact h4 (by simpa using e)
  · have hk : k < (f.data ++ [n]).length := hk
    rw [hl] at hk
    show C.rd ((f.data ++ [n]).getD k 0) = pageOf f.bytes k
    rw [List.getD_eq_getElem?_getD]
    by_cases e : k < f.data.length
    · rw [List.getElem?_append_left e, ← List.getD_eq_getElem?_getD]; exact h.bytes k e
    · obtain rfl : k = f.data.length := by omega
      rw [List.getElem?_append_right (Nat.le_refl _), Nat.sub_self]
      show C.rd n = _
      rw [hz, pageOf_far hb]
/-- Midway: the file's pages stand as they must; its record need not. -/
structure Mid (C : Ca) (T : RS) (j : Nat) (f : RF) : Prop where
  rel : Rel C (T.set j f) (fun k => k = j)
  live : T.live j
  lt : j < T.l.length
theorem Mid.file {C : Ca} {T : RS} {j : Nat} {f : RF} (h : Mid C T j f) : (T.set j f).file j = f := by rw [file_set _ _ _ _ h.lt, if_pos rfl]
theorem Mid.ok {C : Ca} {T : RS} {j : Nat} {f : RF} (h : Mid C T j f) : 1 ≤ f.kind ∧ FOk C (T.set j f) f := by
  have := h.rel.files j h.live
  rw [h.file] at this; exact this
theorem Mid.grow {C : Ca} {T : RS} {j sz : Nat} {f : RF} (h : Mid C T j f) (hd : f.data.length < 138) : match rgrow1 (T, f) with
    | none => grow1 (opnS f j sz, C) f.data.length = none
    | some s => ∃ C', grow1 (opnS f j sz, C) f.data.length = some (opnS s.2 j sz, C') ∧ Mid C' s.1 j s.2 ∧ (C'.G = C.G ∧ C'.most = C.most) ∧ s.2.data.length = f.data.length + 1 ∧ s.2.bytes = f.bytes ∧ (s.1.l = T.l ∧ s.1.i = T.i) ∧ f.like s.2 := by
  have hok := h.ok
  have hpg := h.rel.page
  have hTp : (T.set j f).p = T.p := rfl
  rw [hTp] at hpg
  by_cases h10 : f.data.length = 10
  · have hi0 : f.ind = 0 := hok.2.ind.2 (by omega)
    unfold rgrow1 grow1 RS.takeP
    simp only
    rw [if_pos ⟨h10, hi0⟩, if_pos h10]
    cases ht : takeB T.p with
    | none => rw [ht] at hpg; simp only at hpg; rw [hpg]
    | some n0 =>
      rw [ht] at hpg
      simp only at hpg
      obtain ⟨C0, e0, r0, z0, g0, m0, b0, f0, u0, w0⟩ := hpg
      rw [e0]
      simp only
      have hpg1 := r0.page
      have hq : ({ T.set j f with p := T.p.set n0 true } : RS).p = T.p.set n0 true := rfl
      rw [hq] at hpg1
      cases ht1 : takeB (T.p.set n0 true) with
      | none => rw [ht1] at hpg1; simp only at hpg1; rw [hpg1]
      | some n1 =>
        rw [ht1] at hpg1
        simp only at hpg1
        obtain ⟨C1, e1, r1, z1, g1, m1, b1, f1, u1, w1⟩ := hpg1
        rw [e1]
        simp only
        obtain ⟨t0, _⟩ := takeB_some ht
        obtain ⟨t1, _⟩ := takeB_some ht1
        have hu0 : (T.p.set n0 true).getD n0 false = true := by rw [getD_setB _ _ _ _ t0, if_pos rfl]
        have hne : n0 ≠ n1 := fun e => by rw [← e, hu0] at u1; cases u1
        have hfile1 : ({ T.set j f with p := (T.p.set n0 true).set n1 true } : RS).file j = f := h.file
        have hok1 := r1.files j h.live
        rw [show ({ ({ T.set j f with p := T.p.set n0 true } : RS) with p := (T.p.set n0 true).set n1 true } : RS) = { T.set j f with p := (T.p.set n0 true).set n1 true } from rfl] at hok1 r1
        rw [hfile1] at hok1
        have w0j := w0 j
        rw [h.file] at w0j
        have w1j : n1 ∉ f.pgs := by have := w1 j; rw [show ({ T.set j f with p := T.p.set n0 true } : RS).file j = f from h.file] at this; exact this
        obtain ⟨hF, hmem⟩ := hok1.2.push (n := n1) (i' := n0) ⟨f1, by rw [g1]; exact b1, by show ((T.p.set n0 true).set n1 true).getD n1 false = true; rw [getD_setB _ _ _ _ t1, if_pos rfl]⟩ w1j
          (.inr ⟨h10, fun e => by rw [e] at f0; have := h.rel.small; omega, ⟨f0, by rw [g1, g0]; exact b0, by show ((T.p.set n0 true).set n1 true).getD n0 false = true; rw [getD_setB _ _ _ _ t1, if_neg hne]; exact hu0⟩, w0j, hne⟩) z1 hok.2.len hd
        have hrel := r1.file (j := j) (f' := { f with data := f.data ++ [n1], ind := n0 }) h.live rfl hok1.1 hF fun m hm => by
          rw [hfile1]
          rcases hmem m hm with e | e | ⟨_, e⟩
          · exact .inl e
          · right; rw [e]; exact w1
          · right; rw [e]; exact w0
        refine ⟨C1, ?_, ⟨?_, h.live, h.lt⟩, ⟨g1.trans g0, m1.trans m0⟩, by rw [List.length_append, List.length_singleton], (by first | rfl | trivial), (by first | exact ⟨rfl, rfl⟩ | exact ⟨trivial, trivial⟩), ⟨rfl, rfl, rfl⟩⟩
        · have e9 := opnS_push { f with ind := n0 } j sz n1 hd
          rw [opnS_setInd] at e9
          exact congrArg some (congrArg (·, C1) e9.symm)
        · have : ({ T.set j f with p := (T.p.set n0 true).set n1 true } : RS).set j { f with data := f.data ++ [n1], ind := n0 } = ({ T with p := (T.p.set n0 true).set n1 true } : RS).set j { f with data := f.data ++ [n1], ind := n0 } := by
            unfold RS.set; simp only [List.set_set]
          rw [this] at hrel; exact hrel
  · unfold rgrow1 grow1 RS.takeP
    simp only
    rw [if_neg (fun e => h10 e.1), if_neg h10]
    simp only
    cases ht : takeB T.p with
    | none => rw [ht] at hpg; simp only at hpg; rw [hpg]
    | some n0 =>
      rw [ht] at hpg
      simp only at hpg
      obtain ⟨C0, e0, r0, z0, g0, m0, b0, f0, u0, w0⟩ := hpg
      rw [e0]
      simp only
      obtain ⟨t0, _⟩ := takeB_some ht
      have hfile0 : ({ T.set j f with p := T.p.set n0 true } : RS).file j = f := h.file
      have hok0 := r0.files j h.live
      rw [hfile0] at hok0
      have w0j := w0 j
      rw [h.file] at w0j
      obtain ⟨hF, hmem⟩ := hok0.2.push (n := n0) (i' := f.ind) ⟨f0, by rw [g0]; exact b0, by show (T.p.set n0 true).getD n0 false = true; rw [getD_setB _ _ _ _ t0, if_pos rfl]⟩ w0j (.inl ⟨h10, rfl⟩) z0 hok.2.len hd
      have hrel := r0.file (j := j) (f' := { f with data := f.data ++ [n0], ind := f.ind }) h.live rfl hok0.1 hF fun m hm => by
        rw [hfile0]
        rcases hmem m hm with e | e | ⟨e, _⟩
        · exact .inl e
        · right; rw [e]; exact w0
        · exact absurd e h10
      refine ⟨C0, ?_, ⟨?_, h.live, h.lt⟩, ⟨g0, m0⟩, by rw [List.length_append, List.length_singleton], (by first | rfl | trivial), (by first | exact ⟨rfl, rfl⟩ | exact ⟨trivial, trivial⟩), ⟨rfl, rfl, rfl⟩⟩
      · rw [← opnS_push f j sz n0 hd]
      · have : ({ T.set j f with p := T.p.set n0 true } : RS).set j { f with data := f.data ++ [n0], ind := f.ind } = ({ T with p := T.p.set n0 true } : RS).set j { f with data := f.data ++ [n0] } := by
          unfold RS.set; simp only [List.set_set]
        rw [this] at hrel; exact hrel
theorem FOk.less {C : Ca} {T : RS} {f : RF} (h : FOk C T f) (h0 : f.data ≠ []) {i' : Nat} (hi' : (f.data.length - 1 = 10 ∧ i' = 0) ∨ (f.data.length - 1 ≠ 10 ∧ i' = f.ind)) :
    FOk C T { f with data := f.data.dropLast, bytes := f.bytes.take (512 * (f.data.length - 1)), ind := i' } ∧ ∀ m ∈ ({ f with data := f.data.dropLast, bytes := f.bytes.take (512 * (f.data.length - 1)), ind := i' } : RF).pgs, m ∈ f.pgs ∧ m ≠ f.data.getD (f.data.length - 1) 0 ∧ (f.data.length - 1 = 10 → m ≠ f.ind) := by
  have hp := List.length_pos_iff.2 h0
  obtain ⟨l, x, hlx⟩ : ∃ l x, f.data = l ++ [x] := ⟨f.data.dropLast, f.data.getLast h0, (List.dropLast_concat_getLast h0).symm⟩
  have hd : f.data.dropLast = l := by rw [hlx]; exact List.dropLast_concat
  have hlen : f.data.length - 1 = l.length := by rw [hlx, List.length_append, List.length_singleton]; omega
  have hlen2 : f.data.length = l.length + 1 := by omega
  have hx : f.data.getD (f.data.length - 1) 0 = x := by rw [hlen, hlx, List.getD_eq_getElem?_getD, List.getElem?_append_right (Nat.le_refl _), Nat.sub_self]; rfl
  have hnd : f.data.Nodup := by
    have := h.nodup
    unfold RF.pgs at this
    split at this
    · exact this
    · exact (List.nodup_append.1 this).1
  have hnd2 := hnd
  rw [hlx] at hnd2
  obtain ⟨n1, n2⟩ := nodup_snoc_inv hnd2
  have hini : f.ind ≠ 0 → f.ind ∉ f.data := fun h0 => by
    have := h.nodup
    unfold RF.pgs at this
    rw [if_neg h0] at this
    exact (nodup_snoc_inv this).2
  have hpg : ({ f with data := f.data.dropLast, bytes := f.bytes.take (512 * (f.data.length - 1)), ind := i' } : RF).pgs = if i' = 0 then l else l ++ [i'] := by
    unfold RF.pgs
    simp only [hd]
  have hmem : ∀ m ∈ ({ f with data := f.data.dropLast, bytes := f.bytes.take (512 * (f.data.length - 1)), ind := i' } : RF).pgs, m ∈ f.pgs ∧ m ≠ f.data.getD (f.data.length - 1) 0 ∧ (f.data.length - 1 = 10 → m ≠ f.ind) := by
    intro m hm
    rw [hx]
    have h1 : m ∈ l ∨ (f.data.length - 1 ≠ 10 ∧ f.ind ≠ 0 ∧ m = f.ind) := by
      rw [hpg] at hm
      split at hm
      · exact .inl hm
      · rename_i hz
        rcases List.mem_append.1 hm with hm | hm
        · exact .inl hm
        · have hm : m = i' := by simpa using hm
          rcases hi' with ⟨_, e⟩ | ⟨e1, e2⟩
          · exact absurd e hz
          · exact .inr ⟨e1, e2 ▸ hz, hm.trans e2⟩
    rcases h1 with h1 | ⟨e1, e2, e3⟩
    · have hmf : m ∈ f.data := by rw [hlx]; exact List.mem_append_left _ h1
      refine ⟨pgs_data hmf, fun e => n2 (e ▸ h1), fun e10 e => ?_⟩
      have hi : f.ind ≠ 0 := fun e0 => by have := h.ind.1 e0; omega
      exact hini hi (e ▸ hmf)
    · refine ⟨e3 ▸ pgs_ind e2, fun e => ?_, fun e => absurd e e1⟩
      refine hini e2 ?_
      rw [← e3, e, hlx]; simp
  refine ⟨{ h with size := ?_, few := ?_, len := ?_, ind := ?_, own := fun m hm => h.own m (hmem m hm).1, nodup := ?_, bytes := fun k hk => ?_ }, hmem⟩
  · show (f.bytes.take (512 * (f.data.length - 1))).length ≤ 70656
    rw [List.length_take]; have := h.size; omega
  · show f.data.dropLast.length ≤ 138
    rw [hd]; have := h.few; omega
  · show (f.bytes.take (512 * (f.data.length - 1))).length ≤ 512 * f.data.dropLast.length
    rw [hd, List.length_take, hlen]; omega
  · show i' = 0 ↔ f.data.dropLast.length ≤ 10
    rw [hd]
    have := h.ind
    rcases hi' with ⟨e1, e2⟩ | ⟨e1, e2⟩ <;> omega
  · rw [hpg]
    split
    · exact n1
    · rename_i hz
      rcases hi' with ⟨_, e⟩ | ⟨e1, e2⟩
      · exact absurd e hz
      · rw [e2] at hz ⊢
        exact nodup_snoc n1 fun e => hini hz (by rw [hlx]; exact List.mem_append_left _ e)
  · have hk : k < f.data.dropLast.length := hk
    rw [hd] at hk
    show C.rd (f.data.dropLast.getD k 0) = pageOf (f.bytes.take (512 * (f.data.length - 1))) k
    rw [hd, hlen, pageOf_take hk, ← h.bytes k (by omega), hlx, List.getD_eq_getElem?_getD, List.getD_eq_getElem?_getD, List.getElem?_append_left hk]
theorem Mid.shrink {C : Ca} {T : RS} {j sz : Nat} {f : RF} (h : Mid C T j f) (h0 : f.data ≠ []) :
    ∃ C', shrink1 T.inodes (opnS f j sz, C) (f.data.length - 1) = some (opnS (rshrink1 (T, f)).2 j sz, C') ∧ Mid C' (rshrink1 (T, f)).1 j (rshrink1 (T, f)).2 ∧ (C'.G = C.G ∧ C'.most = C.most) := by
  have hok := h.ok
  have hp := List.length_pos_iff.2 h0
  obtain ⟨i', hi'⟩ : ∃ i', (f.data.length - 1 = 10 ∧ i' = 0) ∨ (f.data.length - 1 ≠ 10 ∧ i' = f.ind) := by
    by_cases e : f.data.length - 1 = 10
    · exact ⟨0, .inl ⟨e, rfl⟩⟩
    · exact ⟨f.ind, .inr ⟨e, rfl⟩⟩
  obtain ⟨hF, hmem⟩ := hok.2.less h0 hi'
  have hfew := hok.2.few
  obtain ⟨n, hn⟩ : ∃ n, n = f.data.getD (f.data.length - 1) 0 := ⟨_, rfl⟩
  obtain ⟨f', hf'⟩ : ∃ f' : RF, f' = { f with data := f.data.dropLast, bytes := f.bytes.take (512 * (f.data.length - 1)), ind := i' } := ⟨_, rfl⟩
  rw [← hf'] at hF hmem
  rw [← hn] at hmem
  have hnm : n ∈ f.pgs := by rw [hn]; exact pgs_data (getD_mem (by omega))
  have hr1 : Rel C (T.set j f') (fun k => k = j) := by
    have := h.rel.file (j := j) (f' := f') h.live rfl (by rw [hf']; exact hok.1) hF fun m hm => .inl (by rw [h.file]; exact (hmem m hm).1)
    rw [RS.set_set] at this; exact this
  have hfile' : ∀ k, (T.set j f').file k = if k = j then f' else T.file k := fun k => file_set _ _ _ _ h.lt
  have hfileF : ∀ k, (T.set j f).file k = if k = j then f else T.file k := fun k => file_set _ _ _ _ h.lt
  have hgone : ∀ m ∈ f.pgs, m ∉ f'.pgs → ∀ k, m ∉ ((T.set j f').file k).pgs := fun m hm hm' k hk => by
    rw [hfile'] at hk
    by_cases e : k = j
    · rw [if_pos e] at hk; exact hm' hk
    · rw [if_neg e] at hk
      exact e (h.rel.apart k j m (by rw [hfileF, if_neg e]; exact hk) (by rw [h.file]; exact hm))
  obtain ⟨o1, o2, o3⟩ := hok.2.own n hnm
  obtain ⟨g1, r1⟩ := hr1.giveP (n := n) o2 o1 o3 (hgone n hnm (fun e => (hmem n e).2.1 rfl))
  have hino : (T.set j f').inodes = T.inodes := rfl
  rw [hino] at g1
  have hslot : (opnS f j sz).slot (f.data.length - 1) = n := by rw [opnS_slot, hn]
  have hpop := opnS_pop f j sz h0 hfew (f.bytes.take (512 * (f.data.length - 1)))
  by_cases h10 : f.data.length - 1 = 10
  · have hi : f.ind ≠ 0 := fun e0 => by have := hok.2.ind.1 e0; omega
    have him := pgs_ind hi
    obtain ⟨q1, q2, q3⟩ := hok.2.own f.ind him
    have hne : f.ind ≠ n := by
      have := hok.2.nodup
      unfold RF.pgs at this
      rw [if_neg hi] at this
      intro e
      exact (nodup_snoc_inv this).2 (by rw [e, hn]; exact getD_mem (by omega))
    have hnlt : n < T.p.length := by
      have := h.rel.np
      rw [show (T.set j f).p = T.p from rfl] at this
      rw [this]; exact o2
    obtain ⟨g2, r2⟩ := r1.giveP (n := f.ind) q2 q1 (by show (T.p.set n false).getD f.ind false = true; rw [getD_setB _ _ _ _ hnlt, if_neg hne]; exact q3) (hgone f.ind him (fun e => (hmem _ e).2.2 h10 rfl))
    have hind : ((opnS f j sz).setSlot (f.data.length - 1) 0).ind = f.ind := by rw [← hpop]; exact opnS_ind _ _ _
    rw [show ({ T.set j f' with p := (T.set j f').p.set n false } : RS).inodes = T.inodes from rfl] at g2
    have hi0 : i' = 0 := by
      rcases hi' with ⟨_, e⟩ | ⟨e, _⟩
      · exact e
      · exact absurd h10 e
    have hrs : rshrink1 (T, f) = ((T.freeP n).freeP f.ind, { f with data := f.data.dropLast, bytes := f.bytes.take (512 * (f.data.length - 1)), ind := 0 }) := by
      unfold rshrink1
      simp only [if_pos h10, ← hn]
    rw [hrs]
    refine ⟨(C.set 2 (turnB (C.rd 2) n)).set 2 (turnB ((C.set 2 (turnB (C.rd 2) n)).rd 2) f.ind), ?_, ⟨?_, h.live, h.lt⟩, ⟨rfl, rfl⟩⟩
    · unfold shrink1
      simp only [hslot, g1, if_pos h10, hind, g2]
      rw [← hpop]
      exact congrArg some (congrArg (·, _) (opnS_setInd { f with data := f.data.dropLast, bytes := f.bytes.take (512 * (f.data.length - 1)) } j sz 0).symm)
    · rw [hf', hi0] at r2; exact r2
  · have hi0 : i' = f.ind := by
      rcases hi' with ⟨e, _⟩ | ⟨_, e⟩
      · exact absurd e h10
      · exact e
    have hrs : rshrink1 (T, f) = (T.freeP n, { f with data := f.data.dropLast, bytes := f.bytes.take (512 * (f.data.length - 1)) }) := by
      unfold rshrink1
      simp only [if_neg h10, ← hn]
    rw [hrs]
    refine ⟨C.set 2 (turnB (C.rd 2) n), ?_, ⟨?_, h.live, h.lt⟩, ⟨rfl, rfl⟩⟩
    · unfold shrink1
      simp only [hslot, g1, if_neg h10]
      rw [← hpop]
    · rw [hf', hi0] at r1; exact r1
theorem Mid.growsN {j sz : Nat} (n : Nat) : ∀ {C : Ca} {T : RS} {f : RF}, Mid C T j f → f.data.length + n ≤ 138 → match rgrowN n (T, f) with
    | none => growN f.data.length n (opnS f j sz, C) = none
    | some s => ∃ C', growN f.data.length n (opnS f j sz, C) = some (opnS s.2 j sz, C') ∧ Mid C' s.1 j s.2 ∧ (C'.G = C.G ∧ C'.most = C.most) ∧ s.2.data.length = f.data.length + n ∧ s.2.bytes = f.bytes ∧ (s.1.l = T.l ∧ s.1.i = T.i) ∧ f.like s.2 := by
  induction n with
  | zero => intro C T f h hd; exact ⟨C, rfl, h, ⟨rfl, rfl⟩, rfl, rfl, ⟨rfl, rfl⟩, RF.like.refl f⟩
  | succ n ih =>
    intro C T f h hd
    have h1 := h.grow (sz := sz) (by omega)
    unfold rgrowN growN
    cases hg : rgrow1 (T, f) with
    | none => rw [hg] at h1; simp only at h1; rw [h1]
    | some s =>
      rw [hg] at h1
      simp only at h1
      obtain ⟨C1, e1, m1, g1, l1, b1, t1, k1⟩ := h1
      rw [e1]
      simp only
      have h2 := ih m1 (by omega)
      rw [l1] at h2
      cases hg2 : rgrowN n (s.1, s.2) with
      | none => rw [hg2] at h2; simp only at h2; exact h2
      | some s2 =>
        rw [hg2] at h2
        simp only at h2
        obtain ⟨C2, e2, m2, g2, l2, b2, t2, k2⟩ := h2
        exact ⟨C2, e2, m2, ⟨g2.1.trans g1.1, g2.2.trans g1.2⟩, by omega, b2.trans b1, ⟨t2.1.trans t1.1, t2.2.trans t1.2⟩, k1.trans k2⟩
theorem rshrink1_like (T : RS) (f : RF) : f.like (rshrink1 (T, f)).2 ∧ (rshrink1 (T, f)).1.l = T.l ∧ (rshrink1 (T, f)).1.i = T.i ∧ (rshrink1 (T, f)).2.data = f.data.dropLast ∧ (rshrink1 (T, f)).2.bytes = f.bytes.take (512 * (f.data.length - 1)) := by
  unfold rshrink1 RS.freeP
  simp only
  split
  · exact ⟨⟨rfl, rfl, rfl⟩, rfl, rfl, rfl, rfl⟩
  · exact ⟨⟨rfl, rfl, rfl⟩, rfl, rfl, rfl, rfl⟩
theorem Mid.shrinksN {j sz : Nat} (n : Nat) : ∀ {C : Ca} {T : RS} {f : RF}, Mid C T j f → n ≤ f.data.length →
    ∃ C', shrinkN T.inodes f.data.length n (opnS f j sz, C) = some (opnS (rshrinkN n (T, f)).2 j sz, C') ∧ Mid C' (rshrinkN n (T, f)).1 j (rshrinkN n (T, f)).2 ∧ (C'.G = C.G ∧ C'.most = C.most) ∧ (rshrinkN n (T, f)).2.data.length = f.data.length - n ∧ (rshrinkN n (T, f)).2.bytes = f.bytes.take (512 * (f.data.length - n)) ∧ ((rshrinkN n (T, f)).1.l = T.l ∧ (rshrinkN n (T, f)).1.i = T.i) ∧ f.like (rshrinkN n (T, f)).2 := by
  induction n with
  | zero => intro C T f h hd; exact ⟨C, rfl, h, ⟨rfl, rfl⟩, rfl, (List.take_of_length_le h.ok.2.len).symm, ⟨rfl, rfl⟩, RF.like.refl f⟩
  | succ n ih =>
    intro C T f h hd
    have h0 : f.data ≠ [] := fun e => by rw [e] at hd; simp at hd
    obtain ⟨C1, e1, m1, g1⟩ := h.shrink (sz := sz) h0
    obtain ⟨k1, t1, i1, d1, b1⟩ := rshrink1_like T f
    have hl1 : (rshrink1 (T, f)).2.data.length = f.data.length - 1 := by rw [d1, List.length_dropLast]
    obtain ⟨C2, e2, m2, g2, l2, b2, t2, k2⟩ := ih m1 (by omega)
    have hino : (rshrink1 (T, f)).1.inodes = T.inodes := by unfold RS.inodes; rw [i1]
    rw [hl1, hino] at e2
    refine ⟨C2, ?_, m2, ⟨g2.1.trans g1.1, g2.2.trans g1.2⟩, ?_, ?_, ⟨t2.1.trans t1, t2.2.trans i1⟩, k1.trans k2⟩
    · unfold shrinkN
      rw [e1]; exact e2
    · show (rshrinkN n (rshrink1 (T, f))).2.data.length = _
      rw [l2, hl1]; omega
    · show (rshrinkN n (rshrink1 (T, f))).2.bytes = _
      rw [b2, b1, hl1, List.take_take]
      congr 1; omega
end Go.Proofs.YtfgkgoddjemnfaaGreatDoor

namespace Go.Proofs.YtfgkgoddjemnfaaGreatDoor
open Go.RowKit Go.Shelf Pa
theorem set_same (T : RS) (j : Nat) : T.set j (T.file j) = T := by
  have h : T.l.set j (T.file j) = T.l := by
    refine List.ext_getElem? fun i => ?_
    rw [List.getElem?_set]
    by_cases e : j = i
    · subst e
      rw [if_pos rfl]
      unfold RS.file
      by_cases hj : j < T.l.length
      · rw [if_pos hj, List.getD_eq_getElem?_getD, List.getElem?_eq_getElem hj]; rfl
      · rw [if_neg hj, List.getElem?_eq_none (by omega)]
    · rw [if_neg e]
  unfold RS.set
  rw [h]
theorem Rel.mid {C : Ca} {T : RS} {ex : Nat → Prop} {j : Nat} (h : Rel C T ex) (hx : ∀ k, ex k → k = j) (hl : T.live j) : Mid C T j (T.file j) :=
  ⟨by rw [set_same]; exact h.mono hx, hl, by rw [h.ino]; exact RS.live_lt hl⟩
/-- The end of a resize: the bytes are as they shall be. -/
theorem Mid.fit {C : Ca} {T : RS} {j sz size : Nat} {f : RF} {b : Str} (h : Mid C T j f) (hd : f.data.length = npg size) (hb : f.bytes = b.take (512 * npg size)) (hbl : b.length = sz) (hsz : size ≤ 70656) :
    ∃ C', tailZ (opnS f j sz, C) sz size = some (opnS f j sz, C') ∧ Rel C' (T.set j { f with bytes := fitTo b size }) (fun k => k = j) ∧ (C'.G = C.G ∧ C'.most = C.most) := by
  have hok := h.ok
  have hl2 : (fitTo b size).length ≤ 512 * f.data.length := by rw [fitTo_length, hd]; unfold npg; omega
  have hpg : ∀ i, i < npg size → (512 * i + 512 ≤ size ∨ b.length ≤ size) → pageOf (fitTo b size) i = pageOf f.bytes i := by
    intro i hi hor
    rw [hb, pageOf_take hi]
    rcases hor with h1 | h1
    · exact pageOf_fit h1
    · refine pageOf_congr fun q hq => ?_
      by_cases e : 512 * i + q < size
      · exact fitTo_getD _ _ _ e
      · rw [List.getD_eq_getElem?_getD, List.getD_eq_getElem?_getD, List.getElem?_eq_none (by rw [fitTo_length]; omega), List.getElem?_eq_none (by omega)]
  unfold tailZ
  by_cases ht : size < sz ∧ 0 < size % 512
  · rw [if_pos ht]
    simp only
    have hk : npg size - 1 < f.data.length := by rw [hd]; unfold npg; omega
    have hn : (opnS f j sz).slot (npg size - 1) = f.data.getD (npg size - 1) 0 := opnS_slot _ _ _ _
    have hm : f.data.getD (npg size - 1) 0 ∈ f.pgs := pgs_data (getD_mem hk)
    have hnp := (hok.2.own _ hm).2.1
    rw [hn, h.rel.rm.w _ hnp]
    refine ⟨_, rfl, ?_, rfl, rfl⟩
    have hpage := hok.2.bytes _ hk
    have := h.rel.setData (j := j) (k := npg size - 1) (nb := fitTo b size) (x := (C.rd (f.data.getD (npg size - 1) 0)).take (size % 512) ++ List.replicate (512 - size % 512) 0) h.live rfl (by rw [h.file]; exact hk) ?_ (by rw [fitTo_length]; exact hsz) (by rw [h.file]; exact hl2) (fun i hi hik => by
      rw [h.file] at hi ⊢
      rw [hd] at hi; exact hpg i (by omega) (.inl (by unfold npg at hik hi; omega)))
    · rw [h.file, RS.set_set] at this; exact this
    · rw [hpage]
      refine pageOf_ext ?_ fun q hq => ?_
      · rw [List.length_append, List.length_take, pageOf_length, List.length_replicate]; omega
      · by_cases e : q < size % 512
        · rw [List.getElem?_append_left (by rw [List.length_take, pageOf_length]; omega), List.getElem?_take_of_lt e, pageOf_getElem? _ _ _ hq, hb]
          have e2 : 512 * (npg size - 1) + q < size := by unfold npg; omega
          rw [fitTo_getD _ _ _ e2, List.getD_eq_getElem?_getD, List.getD_eq_getElem?_getD, List.getElem?_take_of_lt (by unfold npg; omega)]
        · rw [List.getElem?_append_right (by rw [List.length_take, pageOf_length]; omega), List.getElem?_replicate, if_pos (by rw [List.length_take, pageOf_length]; omega), List.getD_eq_getElem?_getD, List.getElem?_eq_none (by rw [fitTo_length]; unfold npg; omega)]; rfl
  · rw [if_neg ht]
    refine ⟨C, rfl, ?_, rfl, rfl⟩
    have hF : FOk C (T.set j f) { f with bytes := fitTo b size } := { hok.2 with
      size := by show (fitTo b size).length ≤ 70656; rw [fitTo_length]; exact hsz
      len := hl2
      bytes := fun k hk => by
        have hk : k < npg size := by rw [← hd]; exact hk
        show C.rd (f.data.getD k 0) = pageOf (fitTo b size) k
        rw [hpg k hk (by
          by_cases e : size < sz
          · left
            have : size % 512 = 0 := by omega
            unfold npg at hk; omega
          · right; omega)]
        exact hok.2.bytes k (by rw [hd]; exact hk)
      own := fun m hm => hok.2.own m hm
      nodup := hok.2.nodup
      ind := hok.2.ind }
    have := h.rel.file (j := j) (f' := { f with bytes := fitTo b size }) h.live rfl hok.1 hF fun m hm => .inl (by rw [h.file]; exact hm)
    rw [RS.set_set] at this; exact this
theorem npg_le {a : Nat} (h : a ≤ 70656) : npg a ≤ 138 := by unfold npg; omega
/-- What a resize leaves. -/
structure Resized (T T' : RS) (j size : Nat) : Prop where
  i : T'.i = T.i
  len : T'.l.length = T.l.length
  like : (T.file j).like (T'.file j)
  bytes : (T'.file j).bytes = fitTo (T.file j).bytes size
  rest : ∀ k, k ≠ j → T'.file k = T.file k
  tight : T'.Tight
theorem Rel.resize {C : Ca} {T : RS} {ex : Nat → Prop} {j size : Nat} (h : Rel C T ex) (hx : ∀ k, ex k → k = j) (ht : T.Tight) (hl : T.live j) (hsz : size ≤ 70656) : match T.resize j size with
    | none => resizeP T.inodes (opnOf (T.file j) j, C) size = none
    | some T' => ∃ C', resizeP T.inodes (opnOf (T.file j) j, C) size = some (opnOf (T'.file j) j, C') ∧ Rel C' T' (fun k => k = j) ∧ (C'.G = C.G ∧ C'.most = C.most) ∧ Resized T T' j size := by
  have hM := h.mid hx hl
  have hok := hM.ok
  have htj := ht j
  obtain ⟨f, hf⟩ : ∃ f, f = T.file j := ⟨_, rfl⟩
  rw [← hf] at hM hok htj ⊢
  have h0 : opnOf f j = opnS f j f.bytes.length := rfl
  have hlen0 := hok.2.size
  have hg := hM.growsN (sz := f.bytes.length) (npg size - f.data.length) (by have := npg_le hsz; have := npg_le hlen0; omega)
  unfold RS.resize resizeP
  rw [← hf, h0]
  have hs0 : (opnS f j f.bytes.length).size = f.bytes.length := rfl
  simp only [hs0]
  rw [htj] at hg
  rw [htj]
  cases hr : rgrowN (npg size - npg f.bytes.length) (T, f) with
  | none => rw [hr] at hg; simp only at hg; rw [hg]
  | some s1 =>
    rw [hr] at hg
    simp only at hg
    obtain ⟨C1, e1, m1, g1, l1, b1, t1, k1⟩ := hg
    rw [e1]
    simp only
    obtain ⟨C2, e2, m2, g2, l2, b2, t2, k2⟩ := m1.shrinksN (sz := f.bytes.length) (s1.2.data.length - npg size) (by omega)
    have hi1 : s1.1.inodes = T.inodes := by unfold RS.inodes; rw [t1.2]
    rw [hi1] at e2
    have hsame : growN (npg f.bytes.length) (npg size - npg f.bytes.length) (opnS f j f.bytes.length, C) = some (opnS s1.2 j f.bytes.length, C1) := e1
    have hshr : shrinkN T.inodes (npg f.bytes.length) (npg f.bytes.length - npg size) (opnS s1.2 j f.bytes.length, C1) = some (opnS (rshrinkN (s1.2.data.length - npg size) s1).2 j f.bytes.length, C2) := by
      by_cases hle : npg size ≤ npg f.bytes.length
      · have e : s1.2.data.length = npg f.bytes.length := by omega
        rw [e] at e2 ⊢; exact e2
      · have e : s1.2.data.length - npg size = 0 := by omega
        have e3 : npg f.bytes.length - npg size = 0 := by omega
        rw [e] at e2 ⊢
        rw [e3]
        have e4 := e2
        unfold shrinkN at e4 ⊢
        exact e4
    rw [hshr]
    simp only
    have hl3 : (rshrinkN (s1.2.data.length - npg size) s1).2.data.length = npg size := by
      show (rshrinkN (s1.2.data.length - npg size) (s1.1, s1.2)).2.data.length = npg size
      rw [l2]; omega
    have hb3 : (rshrinkN (s1.2.data.length - npg size) s1).2.bytes = f.bytes.take (512 * npg size) := by
      show (rshrinkN (s1.2.data.length - npg size) (s1.1, s1.2)).2.bytes = _
      rw [b2, b1]
      by_cases hle : npg size ≤ npg f.bytes.length
      · congr 2; omega
      · rw [List.take_of_length_le (by rw [show s1.2.data.length - (s1.2.data.length - npg size) = s1.2.data.length from by omega]; unfold npg at *; omega), List.take_of_length_le (by unfold npg at *; omega)]
    obtain ⟨C3, e4, r4, g4⟩ := m2.fit (sz := f.bytes.length) (size := size) (b := f.bytes) hl3 hb3 rfl hsz
    have e4' : tailZ (opnS (rshrinkN (s1.2.data.length - npg size) s1).2 j f.bytes.length, C2) f.bytes.length size = some (opnS (rshrinkN (s1.2.data.length - npg size) s1).2 j f.bytes.length, C3) := e4
    rw [e4']
    simp only
    have hlt3 := m2.lt
    have hfile := fun k => file_set (rshrinkN (s1.2.data.length - npg size) s1).1 j k { (rshrinkN (s1.2.data.length - npg size) s1).2 with bytes := fitTo f.bytes size } hlt3
    refine ⟨C3, ?_, r4, ⟨g4.1.trans (g2.1.trans g1.1), g4.2.trans (g2.2.trans g1.2)⟩, ?_⟩
    · rw [hfile, if_pos rfl]
      have : opnOf { (rshrinkN (s1.2.data.length - npg size) s1).2 with bytes := fitTo f.bytes size } j = { opnS (rshrinkN (s1.2.data.length - npg size) s1).2 j f.bytes.length with size := size } := by
        unfold opnS opnOf
        simp only [fitTo_length]
      rw [this]
    · have hl4 : (rshrinkN (s1.2.data.length - npg size) s1).1.l = T.l := t2.1.trans t1.1
      have hrest : ∀ k, k ≠ j → (RS.set (rshrinkN (s1.2.data.length - npg size) s1).1 j { (rshrinkN (s1.2.data.length - npg size) s1).2 with bytes := fitTo f.bytes size }).file k = T.file k := fun k hk => by
        rw [hfile, if_neg hk]
        unfold RS.file
        rw [hl4]
      refine ⟨t2.2.trans t1.2, ?_, ?_, ?_, hrest, fun k => ?_⟩
      · show (List.set _ _ _).length = _
        rw [List.length_set, hl4]
      · rw [hfile, if_pos rfl, ← hf]
        have := k1.trans k2
        exact ⟨this.kind, this.mode, this.links⟩
      · rw [hfile, if_pos rfl, ← hf]
      · by_cases hk : k = j
        · rw [hk, hfile, if_pos rfl]
          show (rshrinkN (s1.2.data.length - npg size) s1).2.data.length = npg (fitTo f.bytes size).length
          rw [fitTo_length, hl3]
        · rw [hrest k hk]; exact ht k
theorem laidAt_split {b x y : Str} {a : Nat} (h : a + (x ++ y).length ≤ b.length) : laidAt (laidAt b a x) (a + x.length) y = laidAt b a (x ++ y) := by
  rw [List.length_append] at h
  refine List.ext_getElem? fun i => ?_
  rw [laidAt_getElem? _ _ _ _ (by rw [laidAt_length (by omega)]; omega), laidAt_getElem? _ _ _ _ (by omega), laidAt_getElem? _ _ _ _ (by rw [List.length_append]; omega), List.length_append]
  by_cases h1 : a + x.length ≤ i ∧ i < a + x.length + y.length
  · rw [if_pos h1, if_pos (by omega), List.getElem?_append_right (by omega)]
    congr 1; omega
  · rw [if_neg h1]
    by_cases h2 : a ≤ i ∧ i < a + x.length
    · rw [if_pos h2, if_pos (by omega), List.getElem?_append_left (by omega)]
    · rw [if_neg h2, if_neg (by omega)]
theorem laidAt_getD {b x : Str} {a i : Nat} (h : a + x.length ≤ b.length) : (laidAt b a x).getD i 0 = if a ≤ i ∧ i < a + x.length then x.getD (i - a) 0 else b.getD i 0 := by
  rw [List.getD_eq_getElem?_getD, laidAt_getElem? _ _ _ _ h]
  split
  · rw [List.getD_eq_getElem?_getD]
  · rw [List.getD_eq_getElem?_getD]
theorem Rel.lay {j : Nat} {o : Opn} (fuel : Nat) : ∀ {C : Ca} {T : RS} {at_ : Nat} {b : Str}, Rel C T (fun k => k = j) → T.live j → at_ + b.length ≤ (T.file j).bytes.length → b.length ≤ fuel → (∀ k, o.slot k = (T.file j).data.getD k 0) →
    ∃ C', layP o fuel C at_ b = some C' ∧ Rel C' (T.set j { T.file j with bytes := laidAt (T.file j).bytes at_ b }) (fun k => k = j) ∧ (C'.G = C.G ∧ C'.most = C.most) := by
  have hnil : ∀ {C : Ca} {T : RS} {at_ : Nat}, Rel C T (fun k => k = j) → Rel C (T.set j { T.file j with bytes := laidAt (T.file j).bytes at_ [] }) (fun k => k = j) := fun {C T at_} h => by
    have : ({ T.file j with bytes := laidAt (T.file j).bytes at_ [] } : RF) = T.file j := by
      have e : laidAt (T.file j).bytes at_ [] = (T.file j).bytes := by unfold laidAt; simp
      rw [e]
    rw [this, set_same]; exact h
  induction fuel with
  | zero =>
    intro C T at_ b h hl ha hb ho
    have : b = [] := List.length_eq_zero_iff.1 (by omega)
    subst this
    exact ⟨C, rfl, hnil h, rfl, rfl⟩
  | succ fuel ih =>
    intro C T at_ b h hl ha hb ho
    unfold layP
    by_cases hb0 : b = []
    · subst hb0
      rw [if_pos rfl]
      exact ⟨C, rfl, hnil h, rfl, rfl⟩
    · rw [if_neg hb0]
      have hpos := List.length_pos_iff.2 hb0
      have hfo := (h.files j hl).2
      have hlen := hfo.len
      have hkd : at_ / 512 < (T.file j).data.length := by omega
      have hm : (T.file j).data.getD (at_ / 512) 0 ∈ (T.file j).pgs := pgs_data (getD_mem hkd)
      have hnp := (hfo.own _ hm).2.1
      obtain ⟨m, hmd⟩ : ∃ m, m = min (512 - at_ % 512) b.length := ⟨_, rfl⟩
      rw [ho, h.rm.w _ hnp, ← hmd]
      simp only
      have hpage := hfo.bytes _ hkd
      obtain ⟨nb, hnb⟩ : ∃ nb, nb = laidAt (T.file j).bytes at_ (b.take m) := ⟨_, rfl⟩
      have htk : (b.take m).length = m := by rw [List.length_take]; omega
      have hnl : nb.length = (T.file j).bytes.length := by rw [hnb, laidAt_length (by rw [htk]; omega)]
      have hx : over (C.rd ((T.file j).data.getD (at_ / 512) 0)) (at_ % 512) b = pageOf nb (at_ / 512) := by
        rw [hpage]
        have hov : over (pageOf (T.file j).bytes (at_ / 512)) (at_ % 512) b = laidAt (pageOf (T.file j).bytes (at_ / 512)) (at_ % 512) (b.take m) := by
          unfold over
          rw [pageOf_length]
          congr 1
          rw [hmd]
          by_cases e : 512 - at_ % 512 ≤ b.length
          · rw [Nat.min_eq_left e]
          · rw [List.take_of_length_le (by omega), List.take_of_length_le (by omega)]
        rw [hov]
        refine pageOf_ext (by rw [laidAt_length (by rw [htk, pageOf_length]; omega), pageOf_length]) fun q hq => ?_
        rw [laidAt_getElem? _ _ _ _ (by rw [htk, pageOf_length]; omega), htk, hnb, laidAt_getD (by rw [htk]; omega), htk]
        by_cases e : at_ % 512 ≤ q ∧ q < at_ % 512 + m
        · rw [if_pos e, if_pos (by omega), List.getElem?_eq_getElem (by rw [htk]; omega), List.getD_eq_getElem?_getD, List.getElem?_eq_getElem (by rw [htk]; omega)]
          simp only [Option.getD_some]
          congr 2; omega
        · rw [if_neg e, if_neg (by omega), pageOf_getElem? _ _ _ hq]
      have hset := h.setData (j := j) (k := at_ / 512) (nb := nb) hl rfl hkd hx (by rw [hnl]; exact hfo.size) (by rw [hnl]; exact hlen) (fun i hi hik => by
        rw [hnb]
        refine pageOf_congr fun q hq => ?_
        rw [laidAt_getD (by rw [htk]; omega), if_neg (by rw [htk]; omega)])
      have hlt : j < T.l.length := by rw [h.ino]; exact RS.live_lt hl
      have hfile : (T.set j { T.file j with bytes := nb }).file j = { T.file j with bytes := nb } := by rw [file_set _ _ _ _ hlt, if_pos rfl]
      obtain ⟨C', e1, r1, g1⟩ := ih (at_ := at_ + m) (b := b.drop m) hset hl (by rw [hfile]; show at_ + m + (b.drop m).length ≤ nb.length; rw [hnl, List.length_drop]; omega) (by rw [List.length_drop]; omega) (fun k => by rw [hfile]; exact ho k)
      refine ⟨C', e1, ?_, g1⟩
      rw [hfile, RS.set_set] at r1
      have e2 : laidAt nb (at_ + m) (b.drop m) = laidAt (T.file j).bytes at_ b := by
        have := laidAt_split (b := (T.file j).bytes) (x := b.take m) (y := b.drop m) (a := at_) (by rw [List.take_append_drop]; exact ha)
        rw [htk, List.take_append_drop, ← hnb] at this; exact this
      rw [show ({ ({ T.file j with bytes := nb } : RF) with bytes := laidAt ({ T.file j with bytes := nb } : RF).bytes (at_ + m) (b.drop m) } : RF) = { T.file j with bytes := laidAt (T.file j).bytes at_ b } from by rw [← e2]] at r1
      exact r1
/-- All of a write: the pages, then the record. -/
theorem Rel.write {C : Ca} {T T' : RS} {j at_ : Nat} {b : Str} (h : Rel C T (fun _ => False)) (ht : T.Tight) (hl : T.live j) (hsz : at_ + b.length ≤ 70656) (hw : T.write j at_ b = some T') :
    ∃ o1 C1 C2 C', resizeP T.inodes (opnOf (T.file j) j, C) (max (T.file j).bytes.length (at_ + b.length)) = some (o1, C1) ∧ layP o1 b.length C1 at_ b = some C2 ∧ C2.save o1 = some C' ∧ Rel C' T' (fun _ => False) ∧ (C'.G = C.G ∧ C'.most = C.most) ∧ (C1.G = C.G ∧ C2.G = C.G) ∧ T'.Tight ∧ T'.i = T.i ∧ (∀ k, k ≠ j → T'.file k = T.file k) ∧ (T.file j).like (T'.file j) ∧ (T'.file j).bytes = laidAt (fitTo (T.file j).bytes (max (T.file j).bytes.length (at_ + b.length))) at_ b ∧ o1 = opnOf (T'.file j) j ∧ (T'.file j).bytes.length = max (T.file j).bytes.length (at_ + b.length) := by
  have hfo := (h.files j hl).2
  have hmx : max (T.file j).bytes.length (at_ + b.length) ≤ 70656 := by have := hfo.size; omega
  have hr := h.resize (j := j) (size := max (T.file j).bytes.length (at_ + b.length)) (fun _ e => e.elim) ht hl hmx
  unfold RS.write at hw
  cases hT : T.resize j (max (T.file j).bytes.length (at_ + b.length)) with
  | none => rw [hT] at hw; cases hw
  | some T1 =>
    rw [hT] at hw hr
    simp only at hw hr
    obtain ⟨C1, e1, r1, g1, z1⟩ := hr
    have hw := (Option.some.inj hw).symm
    have hl1 : T1.live j := by
      have := hl
      unfold RS.live at this ⊢
      rw [z1.i]; exact this
    have hlt1 : j < T1.l.length := by rw [r1.ino]; exact RS.live_lt hl1
    have hb1 := z1.bytes
    have hblen : (T1.file j).bytes.length = max (T.file j).bytes.length (at_ + b.length) := by rw [hb1, fitTo_length]
    obtain ⟨C2, e2, r2, g2⟩ := r1.lay (o := opnOf (T1.file j) j) b.length (at_ := at_) (b := b) hl1 (by rw [hblen]; omega) (Nat.le_refl _) (fun k => opnOf_slot _ _ _)
    rw [← hw] at r2
    have hfile := fun k => file_set T1 j k { T1.file j with bytes := laidAt (T1.file j).bytes at_ b } hlt1
    rw [← hw] at hfile
    have hl2 : T'.live j := by rw [hw]; exact hl1
    obtain ⟨C3, e3, r3, g3, m3⟩ := r2.save hl2
    have hfj := hfile j
    rw [if_pos rfl] at hfj
    have hlay : (laidAt (T1.file j).bytes at_ b).length = (T1.file j).bytes.length := laidAt_length (by rw [hblen]; omega)
    have hopn : opnOf (T'.file j) j = opnOf (T1.file j) j := by
      rw [hfj]
      unfold opnOf
      simp only [hlay]
    rw [hopn] at e3
    refine ⟨_, C1, C2, C3, e1, e2, e3, r3.mono (fun k e => e.2 e.1), ⟨g3.trans (g2.1.trans g1.1), m3.trans (g2.2.trans g1.2)⟩, ⟨g1.1, g2.1.trans g1.1⟩, fun k => ?_, ?_, fun k hk => ?_, ?_, ?_, hopn.symm, ?_⟩
    · rw [hfile]
      split
      · show (T1.file j).data.length = npg (laidAt (T1.file j).bytes at_ b).length
        rw [hlay]; exact z1.tight j
      · exact z1.tight k
    · rw [hw]; exact z1.i
    · rw [hfile, if_neg hk]; exact z1.rest k hk
    · rw [hfj]; exact ⟨z1.like.kind, z1.like.mode, z1.like.links⟩
    · rw [hfj]
      show laidAt (T1.file j).bytes at_ b = _
      rw [hb1]
    · rw [hfj]
      show (laidAt (T1.file j).bytes at_ b).length = _
      rw [hlay]; exact hblen
end Go.Proofs.YtfgkgoddjemnfaaGreatDoor

namespace Go.Proofs.YtfgkgoddjemnfaaGreatDoor
open Go.RowKit Go.Shelf Pa
attribute [local go_sem] bs_toList bs_size
theorem Ca.w_G {C C' : Ca} {n : Nat} {x : Str} (h : C.w n x = some C') : C'.G = C.G := by
  unfold Ca.w at h
  split at h
  · rw [← Option.some.inj h]; rfl
  · cases h
theorem Ca.page_G {C C' : Ca} {n : Nat} (h : C.page = some (n, C')) : C'.G = C.G := by
  unfold Ca.page at h
  split at h
  · cases h
  · split at h
    · have := Option.some.inj h
      rw [← (Prod.mk.inj this).2]; rfl
    · cases h
theorem Ca.give_G {C C' : Ca} {p n i l e : Nat} (h : C.give p n i l = (e, C')) : C'.G = C.G := by
  unfold Ca.give at h
  split at h
  · rw [← (Prod.mk.inj h).2]
  · split at h
    · rw [← (Prod.mk.inj h).2]
    · split at h
      · rw [← (Prod.mk.inj h).2]
      · rw [← (Prod.mk.inj h).2]; rfl
theorem Ca.giveP_G {C C' : Ca} {ino n : Nat} (h : C.giveP ino n = some C') : C'.G = C.G := by
  unfold Ca.giveP at h
  split at h
  · rename_i C2 h2
    rw [← Option.some.inj h]; exact Ca.give_G h2
  · cases h
theorem setSlot_size (o : Opn) (k n : Nat) : (o.setSlot k n).size = o.size := by unfold Opn.setSlot; split <;> rfl
theorem growN_succ {k j : Nat} {o1 : Opn} {C1 : Ca} {s1 : OC} (h : growN k (j + 1) (o1, C1) = some s1) :
    ∃ oA CA n CB, ((k ≠ 10 ∧ oA = o1 ∧ CA = C1) ∨ (k = 10 ∧ ∃ n0, C1.page = some (n0, CA) ∧ oA = o1.setInd n0)) ∧ CA.page = some (n, CB) ∧ growN (k + 1) j (oA.setSlot k n, CB) = some s1 := by
  unfold growN at h
  split at h
  · cases h
  · rename_i s' hs
    unfold grow1 at hs
    by_cases hk : k = 10
    · rw [if_pos hk] at hs
      cases hp : C1.page with
      | none => rw [hp] at hs; cases hs
      | some q =>
        obtain ⟨n0, CA⟩ := q
        rw [hp] at hs
        simp only at hs
        cases hq : CA.page with
        | none => rw [hq] at hs; cases hs
        | some q =>
          obtain ⟨n, CB⟩ := q
          rw [hq] at hs
          have := Option.some.inj hs
          subst this
          exact ⟨_, CA, n, CB, .inr ⟨hk, n0, rfl, rfl⟩, hq, h⟩
    · rw [if_neg hk] at hs
      simp only at hs
      cases hq : C1.page with
      | none => rw [hq] at hs; cases hs
      | some q =>
        obtain ⟨n, CB⟩ := q
        rw [hq] at hs
        have := Option.some.inj hs
        subst this
        exact ⟨_, C1, n, CB, .inl ⟨hk, rfl, rfl⟩, hq, h⟩
theorem shrinkN_succ {ino a j : Nat} {o1 : Opn} {C1 : Ca} {s2 : OC} (h : shrinkN ino a (j + 1) (o1, C1) = some s2) :
    ∃ CA, C1.giveP ino (o1.slot (a - 1)) = some CA ∧ ((a - 1 ≠ 10 ∧ shrinkN ino (a - 1) j (o1.setSlot (a - 1) 0, CA) = some s2) ∨ (a - 1 = 10 ∧ ∃ CB, CA.giveP ino (o1.setSlot (a - 1) 0).ind = some CB ∧ shrinkN ino (a - 1) j ((o1.setSlot (a - 1) 0).setInd 0, CB) = some s2)) := by
  unfold shrinkN at h
  split at h
  · cases h
  · rename_i s' hs
    unfold shrink1 at hs
    simp only at hs
    cases hp : C1.giveP ino (o1.slot (a - 1)) with
    | none => rw [hp] at hs; cases hs
    | some CA =>
      rw [hp] at hs
      simp only at hs
      by_cases hk : a - 1 = 10
      · rw [if_pos hk] at hs
        cases hq : CA.giveP ino (o1.setSlot (a - 1) 0).ind with
        | none => rw [hq] at hs; cases hs
        | some CB =>
          rw [hq] at hs
          have := Option.some.inj hs
          subst this
          exact ⟨CA, rfl, .inr ⟨hk, CB, hq, h⟩⟩
      · rw [if_neg hk] at hs
        have := Option.some.inj hs
        subst this
        exact ⟨CA, rfl, .inl ⟨hk, h⟩⟩
/-- An inode that is open, and a cache, midway. -/
def OcI (w : World) (F : List (Nat × Obj)) (c : Nat) (R : Reg) (b : Nat) (o1 : Opn) (C1 : Ca) (wx : World) : Prop :=
  ∃ R1, Held wx F c C1 R1 ∧ R.To R1 w.heap.size ∧ Off (fun k => R.m k ∨ k = b) w wx ∧ OpnAt wx b o1 ∧ ¬ R1.has b
theorem OcI.act {w wx w2 : World} {F : List (Nat × Obj)} {c b : Nat} {R R1 : Reg} {o1 : Opn} {C2 : Ca} (t1 : R.To R1 w.heap.size) (f1 : Off (fun k => R.m k ∨ k = b) w wx) (q1 : OpnAt wx b o1) (b1 : ¬ R1.has b) (hs : Step wx F c C2 R1 w2) : OcI w F c R b o1 C2 w2 := by
  obtain ⟨R2, g2, t2, f2⟩ := hs
  refine ⟨R2, g2, t1.trans t2 f1.size, f1.trans f2 (fun k e => ?_), q1.keep (f2.block _ q1.lt (fun e => b1 (.inl e))), t2.free b1 q1.lt⟩
  rcases t1.m k e with e | e
  · exact .inl (.inl e)
  · exact .inr e
theorem OcI.set {w wx : World} {F : List (Nat × Obj)} {c b j : Nat} {R : Reg} {o1 o2 : Opn} {C1 : Ca} {v : Value} (h : OcI w F c R b o1 C1 wx) (hq : ∀ R1, Held wx F c C1 R1 → OpnAt wx b o1 → OpnAt (wx.setCell ⟨b, j, none⟩ v) b o2) : OcI w F c R b o2 C1 (wx.setCell ⟨b, j, none⟩ v) := by
  obtain ⟨R1, g1, t1, f1, q1, b1⟩ := h
  have ho : Off (fun k => k = b) wx (wx.setCell ⟨b, j, none⟩ v) := (Off.refl (fun k => k = b) wx).setCell (p := ⟨b, j, none⟩) (.inl rfl) _
  exact ⟨R1, g1.off ho (fun k hk e => b1 (e ▸ hk)), t1, f1.trans ho (fun k e => .inl (.inr e)), hq R1 g1 q1, b1⟩
theorem OcI.below {w wx w2 : World} {F : List (Nat × Obj)} {c b : Nat} {R : Reg} {o1 : Opn} {C1 : Ca} (h : OcI w F c R b o1 C1 wx) (hb : Below wx.heap.size wx w2) : OcI w F c R b o1 C1 w2 := by
  obtain ⟨R1, g1, t1, f1, q1, b1⟩ := h
  exact ⟨R1, g1.below hb, t1, f1.step hb, q1.keep (hb.block _ q1.lt), b1⟩
theorem OcI.x {w w1 : World} {F : List (Nat × Obj)} {c b : Nat} {R : Reg} {o1 : Opn} {C1 : Ca} (h : OcI w F c R b o1 C1 w1) : StepX w F c C1 R (fun k => k = b) w1 ∧ OpnAt w1 b o1 := by
  obtain ⟨R1, g1, t1, f1, q1, _⟩ := h
  exact ⟨⟨R1, g1, t1, f1⟩, q1⟩
theorem OcI.start {w : World} {F : List (Nat × Obj)} {c b : Nat} {R : Reg} {o : Opn} {C : Ca} (h : Held w F c C R) (hO : OpnAt w b o) (hb : ¬ R.has b) : OcI w F c R b o C w := ⟨R, h, Reg.To.refl _ _, Off.refl _ _, hO, hb⟩
theorem OcI.opn {w wx : World} {F : List (Nat × Obj)} {c b : Nat} {R : Reg} {o1 : Opn} {C1 : Ca} (h : OcI w F c R b o1 C1 wx) : OpnAt wx b o1 := by
  obtain ⟨R1, _, _, _, q1, _⟩ := h
  exact q1
/-- A page is taken, midway. -/
theorem OcI.take {w wx : World} {F : List (Nat × Obj)} {c b s m ino n : Nat} {R : Reg} {o1 : Opn} {C1 C2 : Ca} (h : OcI w F c R b o1 C1 wx) (hm : (m, mapO c ino) ∈ F) (hs : (s, storeO m) ∈ F) (hp : 2 < C1.G.pages) (hw : C1.page = some (n, C2)) :
    Calls Tryz.prog 145 #[.pointer (some ⟨s, 0, none⟩)] wx fun e w' => e = .returned (.int .i64 n) ∧ OcI w F c R b o1 C2 w' := by
  obtain ⟨R1, g1, t1, f1, q1, b1⟩ := h
  refine (take_any s m c ino n C1 C2 R1 F wx g1 hm hs hp hw).mono ?_
  rintro e w' ⟨rfl, hs⟩
  exact ⟨rfl, OcI.act t1 f1 q1 b1 hs⟩
theorem OcI.give {w wx : World} {F : List (Nat × Obj)} {c b s m ino n : Nat} {R : Reg} {o1 : Opn} {C1 C2 : Ca} (h : OcI w F c R b o1 C1 wx) (hm : (m, mapO c ino) ∈ F) (hs : (s, storeO m) ∈ F) (hp : 2 < C1.G.pages) (hi : ino ≤ 512) (hw : C1.giveP ino n = some C2) :
    Calls Tryz.prog 146 #[.pointer (some ⟨s, 0, none⟩), .int .i64 n] wx fun e w' => e = .returned (.tuple #[]) ∧ OcI w F c R b o1 C2 w' := by
  obtain ⟨R1, g1, t1, f1, q1, b1⟩ := h
  refine (igive_any s m c ino n C1 C2 R1 F wx g1 hm hs hp hi hw).mono ?_
  rintro e w' ⟨rfl, hs⟩
  exact ⟨rfl, OcI.act t1 f1 q1 b1 hs⟩
set_option maxRecDepth 100000 in
set_option maxHeartbeats 4000000 in
theorem resize_any (s m c ino b size : Nat) (o o' : Opn) (C C' : Ca) (R : Reg) (F : List (Nat × Obj)) (w : World) (h : Held w F c C R) (hm : (m, mapO c ino) ∈ F) (hs : (s, storeO m) ∈ F) (hi : ino ≤ 512) (hp : 2 < C.G.pages) (hO : OpnAt w b o) (hbR : ¬ R.has b) (hos : o.size ≤ 70656) (hsz : size ≤ 70656)
    (hr : resizeP ino (o, C) size = some (o', C')) (htl : 0 < size → o'.slot (npg size - 1) < C.G.pages) :
    Calls Tryz.prog 97 #[.pointer (some ⟨s, 0, none⟩), .pointer (some ⟨b, 0, none⟩), .int .i64 size] w fun e w' => e = .returned (.tuple #[]) ∧ OcI w F c R b o' C' w' := by
  obtain ⟨s1, hg1, hr1⟩ : ∃ s1, growN (npg o.size) (npg size - npg o.size) (o, C) = some s1 ∧ (match shrinkN ino (npg o.size) (npg o.size - npg size) s1 with
    | none => none
    | some s2 => match tailZ s2 o.size size with
      | none => none
      | some s3 => some ({ s3.1 with size := size }, s3.2)) = some (o', C') := by
    unfold resizeP at hr
    split at hr
    · cases hr
    · rename_i s1 h1; exact ⟨s1, h1, hr⟩
  obtain ⟨s2, hg2, hr2⟩ : ∃ s2, shrinkN ino (npg o.size) (npg o.size - npg size) s1 = some s2 ∧ (match tailZ s2 o.size size with
      | none => none
      | some s3 => some ({ s3.1 with size := size }, s3.2)) = some (o', C') := by
    split at hr1
    · cases hr1
    · rename_i s2 h2; exact ⟨s2, h2, hr1⟩
  obtain ⟨s3, hg3, hr3⟩ : ∃ s3, tailZ s2 o.size size = some s3 ∧ some ({ s3.1 with size := size }, s3.2) = some (o', C') := by
    split at hr2
    · cases hr2
    · rename_i s3 h3; exact ⟨s3, h3, hr2⟩
  have hI0 := OcI.start h hO hbR
  have hsize0 := hO.size
  obtain ⟨np0, hnp0⟩ : ∃ x, x = npg o.size := ⟨_, rfl⟩
  obtain ⟨np1, hnp1⟩ : ∃ x, x = npg size := ⟨_, rfl⟩
  have hn0 : np0 ≤ 138 := by rw [hnp0]; unfold npg; omega
  have hn1 : np1 ≤ 138 := by rw [hnp1]; unfold npg; omega
  have hnp : ∀ (w : World), Calls Tryz.prog 144 #[.int .i64 size] w fun e w' => e = .returned (.int .i64 np1) ∧ w = w' := fun w => by rw [hnp1]; exact npages_any size w (by omega)
  have hno : ∀ (w : World), Calls Tryz.prog 144 #[.int .i64 o.size] w fun e w' => e = .returned (.int .i64 np0) ∧ w = w' := fun w => by rw [hnp0]; exact npages_any o.size w (by omega)
  rw [← hnp0, ← hnp1] at hg1 hg2
  have HM := Lib.hid hm
  have HS := Lib.hid hs
  have HI0 := Lib.hid hI0
  have HG1 := Lib.hid hg1
  have HG2 := Lib.hid hg2
  have HG3 := Lib.hid hg3
  have HR3 := Lib.hid hr3
  have HTl := Lib.hid htl
  have HNp := Lib.hid hnp
  have HNo := Lib.hid hno
  have HNp1 := Lib.hid hnp1
  clear hm hs hI0 hg1 hg2 hg3 hr hr1 hr2 hr3 htl hnp hno hnp0 hnp1 h hO hbR
  go_enter Tryz.func97, Tryz.ntmps97
  go_wp2_with fail
  refine (HNo.out _).mono ?_
  rintro e w1 ⟨rfl, rfl⟩
  go_wp2_with fail
  go_loopg [6] (300 - np0) (fun gg u wx => ∃ (k : Nat) (o1 : Opn) (C1 : Ca), u = .int .i64 k ∧ gg = 300 - k ∧ k ≤ 138 ∧ (k = np0 ∨ k ≤ np1) ∧ np0 ≤ k ∧ growN k (np1 - k) (o1, C1) = some s1 ∧ C1.G = C.G ∧ o1.size = o.size ∧ OcI w F c R b o1 C1 wx)
  case atStart => exact ⟨np0, o, C, rfl, rfl, hn0, .inl rfl, Nat.le_refl _, HG1.out, rfl, rfl, HI0.out⟩
  case round =>
    obtain ⟨k, o1, C1, rfl, rfl, hk1, hk2, hk3, hgr, hG, hso, hI⟩ := hrel
    have HI := Lib.hid hI
    have HGr := Lib.hid hgr
    clear hI hgr hsize0
    by_cases hlt : k < np1
    · have hlt' : decide ((k : Int) < (np1 : Int)) = true := by simp; omega
      obtain ⟨j, hj⟩ : ∃ j, np1 - k = j + 1 := ⟨np1 - k - 1, by omega⟩
      obtain ⟨oA, CA, n, CB, hA, hB, hgr⟩ := growN_succ (by rw [← hj]; exact HGr.out)
      rw [show j = np1 - (k + 1) from by omega] at hgr
      have hGA : CA.G = C.G := by
        rcases hA with ⟨_, _, e⟩ | ⟨_, n0, e, _⟩
        · rw [e]; exact hG
        · rw [Ca.page_G e]; exact hG
      have hGB : CB.G = C.G := by rw [Ca.page_G hB]; exact hGA
      have hsA : oA.size = o.size := by
        rcases hA with ⟨_, e, _⟩ | ⟨_, n0, _, e⟩
        · rw [e]; exact hso
        · rw [e]; exact hso
      have hslot : ∀ w, Calls Tryz.prog 62 #[.pointer (some ⟨b, 0, none⟩), .int .i64 k] w fun e w' => e = .returned (.pointer (some ⟨b, slotOff k, none⟩)) ∧ w = w' := fun w => slot_any b k w (by omega)
      have HSlot := Lib.hid hslot
      have HGr2 := Lib.hid hgr
      have HSA := Lib.hid hsA
      have HGB := Lib.hid hGB
      have htk : ∀ wx, OcI w F c R b oA CA wx → Calls Tryz.prog 145 #[.pointer (some ⟨s, 0, none⟩)] wx fun e w' => e = .returned (.int .i64 n) ∧ OcI w F c R b oA CB w' := fun wx hI => hI.take HM.out HS.out (by rw [hGA]; exact hp) hB
      have HTk := Lib.hid htk
      clear hslot hgr hsA hGB htk hj
      obtain ⟨bq, hbq⟩ : ∃ bq, ((k : Int) == 10) = bq := ⟨_, rfl⟩
      have hbk : bq = true ↔ k = 10 := by rw [← hbq]; simp; omega
      have HBk := Lib.hid hbk
      clear hbk
      go_wp2_with fail
      refine (HNp.out _).mono ?_
      rintro e w1 ⟨rfl, rfl⟩
      go_wp2_with fail
      · have hk10 : k = 10 := HBk.out.1 (by assumption)
        clear hbq
        rcases hA with ⟨e, _⟩ | ⟨_, n0, hpg, rfl⟩
        · exact absurd hk10 e
        have htk0 : ∀ q, Calls Tryz.prog 145 #[.pointer (some ⟨s, 0, none⟩)] (wr.drewN q) fun e w' => e = .returned (.int .i64 n0) ∧ OcI w F c R b o1 CA w' := fun q => (HI.out.below (below_drewN (Below.refl _ _) _)).take HM.out HS.out (by rw [hG]; exact hp) hpg
        have HTk0 := Lib.hid htk0
        subst hk10
        have hs10 : ∀ w, Calls Tryz.prog 62 #[.pointer (some ⟨b, 0, none⟩), .int .i64 10] w fun e w' => e = .returned (.pointer (some ⟨b, slotOff 10, none⟩)) ∧ w = w' := HSlot.out
        have HS10 := Lib.hid hs10
        clear htk0 hpg hB hGA hs10
        go_cut [0, 1, 2, 6] (fun t0 t1 t2 t6 wx => t0 = .pointer (some ⟨s, 0, none⟩) ∧ t1 = .pointer (some ⟨b, 0, none⟩) ∧ t2 = .int .i64 size ∧ t6 = .int .i64 10 ∧ OcI w F c R b (o1.setInd n0) CA wx)
        · go_region_with (go_at_call 145; refine (HTk0.out 1).mono ?_; rintro e w9 ⟨rfl, hI9⟩; have hq9 := hI9.opn; have hc9 := hq9.ind; have hz9 := hq9.free 14; have HI9 := Lib.hid hI9; have HQ9 := Lib.hid hq9; clear hI9 hq9)
          all_goals (go_wp2_with fail; go_meet; exact ⟨rfl, rfl, rfl, rfl, HI9.out.set (j := 14) (v := .int .i64 (n0 : Nat)) (fun _ _ q => q.setInd n0)⟩)
        · obtain ⟨rfl, rfl, rfl, rfl, hI2⟩ := hcut
          clear HTk0
          go_wp2_with fail
          refine (HS10.out _).mono ?_
          rintro e w1 ⟨rfl, rfl⟩
          go_wp2_with fail
          refine (HTk.out _ hI2).mono ?_
          rintro e w2 ⟨rfl, hI3⟩
          have hq2 := hI3.opn
          have hc2 := hq2.slot 10 (by omega)
          have hz2 := hq2.free (slotOff 10)
          have hI4 := hI3.set (j := slotOff 10) (v := .int .i64 (n : Nat)) (fun _ _ q => q.setSlot 10 n)
          have HI4 := Lib.hid hI4
          clear hI2 hI3 hq2 hI4
          go_wp2_with fail
          go_roundg (300 - (10 + 1))
          case measure => omega
          case rel => exact ⟨10 + 1, _, CB, rfl, rfl, by omega, .inr hlt, by omega, HGr2.out, HGB.out, by rw [setSlot_size]; exact HSA.out, HI4.out⟩
      · have hk10 : k ≠ 10 := fun e => by
          have h1 := HBk.out.2 e
          have h2 : bq = false := by assumption
          rw [h1] at h2; cases h2
        obtain ⟨rfl, rfl⟩ : oA = o1 ∧ CA = C1 := by
          rcases hA with ⟨_, e1, e2⟩ | ⟨e, _⟩
          · exact ⟨e1, e2⟩
          · exact absurd e hk10
        clear hk10
        refine (HSlot.out _).mono ?_
        rintro e w1 ⟨rfl, rfl⟩
        go_wp2_with fail
        refine (HTk.out _ HI.out).mono ?_
        rintro e w2 ⟨rfl, hI2⟩
        have hq2 := hI2.opn
        have hc2 := hq2.slot k (by omega)
        have hz2 := hq2.free (slotOff k)
        have hI3 := hI2.set (j := slotOff k) (v := .int .i64 (n : Nat)) (fun _ _ q => q.setSlot k n)
        have HI3 := Lib.hid hI3
        clear hI2 hq2 hI3
        go_wp2_with fail
        go_roundg (300 - (k + 1))
        case measure => omega
        case rel => exact ⟨k + 1, _, CB, by go_num, rfl, by omega, .inr hlt, by omega, HGr2.out, HGB.out, by rw [setSlot_size]; exact HSA.out, HI3.out⟩
    · have hlt' : decide ((k : Int) < (np1 : Int)) = false := by simp; omega
      obtain rfl : s1 = (o1, C1) := by
        have h9 := HGr.out
        rw [show np1 - k = 0 from by omega] at h9
        exact (Option.some.inj h9).symm
      have hsz1 := HI.out.opn.size
      rw [hso] at hsz1
      have hw1 : IntKind.i64.wrap ((np0 : Int) - 1) = (np0 : Int) - 1 := IntWalk.i64_in _ (by omega)
      go_wp2_with fail
      refine (HNp.out _).mono ?_
      rintro e w1 ⟨rfl, rfl⟩
      go_wp2_with fail
      refine (HNo.out _).mono ?_
      rintro e w1 ⟨rfl, rfl⟩
      go_wp2_with fail
      clear hsz1 hw1 hlt'
      go_loopg [7] np0 (fun gg u wx => ∃ (a : Nat) (z : Int) (o2 : Opn) (C2 : Ca), u = .int .i64 z ∧ z = (a : Int) - 1 ∧ gg = a ∧ a ≤ np0 ∧ shrinkN ino a (a - np1) (o2, C2) = some s2 ∧ C2.G = C.G ∧ o2.size = o.size ∧ OcI w F c R b o2 C2 wx)
      case atStart => exact ⟨np0, _, o1, C1, rfl, rfl, rfl, Nat.le_refl _, HG2.out, hG, hso, HI.out⟩
      case round =>
        clear HI HGr hk1 hk2 hk3 hG hso
        obtain ⟨a, z, o2, C2, rfl, hz, hgk, ha, hsh, hG, hso, hI⟩ := hrel
        have HI := Lib.hid hI
        have HSh := Lib.hid hsh
        clear hI hsh
        by_cases hge : np1 < a
        · obtain ⟨k, rfl⟩ : ∃ k, a = k + 1 := ⟨a - 1, by omega⟩
          obtain rfl : z = (k : Int) := by omega
          have hge' : decide ((np1 : Int) ≤ (k : Int)) = true := by simp; omega
          obtain ⟨CA, hA, hB⟩ := shrinkN_succ (a := k + 1) (j := k - np1) (by rw [show k - np1 + 1 = k + 1 - np1 from by omega]; exact HSh.out)
          rw [show k + 1 - 1 = k from by omega] at hA hB
          have hGA : CA.G = C.G := by rw [Ca.giveP_G hA]; exact hG
          have hslot : ∀ w, Calls Tryz.prog 62 #[.pointer (some ⟨b, 0, none⟩), .int .i64 k] w fun e w' => e = .returned (.pointer (some ⟨b, slotOff k, none⟩)) ∧ w = w' := fun w => slot_any b k w (by omega)
          have hgv := HI.out.give HM.out HS.out (by rw [hG]; exact hp) hi hA
          have hc2 := HI.out.opn.slot k (by omega)
          have HSlot := Lib.hid hslot
          have HGv := Lib.hid hgv
          have hw1 : IntKind.i64.wrap ((k : Int) - 1) = (k : Int) - 1 := IntWalk.i64_in _ (by omega)
          clear hslot hgv hA hz
          go_wp2_with fail
          refine (HNp.out _).mono ?_
          rintro e w1 ⟨rfl, rfl⟩
          go_wp2_with fail
          refine (HSlot.out _).mono ?_
          rintro e w1 ⟨rfl, rfl⟩
          go_wp2_with fail
          refine HGv.out.mono ?_
          rintro e w2 ⟨rfl, hI2⟩
          have hc3 := hI2.opn.slot k (by omega)
          have hz3 := hI2.opn.free (slotOff k)
          have hI3 := hI2.set (j := slotOff k) (v := .int .i64 0) (fun _ _ q => q.setSlot k 0)
          have hc4 := hI3.opn.ind
          have HI3 := Lib.hid hI3
          clear hI2 hI3 hc2
          obtain ⟨bq, hbq⟩ : ∃ bq, ((k : Int) == 10) = bq := ⟨_, rfl⟩
          have hbk : bq = true ↔ k = 10 := by rw [← hbq]; simp; omega
          have HBk := Lib.hid hbk
          clear hbk
          go_wp2_with fail
          refine (HSlot.out _).mono ?_
          rintro e w1 ⟨rfl, rfl⟩
          go_wp2_with fail
          · have hk10 : k = 10 := HBk.out.1 (by assumption)
            obtain ⟨CB, hgi, hsh2⟩ : ∃ CB, CA.giveP ino (o2.setSlot k 0).ind = some CB ∧ shrinkN ino k (k - np1) ((o2.setSlot k 0).setInd 0, CB) = some s2 := by
              rcases hB with ⟨e, _⟩ | ⟨_, CB, h1, h2⟩
              · exact absurd hk10 e
              · exact ⟨CB, h1, h2⟩
            have hGB : CB.G = C.G := by rw [Ca.giveP_G hgi]; exact hGA
            have hgv2 := HI3.out.give HM.out HS.out (by rw [hGA]; exact hp) hi hgi
            have HGv2 := Lib.hid hgv2
            have HSh2 := Lib.hid hsh2
            have HGB := Lib.hid hGB
            clear hgv2 hgi hsh2 hGB hk10 hB
            refine HGv2.out.mono ?_
            rintro e w2 ⟨rfl, hI4⟩
            have hc5 := hI4.opn.ind
            have hz5 := hI4.opn.free 14
            have hI5 := hI4.set (j := 14) (v := .int .i64 0) (fun _ _ q => q.setInd 0)
            have HI5 := Lib.hid hI5
            clear hI4 hI5
            go_wp2_with fail
            go_roundg k
            case measure => omega
            case rel => exact ⟨k, _, _, CB, rfl, rfl, rfl, by omega, HSh2.out, HGB.out, by show (o2.setSlot k 0).size = o.size; rw [setSlot_size]; exact hso, HI5.out⟩
          · have hk10 : k ≠ 10 := fun e => by
              have h1 := HBk.out.2 e
              have h2 : bq = false := by assumption
              rw [h1] at h2; cases h2
            obtain hsh2 : shrinkN ino k (k - np1) (o2.setSlot k 0, CA) = some s2 := by
              rcases hB with ⟨_, e⟩ | ⟨e, _⟩
              · exact e
              · exact absurd e hk10
            have HSh2 := Lib.hid hsh2
            clear hsh2 hB hk10
            go_roundg k
            case measure => omega
            case rel => exact ⟨k, _, _, CA, rfl, rfl, rfl, by omega, HSh2.out, hGA, by rw [setSlot_size]; exact hso, HI3.out⟩
        · have hge' : decide ((np1 : Int) ≤ z) = false := by simp; omega
          obtain rfl : s2 = (o2, C2) := by
            have h9 := HSh.out
            rw [show a - np1 = 0 from by omega] at h9
            exact (Option.some.inj h9).symm
          obtain ⟨rest, hrest⟩ : ∃ r, r = size % 512 := ⟨_, rfl⟩
          have hmod : (size : Int).tmod 512 = (rest : Int) := by rw [hrest]; exact tmod_nat size 512
          have hmod2 : (size : Int) % 512 = (rest : Int) := by omega
          have HRest := Lib.hid hrest
          clear hrest
          have hsz1 := HI.out.opn.size
          rw [hso] at hsz1
          clear HSh hz hge HG2 HI0
          have hend : ∀ C3 wx, s3 = (o2, C3) → OcI w F c R b o2 C3 wx → wx.cell? ⟨b, 3, none⟩ = some (.int .i64 o.size) ∧ wx.frozen? ⟨b, 3, none⟩ = false ∧ OcI w F c R b o' C' (wx.setCell ⟨b, 3, none⟩ (.int .i64 size)) := fun C3 wx e hI => by
            have h1 := hI.opn.size
            rw [hso] at h1
            refine ⟨h1, hI.opn.free 3, ?_⟩
            have h2 := Prod.mk.inj (Option.some.inj HR3.out)
            rw [e] at h2
            rw [← h2.1, ← h2.2]
            exact hI.set (j := 3) (v := .int .i64 (size : Nat)) (fun _ _ q => q.setSize size)
          have HEnd := Lib.hid hend
          clear hend
          by_cases ht : size < o.size ∧ 0 < rest
          · obtain ⟨ht1, ht2⟩ := ht
            have ht1' : decide ((size : Int) < (o.size : Int)) = true := by simp; omega
            have ht2' : decide ((0 : Int) < (rest : Int)) = true := by simp; omega
            have ht3' : decide (size < o.size) = true := by simp; omega
            have ht4' : decide (0 < rest) = true := by simp; omega
            obtain ⟨n, hn⟩ : ∃ n, n = o2.slot (np1 - 1) := ⟨_, rfl⟩
            obtain ⟨C3, hw3, hs3⟩ : ∃ C3, C2.w n ((C2.rd n).take rest ++ List.replicate (512 - rest) 0) = some C3 ∧ s3 = (o2, C3) := by
              have h9 := HG3.out
              unfold tailZ at h9
              rw [if_pos ⟨ht1, by rw [← HRest.out]; exact ht2⟩] at h9
              simp only at h9
              rw [← HNp1.out, ← HRest.out, ← hn] at h9
              split at h9
              · cases h9
              · rename_i C3 h3; exact ⟨C3, h3, (Option.some.inj h9).symm⟩
            have hnp : n < C2.G.pages := by
              have h1 := HTl.out (by omega)
              have h2 : o'.slot (npg size - 1) = n := by
                have h3 := (Prod.mk.inj (Option.some.inj HR3.out)).1
                rw [hs3] at h3
                rw [← h3, hn, HNp1.out]; rfl
              rw [hG, ← h2]; exact h1
            have hnp1 : 1 ≤ np1 := by rw [HNp1.out]; unfold npg; omega
            have hr5 : rest < 512 := by rw [HRest.out]; omega
            obtain ⟨np, hnpe⟩ : ∃ k, k = np1 - 1 := ⟨np1 - 1, rfl⟩
            rw [← hnpe] at hn
            have hw1 : IntKind.i64.wrap ((np1 : Int) - 1) = (np : Int) := by rw [IntWalk.i64_in _ (by omega)]; omega
            obtain ⟨R1, g1, t1, f1, q1, b1⟩ := HI.out
            have hslot := slot_any b np wr (by omega)
            have ksl := q1.slot np (by omega)
            rw [← hn] at ksl
            have k0 : wr.cell? ⟨s, 0, none⟩ = some (.pointer (some ⟨m, 0, none⟩)) := cell_of_heap (g1.fix _ HS.out).1 0
            have hmc := mcache_any m c ino wr (g1.fix _ HM.out).1
            have hrd := hread_any n c C2 R1 F wr g1 hnp
            have hpl0 := g1.at_.rdlen hnp
            have HSlot := Lib.hid hslot
            have HMc := Lib.hid hmc
            have HRd := Lib.hid hrd
            have HK := Lib.hid (⟨g1, t1, f1, q1, b1⟩ : Held wr F c C2 R1 ∧ R.To R1 w.heap.size ∧ Off (fun k => R.m k ∨ k = b) w wr ∧ OpnAt wr b o2 ∧ ¬ R1.has b)
            have HPl0 := Lib.hid hpl0
            have HW3 := Lib.hid hw3
            clear hslot hmc hrd g1 t1 f1 q1 b1 hpl0 hw3 ht1 ht2 hn hnpe
            go_wp2_with fail
            refine (HNp.out _).mono ?_
            rintro e w1 ⟨rfl, rfl⟩
            go_wp2_with fail
            refine (HNp.out _).mono ?_
            rintro e w1 ⟨rfl, rfl⟩
            go_wp2_with fail
            refine HSlot.out.mono ?_
            rintro e w1 ⟨rfl, rfl⟩
            go_wp2_with fail
            refine HMc.out.mono ?_
            rintro e w1 ⟨rfl, rfl⟩
            go_wp2_with fail
            refine HRd.out.mono ?_
            rintro e w2 ⟨v, rfl, hr⟩
            obtain ⟨page, hpage⟩ : ∃ page, page = C2.rd n := ⟨_, rfl⟩
            have hpl : page.length = 512 := by rw [hpage]; exact HPl0.out
            rw [← hpage] at hr
            obtain ⟨R2, o3, g2, t2, f2, fr2⟩ := hr
            obtain ⟨g, cv, rfl, hgB, hblk, hcv⟩ := o3.blk (by intro e; rw [e] at hpl; cases hpl)
            obtain ⟨g1, t1, f1, q1, b1⟩ := HK.out
            rw [hpl] at hcv
            have hbg : b ≠ g := by have := q1.lt; omega
            have hwg : w.heap.size ≤ g := by have := f1.size; omega
            obtain ⟨hB3, hO3f⟩ := hblk.cells rest (List.replicate (512 - rest) 0) (by rw [List.length_replicate, hpl]; omega)
            have hlay : laidAt page rest (List.replicate (512 - rest) 0) = page.take rest ++ List.replicate (512 - rest) 0 := by
              unfold laidAt
              rw [List.length_replicate, List.drop_eq_nil_of_le (by rw [hpl]; omega), List.append_nil]
            rw [hlay] at hB3
            have hrep : (List.replicate (512 - rest) (0 : UInt8)).map (fun y => Value.int .u8 y.toNat) = List.replicate (512 - rest) (.int .u8 0) := by rw [List.map_replicate]; rfl
            rw [hrep] at hB3 hO3f
            have hz8 : ∀ w, (zeroValue 5).run Tryz.prog w = .ok (.int .u8 0) w := fun _ => by kernel_rfl
            have hcl : ∀ ty, (Builtin.clear_ #[53] ty #[.slice (some ⟨g, rest, none⟩) (512 - rest) (cv - rest)]).run Tryz.prog w2 = .ok (.tuple #[]) (w2.setCells g rest (List.replicate (512 - rest) (.int .u8 0))) := fun ty =>
              Lib.run_clear_slice w2 53 5 ty (.int .u8 0) Tryz.underlying53 hz8 rfl rfl g rest (512 - rest) _ (by omega)
                (fun j hj => by rw [hblk.cell (i := rest + j) (List.getElem?_eq_getElem (by rw [hpl]; omega))]; rfl) (fun j hj => hblk.free _)
            obtain ⟨W3, hW3⟩ : ∃ W3, W3 = w2.setCells g rest (List.replicate (512 - rest) (.int .u8 0)) := ⟨_, rfl⟩
            rw [← hW3] at hcl hB3 hO3f
            have t12 := t1.trans t2 f1.size
            have f12 : Off (fun k => R.m k ∨ k = b) w w2 := f1.trans f2 (fun k e => by
              rcases t1.m k e with e | e
              · exact .inl (.inl e)
              · exact .inr e)
            have hb2 : ¬ R2.has b := t2.free b1 q1.lt
            have q2 : OpnAt w2 b o2 := q1.keep (f2.block _ q1.lt (fun e => b1 (.inl e)))
            have g3 := g2.off hO3f (fun k hk e => fr2 g rfl (e ▸ hk))
            have f3 : Off (fun k => R.m k ∨ k = b) w W3 := f12.trans hO3f (fun k e => .inr (by omega))
            have q3 : OpnAt W3 b o2 := q2.keep (hO3f.block _ q2.lt hbg)
            have hxl : (page.take rest ++ List.replicate (512 - rest) (0 : UInt8)).length = 512 := by rw [List.length_append, List.length_take, List.length_replicate, hpl]; omega
            have hby := hB3.bytes (by rw [hxl]; decide)
            rw [hxl] at hby
            have hw3' := HW3.out
            rw [← hpage] at hw3'
            have hwr := iwrite_any s m c ino n (.slice (some ⟨g, 0, none⟩) 512 cv) (page.take rest ++ List.replicate (512 - rest) 0) C2 C3 R2 F W3 g3 HM.out HS.out hnp hby hxl hw3'
            have HWr := Lib.hid hwr
            have HFin := Lib.hid (fun w4 (hh : Step W3 F c C3 R2 w4) => HEnd.out C3 w4 hs3 (OcI.act t12 f3 q3 hb2 hh))
            have hcl0 := hcl 0
            have hcvr : rest ≤ cv := by omega
            have hcvn : ¬ cv = rest := by omega
            have hr2 : rest ≤ 512 := by omega
            clear hwr hby hB3 hO3f g1 t1 f1 q1 b1 g2 t2 f2 fr2 o3 hblk t12 f12 hb2 q2 g3 f3 q3 hxl hw3' hcl hlay hrep hW3 hpage hmod hmod2
            rw [hpl]
            clear hpl
            go_wp2_with fail
            refine HWr.out.mono ?_
            rintro e w4 ⟨rfl, hs4⟩
            obtain ⟨e3, e4, e5⟩ := HFin.out w4 hs4
            have HE5 := Lib.hid e5
            clear hs4 e5
            go_wp2_with fail
            go_end0
            exact ⟨rfl, HE5.out⟩
          · have hs3 : s3 = (o2, C2) := by
              have h9 := HG3.out
              unfold tailZ at h9
              rw [if_neg (by rw [← HRest.out]; exact ht)] at h9
              exact (Option.some.inj h9).symm
            obtain ⟨e3, e4, e5⟩ := HEnd.out C2 wr hs3 HI.out
            have HE5 := Lib.hid e5
            clear e5 hs3
            by_cases ht1 : size < o.size
            · have ht1' : decide ((size : Int) < (o.size : Int)) = true := by simp; omega
              have ht3' : decide (size < o.size) = true := by simp; omega
              have ht2' : decide ((0 : Int) < (rest : Int)) = false := by simp; omega
              have ht4' : decide (0 < rest) = false := by simp; omega
              clear ht
              go_wp2_with fail
              refine (HNp.out _).mono ?_
              rintro e w1 ⟨rfl, rfl⟩
              go_wp2_with fail
              go_end0
              exact ⟨rfl, HE5.out⟩
            · have ht1' : decide ((size : Int) < (o.size : Int)) = false := by simp; omega
              have ht3' : decide (size < o.size) = false := by simp; omega
              clear ht
              go_wp2_with fail
              refine (HNp.out _).mono ?_
              rintro e w1 ⟨rfl, rfl⟩
              go_wp2_with fail
              go_end0
              exact ⟨rfl, HE5.out⟩
end Go.Proofs.YtfgkgoddjemnfaaGreatDoor

namespace Go.Proofs.YtfgkgoddjemnfaaGreatDoor
open Go.RowKit Go.Shelf Pa
attribute [local go_sem] bs_toList bs_size
theorem info_u8s : (Tryz.prog.info? 5).map (·.size) = some 1 := by kernel_rfl
theorem BytesI.slice {w : World} {I : Nat → Prop} {A : Option Addr} {n c : Nat} {l : Str} (h : BytesI w I (.slice A n c) l) (hn : l ≠ []) : ∃ b o, A = some ⟨b, o, none⟩ ∧ (b < w.heap.size ∧ I b) ∧ ∀ i x, l[i]? = some x → w.cell? ⟨b, o + i, none⟩ = some (.int .u8 (UInt8.toNat x)) := by
  obtain ⟨A', c', e, _, hd⟩ := h
  injection e with e1 e2 e3
  rw [e1]; exact hd hn
theorem BytesI.drop {w : World} {I : Nat → Prop} {g o c m : Nat} {l : Str} (h : BytesI w I (.slice (some ⟨g, o, none⟩) l.length c) l) (hl : l ≠ []) (hm : m ≤ l.length) (hc : l.length ≤ c) : BytesI w I (.slice (some ⟨g, o + m, none⟩) (l.length - m) (c - m)) (l.drop m) := by
  obtain ⟨A', c', e, hb, hd⟩ := h
  injection e with e1 e2 e3
  obtain ⟨b, o', e4, hI, hcell⟩ := hd hl
  rw [← e1] at e4
  injection e4 with e4
  injection e4 with e5 e6
  subst e5 e6
  refine ⟨some ⟨g, o + m, none⟩, c - m, by rw [List.length_drop], ⟨by rw [List.length_drop]; omega, by rw [List.length_drop]; omega⟩, fun _ => ⟨g, o + m, rfl, hI, fun i x hx => ?_⟩⟩
  rw [List.getElem?_drop] at hx
  rw [Nat.add_assoc]; exact hcell _ x hx
/-- What stands still while bytes are written. -/
structure WrD where
  w : World
  F : List (Nat × Obj)
  c : Nat
  R : Reg
  b0 : Nat
  bo : Nat
  ba : Nat
  bb : Nat
  s : Nat
  o1 : Opn
def WrD.X (D : WrD) (k : Nat) : Prop := k = D.bo ∨ k = D.ba ∨ k = D.bb
def WrD.J (D : WrD) (k : Nat) : Prop := ¬ D.R.m k ∧ ¬ D.X k ∧ k < D.w.heap.size
structure WrD.Ok (D : WrD) : Prop where
  l0 : D.b0 < D.w.heap.size
  lo : D.bo < D.w.heap.size
  la : D.ba < D.w.heap.size
  lb : D.bb < D.w.heap.size
  n0 : ¬ D.X D.b0
  oa : D.bo ≠ D.ba
  ob : D.bo ≠ D.bb
  ab : D.ba ≠ D.bb
/-- A round of the writing. -/
structure WrI (D : WrD) (C : Ca) (at_ : Nat) (v : Value) (x : Str) (wx : World) : Prop where
  held : ∃ R1, Held wx D.F D.c C R1 ∧ D.R.To R1 D.w.heap.size ∧ ∀ k, D.X k ∨ k = D.b0 → ¬ R1.has k
  off : Off (fun k => D.R.m k ∨ D.X k) D.w wx
  opn : OpnAt wx D.bo D.o1
  q0 : wx.heap[D.b0]? = some (.cells #[.pointer (some ⟨D.s, 0, none⟩)] 23 (0, 0))
  qa : wx.heap[D.ba]? = some (.cells #[.int .i64 at_] 3 (0, 0))
  qb : wx.heap[D.bb]? = some (.cells #[v] 53 (0, 0))
  data : BytesI wx D.J v x
theorem WrI.step {D : WrD} {C C' : Ca} {at_ : Nat} {v : Value} {x : Str} {wx w2 : World} {M : Nat → Prop} (h : WrI D C at_ v x wx) (hD : D.Ok) (ho : Off M wx w2) (hM : ∀ k, M k → (D.R.m k ∨ D.w.heap.size ≤ k) ∧ ¬ D.X k ∧ k ≠ D.b0) (hh : ∃ R2, Held w2 D.F D.c C' R2 ∧ D.R.To R2 D.w.heap.size ∧ ∀ k, D.X k ∨ k = D.b0 → ¬ R2.has k) : WrI D C' at_ v x w2 := by
  have hlt : ∀ k, k < D.w.heap.size → k < wx.heap.size := fun k hk => Nat.lt_of_lt_of_le hk h.off.size
  refine ⟨hh, h.off.trans ho (fun k e => ?_), h.opn.keep (ho.block _ (hlt _ hD.lo) (fun e => (hM _ e).2.1 (.inl rfl))), (ho.block _ (hlt _ hD.l0) (fun e => (hM _ e).2.2 rfl)).trans h.q0, (ho.block _ (hlt _ hD.la) (fun e => (hM _ e).2.1 (.inr (.inl rfl)))).trans h.qa, (ho.block _ (hlt _ hD.lb) (fun e => (hM _ e).2.1 (.inr (.inr rfl)))).trans h.qb, h.data.off ho (fun k hk e => ?_)⟩
  · rcases (hM k e).1 with e | e
    · exact .inl (.inl e)
    · exact .inr e
  · rcases (hM k e).1 with e | e
    · exact hk.1 e
    · have := hk.2.2; omega
theorem WrI.setX {D : WrD} {C : Ca} {at_ : Nat} {v u : Value} {x : Str} {wx : World} {b : Nat} (h : WrI D C at_ v x wx) (hb : b = D.ba ∨ b = D.bb) : (∃ R1, Held (wx.setCell ⟨b, 0, none⟩ u) D.F D.c C R1 ∧ D.R.To R1 D.w.heap.size ∧ ∀ k, D.X k ∨ k = D.b0 → ¬ R1.has k) ∧ Off (fun k => D.R.m k ∨ D.X k) D.w (wx.setCell ⟨b, 0, none⟩ u) ∧ Off (fun k => k = b) wx (wx.setCell ⟨b, 0, none⟩ u) := by
  have ho : Off (fun k => k = b) wx (wx.setCell ⟨b, 0, none⟩ u) := (Off.refl (fun k => k = b) wx).setCell (p := ⟨b, 0, none⟩) (.inl rfl) _
  have hx : D.X b := by rcases hb with e | e; exact .inr (.inl e); exact .inr (.inr e)
  obtain ⟨R1, h1, h2, h3⟩ := h.held
  refine ⟨⟨R1, h1.off ho (fun k hk e => h3 b (.inl hx) (e ▸ hk)), h2, h3⟩, h.off.trans ho (fun k e => .inl (.inr (e ▸ hx))), ho⟩
theorem WrI.setA {D : WrD} {C : Ca} {at_ : Nat} {v : Value} {x : Str} {wx : World} (h : WrI D C at_ v x wx) (hD : D.Ok) (n : Nat) : WrI D C n v x (wx.setCell ⟨D.ba, 0, none⟩ (.int .i64 n)) := by
  obtain ⟨h1, h2, ho⟩ := h.setX (u := .int .i64 n) (.inl rfl)
  have hlt : ∀ k, k < D.w.heap.size → k < wx.heap.size := fun k hk => Nat.lt_of_lt_of_le hk h.off.size
  refine ⟨h1, h2, h.opn.keep (ho.block _ (hlt _ hD.lo) hD.oa), (ho.block _ (hlt _ hD.l0) (fun e => hD.n0 (.inr (.inl e)))).trans h.q0, ?_, (ho.block _ (hlt _ hD.lb) (fun e => hD.ab e.symm)).trans h.qb, h.data.off ho (fun k hk e => hk.2.1 (.inr (.inl e)))⟩
  rw [heap_setCell_at _ _ _ _ h.qa]; rfl
theorem WrI.setB {D : WrD} {C : Ca} {at_ : Nat} {v v' : Value} {x x' : Str} {wx : World} (h : WrI D C at_ v x wx) (hD : D.Ok) (hd : BytesI wx D.J v' x') : WrI D C at_ v' x' (wx.setCell ⟨D.bb, 0, none⟩ v') := by
  obtain ⟨h1, h2, ho⟩ := h.setX (u := v') (.inr rfl)
  have hlt : ∀ k, k < D.w.heap.size → k < wx.heap.size := fun k hk => Nat.lt_of_lt_of_le hk h.off.size
  refine ⟨h1, h2, h.opn.keep (ho.block _ (hlt _ hD.lo) hD.ob), (ho.block _ (hlt _ hD.l0) (fun e => hD.n0 (.inr (.inr e)))).trans h.q0, (ho.block _ (hlt _ hD.la) hD.ab).trans h.qa, ?_, hd.off ho (fun k hk e => hk.2.1 (.inr (.inr e)))⟩
  rw [heap_setCell_at _ _ _ _ h.qb]; rfl
theorem layP_succ {o : Opn} {f at_ : Nat} {C C2 : Ca} {b : Str} (h : layP o f C at_ b = some C2) (hb : b ≠ []) (hf : b.length ≤ f) : ∃ f' C1, C.w (o.slot (at_ / 512)) (over (C.rd (o.slot (at_ / 512))) (at_ % 512) b) = some C1 ∧ layP o f' C1 (at_ + min (512 - at_ % 512) b.length) (b.drop (min (512 - at_ % 512) b.length)) = some C2 ∧ f = f' + 1 := by
  cases f with
  | zero => exact absurd (List.length_eq_zero_iff.1 (by omega)) hb
  | succ f =>
    unfold layP at h
    rw [if_neg hb] at h
    split at h
    · cases h
    · rename_i C1 h1; exact ⟨f, C1, h1, h, rfl⟩
theorem layP_nil {o : Opn} {f at_ : Nat} {C C2 : Ca} (h : layP o f C at_ [] = some C2) : C2 = C := by
  cases f with
  | zero => exact (Option.some.inj h).symm
  | succ f => unfold layP at h; rw [if_pos rfl] at h; exact (Option.some.inj h).symm
theorem off_drewN_setCells {g a q : Nat} {w : World} {x ys : Str} {S : Nat} (hB : Blk w g S x) (h : a + ys.length ≤ x.length) : Blk ((w.drewN q).setCells g a (ys.map fun y => Value.int .u8 y.toNat)) g S (laidAt x a ys) ∧ Off (fun k => k = g) w ((w.drewN q).setCells g a (ys.map fun y => Value.int .u8 y.toNat)) := by
  have hb : Blk (w.drewN q) g S x := hB.keep rfl
  obtain ⟨h1, h2⟩ := hb.cells a ys h
  exact ⟨h1, ((Off.refl (fun k => k = g) w).drewN q).then h2⟩
set_option maxRecDepth 100000 in
set_option maxHeartbeats 4000000 in
theorem write1_any (D : WrD) (hD : D.Ok) (m ino at_ : Nat) (v : Value) (x : Str) (o : Opn) (C C1 C2 C3 : Ca) (h : Held D.w D.F D.c C D.R) (hm : (m, mapO D.c ino) ∈ D.F) (hs : (D.s, storeO m) ∈ D.F) (hi : ino ≤ 512) (h8 : ino % 8 = 0) (hp : alFirst ino < C.G.pages)
    (q0 : D.w.heap[D.b0]? = some (.cells #[.pointer (some ⟨D.s, 0, none⟩)] 23 (0, 0))) (qo : OpnAt D.w D.bo o) (qa : D.w.heap[D.ba]? = some (.cells #[.int .i64 at_] 3 (0, 0))) (qb : D.w.heap[D.bb]? = some (.cells #[v] 53 (0, 0)))
    (hfr : ∀ k, D.X k ∨ k = D.b0 → ¬ D.R.has k) (hv : BytesI D.w D.J v x) (hsz : at_ + x.length ≤ 70656) (hos : o.size ≤ 70656)
    (hrs : resizeP ino (o, C) (max o.size (at_ + x.length)) = some (D.o1, C1)) (hly : layP D.o1 x.length C1 at_ x = some C2) (hsv : C2.save D.o1 = some C3) (hG1 : C1.G = C.G)
    (hsl : ∀ k, k < npg D.o1.size → D.o1.slot k < C.G.pages) (hoi : D.o1.i < ino) (hon : D.o1.ind < C.G.pages) (hol : D.o1.Len) (ho1 : D.o1.size = max o.size (at_ + x.length)) :
    Calls Tryz.prog 96 #[.pointer (some ⟨D.b0, 0, none⟩), .pointer (some ⟨D.bo, 0, none⟩), .pointer (some ⟨D.ba, 0, none⟩), .pointer (some ⟨D.bb, 0, none⟩)] D.w fun e w' => e = .returned (.tuple #[]) ∧ StepX D.w D.F D.c C3 D.R D.X w' := by
  obtain ⟨A0, c0, rfl, _, _⟩ := id hv
  have hbo : ¬ D.R.has D.bo := hfr _ (.inl (.inl rfl))
  obtain ⟨sz, hszE⟩ : ∃ sz, sz = max o.size (at_ + x.length) := ⟨_, rfl⟩
  have hszI : max ((o.size : Nat) : Int) ((at_ : Int) + (x.length : Int)) = (sz : Int) := by omega
  have hsz2 : sz ≤ 70656 := by omega
  rw [← hszE] at hrs ho1
  have hre := resize_any D.s m D.c ino D.bo sz o D.o1 C C1 D.R D.F D.w h hm hs hi (by unfold alFirst at hp; omega) qo hbo hos hsz2 hrs (fun h0 => hsl _ (by rw [ho1]; unfold npg; omega))
  have hstart : ∀ w1, OcI D.w D.F D.c D.R D.bo D.o1 C1 w1 → WrI D C1 at_ (.slice A0 x.length c0) x w1 := fun w1 ⟨R1, g1, t1, f1, o1, _⟩ => by
    have hnm : ∀ k, D.X k ∨ k = D.b0 → ¬ D.R.m k := fun k hk e => hfr k hk (.inl e)
    refine ⟨⟨R1, g1, t1, fun k hk => t1.free (hfr k hk) ?_⟩, f1.mono (fun k e => ?_), o1, ?_, ?_, ?_, ?_⟩
    · rcases hk with (e | e | e) | e <;> rw [e]
      · exact hD.lo
      · exact hD.la
      · exact hD.lb
      · exact hD.l0
    · rcases e with e | e
      · exact .inl (.inl e)
      · exact .inl (.inr (.inl e))
    · exact (f1.block _ hD.l0 (fun e => by rcases e with e | e; exact hnm _ (.inr rfl) e; exact hD.n0 (.inl e))).trans q0
    · exact (f1.block _ hD.la (fun e => by rcases e with e | e; exact hnm _ (.inl (.inr (.inl rfl))) e; exact hD.oa e.symm)).trans qa
    · exact (f1.block _ hD.lb (fun e => by rcases e with e | e; exact hnm _ (.inl (.inr (.inr rfl))) e; exact hD.ob e.symm)).trans qb
    · exact hv.off f1 (fun k hk e => by rcases e with e | e; exact hk.1 e; exact hk.2.1 (.inl e))
  have k0 : D.w.cell? ⟨D.b0, 0, none⟩ = some (.pointer (some ⟨D.s, 0, none⟩)) := cell_of_heap q0 0
  have k3 := qo.size
  have ka : D.w.cell? ⟨D.ba, 0, none⟩ = some (.int .i64 at_) := cell_of_heap qa 0
  have kb : D.w.cell? ⟨D.bb, 0, none⟩ = some (.slice A0 x.length c0) := cell_of_heap qb 0
  have hw1 : IntKind.i64.wrap ((at_ : Int) + (x.length : Int)) = (at_ : Int) + (x.length : Int) := IntWalk.i64_in _ (by omega)
  have HRe := Lib.hid hre
  have HSt := Lib.hid hstart
  have HM := Lib.hid hm
  have HS := Lib.hid hs
  have HLy := Lib.hid hly
  have HSv := Lib.hid hsv
  have HSl := Lib.hid hsl
  have HO1 := Lib.hid ho1
  have HSzE := Lib.hid hszE
  have HV := Lib.hid hv
  clear hre hstart hm hs hly hsv hsl ho1 hszE hv h q0 qo qa qb hrs hfr hbo
  go_enter Tryz.func96, Tryz.ntmps96
  go_wp2_with fail
  refine HRe.out.mono ?_
  rintro e w1 ⟨rfl, hI1⟩
  have HI1 := Lib.hid (HSt.out w1 hI1)
  clear hI1 k0 k3 ka kb hw1 hszI
  go_wp2_with fail
  go_loopg [] x.length (fun gg wx => ∃ (Ck : Ca) (ak f : Nat) (vk : Value) (xk : Str), gg = xk.length ∧ layP D.o1 f Ck ak xk = some C2 ∧ xk.length ≤ f ∧ ak + xk.length ≤ sz ∧ Ck.G = C.G ∧ WrI D Ck ak vk xk wx)
  case atStart => exact ⟨C1, at_, x.length, _, x, rfl, HLy.out, Nat.le_refl _, by rw [HSzE.out]; omega, hG1, HI1.out⟩
  case round =>
    obtain ⟨Ck, ak, f, vk, xk, hgg, hly, hf, hak, hG, hI⟩ := hrel
    obtain ⟨A, cp, rfl, ⟨hcp, _⟩, _⟩ := id hI.data
    have k0 : wr.cell? ⟨D.b0, 0, none⟩ = some (.pointer (some ⟨D.s, 0, none⟩)) := cell_of_heap hI.q0 0
    have ka : wr.cell? ⟨D.ba, 0, none⟩ = some (.int .i64 ak) := cell_of_heap hI.qa 0
    have kb : wr.cell? ⟨D.bb, 0, none⟩ = some (.slice A xk.length cp) := cell_of_heap hI.qb 0
    have HI := Lib.hid hI
    have HLy2 := Lib.hid hly
    clear hI hly HLy HI1
    by_cases hx0 : xk = []
    · have hlt' : decide ((0 : Int) < (xk.length : Int)) = false := by rw [hx0]; rfl
      have hlt2 : decide (0 < xk.length) = false := by rw [hx0]; rfl
      obtain rfl : C2 = Ck := by
        have h9 := HLy2.out
        rw [hx0] at h9
        exact layP_nil h9
      obtain ⟨R1, g1, t1, r1⟩ := HI.out.held
      have hsv := save_any D.s m D.c ino D.o1 C2 C3 R1 D.F wr g1 HM.out HS.out hi h8 (by rw [hG]; omega) hol hoi (by rw [hG]; exact hon) HSv.out
      have HSave := Lib.hid hsv
      have HT := Lib.hid (⟨t1, r1⟩ : D.R.To R1 D.w.heap.size ∧ _)
      clear hsv g1 t1 r1 hx0
      go_wp2_with (refine wpList_load_row rfl 123 _ rfl D.bo rfl 123 (cellsO D.o1).toArray (0, 0) _ HI.out.opn.1 Tryz.underlying123 rfl HI.out.opn.info ?_)
      refine HSave.out.mono ?_
      rintro e w2 ⟨rfl, R2, g2, t2, f2⟩
      have HFin : Hid (StepX D.w D.F D.c C3 D.R D.X w2) := Lib.hid ⟨R2, g2, HT.out.1.trans t2 HI.out.off.size, HI.out.off.trans f2 (fun k e => by
        rcases HT.out.1.m k e with e | e
        · exact .inl (.inl e)
        · exact .inr e)⟩
      clear g2 t2 f2
      go_wp2_with fail
      go_end0
      exact ⟨rfl, HFin.out⟩
    · have hpos := List.length_pos_iff.2 hx0
      have hlt' : decide ((0 : Int) < (xk.length : Int)) = true := by simp; omega
      have hlt2 : decide (0 < xk.length) = true := by simp; omega
      obtain ⟨f', C9, hw9, hly9, rfl⟩ := layP_succ HLy2.out hx0 hf
      obtain ⟨n, hn⟩ : ∃ n, n = D.o1.slot (ak / 512) := ⟨_, rfl⟩
      rw [← hn] at hw9
      have hknp : ak / 512 < npg D.o1.size := by rw [HO1.out]; unfold npg; omega
      have hnp : n < Ck.G.pages := by rw [hG, hn]; exact HSl.out _ hknp
      have hquo : ((ak : Nat) : Int).tdiv 512 = ((ak / 512 : Nat) : Int) := tdiv_nat ak 512
      obtain ⟨kq, hkq⟩ : ∃ q, q = ak / 512 := ⟨_, rfl⟩
      obtain ⟨a, ha⟩ : ∃ a, a = ak % 512 := ⟨_, rfl⟩
      rw [← hkq] at hquo hn
      have hrem : ((ak : Nat) : Int).tmod 512 = (a : Int) := by rw [ha]; exact tmod_nat ak 512
      have hrem2 : ((ak : Nat) : Int) % 512 = (a : Int) := by omega
      have hquo2 : ((ak : Nat) : Int) / 512 = (kq : Int) := by omega
      have ha5 : a < 512 := by omega
      have hk138 : kq < 138 := by
        have h9 := hknp
        rw [HO1.out] at h9
        unfold npg at h9
        omega
      rw [← ha] at hw9 hly9
      obtain ⟨R1, g1, t1, r1⟩ := HI.out.held
      have hslot := slot_any D.bo kq wr hk138
      have ksl := HI.out.opn.slot kq hk138
      rw [← hn] at ksl
      have ks : wr.cell? ⟨D.s, 0, none⟩ = some (.pointer (some ⟨m, 0, none⟩)) := cell_of_heap (g1.fix _ HS.out).1 0
      have hmc := mcache_any m D.c ino wr (g1.fix _ HM.out).1
      have hrd := hread_any n D.c Ck R1 D.F wr g1 hnp
      have hpl0 := g1.at_.rdlen hnp
      have HSlot := Lib.hid hslot
      have HMc := Lib.hid hmc
      have HRd := Lib.hid hrd
      have HPl0 := Lib.hid hpl0
      have HK := Lib.hid (⟨g1, t1, r1⟩ : Held wr D.F D.c Ck R1 ∧ D.R.To R1 D.w.heap.size ∧ ∀ k, D.X k ∨ k = D.b0 → ¬ R1.has k)
      have HW9 := Lib.hid hw9
      have HLy9 := Lib.hid hly9
      clear hslot hmc hrd g1 t1 r1 hw9 hly9 HLy2 hn hkq ha hknp hpl0
      go_wp2_with fail
      refine HSlot.out.mono ?_
      rintro e w1 ⟨rfl, rfl⟩
      go_wp2_with fail
      refine HMc.out.mono ?_
      rintro e w1 ⟨rfl, rfl⟩
      go_wp2_with fail
      refine HRd.out.mono ?_
      rintro e w2 ⟨v', rfl, hr⟩
      obtain ⟨page, hpage⟩ : ∃ page, page = Ck.rd n := ⟨_, rfl⟩
      have hpl : page.length = 512 := by rw [hpage]; exact HPl0.out
      rw [← hpage] at hr
      obtain ⟨R2, o3, g2, t2, f2, fr2⟩ := hr
      obtain ⟨g, cv, rfl, hgB, hblk, hcv⟩ := o3.blk (by intro e; rw [e] at hpl; cases hpl)
      rw [hpl] at hcv
      obtain ⟨g1, t1, r1⟩ := HK.out
      have hwr0 : D.w.heap.size ≤ wr.heap.size := HI.out.off.size
      have t12 := t1.trans t2 hwr0
      have hXlt : ∀ k, D.X k ∨ k = D.b0 → k < D.w.heap.size := fun k hk => by
        rcases hk with (e | e | e) | e <;> rw [e]
        · exact hD.lo
        · exact hD.la
        · exact hD.lb
        · exact hD.l0
      have r2 : ∀ k, D.X k ∨ k = D.b0 → ¬ R2.has k := fun k hk => t2.free (r1 k hk) (by have := hXlt k hk; omega)
      have hI2 : WrI D Ck ak (.slice A xk.length cp) xk w2 := HI.out.step hD f2 (fun k e => ⟨t1.m k e, fun hx => r1 k (.inl hx) (.inl e), fun hx => r1 k (.inr hx) (.inl e)⟩) ⟨R2, g2, t12, r2⟩
      -- the bytes that go over
      obtain ⟨mk, hmk⟩ : ∃ q, q = min (512 - a) xk.length := ⟨_, rfl⟩
      have hly9 := HLy9.out
      rw [← hmk] at hly9
      have hmk1 : 1 ≤ mk := by omega
      obtain ⟨gb, ob, rfl, ⟨hgb1, hgbJ⟩, hcells⟩ := hI2.data.slice hx0
      have htk : (xk.take mk).length = mk := by rw [List.length_take]; omega
      have hfit : a + (xk.take mk).length ≤ page.length := by rw [htk, hpl]; omega
      have hsrc : ∀ q j u, ((xk.take mk).map fun y => Value.int .u8 (UInt8.toNat y))[j]? = some u → (w2.drewN q).cell? ((⟨gb, ob, none⟩ : Addr).add j) = some u := by
        intro q j u hj
        rw [List.getElem?_map] at hj
        obtain ⟨z, hz, rfl⟩ := Option.map_eq_some_iff.1 hj
        have hz2 : xk[j]? = some z := by
          rw [List.getElem?_take] at hz
          split at hz
          · exact hz
          · cases hz
        have h9 := hcells j z hz2
        by_cases hj0 : j = 0
        · subst hj0; simpa [Addr.add] using h9
        · simpa [Addr.add, hj0] using h9
      have hcp9 : ∀ (q : Nat) (ty : TypeId), (Builtin.copy_ #[53, 53] ty #[.slice (some ⟨g, a, none⟩) (512 - a) (cv - a), .slice (some ⟨gb, ob, none⟩) xk.length cp]).run Tryz.prog (w2.drewN q) = .ok (.int .i64 mk) ((w2.drewN q).setCells g a ((xk.take mk).map fun y => Value.int .u8 (UInt8.toNat y))) := fun q ty => by
        have h9 := run_copy_cells (P := Tryz.prog) (w2.drewN q) 53 53 ty 5 g a (512 - a) (cv - a) ⟨gb, ob, none⟩ xk.length cp ((xk.take mk).map fun y => Value.int .u8 (UInt8.toNat y)) Tryz.underlying53 info_u8s (by rw [List.length_map, htk, hmk, Nat.min_comm]) (hsrc q)
          (fun j hj => by
            rw [List.length_map, htk] at hj
            show (w2.cell? _).isSome = true
            rw [hblk.cell (i := a + j) (List.getElem?_eq_getElem (by rw [hpl]; omega))]; rfl) (fun j hj => hblk.free _) (fun u hu => by
            obtain ⟨z, _, rfl⟩ := List.mem_map.1 hu
            rfl)
        rw [List.length_map, htk] at h9
        exact h9
      have hov : laidAt page a (xk.take mk) = over page a xk := by
        unfold over
        rw [hpl, hmk]
        congr 1
        by_cases e : 512 - a ≤ xk.length
        · rw [Nat.min_eq_left e]
        · rw [List.take_of_length_le (by omega), List.take_of_length_le (by omega)]
      have hovl : (over page a xk).length = 512 := by rw [← hov, laidAt_length hfit, hpl]
      have hnew : ∀ q, Blk ((w2.drewN q).setCells g a ((xk.take mk).map fun y => Value.int .u8 (UInt8.toNat y))) g cv (over page a xk) ∧ WrI D Ck ak (.slice (some ⟨gb, ob, none⟩) xk.length cp) xk ((w2.drewN q).setCells g a ((xk.take mk).map fun y => Value.int .u8 (UInt8.toNat y))) ∧ Calls Tryz.prog 98 #[.pointer (some ⟨D.s, 0, none⟩), .int .i64 n, .slice (some ⟨g, 0, none⟩) 512 cv] ((w2.drewN q).setCells g a ((xk.take mk).map fun y => Value.int .u8 (UInt8.toNat y))) fun e w' => e = .returned (.tuple #[]) ∧ WrI D C9 ak (.slice (some ⟨gb, ob, none⟩) xk.length cp) xk w' := fun q => by
        obtain ⟨b1, b2⟩ := off_drewN_setCells (q := q) hblk hfit
        rw [hov] at b1
        have g3 := g2.off b2 (fun k hk e => fr2 g rfl (e ▸ hk))
        have hI3 : WrI D Ck ak (.slice (some ⟨gb, ob, none⟩) xk.length cp) xk _ := hI2.step hD b2 (fun k e => ⟨.inr (by omega), fun hx => by have := hXlt k (.inl hx); omega, fun hx => by have := hXlt k (.inr hx); omega⟩) ⟨R2, g3, t12, r2⟩
        refine ⟨b1, hI3, ?_⟩
        have hby := b1.bytes (by rw [hovl]; decide)
        rw [hovl] at hby
        have hw9 := HW9.out
        rw [← hpage] at hw9
        refine (iwrite_any D.s m D.c ino n _ (over page a xk) Ck C9 R2 D.F _ g3 HM.out HS.out hnp hby hovl hw9).mono ?_
        rintro e w4 ⟨rfl, R4, g4, t4, f4⟩
        have hz3 : D.w.heap.size ≤ ((w2.drewN q).setCells g a ((xk.take mk).map fun y => Value.int .u8 (UInt8.toNat y))).heap.size := hI3.off.size
        exact ⟨rfl, hI3.step hD f4 (fun k e => ⟨t12.m k e, fun hx => r2 k (.inl hx) (.inl e), fun hx => r2 k (.inr hx) (.inl e)⟩) ⟨R4, g4, t12.trans t4 hz3, fun k hk => t4.free (r2 k hk) (by have := hXlt k hk; omega)⟩⟩
      obtain ⟨cs, hcs⟩ : ∃ cs, cs = (xk.take mk).map fun y => Value.int .u8 (UInt8.toNat y) := ⟨_, rfl⟩
      simp only [← hcs] at hnew hcp9
      have hmkl : mk ≤ xk.length := by omega
      clear hcs hmk
      have HNew := Lib.hid hnew
      have ka2 : w2.cell? ⟨D.ba, 0, none⟩ = some (.int .i64 ak) := cell_of_heap hI2.qa 0
      have kb2 : w2.cell? ⟨D.bb, 0, none⟩ = some (.slice (some ⟨gb, ob, none⟩) xk.length cp) := cell_of_heap hI2.qb 0
      have hcva : a ≤ cv := by omega
      have hcvn : ¬ cv = a := by omega
      have ha512 : a ≤ 512 := by omega
      clear hnew hov hovl hsrc hcells hI2 r2 t12 t1 r1 g1 o3 g2 t2 f2 fr2 hblk hpage
      rw [hpl]
      clear hpl
      have hcpd : (Builtin.copy_ #[53, 53] 3 #[.slice (some ⟨g, a, none⟩) (512 - a) (cv - a), .slice (some ⟨gb, ob, none⟩) xk.length cp]).run Tryz.prog w2.drew = .ok (.int .i64 mk) (w2.drew.setCells g a cs) := hcp9 1 _
      clear hcp9
      go_wp2_with fail
      go_cut [0, 1, 2, 3, 4, 5, 7] (fun t0 t1 t2 t3 t4 t5 t7 wx => t0 = .pointer (some ⟨D.b0, 0, none⟩) ∧ t1 = .pointer (some ⟨D.bo, 0, none⟩) ∧ t2 = .pointer (some ⟨D.ba, 0, none⟩) ∧ t3 = .pointer (some ⟨D.bb, 0, none⟩) ∧ t4 = .int .i64 n ∧ t5 = .slice (some ⟨g, 0, none⟩) 512 cv ∧ t7 = .int .i64 mk ∧ ∃ q, wx = (w2.drewN q).setCells g a cs)
      · go_region_with (fail)
        all_goals (go_wp2_with fail; go_meet; exact ⟨rfl, rfl, rfl, rfl, rfl, rfl, rfl, 1, rfl⟩)
      · obtain ⟨rfl, rfl, rfl, rfl, rfl, rfl, rfl, q, hwx⟩ := hcut
        obtain ⟨b1, hI3, hwr⟩ := HNew.out q
        rw [← hwx] at b1 hI3 hwr
        clear hwx hcpd HNew
        have k0c : wc.cell? ⟨D.b0, 0, none⟩ = some (.pointer (some ⟨D.s, 0, none⟩)) := cell_of_heap hI3.q0 0
        have HWr := Lib.hid hwr
        clear b1 hI3 hwr
        obtain ⟨an, han⟩ : ∃ an, an = ak + mk := ⟨_, rfl⟩
        have hw2 : IntKind.i64.wrap ((ak : Int) + (mk : Int)) = (an : Int) := by rw [IntWalk.i64_in _ (by omega)]; omega
        rw [← han] at hly9
        have HLyN := Lib.hid hly9
        have hfN : (xk.drop mk).length ≤ f' := by rw [List.length_drop]; omega
        have haN : an + (xk.drop mk).length ≤ sz := by rw [List.length_drop]; omega
        have HfN := Lib.hid hfN
        have HaN := Lib.hid haN
        have hGN : C9.G = C.G := by rw [Ca.w_G HW9.out]; exact hG
        have hmkc : mk ≤ cp := by omega
        clear hly9 han hfN haN
        go_wp2_with fail
        refine HWr.out.mono ?_
        rintro e w4 ⟨rfl, hI4⟩
        have ka4 : w4.cell? ⟨D.ba, 0, none⟩ = some (.int .i64 ak) := cell_of_heap hI4.qa 0
        have za4 : w4.frozen? ⟨D.ba, 0, none⟩ = false := free_of_heap hI4.qa 0
        have hI5 := hI4.setA hD an
        have kb5 : (w4.setCell ⟨D.ba, 0, none⟩ (.int .i64 an)).cell? ⟨D.bb, 0, none⟩ = some (.slice (some ⟨gb, ob, none⟩) xk.length cp) := cell_of_heap hI5.qb 0
        have zb5 : (w4.setCell ⟨D.ba, 0, none⟩ (.int .i64 an)).frozen? ⟨D.bb, 0, none⟩ = false := free_of_heap hI5.qb 0
        by_cases hcm : cp = mk
        · have hlm : xk.length = mk := by omega
          have hd0 : xk.drop mk = [] := List.drop_eq_nil_of_le (by omega)
          have hI6 := hI5.setB hD (v' := .slice (some ⟨gb, ob, none⟩) (xk.length - mk) 0) (x' := xk.drop mk) (by rw [hd0, show xk.length - mk = 0 from by omega]; exact BytesI.nil _ _ _ _)
          have HI6 := Lib.hid hI6
          have HD0 := Lib.hid hd0
          have HLm := Lib.hid hlm
          clear hI4 hI5 hI6 hd0 hlm
          go_wp2_with fail
          go_roundg (xk.length - mk)
          case measure => omega
          case rel => exact ⟨C9, an, f', _, xk.drop mk, by rw [List.length_drop], HLyN.out, HfN.out, HaN.out, hGN, HI6.out⟩
        · have hI6 := hI5.setB hD (hI5.data.drop hx0 hmkl hcp)
          have hcm2 : ¬ cp = mk := hcm
          have HI6 := Lib.hid hI6
          clear hI4 hI5 hI6
          go_wp2_with fail
          go_roundg (xk.length - mk)
          case measure => omega
          case rel => exact ⟨C9, an, f', _, xk.drop mk, by rw [List.length_drop], HLyN.out, HfN.out, HaN.out, hGN, HI6.out⟩
end Go.Proofs.YtfgkgoddjemnfaaGreatDoor

namespace Go.Proofs.YtfgkgoddjemnfaaGreatDoor
open Go.RowKit Go.Shelf Pa
attribute [local go_sem] bs_toList bs_size
theorem alloc3 (w : World) (o0 o1 o2 : Obj) : (((w.alloc o0).alloc o1).alloc o2).heap[w.heap.size]? = some o0 ∧ (((w.alloc o0).alloc o1).alloc o2).heap[w.heap.size + 1]? = some o1 ∧
    (((w.alloc o0).alloc o1).alloc o2).heap[w.heap.size + 1 + 1]? = some o2 ∧ (((w.alloc o0).alloc o1).alloc o2).heap.size = w.heap.size + 1 + 1 + 1 := by
  have s1 : (w.alloc o0).heap.size = w.heap.size + 1 := World.size_alloc _ _
  have s2 : ((w.alloc o0).alloc o1).heap.size = w.heap.size + 1 + 1 := by rw [World.size_alloc, s1]
  refine ⟨?_, ?_, alloc_at _ _ _ s2.symm, by rw [World.size_alloc, s2]⟩
  · rw [alloc_old _ _ _ (by omega), alloc_old _ _ _ (by omega)]; exact alloc_at _ _ _ rfl
  · rw [alloc_old _ _ _ (by omega)]; exact alloc_at _ _ _ s1.symm
/-- Behind load: the inode lies in a new box; two boxes more are laid for try. -/
structure OpenedI (w W0 : World) (F : List (Nat × Obj)) (c : Nat) (C : Ca) (R : Reg) (s : Nat) (o : Opn) (w1 : World) (W3 : World) (W5 : World) (R1 : Reg) : Prop where
  held : Held W5 F c C R1
  tw : R.To R1 w.heap.size
  off : Off R.m w W5
  opn : OpnAt W5 w1.heap.size o
  old : ∀ k, w.heap.size ≤ k → k < W0.heap.size → W5.heap[k]? = W0.heap[k]? ∧ ¬ R1.has k
  new : ¬ R1.has w1.heap.size ∧ W0.heap.size ≤ w1.heap.size ∧ W3.heap.size = w1.heap.size + 1 ∧ W5.heap.size = W3.heap.size + 1 + 1
  err : W5.heap[W3.heap.size + 1]? = some (.cells #[.int .i64 0] 28 (0, 0)) ∧ ¬ R1.has (W3.heap.size + 1)
  old3 : ∀ k, w.heap.size ≤ k → k < W0.heap.size → W3.heap[k]? = W0.heap[k]?
theorem opened_i {w W0 w1 : World} {F : List (Nat × Obj)} {c : Nat} {C : Ca} {R R1 : Reg} {o : Opn} (s : Nat) (h : Held w F c C R) (hb : Below w.heap.size w W0) (g1 : Held w1 F c C R1) (t1 : R.To R1 W0.heap.size) (o1 : Off R.m W0 w1) (hl : o.Len) :
    OpenedI w W0 F c C R s o w1 ((w1.alloc (.cells Tryz.zeroCells123 123)).setRow w1.heap.size (cellsO o).toArray) ((((w1.alloc (.cells Tryz.zeroCells123 123)).setRow w1.heap.size (cellsO o).toArray).alloc (.cells #[.pointer (some ⟨s, 0, none⟩)] 23)).alloc (.cells #[.int .i64 0] 28)) R1 := by
  obtain ⟨W3, hW3⟩ : ∃ W3, W3 = (w1.alloc (.cells Tryz.zeroCells123 123)).setRow w1.heap.size (cellsO o).toArray := ⟨_, rfl⟩
  rw [← hW3]
  have hO3 : OpnAt W3 w1.heap.size o := by rw [hW3]; exact (opn_new w1).row o hl
  have hz3 : W3.heap.size = w1.heap.size + 1 := by rw [hW3]; simp [World.setRow, World.size_alloc]
  have ho3 : Off (fun k => k = w1.heap.size) w1 W3 := by
    rw [hW3]
    exact ((Off.refl (fun k => k = w1.heap.size) w1).alloc _).trans (off_setRow _ _ _) (fun k e => .inl e)
  obtain ⟨W5, hW5⟩ : ∃ W5, W5 = (W3.alloc (.cells #[.pointer (some ⟨s, 0, none⟩)] 23)).alloc (.cells #[.int .i64 0] 28) := ⟨_, rfl⟩
  rw [← hW5]
  have hb35 : Below W3.heap.size W3 W5 := by rw [hW5]; exact ((Below.refl _ _).alloc (Nat.le_refl _) _).alloc (by simp) _
  have hz5 : W5.heap.size = W3.heap.size + 1 + 1 := by rw [hW5, World.size_alloc, World.size_alloc]
  have hw0 := hb.size
  have hw1 := o1.size
  have ho13 : Off (fun k => k = w1.heap.size) w1 W5 := ho3.step hb35
  have hfr : ∀ k, w.heap.size ≤ k → k < W0.heap.size → ¬ R1.has k := fun k hk hk2 => t1.free (fun e => by have := h.lt k e; omega) hk2
  have hn1 : ∀ k, w1.heap.size ≤ k → ¬ R1.has k := fun k hk e => by have := g1.lt k e; omega
  have hR : ∀ k, w.heap.size ≤ k → ¬ R.has k := fun k hk e => by have := h.lt k e; omega
  refine ⟨g1.off ho13 (fun k hk e => hn1 k (Nat.le_of_eq e.symm) hk), ⟨fun k hk => (t1.m k hk).imp id (by omega), fun k hk => (t1.i k hk).imp id (by omega)⟩, ((Off.of_below hb R.m).then o1).trans ho13 (fun k e => .inr (by omega)), hO3.keep (hb35.block _ (by omega)), fun k h1 h2 => ⟨?_, hfr k h1 h2⟩, ⟨hn1 _ (Nat.le_refl _), hw1, hz3, hz5⟩, ⟨by rw [hW5]; exact alloc_at _ _ _ (World.size_alloc _ _).symm, hn1 _ (by omega)⟩, fun k h1 h2 => ?_⟩
  · rw [ho13.block k (by omega) (by omega)]; exact o1.block k h2 (fun e => hR k h1 (.inl e))
  · rw [ho3.block k (by omega) (by omega)]; exact o1.block k h2 (fun e => hR k h1 (.inl e))
set_option maxRecDepth 100000 in
set_option maxHeartbeats 4000000 in
theorem iwr_any (s m c ino i at_ : Nat) (v : Value) (x : Str) (o o1 : Opn) (C C1 C2 C3 : Ca) (R : Reg) (F : List (Nat × Obj)) (w : World) (h : Held w F c C R) (hm : (m, mapO c ino) ∈ F) (hs : (s, storeO m) ∈ F) (hi : ino ≤ 512) (h8 : ino % 8 = 0) (hp : alFirst ino < C.G.pages)
    (hvv : ∀ j, 1 ≤ j → j < ino → bitAt (C.rd 1) j = true → (C.recd j).ind < C.G.pages) (hlo : C.loadR ino i = (o, 0)) (hlen : o.Len) (hv : BytesI w (fun k => ¬ R.m k) v x) (hx : x ≠ []) (hsz : at_ + x.length ≤ 70656) (hos : o.size ≤ 70656)
    (hrs : resizeP ino (o, C) (max o.size (at_ + x.length)) = some (o1, C1)) (hly : layP o1 x.length C1 at_ x = some C2) (hsv : C2.save o1 = some C3) (hG1 : C1.G = C.G)
    (hsl : ∀ k, k < npg o1.size → o1.slot k < C.G.pages) (hoi : o1.i < ino) (hon : o1.ind < C.G.pages) (hol : o1.Len) (ho1 : o1.size = max o.size (at_ + x.length)) :
    Calls Tryz.prog 49 #[.pointer (some ⟨s, 0, none⟩), .int .i64 i, .int .i64 at_, v] w fun e w' => e = .returned (.int .i64 0) ∧ Step w F c C3 R w' := by
  have hmf : ∀ (fn : Fn) (first cap : Array Value) (w : World), (Instr.makeFunc fn first cap).run Tryz.prog w = .ok (.func fn first cap) w := fun _ _ _ _ => rfl
  obtain ⟨A0, c0, rfl, _, _⟩ := id hv
  obtain ⟨p0, p1, p2, z0⟩ := alloc3 w (.cells #[.pointer (some ⟨s, 0, none⟩)] 23) (.cells #[.int .i64 at_] 3) (.cells #[.slice A0 x.length c0] 53)
  obtain ⟨W0, hW0⟩ : ∃ W0, W0 = (((w.alloc (.cells #[.pointer (some ⟨s, 0, none⟩)] 23)).alloc (.cells #[.int .i64 at_] 3)).alloc (.cells #[.slice A0 x.length c0] 53)) := ⟨_, rfl⟩
  rw [← hW0] at p0 p1 p2 z0
  have hb0 : Below w.heap.size w W0 := by
    rw [hW0]
    exact (((Below.refl _ _).alloc (Nat.le_refl _) _).alloc (by simp) _).alloc (by simp; omega) _
  have h0 := h.below hb0
  have hld := load_any s m c ino i C R F W0 h0 hm hs hi hp hvv
  rw [hlo] at hld
  have ks0 : W0.cell? ⟨w.heap.size, 0, none⟩ = some (.pointer (some ⟨s, 0, none⟩)) := cell_of_heap p0 0
  have hlx := List.length_pos_iff.2 hx
  have ha0 : decide ((at_ : Int) < 0) = false := by simp
  have ha1 : decide ((70656 : Int) < (at_ : Int)) = false := by simp; omega
  have hw1 : IntKind.i64.wrap ((70656 : Int) - (at_ : Int)) = 70656 - (at_ : Int) := IntWalk.i64_in _ (by omega)
  have ha2 : decide ((70656 : Int) - (at_ : Int) < (x.length : Int)) = false := by simp; omega
  have ha3 : ((x.length : Int) == 0) = false := by simp; omega
  have HLd := Lib.hid hld
  have hmain : ∀ w1, Step W0 F c C R w1 → ∃ W3, W3 = (w1.alloc (.cells Tryz.zeroCells123 123)).setRow w1.heap.size (cellsO o).toArray ∧ W3.cell? ⟨w.heap.size, 0, none⟩ = some (.pointer (some ⟨s, 0, none⟩)) ∧ W3.cell? ⟨w.heap.size + 1, 0, none⟩ = some (.int .i64 at_) ∧ W3.cell? ⟨w.heap.size + 1 + 1, 0, none⟩ = some (.slice A0 x.length c0) ∧
      Calls Tryz.prog 86 #[.pointer (some ⟨s, 0, none⟩), .func (.func 96) #[] #[.pointer (some ⟨w.heap.size, 0, none⟩), .pointer (some ⟨w1.heap.size, 0, none⟩), .pointer (some ⟨w.heap.size + 1, 0, none⟩), .pointer (some ⟨w.heap.size + 1 + 1, 0, none⟩)]] W3 fun e w' => e = .returned (.int .i64 0) ∧ Step w F c C3 R w' := by
    intro w1 ⟨R1, g1, t1, f1⟩
    have hop := opened_i s h hb0 g1 t1 f1 hlen
    obtain ⟨W3, hW3⟩ : ∃ W3, W3 = (w1.alloc (.cells Tryz.zeroCells123 123)).setRow w1.heap.size (cellsO o).toArray := ⟨_, rfl⟩
    rw [← hW3] at hop
    obtain ⟨W5, hW5⟩ : ∃ W5, W5 = (W3.alloc (.cells #[.pointer (some ⟨s, 0, none⟩)] 23)).alloc (.cells #[.int .i64 0] 28) := ⟨_, rfl⟩
    rw [← hW5] at hop
    obtain ⟨n1, n2, n3, n4⟩ := hop.new
    refine ⟨W3, hW3, cell_of_heap ((hop.old3 _ (Nat.le_refl _) (by omega)).trans p0) 0, cell_of_heap ((hop.old3 _ (by omega) (by omega)).trans p1) 0, cell_of_heap ((hop.old3 _ (by omega) (by omega)).trans p2) 0, ?_⟩
    have hX : ∀ k, (k = w1.heap.size ∨ k = w.heap.size + 1 ∨ k = w.heap.size + 1 + 1) ∨ k = w.heap.size → ¬ R1.has k := fun k hk => by
      rcases hk with (e | e | e) | e <;> rw [e]
      · exact n1
      · exact (hop.old _ (by omega) (by omega)).2
      · exact (hop.old _ (by omega) (by omega)).2
      · exact (hop.old _ (by omega) (by omega)).2
    have hv5 : BytesI W5 (fun k => ¬ R1.m k ∧ ¬ (k = w1.heap.size ∨ k = w.heap.size + 1 ∨ k = w.heap.size + 1 + 1) ∧ k < W5.heap.size) (.slice A0 x.length c0) x := by
      have h1 := (hv.mono (J := fun k => ¬ R.m k ∧ k < w.heap.size) (fun k a b => ⟨a, b⟩)).off hop.off (fun k hk => hk.1)
      refine h1.mono fun k hk _ => ⟨fun e => ?_, by omega, by omega⟩
      rcases hop.tw.m k e with e | e
      · exact hk.1 e
      · omega
    have hwr := write1_any ⟨W5, F, c, R1, w.heap.size, w1.heap.size, w.heap.size + 1, w.heap.size + 1 + 1, s, o1⟩
      ⟨by show w.heap.size < W5.heap.size; omega, by show w1.heap.size < W5.heap.size; omega, by show w.heap.size + 1 < W5.heap.size; omega, by show w.heap.size + 1 + 1 < W5.heap.size; omega, (fun e => by unfold WrD.X at e; simp only at e; omega), (by show w1.heap.size ≠ w.heap.size + 1; omega), (by show w1.heap.size ≠ w.heap.size + 1 + 1; omega), (by show w.heap.size + 1 ≠ w.heap.size + 1 + 1; omega)⟩
      m ino at_ _ x o C C1 C2 C3 hop.held hm hs hi h8 hp ((hop.old w.heap.size (Nat.le_refl _) (by omega)).1.trans p0) hop.opn ((hop.old (w.heap.size + 1) (by omega) (by omega)).1.trans p1) ((hop.old (w.heap.size + 1 + 1) (by omega) (by omega)).1.trans p2) hX hv5 hsz hos hrs hly hsv hG1 hsl hoi hon hol ho1
    have htr := try_any s 96 #[.pointer (some ⟨w.heap.size, 0, none⟩), .pointer (some ⟨w1.heap.size, 0, none⟩), .pointer (some ⟨w.heap.size + 1, 0, none⟩), .pointer (some ⟨w.heap.size + 1 + 1, 0, none⟩)] W3
      (fun w6 => StepX W5 F c C3 R1 (fun k => k = w1.heap.size ∨ k = w.heap.size + 1 ∨ k = w.heap.size + 1 + 1) w6 ∧ w6.heap[W3.heap.size + 1]? = some (.cells #[.int .i64 0] 28 (0, 0)))
      (enters_of Tryz.func96 (by kernel_rfl) rfl)
      (by
        rw [← hW5]
        refine hwr.mono ?_
        rintro e w6 ⟨rfl, hx6⟩
        refine ⟨rfl, hx6, ?_⟩
        obtain ⟨R6, _, _, o6⟩ := hx6
        rw [o6.block _ (by show W3.heap.size + 1 < W5.heap.size; omega) (fun e => by
          rcases e with e | e
          · exact hop.err.2 (.inl e)
          · unfold WrD.X at e; simp only at e; omega)]
        exact hop.err.1)
      (fun w6 hh => hh.2)
    refine htr.mono ?_
    rintro e w9 ⟨rfl, w6, ⟨⟨R6, g6, t6, o6⟩, _⟩, rfl⟩
    have hw5 : w.heap.size ≤ W5.heap.size := hop.off.size
    have oX : Off (fun k => k = W3.heap.size + 1) w6 (w6.setCell ⟨W3.heap.size + 1, 0, none⟩ (.int .i64 0)) := (Off.refl (fun k => k = W3.heap.size + 1) w6).setCell (p := ⟨W3.heap.size + 1, 0, none⟩) (.inl rfl) _
    refine ⟨rfl, R6, g6.off oX (fun k hk e => ?_), hop.tw.trans t6 hw5, ((hop.off).trans o6 (fun k e => ?_)).trans oX (fun k e => .inr (by omega))⟩
    · exact t6.free hop.err.2 (by omega) (e ▸ hk)
    · rcases e with e | e
      · exact hop.tw.m k e
      · right; omega
  have HMain := Lib.hid hmain
  have HLen := Lib.hid hlen
  clear hld hmain hlen h0 p0 p1 p2 h hm hs hv hvv hlo hrs hly hsv hsl hb0
  go_enter Tryz.func49, Tryz.ntmps49
  go_wp2_with fail
  rw [← hW0]
  clear hW0
  refine HLd.out.mono ?_
  rintro e w1 ⟨rfl, hs1⟩
  obtain ⟨W3, hW3, a1, a2, a3, htr⟩ := HMain.out w1 hs1
  have hst := opn_store (opn_new w1) o HLen.out
  rw [← hW3] at hst
  have hl144 := cellsO_length HLen.out
  have HTr := Lib.hid htr
  clear hW3 hs1 htr
  go_wp2_with fail
  refine HTr.out.mono ?_
  rintro e w2 ⟨rfl, hs2⟩
  have HS2 := Lib.hid hs2
  clear hs2
  go_wp2_with fail
  go_ret
  exact ⟨rfl, HS2.out⟩
end Go.Proofs.YtfgkgoddjemnfaaGreatDoor

namespace Go.Proofs.YtfgkgoddjemnfaaGreatDoor
open Go.RowKit Go.Shelf Pa
attribute [local go_sem] bs_toList bs_size
set_option maxRecDepth 100000 in
set_option maxHeartbeats 4000000 in
theorem resize1_any (b0 bo bz s m c ino size : Nat) (o o1 : Opn) (C C1 C2 : Ca) (R : Reg) (F : List (Nat × Obj)) (w : World) (h : Held w F c C R) (hm : (m, mapO c ino) ∈ F) (hs : (s, storeO m) ∈ F) (hi : ino ≤ 512) (h8 : ino % 8 = 0) (hp : alFirst ino < C.G.pages)
    (q0 : w.heap[b0]? = some (.cells #[.pointer (some ⟨s, 0, none⟩)] 23 (0, 0))) (qo : OpnAt w bo o) (qz : w.heap[bz]? = some (.cells #[.int .i64 size] 3 (0, 0))) (r0 : ¬ R.has b0) (ro : ¬ R.has bo) (n0 : b0 ≠ bo)
    (hsz : size ≤ 70656) (hos : o.size ≤ 70656) (hrs : resizeP ino (o, C) size = some (o1, C1)) (hsv : C1.save o1 = some C2) (hG1 : C1.G = C.G)
    (htl : 0 < size → o1.slot (npg size - 1) < C.G.pages) (hoi : o1.i < ino) (hon : o1.ind < C.G.pages) (hol : o1.Len) :
    Calls Tryz.prog 101 #[.pointer (some ⟨b0, 0, none⟩), .pointer (some ⟨bo, 0, none⟩), .pointer (some ⟨bz, 0, none⟩)] w fun e w' => e = .returned (.tuple #[]) ∧ StepX w F c C2 R (fun k => k = bo) w' := by
  have hre := resize_any s m c ino bo size o o1 C C1 R F w h hm hs hi (by unfold alFirst at hp; omega) qo ro hos hsz hrs htl
  have k0 : w.cell? ⟨b0, 0, none⟩ = some (.pointer (some ⟨s, 0, none⟩)) := cell_of_heap q0 0
  have kz : w.cell? ⟨bz, 0, none⟩ = some (.int .i64 size) := cell_of_heap qz 0
  have l0 := (Array.getElem?_eq_some_iff.1 q0).1
  have hnext : ∀ w1, OcI w F c R bo o1 C1 w1 → w1.cell? ⟨b0, 0, none⟩ = some (.pointer (some ⟨s, 0, none⟩)) ∧ OpnAt w1 bo o1 ∧ Calls Tryz.prog 89 #[.pointer (some ⟨s, 0, none⟩), OpnV o1] w1 fun e w' => e = .returned (.tuple #[]) ∧ StepX w F c C2 R (fun k => k = bo) w' := by
    intro w1 ⟨R1, g1, t1, f1, q1, b1⟩
    refine ⟨cell_of_heap ((f1.block _ l0 (fun e => by rcases e with e | e; exact r0 (.inl e); exact n0 e)).trans q0) 0, q1, ?_⟩
    refine (save_any s m c ino o1 C1 C2 R1 F w1 g1 hm hs hi h8 (by rw [hG1]; omega) hol hoi (by rw [hG1]; exact hon) hsv).mono ?_
    rintro e w2 ⟨rfl, R2, g2, t2, f2⟩
    exact ⟨rfl, R2, g2, t1.trans t2 f1.size, f1.trans f2 (fun k e => by
      rcases t1.m k e with e | e
      · exact .inl (.inl e)
      · exact .inr e)⟩
  have HRe := Lib.hid hre
  have HNx := Lib.hid hnext
  clear hre hnext h hm hs q0 qo qz r0 ro hrs hsv htl
  go_enter Tryz.func101, Tryz.ntmps101
  go_wp2_with fail
  refine HRe.out.mono ?_
  rintro e w1 ⟨rfl, hI1⟩
  obtain ⟨a1, a2, a3⟩ := HNx.out w1 hI1
  have HO := Lib.hid a2
  have HSv := Lib.hid a3
  clear hI1 a2 a3
  go_wp2_with (refine wpList_load_row rfl 123 _ rfl bo rfl 123 (cellsO o1).toArray (0, 0) _ HO.out.1 Tryz.underlying123 rfl HO.out.info ?_)
  refine HSv.out.mono ?_
  rintro e w2 ⟨rfl, hs2⟩
  have HS2 := Lib.hid hs2
  clear hs2
  go_wp2_with fail
  go_end0
  exact ⟨rfl, HS2.out⟩
theorem alloc2 (w : World) (o0 o1 : Obj) : ((w.alloc o0).alloc o1).heap[w.heap.size]? = some o0 ∧ ((w.alloc o0).alloc o1).heap[w.heap.size + 1]? = some o1 ∧ ((w.alloc o0).alloc o1).heap.size = w.heap.size + 1 + 1 := by
  have s1 : (w.alloc o0).heap.size = w.heap.size + 1 := World.size_alloc _ _
  refine ⟨?_, alloc_at _ _ _ s1.symm, by rw [World.size_alloc, s1]⟩
  rw [alloc_old _ _ _ (by omega)]; exact alloc_at _ _ _ rfl
set_option maxRecDepth 100000 in
set_option maxHeartbeats 4000000 in
theorem irs_any (s m c ino i size : Nat) (o o1 : Opn) (C C1 C2 : Ca) (R : Reg) (F : List (Nat × Obj)) (w : World) (h : Held w F c C R) (hm : (m, mapO c ino) ∈ F) (hs : (s, storeO m) ∈ F) (hi : ino ≤ 512) (h8 : ino % 8 = 0) (hp : alFirst ino < C.G.pages)
    (hvv : ∀ j, 1 ≤ j → j < ino → bitAt (C.rd 1) j = true → (C.recd j).ind < C.G.pages) (hlo : C.loadR ino i = (o, 0)) (hlen : o.Len) (hsz : size ≤ 70656) (hos : o.size ≤ 70656) (hne : size ≠ o.size)
    (hrs : resizeP ino (o, C) size = some (o1, C1)) (hsv : C1.save o1 = some C2) (hG1 : C1.G = C.G)
    (htl : 0 < size → o1.slot (npg size - 1) < C.G.pages) (hoi : o1.i < ino) (hon : o1.ind < C.G.pages) (hol : o1.Len) :
    Calls Tryz.prog 52 #[.pointer (some ⟨s, 0, none⟩), .int .i64 i, .int .i64 size] w fun e w' => e = .returned (.int .i64 0) ∧ Step w F c C2 R w' := by
  have hmf : ∀ (fn : Fn) (first cap : Array Value) (w : World), (Instr.makeFunc fn first cap).run Tryz.prog w = .ok (.func fn first cap) w := fun _ _ _ _ => rfl
  obtain ⟨p0, p1, z0⟩ := alloc2 w (.cells #[.pointer (some ⟨s, 0, none⟩)] 23) (.cells #[.int .i64 size] 3)
  obtain ⟨W0, hW0⟩ : ∃ W0, W0 = ((w.alloc (.cells #[.pointer (some ⟨s, 0, none⟩)] 23)).alloc (.cells #[.int .i64 size] 3)) := ⟨_, rfl⟩
  rw [← hW0] at p0 p1 z0
  have hb0 : Below w.heap.size w W0 := by
    rw [hW0]
    exact ((Below.refl _ _).alloc (Nat.le_refl _) _).alloc (by simp) _
  have h0 := h.below hb0
  have hld := load_any s m c ino i C R F W0 h0 hm hs hi hp hvv
  rw [hlo] at hld
  have ks0 : W0.cell? ⟨w.heap.size, 0, none⟩ = some (.pointer (some ⟨s, 0, none⟩)) := cell_of_heap p0 0
  have ha0 : decide ((size : Int) < 0) = false := by simp
  have ha1 : decide ((70656 : Int) < (size : Int)) = false := by simp; omega
  have ha3 : ((size : Int) == (o.size : Int)) = false := by simp; omega
  have HLd := Lib.hid hld
  have hmain : ∀ w1, Step W0 F c C R w1 → ∃ W3, W3 = (w1.alloc (.cells Tryz.zeroCells123 123)).setRow w1.heap.size (cellsO o).toArray ∧ W3.cell? ⟨w.heap.size, 0, none⟩ = some (.pointer (some ⟨s, 0, none⟩)) ∧ W3.cell? ⟨w.heap.size + 1, 0, none⟩ = some (.int .i64 size) ∧ W3.cell? ⟨w1.heap.size, 3, none⟩ = some (.int .i64 o.size) ∧
      Calls Tryz.prog 86 #[.pointer (some ⟨s, 0, none⟩), .func (.func 101) #[] #[.pointer (some ⟨w.heap.size, 0, none⟩), .pointer (some ⟨w1.heap.size, 0, none⟩), .pointer (some ⟨w.heap.size + 1, 0, none⟩)]] W3 fun e w' => e = .returned (.int .i64 0) ∧ Step w F c C2 R w' := by
    intro w1 ⟨R1, g1, t1, f1⟩
    have hop := opened_i s h hb0 g1 t1 f1 hlen
    obtain ⟨W3, hW3⟩ : ∃ W3, W3 = (w1.alloc (.cells Tryz.zeroCells123 123)).setRow w1.heap.size (cellsO o).toArray := ⟨_, rfl⟩
    have hO3 : OpnAt W3 w1.heap.size o := by rw [hW3]; exact (opn_new w1).row o hlen
    rw [← hW3] at hop
    obtain ⟨W5, hW5⟩ : ∃ W5, W5 = (W3.alloc (.cells #[.pointer (some ⟨s, 0, none⟩)] 23)).alloc (.cells #[.int .i64 0] 28) := ⟨_, rfl⟩
    rw [← hW5] at hop
    obtain ⟨n1, n2, n3, n4⟩ := hop.new
    refine ⟨W3, hW3, cell_of_heap ((hop.old3 _ (Nat.le_refl _) (by omega)).trans p0) 0, cell_of_heap ((hop.old3 _ (by omega) (by omega)).trans p1) 0, hO3.size, ?_⟩
    have hwr := resize1_any w.heap.size w1.heap.size (w.heap.size + 1) s m c ino size o o1 C C1 C2 R1 F W5 hop.held hm hs hi h8 hp ((hop.old w.heap.size (Nat.le_refl _) (by omega)).1.trans p0) hop.opn ((hop.old (w.heap.size + 1) (by omega) (by omega)).1.trans p1) (hop.old w.heap.size (Nat.le_refl _) (by omega)).2 n1 (by omega) hsz hos hrs hsv hG1 htl hoi hon hol
    have htr := try_any s 101 #[.pointer (some ⟨w.heap.size, 0, none⟩), .pointer (some ⟨w1.heap.size, 0, none⟩), .pointer (some ⟨w.heap.size + 1, 0, none⟩)] W3
      (fun w6 => StepX W5 F c C2 R1 (fun k => k = w1.heap.size) w6 ∧ w6.heap[W3.heap.size + 1]? = some (.cells #[.int .i64 0] 28 (0, 0)))
      (enters_of Tryz.func101 (by kernel_rfl) rfl)
      (by
        rw [← hW5]
        refine hwr.mono ?_
        rintro e w6 ⟨rfl, hx6⟩
        refine ⟨rfl, hx6, ?_⟩
        obtain ⟨R6, _, _, o6⟩ := hx6
        rw [o6.block _ (by omega) (fun e => by
          rcases e with e | e
          · exact hop.err.2 (.inl e)
          · omega)]
        exact hop.err.1)
      (fun w6 hh => hh.2)
    refine htr.mono ?_
    rintro e w9 ⟨rfl, w6, ⟨⟨R6, g6, t6, o6⟩, _⟩, rfl⟩
    have hw5 : w.heap.size ≤ W5.heap.size := hop.off.size
    have oX : Off (fun k => k = W3.heap.size + 1) w6 (w6.setCell ⟨W3.heap.size + 1, 0, none⟩ (.int .i64 0)) := (Off.refl (fun k => k = W3.heap.size + 1) w6).setCell (p := ⟨W3.heap.size + 1, 0, none⟩) (.inl rfl) _
    refine ⟨rfl, R6, g6.off oX (fun k hk e => ?_), hop.tw.trans t6 hw5, ((hop.off).trans o6 (fun k e => ?_)).trans oX (fun k e => .inr (by omega))⟩
    · exact t6.free hop.err.2 (by omega) (e ▸ hk)
    · rcases e with e | e
      · exact hop.tw.m k e
      · right; omega
  have HMain := Lib.hid hmain
  have HLen := Lib.hid hlen
  clear hld hmain hlen h0 p0 p1 h hm hs hvv hlo hrs hsv htl hb0
  go_enter Tryz.func52, Tryz.ntmps52
  go_wp2_with fail
  rw [← hW0]
  clear hW0
  refine HLd.out.mono ?_
  rintro e w1 ⟨rfl, hs1⟩
  obtain ⟨W3, hW3, a1, a2, a3, htr⟩ := HMain.out w1 hs1
  have hst := opn_store (opn_new w1) o HLen.out
  rw [← hW3] at hst
  have hl144 := cellsO_length HLen.out
  have HTr := Lib.hid htr
  clear hW3 hs1 htr
  go_wp2_with fail
  refine HTr.out.mono ?_
  rintro e w2 ⟨rfl, hs2⟩
  have HS2 := Lib.hid hs2
  clear hs2
  go_wp2_with fail
  go_ret
  exact ⟨rfl, HS2.out⟩
end Go.Proofs.YtfgkgoddjemnfaaGreatDoor

namespace Go.Proofs.YtfgkgoddjemnfaaGreatDoor
open Go.RowKit Go.Shelf Pa
/-- An entry: its place, its name, its inode (0: it is free). -/
structure Sl where
  at_ : Nat
  name : Str
  i : Nat
def decS (b : Str) (k : Nat) : Sl := ⟨64 * k, ((b.drop (64 * k + 5)).take (min (b.getD (64 * k + 4) 0).toNat 59)), getN ((b.drop (64 * k)).take 4)⟩
/-- The entries of a directory's bytes. -/
def slotsP (b : Str) : List Sl := (List.range (b.length / 64)).map (decS b)
theorem slotsP_length (b : Str) : (slotsP b).length = b.length / 64 := by simp [slotsP]
theorem slotsP_take (b : Str) (k : Nat) (h : k < b.length / 64) : (slotsP b).take (k + 1) = (slotsP b).take k ++ [decS b k] := by
  have h2 : (slotsP b)[k]? = some (decS b k) := by unfold slotsP; rw [List.getElem?_map, List.getElem?_range h]; rfl
  rw [List.take_add_one, h2]; rfl
end Go.Proofs.YtfgkgoddjemnfaaGreatDoor

namespace Go.Proofs.YtfgkgoddjemnfaaGreatDoor
open Go
section
variable {F : Fence} {n : Nat} {P : Program} {ops : Array Oper} {md : Region.Mode}
/-- What an operation waits for. -/
def aftQ (md : Region.Mode) (ops : Array Oper) (j : Nat) : List Nat := match ops[j]? with | some o => (o.after.toList.filter (Region.binds md)).map (·.on) | none => []
/-- .. and what these wait for, from the later ones down. -/
def passQ (md : Region.Mode) (ops : Array Oper) : Nat → List Nat → List Nat
  | 0, s => s
  | k + 1, s => passQ md ops k (if s.contains k then s ++ aftQ md ops k else s)
def depQ (md : Region.Mode) (ops : Array Oper) (q : Nat) : Bool := (List.range ops.size).all fun j => decide (j < q) || (List.range q).all fun i => (passQ md ops ops.size (aftQ md ops j)).contains i
def lowQ (md : Region.Mode) (ops : Array Oper) : Bool := (List.range ops.size).all fun j => (aftQ md ops j).all fun i => decide (i < j)
/-- What is listed waits for nothing that is not. -/
def ClosedQ (md : Region.Mode) (ops : Array Oper) (listed : Array Bool) : Prop := ∀ j, listed.getD j false = true → ∀ i ∈ aftQ md ops j, listed.getD i false = true
theorem passQ_listed {listed : Array Bool} (hc : ClosedQ md ops listed) : ∀ (k : Nat) (s : List Nat), (∀ i ∈ s, listed.getD i false = true) → ∀ i ∈ passQ md ops k s, listed.getD i false = true
  | 0, _, h => h
  | k + 1, s, h => by
    unfold passQ
    refine passQ_listed hc k _ fun i hi => ?_
    split at hi
    · rename_i hk
      rcases List.mem_append.1 hi with hi | hi
      · exact h i hi
      · exact hc k (h k (by simpa using hk)) i hi
    · exact h i hi
theorem aftQ_mem {j : Nat} {o : Oper} (ho : ops[j]? = some o) {i : Nat} : i ∈ aftQ md ops j ↔ ∃ e ∈ o.after, Region.binds md e = true ∧ e.on = i := by
  unfold aftQ
  rw [ho]
  simp only [List.mem_map, List.mem_filter, Array.mem_toList_iff, and_assoc]
theorem ready_after {listed : Array Bool} {j : Nat} (h : j ∈ Region.ready md ops listed) : ∀ i ∈ aftQ md ops j, listed.getD i false = true := by
  obtain ⟨_, o, ho, hall⟩ := mem_ready.1 h
  intro i hi
  obtain ⟨e, he, hb, rfl⟩ := (aftQ_mem ho).1 hi
  exact hall e he hb
theorem depQ_spec {q : Nat} (h : depQ md ops q = true) {listed : Array Bool} (hc : ClosedQ md ops listed) {j : Nat} (hj : q ≤ j) (hr : j ∈ Region.ready md ops listed) : ∀ i, i < q → listed.getD i false = true := by
  obtain ⟨_, o, ho, _⟩ := mem_ready.1 hr
  have hlt : j < ops.size := (Array.getElem?_eq_some_iff.1 ho).1
  unfold depQ at h
  rw [List.all_eq_true] at h
  have h1 := h j (List.mem_range.2 hlt)
  simp only [Bool.or_eq_true, decide_eq_true_eq, List.all_eq_true, List.mem_range, List.contains_iff_mem] at h1
  rcases h1 with h1 | h1
  · omega
  · intro i hi
    exact passQ_listed hc _ _ (ready_after hr) i (h1 i hi)
theorem ClosedQ.set {listed : Array Bool} (hc : ClosedQ md ops listed) {j : Nat} (hr : j ∈ Region.ready md ops listed) : ClosedQ md ops (listed.setIfInBounds j true) := by
  intro k hk i hi
  refine getD_set_true ?_
  by_cases e : j = k
  · subst e; exact ready_after hr i hi
  · rw [getD_set_ne false e] at hk; exact hc k hk i hi
theorem size_lt_of_unlisted {listed : Array Bool} {j : Nat} (h : listed.getD j true = false) : j < listed.size := by
  rcases Nat.lt_or_ge j listed.size with h1 | h1
  · exact h1
  · rw [Array.getD_eq_getD_getElem?, Array.getElem?_eq_none h1] at h; cases h
theorem wpAnyIn_pre {ops' : Array Oper} {q r : Nat} {w0 : World} {Q : Exit → Act → World → Prop} {LQ : Array Bool} (hro : F.round = none) (hops : ∀ j, j < q → ops'[j]? = ops[j]?) (hops2 : ops'.size = q) (hg : ∀ (j : Nat) (o : Oper), ops[j]? = some o → o.guard = none)
    (hdep : depQ md ops q = true) (hlow : lowQ md ops = true) (hLQ : ∀ i, i < q → LQ.getD i false = true) (hLQ2 : ∀ i, q ≤ i → i < ops.size → LQ.getD i true = false) (hLQs : LQ.size = ops.size) :
    ∀ (fuel : Nat) (listed : Array Bool) (rest : List Nat) (a : Act), listed.size = ops.size → rest.Nodup → rest.length = fuel → (∀ i, i < q → (i ∈ rest ↔ listed.getD i true = false)) → (∀ i ∈ rest, i < q) → (∀ i, q ≤ i → i < ops.size → listed.getD i true = false) → ClosedQ md ops listed →
      wpAnyQIn F n P md ops' (fun w' => w' = w0) (fun a' => wpAnyIn F n P md ops Q r LQ a' w0) fuel listed a → wpAnyIn F n P md ops Q (fuel + r) listed a w0 := by
  intro fuel
  induction fuel with
  | zero =>
    intro listed rest a hs hnd hlen hrest hrq hun hc h
    have hr : rest = [] := List.length_eq_zero_iff.1 hlen
    subst hr
    have hL : listed = LQ := by
      refine Array.ext (by rw [hs, hLQs]) fun i h1 h2 => ?_
      by_cases hi : i < q
      · have e1 : ¬ listed.getD i true = false := fun e => by have := (hrest i hi).2 e; cases this
        have e2 := hLQ i hi
        rw [Array.getD_eq_getD_getElem?, Array.getElem?_eq_getElem h1] at e1
        rw [Array.getD_eq_getD_getElem?, Array.getElem?_eq_getElem h2] at e2
        simp at e1 e2
        rw [e1, e2]
      · have e1 := hun i (by omega) (by omega)
        have e2 := hLQ2 i (by omega) (by omega)
        rw [Array.getD_eq_getD_getElem?, Array.getElem?_eq_getElem h1] at e1
        rw [Array.getD_eq_getD_getElem?, Array.getElem?_eq_getElem h2] at e2
        simp at e1 e2
        rw [e1, e2]
    rw [Nat.zero_add, hL]
    exact h.2
  | succ fuel ih =>
    intro listed rest a hs hnd hlen hrest hrq hun hc h
    obtain ⟨i0, hi0⟩ : ∃ i0, i0 ∈ rest := List.exists_mem_of_length_pos (by omega)
    have hi0q := hrq i0 hi0
    have hi0u := (hrest i0 hi0q).1 hi0
    have hrd : ∀ j, j ∈ Region.ready md ops listed → j < q := fun j hj => by
      rcases Nat.lt_or_ge j q with h1 | h1
      · exact h1
      · have := depQ_spec hdep hc h1 hj i0 hi0q
        rw [Array.getD_eq_getD_getElem?] at this hi0u
        cases hx : listed[i0]? with
        | none => rw [hx] at hi0u; cases hi0u
        | some b => rw [hx] at this hi0u; simp at this hi0u; rw [this] at hi0u; cases hi0u
    have hrd2 : ∀ j, j < q → (j ∈ Region.ready md ops listed ↔ j ∈ Region.ready md ops' listed) := fun j hj => by
      rw [mem_ready, mem_ready, hops j hj]
    rw [show fuel + 1 + r = (fuel + r) + 1 from by omega]
    refine ⟨fun h0 => ?_, fun j hj => ?_⟩
    · exfalso
      have h1 : Region.ready md ops' listed = [] := by
        rw [List.eq_nil_iff_forall_not_mem]
        intro j hj
        have hjq : j < q := by
          obtain ⟨_, o, ho, _⟩ := mem_ready.1 hj
          have := (Array.getElem?_eq_some_iff.1 ho).1
          omega
        have := (hrd2 j hjq).2 hj
        rw [h0] at this; cases this
      -- nothing is ready, though i0 is not listed: the least that is not listed would be
      have hex : ∀ m, m < q → listed.getD m true = false → False := by
        intro m
        induction m using Nat.strongRecOn with
        | _ m ihm =>
          intro hm hu
          have hml := size_lt_of_unlisted hu
          obtain ⟨o, ho⟩ : ∃ o, ops[m]? = some o := ⟨_, Array.getElem?_eq_getElem (by omega)⟩
          have hin : m ∈ Region.ready md ops listed := by
            rw [mem_ready]
            refine ⟨hu, o, ho, fun e he hb => ?_⟩
            have hlt : e.on < m := by
              unfold lowQ at hlow
              rw [List.all_eq_true] at hlow
              have h2 := hlow m (List.mem_range.2 (by omega))
              rw [List.all_eq_true] at h2
              simpa using h2 e.on ((aftQ_mem ho).2 ⟨e, he, hb, rfl⟩)
            have hlt2 : e.on < listed.size := by omega
            cases hv : listed[e.on]'hlt2 with
            | true => rw [Array.getD_eq_getD_getElem?, Array.getElem?_eq_getElem hlt2, hv]; rfl
            | false => exact (ihm e.on hlt (by omega) (by rw [Array.getD_eq_getD_getElem?, Array.getElem?_eq_getElem hlt2, hv]; rfl)).elim
          rw [h0] at hin; cases hin
      exact hex i0 hi0q hi0u
    · have hjq := hrd j hj
      have hj' := (hrd2 j hjq).1 hj
      have hju := (mem_ready.1 hj).1
      have hq := h.2 j hj'
      obtain ⟨o, ho⟩ : ∃ o, ops[j]? = some o := by
        obtain ⟨_, o, ho, _⟩ := mem_ready.1 hj
        exact ⟨o, ho⟩
      unfold qOpIn at hq
      rw [hops j hjq, ho] at hq
      simp only at hq
      have hw : ∀ t t', Region.wanted o (yielded ops' t) = true ∧ Region.wanted o (yielded ops t') = true := fun t t' => by
        unfold Region.wanted
        rw [hg j o ho]
        exact ⟨rfl, rfl⟩
      rw [(hw a.tmps a.tmps).1, if_pos rfl] at hq
      unfold wpOpIn
      rw [ho]
      simp only
      rw [(hw a.tmps a.tmps).2, if_pos rfl]
      refine Oper.wpIn_of_quiet (C := fun w' => w' = w0) hro rfl (fun a' w' hw' hk => ?_) hq.1 hq.2
      subst hw'
      refine ih (listed.setIfInBounds j true) (rest.erase j) a' (by rw [Array.size_setIfInBounds]; exact hs) (hnd.erase j) (by rw [List.length_erase_of_mem ((hrest j hjq).2 hju)]; omega) (fun i hi => ?_) (fun i hi => hrq i (List.mem_of_mem_erase hi)) (fun i hi hi2 => ?_) (hc.set hj) hk
      · rw [hnd.mem_erase_iff]
        by_cases e : i = j
        · subst e
          have : (listed.setIfInBounds i true).getD i true = true := by
            rw [Array.getD_eq_getD_getElem?, Array.getElem?_setIfInBounds_self_of_lt (size_lt_of_unlisted hju)]; rfl
          rw [this]; simp
        · rw [getD_set_ne true (fun e2 => e e2.symm), hrest i hi]
          simp [e]
      · rw [getD_set_ne true (by omega)]; exact hun i hi hi2
/-- **The first q operations only read: one walk of the order of the text serves; the others come behind them all.** -/
theorem wpIn_region_pre {id q r : Nat} {Q : Exit → Act → World → Prop} {a : Act} {w : World} {l : List Oper} (hro : F.round = none) (hm : P.follows .mixedOrders = true) (hqr : l.length = q + r)
    (hns : Region.noSelect (l.take q).toArray = true) (hB : Region.lexFrom .any (l.take q).toArray q 0 (Array.replicate (q + r) false) = true) (hg : l.all (fun o => o.guard.isNone) = true) (hdep : depQ .any l.toArray q = true) (hlow : lowQ .any l.toArray = true)
    (h : wpQuietIn F n P (l.take q).toArray (fun w' => w' = w.drew) (fun a' => wpAnyIn F n P .any l.toArray Q r (Array.replicate q true ++ Array.replicate r false) a' w.drew) (l.take q) a) : (Code.region id l.toArray true).wpIn F n P Q a w := by
  refine wpIn_region_any hm ?_
  have hsz : l.toArray.size = q + r := by rw [List.size_toArray, hqr]
  have hlen : (l.take q).length = q := by rw [List.length_take]; omega
  have hQ := wpAnyQIn_lex (F := F) (n := n) (P := P) (C := fun w' => w' = w.drew) (md := .any) (Q := fun a' => wpAnyIn F n P .any l.toArray Q r (Array.replicate q true ++ Array.replicate r false) a' w.drew) hns (l.take q) 0 (Array.replicate (q + r) false) a (fun j => by rw [Nat.zero_add, List.getElem?_toArray]) (by rw [hlen]; exact hB) h
  rw [hlen] at hQ
  have := wpAnyIn_pre (F := F) (n := n) (P := P) (md := .any) (ops := l.toArray) (ops' := (l.take q).toArray) (q := q) (r := r) (w0 := w.drew) (Q := Q) (LQ := Array.replicate q true ++ Array.replicate r false) hro
    (fun j hj => by rw [List.getElem?_toArray, List.getElem?_toArray, List.getElem?_take_of_lt hj]) (by rw [List.size_toArray, hlen])
    (fun j o ho => by
      rw [List.getElem?_toArray] at ho
      have h1 := (List.all_eq_true.1 hg) o (List.mem_of_getElem? ho)
      simpa using h1)
    hdep hlow
    (fun i hi => by rw [Array.getD_eq_getD_getElem?, Array.getElem?_append_left (by simpa using hi), Array.getElem?_replicate, if_pos hi]; rfl)
    (fun i hi hi2 => by rw [Array.getD_eq_getD_getElem?, Array.getElem?_append_right (by simpa using hi), Array.getElem?_replicate, if_pos (by simp; omega)]; rfl)
    (by simp [hqr])
    q (Array.replicate (q + r) false) (List.range q) a (by simp [hqr]) List.nodup_range List.length_range
    (fun i hi => by rw [List.mem_range, Array.getD_eq_getD_getElem?, Array.getElem?_replicate, if_pos (by omega)]; simp [hi])
    (fun i hi => List.mem_range.1 hi)
    (fun i hi hi2 => by rw [Array.getD_eq_getD_getElem?, Array.getElem?_replicate, if_pos (by omega)]; rfl)
    (fun j hj => by
      rw [Array.getD_eq_getD_getElem?, Array.getElem?_replicate] at hj
      split at hj <;> cases hj)
    hQ
  rw [hsz]
  exact this
/-- One operation alone may come up. -/
theorem wpAnyIn_next {fuel j : Nat} {o : Oper} {Q : Exit → Act → World → Prop} {listed : Array Bool} {a : Act} {w : World} (hr : Region.ready md ops listed = [j]) (ho : ops[j]? = some o) (hg : o.guard = none)
    (h : ∀ K : Act → World → Prop, (∀ a w, wpAnyIn F n P md ops Q fuel (listed.setIfInBounds j true) a w → K a w) → o.wpIn F n P a w K Q) : wpAnyIn F n P md ops Q (fuel + 1) listed a w := by
  refine ⟨fun h0 => (by rw [hr] at h0; cases h0), fun i hi => ?_⟩
  rw [hr] at hi
  obtain rfl : i = j := by simpa using hi
  unfold wpOpIn
  rw [ho]
  have hw : Region.wanted o (yielded ops a.tmps) = true := by
    unfold Region.wanted
    rw [hg]
  simp only
  rw [hw, if_pos rfl]
  exact h _ (fun _ _ h => h)
end
end Go.Proofs.YtfgkgoddjemnfaaGreatDoor
