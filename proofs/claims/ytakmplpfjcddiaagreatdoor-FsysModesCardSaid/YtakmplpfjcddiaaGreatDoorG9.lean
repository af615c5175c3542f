/-
  How many pages are free, in plain Lean: resizing and writing take and give just as many as the sizes say.
  The entries of a directory as a list of names with their inodes, as bytes and back, in plain Lean.
  A store with the directories 1 and 3 and a file 2, in plain Lean: adding, dropping, finding as on lists of names with their inodes.
  A store with the directories 1 and 3 and a file 2 as lists of names with their inodes, in plain Lean.
  A store alone, with blocks of one's own aside that stay: the calls of inode and dir in these words.
  dir.Split: what a path's names are, at every text.
  The walks over fsys's parts, through, place, fresh.
  The walks over fsys's parts and place, of paths that are.
  The walks over fsys's fresh and roomFor, of paths that are new.
  The walk over fsys's roomFor, where there is room.
  Inode's Write of no bytes; fsys's mode.
-/
import Derived.Test.YtakmplpfjcddiaaGreatDoorG8
import Derived.Deep.LoopGhost
import Derived.Deep.RegionHeld3
set_option linter.unusedVariables false
set_option linter.unusedSimpArgs false
set_option linter.deprecated false
namespace Go.Proofs.YtakmplpfjcddiaaGreatDoor
open Go.RowKit Go.Shelf Pa
def nfree (l : List Bool) : Nat := l.count false
theorem nfree_set (b : Bool) : ∀ (l : List Bool) (n : Nat), n < l.length → nfree (l.set n b) + (if l.getD n false = false then 1 else 0) = nfree l + (if b = false then 1 else 0)
  | [], n, h => absurd h (Nat.not_lt_zero _)
  | x :: l, 0, h => by
    simp only [List.set_cons_zero, nfree, List.count_cons, List.getD_cons_zero]
    cases x <;> cases b <;> simp
  | x :: l, n + 1, h => by
    have ih := nfree_set b l n (by simpa using h)
    simp only [List.set_cons_succ, nfree, List.count_cons, List.getD_cons_succ] at ih ⊢
    omega
theorem nfree_take {l : List Bool} {n : Nat} (h : n < l.length) (hf : l.getD n false = false) : nfree (l.set n true) + 1 = nfree l := by
  have := nfree_set true l n h
  rw [if_pos hf] at this; simpa using this
theorem nfree_give {l : List Bool} {n : Nat} (h : n < l.length) (hf : l.getD n false = true) : nfree (l.set n false) = nfree l + 1 := by
  have := nfree_set false l n h
  rw [if_neg (by rw [hf]; decide)] at this; simpa using this
theorem takeB_none {l : List Bool} (h : takeB l = none) : nfree l = 0 := by
  unfold nfree
  rw [List.count_eq_zero]
  intro hm
  obtain ⟨n, hn, e⟩ := List.getElem_of_mem hm
  unfold takeB at h
  rw [List.find?_eq_none] at h
  refine h n (List.mem_range.2 hn) ?_
  rw [List.getD_eq_getElem?_getD, List.getElem?_eq_getElem hn, e]; rfl
theorem takeB_free {l : List Bool} (h : 1 ≤ nfree l) : ∃ n, takeB l = some n := by
  cases ht : takeB l with
  | none => have := takeB_none ht; omega
  | some n => exact ⟨n, rfl⟩
/-- How many pages so many data pages ask. -/
def nd (k : Nat) : Nat := if 10 < k then k + 1 else k
theorem nd_mono {a b : Nat} (h : a ≤ b) : nd a ≤ nd b := by unfold nd; split <;> split <;> omega
theorem nd_succ (a : Nat) : nd (a + 1) = nd a + if a = 10 then 2 else 1 := by unfold nd; split <;> split <;> split <;> omega
theorem rgrow1_some {T : RS} {f : RF} (hi : f.ind = 0 ↔ f.data.length ≤ 10) (h0 : T.p.getD 0 false = true) (hp : nd (f.data.length + 1) ≤ nfree T.p + nd f.data.length) :
    ∃ s, rgrow1 (T, f) = some s ∧ nfree s.1.p + nd (f.data.length + 1) = nfree T.p + nd f.data.length ∧ s.1.p.length = T.p.length ∧ s.2.data.length = f.data.length + 1 ∧ (s.2.ind = 0 ↔ s.2.data.length ≤ 10) ∧ s.1.p.getD 0 false = true := by
  have hsn : (f.data.length + 1) = (f.data.length + 1) := rfl
  rw [nd_succ] at hp ⊢
  unfold rgrow1 RS.takeP
  by_cases h10 : f.data.length = 10
  · rw [if_pos h10] at hp ⊢
    have hi0 : f.ind = 0 := hi.2 (by omega)
    simp only
    rw [if_pos ⟨h10, hi0⟩]
    obtain ⟨n0, e0⟩ := takeB_free (l := T.p) (by omega)
    obtain ⟨a1, a2, _⟩ := takeB_some e0
    have c0 := nfree_take a1 a2
    have z0 : n0 ≠ 0 := fun e => by rw [e, h0] at a2; cases a2
    rw [e0]
    simp only
    obtain ⟨n1, e1⟩ := takeB_free (l := T.p.set n0 true) (by omega)
    obtain ⟨b1, b2, _⟩ := takeB_some e1
    have c1 := nfree_take b1 b2
    have z1 : n1 ≠ 0 := fun e => by rw [e, getD_setB _ _ _ _ a1, if_neg (fun e => z0 e.symm), h0] at b2; cases b2
    rw [e1]
    refine ⟨_, rfl, ?_, ?_, ?_, ?_, ?_⟩
    · show nfree ((T.p.set n0 true).set n1 true) + _ = _; omega
    · show ((T.p.set n0 true).set n1 true).length = _; rw [List.length_set, List.length_set]
    · show (f.data ++ [n1]).length = _; rw [List.length_append, List.length_singleton]
    · show n0 = 0 ↔ (f.data ++ [n1]).length ≤ 10; rw [List.length_append, List.length_singleton]; omega
    · show ((T.p.set n0 true).set n1 true).getD 0 false = true
      rw [getD_setB _ _ _ _ b1, if_neg (fun e => z1 e.symm), getD_setB _ _ _ _ a1, if_neg (fun e => z0 e.symm)]; exact h0
  · rw [if_neg h10] at hp ⊢
    simp only
    rw [if_neg (fun e => h10 e.1)]
    simp only
    obtain ⟨n0, e0⟩ := takeB_free (l := T.p) (by omega)
    obtain ⟨a1, a2, _⟩ := takeB_some e0
    have c0 := nfree_take a1 a2
    have z0 : n0 ≠ 0 := fun e => by rw [e, h0] at a2; cases a2
    rw [e0]
    refine ⟨_, rfl, ?_, ?_, ?_, ?_, ?_⟩
    · show nfree (T.p.set n0 true) + _ = _; omega
    · show (T.p.set n0 true).length = _; rw [List.length_set]
    · show (f.data ++ [n0]).length = _; rw [List.length_append, List.length_singleton]
    · show f.ind = 0 ↔ (f.data ++ [n0]).length ≤ 10; rw [List.length_append, List.length_singleton]; omega
    · show (T.p.set n0 true).getD 0 false = true
      rw [getD_setB _ _ _ _ a1, if_neg (fun e => z0 e.symm)]; exact h0
theorem rgrowN_some : ∀ (n : Nat) {T : RS} {f : RF}, (f.ind = 0 ↔ f.data.length ≤ 10) → T.p.getD 0 false = true → nd (f.data.length + n) ≤ nfree T.p + nd f.data.length →
    ∃ s, rgrowN n (T, f) = some s ∧ nfree s.1.p + nd (f.data.length + n) = nfree T.p + nd f.data.length ∧ s.1.p.length = T.p.length ∧ s.2.data.length = f.data.length + n
  | 0, T, f, _, _, _ => ⟨(T, f), rfl, rfl, rfl, rfl⟩
  | n + 1, T, f, hi, h0, hp => by
    have hm := nd_mono (show f.data.length + 1 ≤ f.data.length + (n + 1) by omega)
    obtain ⟨⟨T1, f1⟩, e1, c1, p1, d1, i1, z1⟩ := rgrow1_some hi h0 (by omega)
    simp only at c1 p1 d1 i1 z1
    have he : f1.data.length + n = f.data.length + (n + 1) := by omega
    obtain ⟨s, e2, c2, p2, d2⟩ := rgrowN_some n i1 z1 (by rw [he, d1]; omega)
    refine ⟨s, by unfold rgrowN; rw [e1]; exact e2, ?_, p2.trans p1, by omega⟩
    rw [he, d1] at c2; omega
/-- The pages of a file are taken ones, each once. -/
structure Owns (T : RS) (f : RF) : Prop where
  ind : f.ind = 0 ↔ f.data.length ≤ 10
  own : ∀ n ∈ f.pgs, n < T.p.length ∧ T.p.getD n false = true
  nodup : f.pgs.Nodup
theorem FOk.owns {C : Ca} {T : RS} {f : RF} (h : FOk C T f) (hp : T.p.length = C.G.pages) : Owns T f := ⟨h.ind, fun n hn => ⟨by rw [hp]; exact (h.own n hn).2.1, (h.own n hn).2.2⟩, h.nodup⟩
theorem rshrink1_count {T : RS} {f : RF} (h : Owns T f) (h0 : f.data ≠ []) :
    nfree (rshrink1 (T, f)).1.p + nd (f.data.length - 1) = nfree T.p + nd f.data.length ∧ (rshrink1 (T, f)).1.p.length = T.p.length ∧ (rshrink1 (T, f)).2.data.length = f.data.length - 1 ∧ Owns (rshrink1 (T, f)).1 (rshrink1 (T, f)).2 := by
  obtain ⟨l, x, hlx⟩ : ∃ l x, f.data = l ++ [x] := ⟨f.data.dropLast, f.data.getLast h0, (List.dropLast_concat_getLast h0).symm⟩
  have hlen : f.data.length = l.length + 1 := by rw [hlx, List.length_append, List.length_singleton]
  have hgx : f.data.getD l.length 0 = x := by rw [hlx, List.getD_eq_getElem?_getD, List.getElem?_append_right (Nat.le_refl _), Nat.sub_self]; rfl
  have hxm : x ∈ f.pgs := pgs_data (by rw [hlx]; simp)
  obtain ⟨x1, x2⟩ := h.own x hxm
  have hi := h.ind
  have hnd := h.nodup
  have hown := h.own
  have cx := nfree_give x1 x2
  rw [hlen, Nat.add_sub_cancel, nd_succ]
  have hdl : f.data.dropLast = l := by rw [hlx]; exact List.dropLast_concat
  unfold rshrink1
  simp only [hlen, Nat.add_sub_cancel, hgx, hdl]
  by_cases h10 : l.length = 10
  · rw [if_pos h10, if_pos h10]
    have hi0 : f.ind ≠ 0 := fun e => by have := hi.1 e; omega
    have hpg : f.pgs = l ++ [x] ++ [f.ind] := by unfold RF.pgs; rw [if_neg hi0, hlx]
    rw [hpg] at hnd hown
    obtain ⟨n1, n2⟩ := nodup_snoc_inv hnd
    obtain ⟨n3, n4⟩ := nodup_snoc_inv n1
    have hne : f.ind ≠ x := fun e => n2 (by rw [e]; simp)
    obtain ⟨y1, y2⟩ := hown f.ind (by simp)
    have cy : nfree ((T.p.set x false).set f.ind false) = nfree (T.p.set x false) + 1 := nfree_give (by rw [List.length_set]; exact y1) (by rw [getD_setB _ _ _ _ x1, if_neg hne]; exact y2)
    refine ⟨?_, ?_, rfl, ⟨?_, fun n hn => ?_, ?_⟩⟩
    · show nfree ((T.p.set x false).set f.ind false) + _ = _; omega
    · show ((T.p.set x false).set f.ind false).length = _; rw [List.length_set, List.length_set]
    · show (0 : Nat) = 0 ↔ l.length ≤ 10; omega
    · have hn : n ∈ l := hn
      obtain ⟨q1, q2⟩ := hown n (by simp [hn])
      show n < ((T.p.set x false).set f.ind false).length ∧ ((T.p.set x false).set f.ind false).getD n false = true
      rw [List.length_set, List.length_set, getD_setB _ _ _ _ (by rw [List.length_set]; exact y1), if_neg (fun e => n2 (by rw [← e]; simp [hn])), getD_setB _ _ _ _ x1, if_neg (fun e => n4 (by rw [← e]; exact hn))]
      exact ⟨q1, q2⟩
    · show l.Nodup; exact n3
  · rw [if_neg h10, if_neg h10]
    have hmem : ∀ n, n ∈ ({ f with data := l, bytes := f.bytes.take (512 * l.length) } : RF).pgs → n ∈ f.pgs ∧ n ≠ x := by
      intro n hn
      unfold RF.pgs at hn ⊢ hnd
      simp only at hn
      by_cases e : f.ind = 0
      · rw [if_pos e] at hn hnd ⊢
        rw [hlx] at hnd ⊢
        obtain ⟨n1, n2⟩ := nodup_snoc_inv hnd
        exact ⟨by simp [hn], fun e => n2 (by rw [← e]; exact hn)⟩
      · rw [if_neg e] at hn hnd ⊢
        rw [hlx] at hnd ⊢
        obtain ⟨n1, n2⟩ := nodup_snoc_inv hnd
        obtain ⟨n3, n4⟩ := nodup_snoc_inv n1
        rcases List.mem_append.1 hn with hn | hn
        · exact ⟨by simp [hn], fun e => n4 (by rw [← e]; exact hn)⟩
        · have hn : n = f.ind := by simpa using hn
          exact ⟨by simp [hn], fun e => n2 (by rw [← hn, e]; simp)⟩
    refine ⟨?_, ?_, rfl, ⟨?_, fun n hn => ?_, ?_⟩⟩
    · show nfree (T.p.set x false) + _ = _; omega
    · show (T.p.set x false).length = _; rw [List.length_set]
    · show f.ind = 0 ↔ l.length ≤ 10; omega
    · obtain ⟨q1, q2⟩ := hmem n hn
      obtain ⟨r1, r2⟩ := hown n q1
      show n < (T.p.set x false).length ∧ (T.p.set x false).getD n false = true
      rw [List.length_set, getD_setB _ _ _ _ x1, if_neg q2]
      exact ⟨r1, r2⟩
    · unfold RF.pgs at hnd ⊢
      simp only
      by_cases e : f.ind = 0
      · rw [if_pos e] at hnd ⊢
        rw [hlx] at hnd
        exact (nodup_snoc_inv hnd).1
      · rw [if_neg e] at hnd ⊢
        rw [hlx] at hnd
        obtain ⟨n1, n2⟩ := nodup_snoc_inv hnd
        exact nodup_snoc (nodup_snoc_inv n1).1 (fun e => n2 (by simp [e]))
theorem rshrinkN_count : ∀ (n : Nat) {T : RS} {f : RF}, Owns T f → n ≤ f.data.length → nfree (rshrinkN n (T, f)).1.p + nd (f.data.length - n) = nfree T.p + nd f.data.length ∧ (rshrinkN n (T, f)).1.p.length = T.p.length
  | 0, T, f, _, _ => ⟨rfl, rfl⟩
  | n + 1, T, f, h, hn => by
    obtain ⟨a1, a2, a3, a4⟩ := rshrink1_count h (fun e => by rw [e] at hn; simp at hn)
    obtain ⟨b1, b2⟩ := rshrinkN_count n a4 (by omega)
    unfold rshrinkN
    rw [a3] at b1
    refine ⟨?_, b2.trans a2⟩
    have b3 : nfree (rshrinkN n (rshrink1 (T, f))).1.p + nd (f.data.length - 1 - n) = nfree (rshrink1 (T, f)).1.p + nd (f.data.length - 1) := b1
    rw [show f.data.length - 1 - n = f.data.length - (n + 1) from by omega] at b3
    omega
/-- With room a resize goes, and takes or gives what the sizes say. -/
theorem Rel.resizeN {C : Ca} {T : RS} {ex : Nat → Prop} {j size : Nat} (h : Rel C T ex) (hx : ∀ k, ex k → k = j) (ht : T.Tight) (hl : T.live j) (hsz : size ≤ 70656) (hr : nd (npg size) ≤ nfree T.p + nd (npg (T.file j).bytes.length)) :
    ∃ T', T.resize j size = some T' ∧ Resized T T' j size ∧ nfree T'.p + nd (npg size) = nfree T.p + nd (npg (T.file j).bytes.length) ∧ T'.p.length = T.p.length := by
  have hrs := h.resize (j := j) (size := size) hx ht hl hsz
  have hfo := (h.files j hl).2
  have htj := ht j
  have h0 : T.p.getD 0 false = true := h.sys 0 (by unfold RS.first alFirst; omega)
  rw [← htj] at hr ⊢
  have hex : ∃ T', T.resize j size = some T' ∧ nfree T'.p + nd (npg size) = nfree T.p + nd (T.file j).data.length ∧ T'.p.length = T.p.length := by
    unfold RS.resize
    by_cases hle : (T.file j).data.length ≤ npg size
    · obtain ⟨s, e1, c1, p1, d1⟩ := rgrowN_some (npg size - (T.file j).data.length) (T := T) (f := T.file j) hfo.ind h0 (by rw [show (T.file j).data.length + (npg size - (T.file j).data.length) = npg size from by omega]; exact hr)
      rw [show (T.file j).data.length + (npg size - (T.file j).data.length) = npg size from by omega] at c1 d1
      rw [e1]
      simp only
      refine ⟨_, rfl, ?_, ?_⟩
      · show nfree (rshrinkN (s.2.data.length - npg size) s).1.p + _ = _
        rw [d1, Nat.sub_self]; exact c1
      · show (rshrinkN (s.2.data.length - npg size) s).1.p.length = _
        rw [d1, Nat.sub_self]; exact p1
    · rw [show npg size - (T.file j).data.length = 0 from by omega]
      obtain ⟨c1, p1⟩ := rshrinkN_count ((T.file j).data.length - npg size) (hfo.owns h.np) (by omega)
      rw [show (T.file j).data.length - ((T.file j).data.length - npg size) = npg size from by omega] at c1
      exact ⟨_, rfl, c1, p1⟩
  obtain ⟨T', e, c, p⟩ := hex
  rw [e] at hrs
  obtain ⟨_, _, _, _, hz⟩ := hrs
  exact ⟨T', e, hz, c, p⟩
/-- What a write leaves. -/
structure Wrote (T T' : RS) (j at_ : Nat) (b : Str) : Prop where
  i : T'.i = T.i
  plen : T'.p.length = T.p.length
  llen : T'.l.length = T.l.length
  rest : ∀ k, k ≠ j → T'.file k = T.file k
  like : (T.file j).like (T'.file j)
  bytes : (T'.file j).bytes = laidAt (fitTo (T.file j).bytes (max (T.file j).bytes.length (at_ + b.length))) at_ b
  free : nfree T'.p + nd (npg (max (T.file j).bytes.length (at_ + b.length))) = nfree T.p + nd (npg (T.file j).bytes.length)
theorem Rel.writeN {C : Ca} {T : RS} {j at_ : Nat} {b : Str} (h : Rel C T (fun _ => False)) (ht : T.Tight) (hl : T.live j) (hsz : at_ + b.length ≤ 70656) (hr : nd (npg (max (T.file j).bytes.length (at_ + b.length))) ≤ nfree T.p + nd (npg (T.file j).bytes.length)) :
    ∃ T', T.write j at_ b = some T' ∧ Wrote T T' j at_ b := by
  have hfo := (h.files j hl).2
  have hmx : max (T.file j).bytes.length (at_ + b.length) ≤ 70656 := by have := hfo.size; omega
  obtain ⟨T1, e1, z1, c1, p1⟩ := h.resizeN (j := j) (size := max (T.file j).bytes.length (at_ + b.length)) (fun _ e => e.elim) ht hl hmx hr
  have hw : T.write j at_ b = some (T1.set j { T1.file j with bytes := laidAt (T1.file j).bytes at_ b }) := by unfold RS.write; rw [e1]
  obtain ⟨_, _, _, _, _, _, _, _, _, _, _, w1, w2, w3, w4, _, _⟩ := h.write ht hl hsz hw
  exact ⟨_, hw, w1, p1, by show (List.set _ _ _).length = _; rw [List.length_set]; exact z1.len, w2, w3, w4, c1⟩
end Go.Proofs.YtakmplpfjcddiaaGreatDoor

namespace Go.Proofs.YtakmplpfjcddiaaGreatDoor
open Go.RowKit Go.Shelf Pa
abbrev Ent := Str × Nat
def EntOk (e : Ent) : Prop := e.1.length ≤ 59 ∧ e.2 < 512 ∧ (e.2 = 0 → e.1 = [])
def EntsOk (es : List Ent) : Prop := ∀ e ∈ es, EntOk e
def encE (es : List Ent) : Str := es.flatMap fun e => encS e.1 e.2
theorem encE_append (a b : List Ent) : encE (a ++ b) = encE a ++ encE b := List.flatMap_append
theorem encE_cons (e : Ent) (b : List Ent) : encE (e :: b) = encS e.1 e.2 ++ encE b := List.flatMap_cons
theorem EntsOk.cons {e : Ent} {es : List Ent} : EntsOk (e :: es) ↔ EntOk e ∧ EntsOk es := by unfold EntsOk; simp
theorem EntsOk.append {a b : List Ent} : EntsOk (a ++ b) ↔ EntsOk a ∧ EntsOk b := by
  unfold EntsOk
  constructor
  · exact fun h => ⟨fun e he => h e (List.mem_append_left _ he), fun e he => h e (List.mem_append_right _ he)⟩
  · rintro ⟨h1, h2⟩ e he
    rcases List.mem_append.1 he with he | he
    · exact h1 e he
    · exact h2 e he
theorem encE_length : ∀ {es : List Ent}, EntsOk es → (encE es).length = 64 * es.length
  | [], _ => rfl
  | e :: es, h => by
    have ih := encE_length (EntsOk.cons.1 h).2
    rw [encE_cons, List.length_append, ih, encS_length _ _ (EntsOk.cons.1 h).1.1, List.length_cons]; omega
/-- A list about its k-th entry. -/
theorem ent_split {es : List Ent} {k : Nat} {e : Ent} (h : es[k]? = some e) : es = es.take k ++ e :: es.drop (k + 1) ∧ (es.take k).length = k ∧ k < es.length := by
  obtain ⟨hk, he⟩ := List.getElem?_eq_some_iff.1 h
  refine ⟨?_, by rw [List.length_take]; omega, hk⟩
  rw [← he, ← List.drop_eq_getElem_cons hk, List.take_append_drop]
theorem encS_dec {nm : Str} {i : Nat} (h : EntOk (nm, i)) : ((encS nm i).drop 5).take (min ((encS nm i).getD 4 0).toNat 59) = nm ∧ getN ((encS nm i).take 4) = i := by
  obtain ⟨h1, h2, h3⟩ := h
  simp only at h1 h2 h3
  unfold encS
  by_cases h0 : i = 0
  · subst h0
    rw [if_pos rfl, h3 rfl]
    exact ⟨rfl, rfl⟩
  · rw [if_neg h0]
    have hb : ∀ a b c : UInt8, ((((List.replicate 64 (0 : UInt8)).set 2 a).set 3 b).set 4 c).take 5 = [0, 0, a, b, c] := fun a b c => rfl
    unfold laidAt
    rw [hb]
    have h4 : (UInt8.ofNat nm.length).toNat = nm.length := by
      have : (UInt8.ofNat nm.length).toNat = nm.length % 256 := UInt8.toNat_ofNat' ..
      omega
    have h5 : (UInt8.ofNat (i / 256)).toNat = i / 256 := by
      have : (UInt8.ofNat (i / 256)).toNat = i / 256 % 256 := UInt8.toNat_ofNat' ..
      omega
    have h6 : (UInt8.ofNat i).toNat = i % 256 := UInt8.toNat_ofNat' ..
    refine ⟨?_, ?_⟩
    · simp only [List.cons_append, List.nil_append, List.getD_cons_succ, List.getD_cons_zero, List.drop_succ_cons, List.drop_zero, h4]
      rw [Nat.min_eq_left h1, List.take_left']
      rfl
    · simp only [List.cons_append, List.nil_append, List.take_succ_cons, List.take_zero, getN, List.foldl_cons, List.foldl_nil, h5, h6]
      show (((0 * 256 + 0) * 256 + 0) * 256 + i / 256) * 256 + i % 256 = i
      omega
theorem decS_at {p x q : Str} {k : Nat} (hp : p.length = 64 * k) (hx : x.length = 64) : decS (p ++ (x ++ q)) k = ⟨64 * k, (x.drop 5).take (min (x.getD 4 0).toNat 59), getN (x.take 4)⟩ := by
  unfold decS
  have h1 : (p ++ (x ++ q)).drop (64 * k) = x ++ q := by rw [← hp, List.drop_left]
  have h2 : (p ++ (x ++ q)).drop (64 * k + 5) = (x ++ q).drop 5 := by rw [← List.drop_drop, h1]
  have h3 : (p ++ (x ++ q)).getD (64 * k + 4) 0 = x.getD 4 0 := by
    rw [List.getD_eq_getElem?_getD, List.getElem?_append_right (by omega), List.getElem?_append_left (by omega), List.getD_eq_getElem?_getD]
    congr 2; omega
  rw [h1, h2, h3, List.drop_append_of_le_length (by omega), List.take_append_of_le_length (by rw [List.length_drop]; omega), List.take_append_of_le_length (by omega)]
theorem decS_encE {es : List Ent} {k : Nat} {e : Ent} (h : EntsOk es) (he : es[k]? = some e) : decS (encE es) k = ⟨64 * k, e.1, e.2⟩ := by
  obtain ⟨h1, h2, h3⟩ := ent_split he
  have hok := h
  rw [h1] at hok
  obtain ⟨ha, hb⟩ := EntsOk.append.1 hok
  have he := (EntsOk.cons.1 hb).1
  rw [h1, encE_append, encE_cons, decS_at (by rw [encE_length ha, h2]) (encS_length _ _ he.1), (encS_dec he).1, (encS_dec he).2]
/-- Entries with their places from the n-th on. -/
def slE : Nat → List Ent → List Sl
  | _, [] => []
  | n, e :: es => ⟨64 * n, e.1, e.2⟩ :: slE (n + 1) es
theorem slE_at : ∀ (n : Nat) (es : List Ent) (k : Nat), (slE n es)[k]? = es[k]?.map fun e => ⟨64 * (n + k), e.1, e.2⟩
  | _, [], k => by simp [slE]
  | n, e :: es, 0 => rfl
  | n, e :: es, k + 1 => by
    rw [slE, List.getElem?_cons_succ, List.getElem?_cons_succ, slE_at (n + 1) es k, show n + 1 + k = n + (k + 1) from by omega]
theorem slotsP_encE {es : List Ent} (h : EntsOk es) : slotsP (encE es) = slE 0 es := by
  refine List.ext_getElem? fun k => ?_
  have hl : (encE es).length / 64 = es.length := by rw [encE_length h]; omega
  rw [slE_at]
  unfold slotsP
  rw [List.getElem?_map, hl, Nat.zero_add]
  by_cases hk : k < es.length
  · rw [List.getElem?_range hk, List.getElem?_eq_getElem hk]
    exact congrArg some (decS_encE h (List.getElem?_eq_getElem hk))
  · rw [List.getElem?_eq_none (by rw [List.length_range]; omega), List.getElem?_eq_none (by omega)]; rfl
/-- The used entries. -/
def usedE (es : List Ent) : List Ent := es.filter fun e => decide (e.2 ≠ 0)
theorem namesP_slE : ∀ (n : Nat) (es : List Ent), namesP (slE n es) = (usedE es).map (·.1)
  | _, [] => rfl
  | n, e :: es => by
    have ih := namesP_slE (n + 1) es
    unfold namesP usedE at ih ⊢
    rw [slE, List.filter_cons, List.filter_cons]
    by_cases h : e.2 = 0 <;> simp [h] <;> simpa using ih
theorem usedP_slE : ∀ (n : Nat) (es : List Ent), usedP (slE n es) = (usedE es).length
  | _, [] => rfl
  | n, e :: es => by
    have ih := usedP_slE (n + 1) es
    unfold usedP usedE at ih ⊢
    rw [slE, List.filter_cons, List.filter_cons]
    by_cases h : e.2 = 0 <;> simp [h] <;> simpa using ih
theorem mem_used {es : List Ent} {e : Ent} : e ∈ usedE es ↔ e ∈ es ∧ e.2 ≠ 0 := by unfold usedE; simp
theorem usedE_append (a b : List Ent) : usedE (a ++ b) = usedE a ++ usedE b := List.filter_append ..
theorem usedE_hit {e : Ent} (es : List Ent) (h : e.2 ≠ 0) : usedE (e :: es) = e :: usedE es := by unfold usedE; rw [List.filter_cons_of_pos (by simpa using h)]
theorem usedE_miss {e : Ent} (es : List Ent) (h : e.2 = 0) : usedE (e :: es) = usedE es := by unfold usedE; rw [List.filter_cons_of_neg (by simpa using h)]
theorem findP_encE {es : List Ent} (h : EntsOk es) (nm : Str) : match findP (encE es) nm with
    | some x => ∃ k i, es[k]? = some (nm, i) ∧ i ≠ 0 ∧ x = ⟨64 * k, nm, i⟩
    | none => ∀ i, (nm, i) ∉ usedE es := by
  unfold findP
  rw [slotsP_encE h]
  cases hf : (slE 0 es).find? fun x => decide (x.i ≠ 0) && decide (x.name = nm) with
  | some x =>
    have h1 := List.find?_some hf
    obtain ⟨k, hk⟩ := List.getElem?_of_mem (List.mem_of_find?_eq_some hf)
    rw [slE_at, Nat.zero_add] at hk
    cases he : es[k]? with
    | none => rw [he] at hk; cases hk
    | some e =>
      rw [he] at hk
      have hk := Option.some.inj hk
      subst hk
      simp only [Bool.and_eq_true, decide_eq_true_eq] at h1
      obtain ⟨h1, h2⟩ := h1
      obtain ⟨e1, e2⟩ := e
      simp only at h1 h2
      subst h2
      exact ⟨k, e2, he, h1, rfl⟩
  | none =>
    intro i hi
    obtain ⟨hm, h0⟩ := mem_used.1 hi
    obtain ⟨k, hk⟩ := List.getElem?_of_mem hm
    rw [List.find?_eq_none] at hf
    have : (⟨64 * (0 + k), nm, i⟩ : Sl) ∈ slE 0 es := List.mem_of_getElem? (i := k) (by rw [slE_at, hk]; rfl)
    have := hf _ this
    simp at this
    exact h0 this
theorem addAt_encE {es : List Ent} (h : EntsOk es) : ∃ k, addAt (encE es) = 64 * k ∧ (k = es.length ∨ ∃ nm, es[k]? = some (nm, 0)) := by
  unfold addAt freeP
  rw [slotsP_encE h]
  cases hf : (slE 0 es).find? fun x => decide (x.i = 0) with
  | some x =>
    have h1 := List.find?_some hf
    obtain ⟨k, hk⟩ := List.getElem?_of_mem (List.mem_of_find?_eq_some hf)
    rw [slE_at, Nat.zero_add] at hk
    cases he : es[k]? with
    | none => rw [he] at hk; cases hk
    | some e =>
      rw [he] at hk
      have hk := Option.some.inj hk
      subst hk
      obtain ⟨e1, e2⟩ := e
      simp only [decide_eq_true_eq] at h1
      subst h1
      exact ⟨k, rfl, .inr ⟨e1, he⟩⟩
  | none => exact ⟨es.length, encE_length h, .inl rfl⟩
/-- An entry is laid, at its place or behind all. -/
def putE (es : List Ent) (k : Nat) (e : Ent) : List Ent := es.take k ++ e :: es.drop (k + 1)
theorem putE_ok {es : List Ent} {k : Nat} {e : Ent} (h : EntsOk es) (he : EntOk e) : EntsOk (putE es k e) :=
  EntsOk.append.2 ⟨fun x hx => h x (List.mem_of_mem_take hx), EntsOk.cons.2 ⟨he, fun x hx => h x (List.mem_of_mem_drop hx)⟩⟩
theorem putE_length {es : List Ent} {k : Nat} (e : Ent) (hk : k ≤ es.length) : (putE es k e).length = max es.length (k + 1) := by
  unfold putE
  rw [List.length_append, List.length_cons, List.length_take, List.length_drop]; omega
theorem laid_putE {es : List Ent} {k : Nat} {e : Ent} (h : EntsOk es) (he : EntOk e) (hk : k ≤ es.length) : laidAt (fitTo (encE es) (max (encE es).length (64 * k + (encS e.1 e.2).length))) (64 * k) (encS e.1 e.2) = encE (putE es k e) := by
  have hl := encE_length h
  have hx := encS_length e.1 e.2 he.1
  have hsp : encE es = encE (es.take k) ++ encE (es.drop k) := by rw [← encE_append, List.take_append_drop]
  have hlt : (encE (es.take k)).length = 64 * k := by rw [encE_length (fun x hx => h x (List.mem_of_mem_take hx)), List.length_take]; omega
  have hsp2 : encE es = encE (es.take (k + 1)) ++ encE (es.drop (k + 1)) := by rw [← encE_append, List.take_append_drop]
  unfold putE
  rw [encE_append, encE_cons]
  unfold laidAt
  rw [hx]
  by_cases hlast : k = es.length
  · have hd : es.drop (k + 1) = [] := List.drop_eq_nil_of_le (by omega)
    have ht : es.take k = es := List.take_of_length_le (by omega)
    rw [hd, ht, hl, show max (64 * es.length) (64 * k + 64) = 64 * es.length + 64 from by omega]
    unfold fitTo
    rw [hl, show 64 * es.length + 64 - 64 * es.length = 64 from by omega, List.take_of_length_le (l := encE es) (by omega), hlast, List.drop_eq_nil_of_le (by rw [List.length_append, hl, List.length_replicate]; exact Nat.le_refl _), List.take_append_of_le_length (by omega), List.take_of_length_le (l := encE es) (by omega), List.append_assoc]
    rfl
  · have hmx : max (encE es).length (64 * k + 64) = (encE es).length := by omega
    have hft : fitTo (encE es) (encE es).length = encE es := by unfold fitTo; rw [List.take_length, Nat.sub_self]; simp
    have hlt2 : (encE (es.take (k + 1))).length = 64 * k + 64 := by rw [encE_length (fun x hx => h x (List.mem_of_mem_take hx)), List.length_take]; omega
    rw [hmx, hft, List.append_assoc]
    congr 1
    · rw [hsp, ← hlt, List.take_left]
    · congr 1
      conv => lhs; rw [hsp2, ← hlt2, List.drop_left]
theorem usedE_put {es : List Ent} {k i : Nat} {nm : Str} (hk : k = es.length ∨ ∃ nm', es[k]? = some (nm', 0)) (hi : i ≠ 0) : (usedE (putE es k (nm, i))).Perm ((nm, i) :: usedE es) := by
  unfold putE
  rcases hk with hk | ⟨nm', hk⟩
  · rw [List.drop_eq_nil_of_le (by omega), List.take_of_length_le (by omega), usedE_append, usedE_hit _ (by exact hi)]
    exact List.perm_append_comm
  · have h1 := (ent_split hk).1
    conv => rhs; rw [h1, usedE_append, usedE_miss _ (by rfl)]
    rw [usedE_append, usedE_hit _ (by exact hi)]
    exact List.perm_middle
theorem usedE_del {es : List Ent} {k : Nat} {e : Ent} (hk : es[k]? = some e) (he : e.2 ≠ 0) : (e :: usedE (putE es k ([], 0))).Perm (usedE es) := by
  have h1 := (ent_split hk).1
  conv => rhs; rw [h1, usedE_append, usedE_hit _ he]
  unfold putE
  rw [usedE_append, usedE_miss _ (by rfl)]
  exact List.perm_middle.symm
end Go.Proofs.YtakmplpfjcddiaaGreatDoor

namespace Go.Proofs.YtakmplpfjcddiaaGreatDoor
open Go.RowKit Go.Shelf Pa
/-- What is found of a name among used entries: its inode, the error. -/
def fnd (u : List Ent) (nm : Str) : Nat × Nat := match u.find? (fun e => decide (e.1 = nm)) with | some e => (e.2, 0) | none => (0, 4)
theorem fnd_cons (e : Ent) (u : List Ent) (nm : Str) : fnd (e :: u) nm = if e.1 = nm then (e.2, 0) else fnd u nm := by
  unfold fnd
  rw [List.find?_cons]
  by_cases h : e.1 = nm <;> simp [h]
theorem fnd_mem : ∀ {u : List Ent} {nm : Str} {i : Nat}, (u.map (·.1)).Nodup → (nm, i) ∈ u → fnd u nm = (i, 0)
  | [], _, _, _, h => by cases h
  | e :: u, nm, i, hn, h => by
    rw [fnd_cons]
    rw [List.map_cons, List.nodup_cons] at hn
    rcases List.mem_cons.1 h with h | h
    · rw [← h, if_pos rfl]
    · rw [if_neg (fun e2 => hn.1 (by rw [e2]; exact List.mem_map.2 ⟨_, h, rfl⟩))]
      exact fnd_mem hn.2 h
theorem fnd_not {u : List Ent} {nm : Str} (h : ∀ i, (nm, i) ∉ u) : fnd u nm = (0, 4) := by
  unfold fnd
  have : u.find? (fun e => decide (e.1 = nm)) = none := by
    rw [List.find?_eq_none]
    rintro ⟨a, b⟩ he e
    simp only [decide_eq_true_eq] at e
    subst e
    exact h b he
  rw [this]
theorem fnd_perm {u v : List Ent} {nm : Str} (h : u.Perm v) (hn : (u.map (·.1)).Nodup) : fnd u nm = fnd v nm := by
  by_cases he : ∃ i, (nm, i) ∈ u
  · obtain ⟨i, hi⟩ := he
    rw [fnd_mem hn hi, fnd_mem ((h.map _).nodup_iff.1 hn) (h.mem_iff.1 hi)]
  · rw [fnd_not fun i hi => he ⟨i, hi⟩, fnd_not fun i hi => he ⟨i, h.mem_iff.2 hi⟩]
theorem fnd_two (u : List Ent) (nm : Str) : (∃ i, (nm, i) ∈ u ∧ fnd u nm = (i, 0)) ∨ ((∀ i, (nm, i) ∉ u) ∧ fnd u nm = (0, 4)) := by
  induction u with
  | nil => exact .inr ⟨fun i hi => (by cases hi), rfl⟩
  | cons e u ih =>
    rw [fnd_cons]
    by_cases h : e.1 = nm
    · rw [if_pos h]
      exact .inl ⟨e.2, by rw [← h]; simp, rfl⟩
    · rw [if_neg h]
      rcases ih with ⟨i, h1, h2⟩ | ⟨h1, h2⟩
      · exact .inl ⟨i, List.mem_cons_of_mem _ h1, h2⟩
      · exact .inr ⟨fun i hi => by
          rcases List.mem_cons.1 hi with hi | hi
          · exact h (by rw [← hi])
          · exact h1 i hi, h2⟩
structure DirT (T : RS) (es : Nat → List Ent) : Prop where
  ino : T.i = [true, true, true, true] ++ List.replicate 12 false
  plen : T.p.length = 100
  k1 : (T.file 1).kind = 2
  k2 : (T.file 2).kind = 1
  k3 : (T.file 3).kind = 2
  b : ∀ j, (T.file j).bytes = encE (es j)
  ok : ∀ j, EntsOk (es j)
  nm : ∀ j, ∀ e ∈ usedE (es j), nameOk e.1 = true
  nodup : ∀ j, ((usedE (es j)).map (·.1)).Nodup
  rest : ∀ j, j ≠ 1 → j ≠ 3 → es j = []
  free : nfree T.p + npg (64 * (es 1).length) + npg (64 * (es 3).length) = 95
theorem DirT.get {T : RS} {es : Nat → List Ent} (h : DirT T es) (j : Nat) : T.i.getD j false = decide (j < 4) := by
  rw [h.ino]
  match j with
  | 0 => rfl
  | 1 => rfl
  | 2 => rfl
  | 3 => rfl
  | j + 4 =>
    rw [List.getD_eq_getElem?_getD, List.getElem?_append_right (by simp), List.getElem?_replicate]
    split <;> simp
theorem DirT.inodes {T : RS} {es : Nat → List Ent} (h : DirT T es) : T.inodes = 16 := by unfold RS.inodes; rw [h.ino]; rfl
theorem DirT.live {T : RS} {es : Nat → List Ent} (h : DirT T es) (j : Nat) : T.live j ↔ j = 1 ∨ j = 2 ∨ j = 3 := by
  unfold RS.live
  rw [h.get]
  simp only [decide_eq_true_eq]
  omega
theorem DirT.look0 {T : RS} {es : Nat → List Ent} (h : DirT T es) (d : Int) : lookE T d = 0 ↔ d = 1 ∨ d = 3 := by
  constructor
  · intro h0
    obtain ⟨h1, h2⟩ := lookE_ok h0
    obtain ⟨l1, l2, _, _⟩ := look_live h1
    rcases (h.live _).1 l1 with e | e | e
    · left; omega
    · rw [e, h.k2] at h2; cases h2
    · right; omega
  · have hE : ∀ j : Nat, (j = 1 ∨ j = 3) → lookE T (j : Int) = 0 := by
      intro j hj
      have hk : (T.file j).kind = 2 := by
        rcases hj with rfl | rfl
        · exact h.k1
        · exact h.k3
      have hl : T.look (j : Int) = 0 := by
        unfold RS.look
        rw [if_neg (by rw [h.inodes]; omega), if_neg]
        rintro (e | e)
        · rw [Int.toNat_natCast, h.get] at e
          simp at e; omega
        · rw [Int.toNat_natCast, hk] at e; cases e
      unfold lookE
      rw [if_neg (fun e => e hl), if_neg (fun e => e (by rw [Int.toNat_natCast]; exact hk))]
    rintro (rfl | rfl)
    · exact hE 1 (.inl rfl)
    · exact hE 3 (.inr rfl)
theorem DirT.lookB {T : RS} {es : Nat → List Ent} (h : DirT T es) {d : Int} (h0 : lookE T d = 0) : lookB T d = encE (es d.toNat) := by
  unfold Go.Proofs.YtakmplpfjcddiaaGreatDoor.lookB
  rw [if_pos h0, h.b]
theorem DirT.findR {T : RS} {es : Nat → List Ent} (h : DirT T es) (d : Int) (nm : Str) : ((findR T d nm).1.i, (findR T d nm).2.2) = if lookE T d ≠ 0 then (0, lookE T d) else if nameOk nm = false then (0, 8) else fnd (usedE (es d.toNat)) nm := by
  unfold Go.Proofs.YtakmplpfjcddiaaGreatDoor.findR
  by_cases h0 : lookE T d = 0
  · have e0 : ¬ (lookE T d ≠ 0) := fun e => e h0
    simp only [if_neg e0]
    by_cases h1 : nameOk nm = false
    · simp only [if_pos h1]
    · simp only [if_neg h1]
      rw [h.lookB h0]
      have hf := findP_encE (h.ok d.toNat) nm
      cases hp : findP (encE (es d.toNat)) nm with
      | some x =>
        rw [hp] at hf
        obtain ⟨k, i, e1, e2, e3⟩ := hf
        rw [fnd_mem (h.nodup _) (mem_used.2 ⟨List.mem_of_getElem? e1, e2⟩), e3]
      | none =>
        rw [hp] at hf
        rw [fnd_not hf]
  · have e0 : lookE T d ≠ 0 := h0
    simp only [if_pos e0]
theorem DirT.findE {T : RS} {es : Nat → List Ent} (h : DirT T es) (d : Int) (nm : Str) : (Go.Proofs.YtakmplpfjcddiaaGreatDoor.findR T d nm).2.2 = if lookE T d ≠ 0 then lookE T d else if nameOk nm = false then 8 else (fnd (usedE (es d.toNat)) nm).2 := by
  have := congrArg Prod.snd (h.findR d nm)
  simp only at this
  rw [this]
  split
  · rfl
  · split <;> rfl
theorem DirT.addE {T : RS} {es : Nat → List Ent} (h : DirT T es) (d i : Int) (nm : Str) : addE T d nm i = if lookE T d ≠ 0 then lookE T d else if nameOk nm = false then 8 else if i < 1 ∨ 512 ≤ i then 2 else if (fnd (usedE (es d.toNat)) nm).2 = 0 then 5 else 0 := by
  unfold Go.Proofs.YtakmplpfjcddiaaGreatDoor.addE
  rw [h.findE]
  by_cases h0 : lookE T d = 0
  · have e0 : ¬ (lookE T d ≠ 0) := fun e => e h0
    simp only [if_neg e0]
    by_cases h1 : nameOk nm = false
    · simp only [if_pos h1]; rfl
    · simp only [if_neg h1]
      rcases fnd_two (usedE (es d.toNat)) nm with ⟨i, _, e⟩ | ⟨_, e⟩ <;> rw [e] <;> rfl
  · have e0 : lookE T d ≠ 0 := h0
    simp only [if_pos e0]
theorem EntsOk.npg {es : List Ent} (h : es.length ≤ 61) : nd (npg (64 * es.length)) = npg (64 * es.length) := by
  unfold nd
  rw [if_neg (by unfold Go.Proofs.YtakmplpfjcddiaaGreatDoor.npg; omega)]
theorem DirT.put {C : Ca} {T : RS} {es : Nat → List Ent} (h : DirT T es) (hr : Rel C T (fun _ => False)) (ht : T.Tight) {j k : Nat} (hj : j = 1 ∨ j = 3) (hc : ∀ j, (es j).length ≤ 60) {e : Ent} (he : EntOk e) (hk : k ≤ (es j).length)
    (hnm : ∀ x ∈ usedE (putE (es j) k e), nameOk x.1 = true) (hnd : ((usedE (putE (es j) k e)).map (·.1)).Nodup) :
    64 * k + 64 ≤ 70656 ∧ ∃ T', T.write j (64 * k) (encS e.1 e.2) = some T' ∧ DirT T' (fun m => if m = j then putE (es j) k e else es m) := by
  have hl : T.live j := (h.live j).2 (by omega)
  have hcj := hc j
  have hel := encS_length e.1 e.2 he.1
  have hbl : (T.file j).bytes.length = 64 * (es j).length := by rw [h.b, encE_length (h.ok j)]
  have hpl := putE_length (k := k) e hk
  have hmx : max (64 * (es j).length) (64 * k + 64) = 64 * (putE (es j) k e).length := by omega
  have hfr := h.free
  have h1 := hc 1
  have h3 := hc 3
  have n0 : nd (npg (64 * (es j).length)) = npg (64 * (es j).length) := EntsOk.npg (by omega)
  have n1 : nd (npg (64 * (putE (es j) k e).length)) = npg (64 * (putE (es j) k e).length) := EntsOk.npg (by omega)
  have b1 : npg (64 * (es 1).length) ≤ 8 := by unfold npg; omega
  have b3 : npg (64 * (es 3).length) ≤ 8 := by unfold npg; omega
  have b4 : npg (64 * (putE (es j) k e).length) ≤ 8 := by unfold npg; omega
  refine ⟨by omega, ?_⟩
  obtain ⟨T', hw, w⟩ := hr.writeN (j := j) (at_ := 64 * k) (b := encS e.1 e.2) ht hl (by rw [hel]; omega) (by rw [hbl, hel, hmx, n0, n1]; omega)
  refine ⟨T', hw, ?_⟩
  have hfree := w.free
  rw [hbl, hel, hmx, n0, n1] at hfree
  have hkd : ∀ m, (T'.file m).kind = (T.file m).kind := fun m => by
    by_cases e : m = j
    · rw [e]; exact w.like.kind
    · rw [w.rest m e]
  refine ⟨by rw [w.i]; exact h.ino, by rw [w.plen]; exact h.plen, by rw [hkd]; exact h.k1, by rw [hkd]; exact h.k2, by rw [hkd]; exact h.k3, fun m => ?_, fun m => ?_, fun m => ?_, fun m => ?_, fun m m1 m3 => ?_, ?_⟩
  · by_cases e : m = j
    · rw [if_pos e, e, w.bytes, h.b]; exact laid_putE (h.ok j) he hk
    · rw [if_neg e, w.rest m e]; exact h.b m
  · by_cases e : m = j
    · rw [if_pos e]; exact putE_ok (h.ok j) he
    · rw [if_neg e]; exact h.ok m
  · by_cases e : m = j
    · rw [if_pos e]; exact hnm
    · rw [if_neg e]; exact h.nm m
  · by_cases e : m = j
    · rw [if_pos e]; exact hnd
    · rw [if_neg e]; exact h.nodup m
  · rw [if_neg (by omega)]; exact h.rest m m1 m3
  · rcases hj with rfl | rfl
    · show nfree T'.p + npg (64 * (putE (es 1) k e).length) + npg (64 * (es 3).length) = 95; omega
    · show nfree T'.p + npg (64 * (es 1).length) + npg (64 * (putE (es 3) k e).length) = 95; omega
theorem DirT.add {C : Ca} {T : RS} {es : Nat → List Ent} (h : DirT T es) (hr : Rel C T (fun _ => False)) (ht : T.Tight) {d i : Int} {nm : Str} (hc : ∀ j, (es j).length ≤ 60) (he : Go.Proofs.YtakmplpfjcddiaaGreatDoor.addE T d nm i = 0) :
    addAt (Go.Proofs.YtakmplpfjcddiaaGreatDoor.lookB T d) + 64 ≤ 70656 ∧ ∃ T' es', T.write d.toNat (addAt (Go.Proofs.YtakmplpfjcddiaaGreatDoor.lookB T d)) (encS nm i.toNat) = some T' ∧ DirT T' es' ∧ (∀ j, j ≠ d.toNat → es' j = es j) ∧ (usedE (es' d.toNat)).Perm ((nm, i.toNat) :: usedE (es d.toNat)) ∧ ∀ j, (es' j).length ≤ (es j).length + 1 := by
  have ha := h.addE d i nm
  rw [he] at ha
  by_cases h0 : lookE T d = 0
  case neg => rw [if_pos h0] at ha; exact absurd ha.symm h0
  rw [if_neg (fun e => e h0)] at ha
  by_cases h1 : nameOk nm = false
  case pos => rw [if_pos h1] at ha; cases ha
  rw [if_neg h1] at ha
  by_cases h2 : i < 1 ∨ 512 ≤ i
  case pos => rw [if_pos h2] at ha; cases ha
  rw [if_neg h2] at ha
  have h1 : nameOk nm = true := by simpa using h1
  have hf : ∀ i, (nm, i) ∉ usedE (es d.toNat) := by
    rcases fnd_two (usedE (es d.toNat)) nm with ⟨i, _, e⟩ | ⟨e, _⟩
    · rw [e, if_pos rfl] at ha; cases ha
    · exact e
  have hj : d.toNat = 1 ∨ d.toNat = 3 := by
    rcases (h.look0 d).1 h0 with rfl | rfl
    · exact .inl rfl
    · exact .inr rfl
  obtain ⟨k, e1, hk⟩ := addAt_encE (h.ok d.toNat)
  have hkl : k ≤ (es d.toNat).length := by
    rcases hk with hk | ⟨_, hk⟩
    · omega
    · exact Nat.le_of_lt (List.getElem?_eq_some_iff.1 hk).1
  have hok : EntOk (nm, i.toNat) := by
    refine ⟨?_, by show i.toNat < 512; omega, fun e => by have : i.toNat = 0 := e; omega⟩
    unfold nameOk at h1
    simp at h1
    show nm.length ≤ 59; omega
  have hp := usedE_put (nm := nm) (i := i.toNat) hk (by omega)
  rw [h.lookB h0, e1]
  obtain ⟨a1, T', a2, a3⟩ := h.put hr ht hj hc hok hkl (fun x hx => by
    rcases List.mem_cons.1 (hp.mem_iff.1 hx) with hx | hx
    · rw [hx]; exact h1
    · exact h.nm _ x hx) (by
    rw [(hp.map _).nodup_iff, List.map_cons, List.nodup_cons]
    refine ⟨fun hm => ?_, h.nodup _⟩
    obtain ⟨⟨a, b⟩, h3, h4⟩ := List.mem_map.1 hm
    simp only at h4
    subst h4
    exact hf b h3)
  refine ⟨a1, T', _, a2, a3, fun j hj => if_neg hj, by simpa using hp, fun j => ?_⟩
  by_cases e : j = d.toNat
  · simp only [e, if_true]; rw [putE_length _ hkl]; omega
  · simp only [e, if_false]; omega
theorem DirT.drop {C : Ca} {T : RS} {es : Nat → List Ent} (h : DirT T es) (hr : Rel C T (fun _ => False)) (ht : T.Tight) {d : Int} {nm : Str} (hc : ∀ j, (es j).length ≤ 60) (he : (Go.Proofs.YtakmplpfjcddiaaGreatDoor.findR T d nm).2.2 = 0) :
    ∃ T' es', (dropT T d nm = some T' ∧ (Go.Proofs.YtakmplpfjcddiaaGreatDoor.findR T d nm).1.at_ + 64 ≤ 70656 ∧ Go.Proofs.YtakmplpfjcddiaaGreatDoor.lookB T d ≠ []) ∧ DirT T' es' ∧ (∀ j, j ≠ d.toNat → es' j = es j) ∧ ((nm, (Go.Proofs.YtakmplpfjcddiaaGreatDoor.findR T d nm).1.i) :: usedE (es' d.toNat)).Perm (usedE (es d.toNat)) ∧ ∀ j, (es' j).length ≤ (es j).length := by
  have ha := h.findE d nm
  rw [he] at ha
  by_cases h0 : lookE T d = 0
  case neg => rw [if_pos h0] at ha; exact absurd ha.symm h0
  rw [if_neg (fun e => e h0)] at ha
  by_cases h1 : nameOk nm = false
  case pos => rw [if_pos h1] at ha; cases ha
  have hj : d.toNat = 1 ∨ d.toNat = 3 := by
    rcases (h.look0 d).1 h0 with rfl | rfl
    · exact .inl rfl
    · exact .inr rfl
  have hf := findP_encE (h.ok d.toNat) nm
  have hB := h.lookB h0
  have hfr : ∃ k i, (es d.toNat)[k]? = some (nm, i) ∧ i ≠ 0 ∧ (Go.Proofs.YtakmplpfjcddiaaGreatDoor.findR T d nm).1 = ⟨64 * k, nm, i⟩ := by
    unfold Go.Proofs.YtakmplpfjcddiaaGreatDoor.findR at he ⊢
    rw [if_neg (fun e => e h0), if_neg h1, hB] at he ⊢
    cases hp : findP (encE (es d.toNat)) nm with
    | some x =>
      rw [hp] at hf
      obtain ⟨k, i, e1, e2, e3⟩ := hf
      exact ⟨k, i, e1, e2, e3⟩
    | none => rw [hp] at he; cases he
  obtain ⟨k, i, e1, e2, e3⟩ := hfr
  have hkl : k < (es d.toNat).length := (List.getElem?_eq_some_iff.1 e1).1
  have hcj := hc d.toNat
  have hl : T.live d.toNat := (h.live _).2 (by omega)
  have hbl : (T.file d.toNat).bytes.length = 64 * (es d.toNat).length := by rw [h.b, encE_length (h.ok _)]
  have hne : Go.Proofs.YtakmplpfjcddiaaGreatDoor.lookB T d ≠ [] := fun e => by
    rw [hB] at e
    have := encE_length (h.ok d.toNat)
    rw [e] at this
    simp at this; omega
  have hu : usedP (slotsP (Go.Proofs.YtakmplpfjcddiaaGreatDoor.lookB T d)) = (usedE (es d.toNat)).length := by rw [hB, slotsP_encE (h.ok _), usedP_slE]
  unfold dropT
  rw [hu, e3]
  by_cases h1 : (usedE (es d.toNat)).length = 1
  · rw [if_pos h1]
    have n0 : nd (npg (64 * (es d.toNat).length)) = npg (64 * (es d.toNat).length) := EntsOk.npg (by omega)
    have hz : nd (npg 0) = 0 := by decide
    obtain ⟨T', a1, a2, a3, a4⟩ := hr.resizeN (j := d.toNat) (size := 0) (fun _ e => e.elim) ht hl (by omega) (by rw [hz]; omega)
    rw [hbl, n0, hz] at a3
    have hfree := h.free
    have hkd : ∀ m, (T'.file m).kind = (T.file m).kind := fun m => by
      by_cases e : m = d.toNat
      · rw [e]; exact a2.like.kind
      · rw [a2.rest m e]
    refine ⟨T', fun m => if m = d.toNat then [] else es m, ⟨a1, by show 64 * k + 64 ≤ 70656; omega, hne⟩, ?_, fun j hj => if_neg hj, ?_, fun m => ?_⟩
    · refine ⟨by rw [a2.i]; exact h.ino, by rw [a4]; exact h.plen, by rw [hkd]; exact h.k1, by rw [hkd]; exact h.k2, by rw [hkd]; exact h.k3, fun m => ?_, fun m => ?_, fun m => ?_, fun m => ?_, fun m m1 m3 => ?_, ?_⟩
      · by_cases e : m = d.toNat
        · rw [if_pos e, e, a2.bytes]; unfold fitTo; simp [encE]
        · rw [if_neg e, a2.rest m e]; exact h.b m
      · by_cases e : m = d.toNat
        · rw [if_pos e]; intro x hx; cases hx
        · rw [if_neg e]; exact h.ok m
      · by_cases e : m = d.toNat
        · rw [if_pos e]; intro x hx; cases hx
        · rw [if_neg e]; exact h.nm m
      · by_cases e : m = d.toNat
        · rw [if_pos e]; exact List.nodup_nil
        · rw [if_neg e]; exact h.nodup m
      · rw [if_neg (by omega)]; exact h.rest m m1 m3
      · rcases hj with hj | hj
        · rw [hj] at a3
          rw [hj]
          show nfree T'.p + npg (64 * 0) + npg (64 * (es 3).length) = 95; rw [show npg (64 * 0) = 0 from by decide]; omega
        · rw [hj] at a3
          rw [hj]
          show nfree T'.p + npg (64 * (es 1).length) + npg (64 * 0) = 95; rw [show npg (64 * 0) = 0 from by decide]; omega
    · simp only [if_true]
      have hm : (nm, i) ∈ usedE (es d.toNat) := mem_used.2 ⟨List.mem_of_getElem? e1, e2⟩
      obtain ⟨x, hx⟩ := List.length_eq_one_iff.1 h1
      rw [hx] at hm ⊢
      have : (nm, i) = x := by simpa using hm
      rw [← this]; exact List.Perm.refl _
    · by_cases e : m = d.toNat
      · simp only [e, if_true]; exact Nat.zero_le _
      · simp only [e, if_false]; exact Nat.le_refl _
  · rw [if_neg h1]
    have hp := usedE_del e1 e2
    have hp2 := hp.map (·.1)
    have hnd := hp2.nodup_iff.2 (h.nodup d.toNat)
    rw [List.map_cons, List.nodup_cons] at hnd
    obtain ⟨a1, T', a2, a3⟩ := h.put hr ht hj hc (e := ([], 0)) ⟨by simp, by decide, fun _ => rfl⟩ (Nat.le_of_lt hkl) (fun x hx => h.nm _ x (hp.mem_iff.1 (List.mem_cons_of_mem _ hx))) hnd.2
    refine ⟨T', _, ⟨a2, a1, hne⟩, a3, fun j hj => if_neg hj, by simpa using hp, fun m => ?_⟩
    by_cases e : m = d.toNat
    · simp only [e, if_true]; rw [putE_length _ (Nat.le_of_lt hkl)]; omega
    · simp only [e, if_false]; exact Nat.le_refl _
/-- The store that the laws open. -/
def T0 : RS := (((RS.fresh 100 16).mkI 1 2 420).mkI 2 1 420).mkI 3 2 420
theorem T0_file (j : Nat) : T0.file j = if j = 3 then RF.new 2 420 else if j = 2 then RF.new 1 420 else if j = 1 then RF.new 2 420 else RF.none := by
  show ((((RS.fresh 100 16).set 1 (RF.new 2 420)).set 2 (RF.new 1 420)).set 3 (RF.new 2 420)).file j = _
  rw [file_set _ _ _ _ (by decide), file_set _ _ _ _ (by decide), file_set _ _ _ _ (by decide), fresh_file]
theorem T0_dir : DirT T0 (fun _ => []) := by
  refine ⟨rfl, rfl, by rw [T0_file]; rfl, by rw [T0_file]; rfl, by rw [T0_file]; rfl, fun j => ?_, fun j e he => (by cases he), fun j e he => (by cases he), fun j => List.nodup_nil, fun j _ _ => rfl, (by decide)⟩
  rw [T0_file]
  split
  · rfl
  · split
    · rfl
    · split <;> rfl
end Go.Proofs.YtakmplpfjcddiaaGreatDoor

namespace Go.Proofs.YtakmplpfjcddiaaGreatDoor
open Go.RowKit Go.Shelf Pa
/-- What Add and Drop leave. -/
def addT (T : RS) (d : Int) (nm : Str) (i : Int) : RS := if addE T d nm i = 0 then (T.write d.toNat (addAt (lookB T d)) (encS nm i.toNat)).getD T else T
def drpT (T : RS) (d : Int) (nm : Str) : RS := if (findR T d nm).2.2 = 0 then (dropT T d nm).getD T else T
theorem StI.rel {w : World} {s : Nat} {T : RS} {R : Reg} {N : Nat} (h : StI w s T R N) : ∃ C, Rel C T (fun _ => False) ∧ T.Tight := by
  obtain ⟨m, c, C, F, _, _, _, h4, h5, _⟩ := h
  exact ⟨C, h4, h5⟩
/-- The used entries of each directory are those of u; each has at most L entries. -/
def DirU (T : RS) (u : Nat → List Ent) (L : Nat) : Prop := ∃ es, DirT T es ∧ (∀ j, (usedE (es j)).Perm (u j)) ∧ ∀ j, (es j).length ≤ L
theorem DirU.zero : DirU T0 (fun _ => []) 0 := ⟨fun _ => [], T0_dir, fun _ => List.Perm.refl _, fun _ => Nat.le_refl _⟩
theorem DirU.more {T : RS} {u : Nat → List Ent} {L L' : Nat} (h : DirU T u L) (hL : L ≤ L') : DirU T u L' := by
  obtain ⟨es, h1, h2, h3⟩ := h
  exact ⟨es, h1, h2, fun j => Nat.le_trans (h3 j) hL⟩
theorem DirU.look0 {T : RS} {u : Nat → List Ent} {L : Nat} (h : DirU T u L) (d : Int) : lookE T d = 0 ↔ d = 1 ∨ d = 3 := by obtain ⟨es, h1, _⟩ := h; exact h1.look0 d
theorem DirU.nodup {T : RS} {u : Nat → List Ent} {L : Nat} (h : DirU T u L) (j : Nat) : ((u j).map (·.1)).Nodup := by
  obtain ⟨es, h1, h2, _⟩ := h
  exact ((h2 j).map _).nodup_iff.1 (h1.nodup j)
theorem DirU.nm {T : RS} {u : Nat → List Ent} {L : Nat} (h : DirU T u L) (j : Nat) : ∀ e ∈ u j, nameOk e.1 = true := by
  obtain ⟨es, h1, h2, _⟩ := h
  exact fun e he => h1.nm j e ((h2 j).mem_iff.2 he)
theorem DirU.pos {T : RS} {u : Nat → List Ent} {L : Nat} (h : DirU T u L) (j : Nat) : ∀ e ∈ u j, e.2 ≠ 0 := by
  obtain ⟨es, h1, h2, _⟩ := h
  exact fun e he => (mem_used.1 ((h2 j).mem_iff.2 he)).2
theorem DirU.len {T : RS} {u : Nat → List Ent} {L : Nat} (h : DirU T u L) (j : Nat) : (u j).length ≤ L := by
  obtain ⟨es, h1, h2, h3⟩ := h
  rw [← (h2 j).length_eq]
  exact Nat.le_trans (List.length_filter_le _ _) (h3 j)
theorem DirU.findR {T : RS} {u : Nat → List Ent} {L : Nat} (h : DirU T u L) (d : Int) (nm : Str) : ((findR T d nm).1.i, (findR T d nm).2.2) = if lookE T d ≠ 0 then (0, lookE T d) else if nameOk nm = false then (0, 8) else fnd (u d.toNat) nm := by
  obtain ⟨es, h1, h2, _⟩ := h
  rw [h1.findR, fnd_perm (h2 _) (h1.nodup _)]
theorem DirU.addE {T : RS} {u : Nat → List Ent} {L : Nat} (h : DirU T u L) (d i : Int) (nm : Str) : addE T d nm i = if lookE T d ≠ 0 then lookE T d else if nameOk nm = false then 8 else if i < 1 ∨ 512 ≤ i then 2 else if (fnd (u d.toNat) nm).2 = 0 then 5 else 0 := by
  obtain ⟨es, h1, h2, _⟩ := h
  rw [h1.addE, fnd_perm (h2 _) (h1.nodup _)]
theorem sort_perm {a b : List Str} (h : a.Perm b) : (a.mergeSort fun x y => decide (x ≤ y)) = b.mergeSort fun x y => decide (x ≤ y) := by
  have ht : ∀ x y z : Str, decide (x ≤ y) = true → decide (y ≤ z) = true → decide (x ≤ z) = true := fun x y z h1 h2 => by
    simp only [decide_eq_true_eq] at *; exact List.le_trans h1 h2
  have htot : ∀ x y : Str, (decide (x ≤ y) || decide (y ≤ x)) = true := fun x y => by
    rcases List.le_total x y with h | h <;> simp [h]
  have h1 := List.pairwise_mergeSort ht htot a
  have h2 := List.pairwise_mergeSort ht htot b
  refine List.Perm.eq_of_pairwise (le := fun x y => decide (x ≤ y) = true) ?_ h1 h2 (((List.mergeSort_perm a _).trans h).trans (List.mergeSort_perm b _).symm)
  intro x y _ _ h3 h4
  simp only [decide_eq_true_eq] at h3 h4
  exact List.le_antisymm h3 h4
theorem DirU.list {T : RS} {u : Nat → List Ent} {L : Nat} (h : DirU T u L) {d : Int} (h0 : lookE T d = 0) : listP (lookB T d) = ((u d.toNat).map (·.1)).mergeSort fun x y => decide (x ≤ y) := by
  obtain ⟨es, h1, h2, _⟩ := h
  unfold listP
  rw [h1.lookB h0, slotsP_encE (h1.ok _), namesP_slE]
  exact sort_perm ((h2 _).map _)
theorem DirU.add {C : Ca} {T : RS} {u : Nat → List Ent} {L : Nat} (h : DirU T u L) (hr : Rel C T (fun _ => False)) (ht : T.Tight) (hL : L ≤ 60) {d i : Int} {nm : Str} (he : Go.Proofs.YtakmplpfjcddiaaGreatDoor.addE T d nm i = 0) :
    (addAt (lookB T d) + 64 ≤ 70656 ∧ T.write d.toNat (addAt (lookB T d)) (encS nm i.toNat) = some (addT T d nm i)) ∧ DirU (addT T d nm i) (fun j => if j = d.toNat then (nm, i.toNat) :: u j else u j) (L + 1) := by
  obtain ⟨es, h1, h2, h3⟩ := h
  obtain ⟨a1, T', es', a2, a3, a4, a5, a6⟩ := h1.add hr ht (fun j => Nat.le_trans (h3 j) hL) he
  have e : addT T d nm i = T' := by unfold addT; rw [if_pos he, a2]; rfl
  rw [e]
  refine ⟨⟨a1, a2⟩, es', a3, fun j => ?_, fun j => Nat.le_trans (a6 j) (Nat.succ_le_succ (h3 j))⟩
  show (usedE (es' j)).Perm (if j = d.toNat then (nm, i.toNat) :: u j else u j)
  by_cases hj : j = d.toNat
  · subst hj
    rw [if_pos rfl]
    exact a5.trans ((h2 _).cons _)
  · rw [if_neg hj, a4 j hj]; exact h2 j
theorem DirU.drop {C : Ca} {T : RS} {u : Nat → List Ent} {L : Nat} (h : DirU T u L) (hr : Rel C T (fun _ => False)) (ht : T.Tight) (hL : L ≤ 60) {d : Int} {nm : Str} (he : (Go.Proofs.YtakmplpfjcddiaaGreatDoor.findR T d nm).2.2 = 0) :
    (dropT T d nm = some (drpT T d nm) ∧ (Go.Proofs.YtakmplpfjcddiaaGreatDoor.findR T d nm).1.at_ + 64 ≤ 70656 ∧ lookB T d ≠ []) ∧ DirU (drpT T d nm) (fun j => if j = d.toNat then (u j).erase (nm, (Go.Proofs.YtakmplpfjcddiaaGreatDoor.findR T d nm).1.i) else u j) L ∧ (nm, (Go.Proofs.YtakmplpfjcddiaaGreatDoor.findR T d nm).1.i) ∈ u d.toNat := by
  obtain ⟨es, h1, h2, h3⟩ := h
  obtain ⟨T', es', ⟨a1, a2, a3⟩, a4, a5, a6, a7⟩ := h1.drop hr ht (fun j => Nat.le_trans (h3 j) hL) he
  have e : drpT T d nm = T' := by unfold drpT; rw [if_pos he, a1]; rfl
  have hm : (nm, (Go.Proofs.YtakmplpfjcddiaaGreatDoor.findR T d nm).1.i) ∈ u d.toNat := (h2 _).mem_iff.1 (a6.mem_iff.1 (by simp))
  rw [e]
  refine ⟨⟨a1, a2, a3⟩, ⟨es', a4, fun j => ?_, fun j => Nat.le_trans (a7 j) (h3 j)⟩, hm⟩
  show (usedE (es' j)).Perm (if j = d.toNat then (u j).erase (nm, (Go.Proofs.YtakmplpfjcddiaaGreatDoor.findR T d nm).1.i) else u j)
  by_cases hj : j = d.toNat
  · subst hj
    rw [if_pos rfl]
    exact List.Perm.cons_inv (a6.trans ((h2 _).trans (List.perm_cons_erase hm)))
  · rw [if_neg hj, a5 j hj]; exact h2 j
end Go.Proofs.YtakmplpfjcddiaaGreatDoor

namespace Go.Proofs.YtakmplpfjcddiaaGreatDoor
open Go.RowKit Go.Shelf Pa
attribute [local go_sem] bs_toList bs_size
/-- The store at s stands for T, all of it in blocks from B on; the blocks of Z are no part of it. -/
def Solo (B : Nat) (w : World) (s : Nat) (T : RS) (N : Nat) (Z : Nat → Prop) : Prop := ∃ R, StI w s T R N ∧ (∀ k, R.has k → B ≤ k) ∧ B ≤ w.heap.size ∧ ∀ k, Z k → ¬ R.has k ∧ k < w.heap.size
/-- What stays: all below B, and the blocks of Z. -/
structure KeptS (B : Nat) (Z : Nat → Prop) (w w' : World) : Prop where
  below : Below B w w'
  z : ∀ k, Z k → w'.heap[k]? = w.heap[k]?
theorem KeptS.refl (B : Nat) (Z : Nat → Prop) (w : World) : KeptS B Z w w := ⟨Below.refl _ _, fun _ _ => rfl⟩
theorem KeptS.trans {B : Nat} {Z : Nat → Prop} {a b c : World} (h : KeptS B Z a b) (k : KeptS B Z b c) : KeptS B Z a c := ⟨h.below.trans k.below, fun j hj => (k.z j hj).trans (h.z j hj)⟩
theorem KeptS.weak {B : Nat} {Z Z' : Nat → Prop} {w w' : World} (h : KeptS B Z w w') (hz : ∀ k, Z' k → Z k) : KeptS B Z' w w' := ⟨h.below, fun k hk => h.z k (hz k hk)⟩
theorem Solo.left {B : Nat} {w : World} {s : Nat} {T : RS} {N : Nat} {Z : Nat → Prop} (h : Solo B w s T N Z) : ∃ R, StI w s T R N ∧ ∀ w' R' T' N', StI w' s T' R' N' → R.To R' w.heap.size → Off R.m w w' → ∀ Z' : Nat → Prop, (∀ k, Z' k → Z k ∨ (¬ R'.has k ∧ w.heap.size ≤ k ∧ k < w'.heap.size)) → Solo B w' s T' N' Z' ∧ KeptS B Z w w' := by
  obtain ⟨R, h1, hR, hB, hZ⟩ := h
  refine ⟨R, h1, fun w' R' T' N' g t o Z' hZ' => ⟨⟨R', g, fun k hk => ?_, Nat.le_trans hB o.size, fun k hk => ?_⟩, o.below hB (fun k hk => hR k (.inl hk)), fun k hk => ?_⟩⟩
  · rcases t.has hk with hk | hk
    · exact hR k hk
    · omega
  · rcases hZ' k hk with hk | ⟨a, b, c⟩
    · obtain ⟨a, c⟩ := hZ k hk
      exact ⟨t.free a c, Nat.lt_of_lt_of_le c o.size⟩
    · exact ⟨a, c⟩
  · obtain ⟨a, c⟩ := hZ k hk
    exact o.block k c (fun e => a (.inl e))
theorem Solo.step {B : Nat} {w : World} {s : Nat} {T : RS} {N : Nat} {Z : Nat → Prop} (h : Solo B w s T N Z) : ∃ R, StI w s T R N ∧ ∀ w' T' N', StStep w s T' R N' w' → Solo B w' s T' N' Z ∧ KeptS B Z w w' := by
  obtain ⟨R, g, hl⟩ := h.left
  exact ⟨R, g, fun w' T' N' ⟨R', g', t, o⟩ => hl w' R' T' N' g' t o Z (fun k hk => .inl hk)⟩
theorem Solo.fresh {B : Nat} {w w' : World} {s : Nat} {T : RS} {N : Nat} {Z Z' : Nat → Prop} (h : Solo B w s T N Z) (hb : Below w.heap.size w w') (hz : ∀ k, Z' k → Z k ∨ (w.heap.size ≤ k ∧ k < w'.heap.size)) : Solo B w' s T N Z' ∧ KeptS B Z w w' := by
  obtain ⟨R, h1, hR, hB, hZ⟩ := h
  refine ⟨⟨R, h1.below hb, hR, Nat.le_trans hB hb.size, fun k hk => ?_⟩, hb.mono hB, fun k hk => hb.block k (hZ k hk).2⟩
  rcases hz k hk with e | ⟨a, b⟩
  · exact ⟨(hZ k e).1, Nat.lt_of_lt_of_le (hZ k e).2 hb.size⟩
  · exact ⟨fun e => by have := h1.lt k e; omega, b⟩
/-- What is done on one's own blocks alone. -/
theorem Solo.own {B : Nat} {w w' : World} {s : Nat} {T : RS} {N : Nat} {Z M Z' : Nat → Prop} (h : Solo B w s T N Z) (ho : Off M w w') (hM : ∀ k, M k → Z k ∨ w.heap.size ≤ k) (hz : ∀ k, Z' k → Z k ∨ (w.heap.size ≤ k ∧ k < w'.heap.size)) : Solo B w' s T N Z' := by
  obtain ⟨R, h1, hR, hB, hZ⟩ := h
  refine ⟨R, h1.off ho (fun k hk e => ?_), hR, Nat.le_trans hB ho.size, fun k hk => ?_⟩
  · rcases hM k e with e | e
    · exact (hZ k e).1 hk
    · have := h1.lt k hk; omega
  · rcases hz k hk with e | ⟨a, b⟩
    · exact ⟨(hZ k e).1, Nat.lt_of_lt_of_le (hZ k e).2 ho.size⟩
    · exact ⟨fun e => by have := h1.lt k e; omega, b⟩
theorem lfind_any (B s N : Nat) (d : Int) (nm : Str) (T : RS) (Z : Nat → Prop) (w : World) (h : Solo B w s T N Z) :
    Calls Tryz.prog 140 #[.pointer (some ⟨s, 0, none⟩), .int .i64 d, .string (bs nm)] w fun e w' => e = .returned (.tuple #[.int .i64 ((findR T d nm).1.i : Nat), .int .i64 ((findR T d nm).2.2 : Nat)]) ∧ Solo B w' s T N Z ∧ KeptS B Z w w' := by
  obtain ⟨R, g, hl⟩ := h.step
  refine (dfind_any s N d nm T R w g).mono ?_
  rintro e w' ⟨rfl, hst⟩
  exact ⟨rfl, hl w' _ _ hst⟩
theorem ladd_any (B s N : Nat) (d i : Int) (nm : Str) (T T' : RS) (Z : Nat → Prop) (w : World) (h : Solo B w s T N Z) (hw : if addE T d nm i = 0 then addAt (lookB T d) + 64 ≤ 70656 ∧ T.write d.toNat (addAt (lookB T d)) (encS nm i.toNat) = some T' else T' = T) :
    Calls Tryz.prog 78 #[.pointer (some ⟨s, 0, none⟩), .int .i64 d, .string (bs nm), .int .i64 i] w fun e w' => e = .returned (.int .i64 (addE T d nm i : Nat)) ∧ Solo B w' s T' N Z ∧ KeptS B Z w w' := by
  obtain ⟨R, g, hl⟩ := h.step
  refine (dadd_any s N d i nm T T' R w g hw).mono ?_
  rintro e w' ⟨rfl, hst⟩
  exact ⟨rfl, hl w' _ _ hst⟩
theorem ldrop_any (B s N : Nat) (d : Int) (nm : Str) (T T' : RS) (Z : Nat → Prop) (w : World) (h : Solo B w s T N Z) (hw : if (findR T d nm).2.2 = 0 then dropT T d nm = some T' ∧ (findR T d nm).1.at_ + 64 ≤ 70656 ∧ lookB T d ≠ [] else T' = T) :
    Calls Tryz.prog 89 #[.pointer (some ⟨s, 0, none⟩), .int .i64 d, .string (bs nm)] w fun e w' => e = .returned (.tuple #[.int .i64 (if (findR T d nm).2.2 = 0 then (findR T d nm).1.i else 0 : Nat), .int .i64 ((findR T d nm).2.2 : Nat)]) ∧ Solo B w' s T' N Z ∧ KeptS B Z w w' := by
  obtain ⟨R, g, hl⟩ := h.step
  refine (ddrop_any s N d nm T T' R w g hw).mono ?_
  rintro e w' ⟨rfl, hst⟩
  exact ⟨rfl, hl w' _ _ hst⟩
theorem llist_any (B s N : Nat) (d : Int) (T : RS) (Z : Nat → Prop) (w : World) (h : Solo B w s T N Z) :
    Calls Tryz.prog 70 #[.pointer (some ⟨s, 0, none⟩), .int .i64 d] w fun e w' => ∃ v, e = .returned (.tuple #[v, .int .i64 (lookE T d : Nat)]) ∧ OwnS w' w.heap.size v (listP (lookB T d)) ∧ Solo B w' s T N (fun k => Z k ∨ v.ownBlock = some k) ∧ KeptS B Z w w' := by
  obtain ⟨R, g, hl⟩ := h.left
  refine (dlist_any s N d T R w g).mono ?_
  rintro e w' ⟨v, rfl, ho, R', g', t', o', hn⟩
  refine ⟨v, rfl, ho, hl w' R' T N g' t' o' _ fun k hk => ?_⟩
  rcases hk with hk | hk
  · exact .inl hk
  · exact .inr ⟨hn k hk, World.ownsRow.lt ho k hk⟩
theorem lget_any (B s N : Nat) (i : Int) (T : RS) (Z : Nat → Prop) (w : World) (h : Solo B w s T N Z) :
    Calls Tryz.prog 107 #[.pointer (some ⟨s, 0, none⟩), .int .i64 i] w fun e w' => e = .returned (.tuple #[.agg (cellsI (getR T i)).toArray, .int .i64 (T.look i : Nat)]) ∧ Solo B w' s T N Z ∧ KeptS B Z w w' := by
  obtain ⟨R, g, hl⟩ := h.step
  refine (sget_any s N i T R w g).mono ?_
  rintro e w' ⟨rfl, hst⟩
  exact ⟨rfl, hl w' _ _ hst⟩
theorem lmake_any (B s N j k md : Nat) (T : RS) (Z : Nat → Prop) (w : World) (h : Solo B w s T N Z) (ht : takeB T.i = some j) (hk : 1 ≤ k ∧ k ≤ 3) (hmd : md ≤ 4095) :
    Calls Tryz.prog 110 #[.pointer (some ⟨s, 0, none⟩), .int .i64 k, .int .i64 md] w fun e w' => e = .returned (.tuple #[.int .i64 j, .int .i64 0]) ∧ Solo B w' s (T.mkI j k md) N Z ∧ KeptS B Z w w' := by
  obtain ⟨R, g, hl⟩ := h.step
  refine (smake_any s N j k md T R w g ht hk hmd).mono ?_
  rintro e w' ⟨rfl, hst⟩
  exact ⟨rfl, hl w' _ _ hst⟩
theorem lwrite_any (B s N j at_ : Nat) (b : Str) (v : Value) (T T' : RS) (Z : Nat → Prop) (w : World) (h : Solo B w s T N Z) (hl : T.live j) (hb : b ≠ []) (hsz : at_ + b.length ≤ 70656) (hv : BytesI w (fun k => Z k ∨ k < B) v b) (hw : T.write j at_ b = some T') :
    Calls Tryz.prog 63 #[.pointer (some ⟨s, 0, none⟩), .int .i64 j, .int .i64 at_, v] w fun e w' => e = .returned (.int .i64 0) ∧ Solo B w' s T' N Z ∧ KeptS B Z w w' := by
  obtain ⟨R, h1, hR, hB, hZ⟩ := id h
  have hv' : BytesI w (fun k => ¬ R.m k) v b := hv.mono fun k hk _ e => by
    rcases hk with hk | hk
    · exact (hZ k hk).1 (.inl e)
    · have := hR k (.inl e); omega
  refine (swrite_any s N j at_ b v T T' R w h1 hl hb hsz hv' hw).mono ?_
  rintro e w' ⟨rfl, R', g', t, o⟩
  refine ⟨rfl, ⟨R', g', fun k hk => ?_, Nat.le_trans hB o.size, fun k hk => ?_⟩, o.below hB (fun k hk => hR k (.inl hk)), fun k hk => ?_⟩
  · rcases t.has hk with hk | hk
    · exact hR k hk
    · omega
  · obtain ⟨a, c⟩ := hZ k hk
    exact ⟨t.free a c, Nat.lt_of_lt_of_le c o.size⟩
  · obtain ⟨a, c⟩ := hZ k hk
    exact o.block k c (fun e => a (.inl e))
end Go.Proofs.YtakmplpfjcddiaaGreatDoor

namespace Go.Proofs.YtakmplpfjcddiaaGreatDoor
open Go.RowKit Go.Shelf Pa
/-- The library's own variable holds a number. -/
def MaxOk (w : World) : Prop := ∃ m, w.cell? ⟨0, 0, none⟩ = some (.int .i64 m)
theorem MaxOk.below {w w' : World} {B : Nat} (h : MaxOk w) (hb : Below B w w') (hB : 0 < B) : MaxOk w' := by
  obtain ⟨m, hm⟩ := h
  exact ⟨m, (hb.cell (p := ⟨0, 0, none⟩) hB).trans hm⟩
theorem MaxOk.lt {w : World} (h : MaxOk w) : 0 < w.heap.size := by
  obtain ⟨m, hm⟩ := h
  rcases Nat.lt_or_ge 0 w.heap.size with h | h
  · exact h
  · rw [World.cell?, Array.getElem?_eq_none h] at hm; cases hm
theorem MaxOk.grow {w w' : World} (h : MaxOk w) (hb : Below w.heap.size w w') : MaxOk w' := h.below hb h.lt
def strVals (l : List Str) : List Value := l.map fun s => .string (bs s)
theorem split_spl (t : Str) (w : World) (hs : t.length < 4294967281) (hm : MaxOk w) :
    Calls Tryz.prog 207 #[.string (bs t), .string ⟨#[47]⟩] w fun e w' =>
      e = .returned (.slice (some ⟨w.heap.size, 0, none⟩) (spl t).length (spl t).length) ∧ w' = w.alloc (.cells (strVals (spl t)).toArray 9) := by
  obtain ⟨m, hm⟩ := hm
  have hd : (Lib.splitB ⟨#[47]⟩ 0 (Lib.countB (bs t) ⟨#[47]⟩) (bs t)).map (·.data.toList) = spl t := by
    rw [Lib.splitB_data]
    exact split_eq_spl t
  have hlen : Lib.countB (bs t) ⟨#[47]⟩ + 1 = (spl t).length := by
    rw [← hd, List.length_map, Lib.splitB_all ⟨#[47]⟩ (by decide) 0 _ _ rfl]
  have hvals : (Lib.splitB ⟨#[47]⟩ 0 (Lib.countB (bs t) ⟨#[47]⟩) (bs t)).map Value.string = strVals (spl t) := by
    unfold strVals
    rw [← hd, List.map_map]
    rfl
  have h := Tryz.strings_Split (bs t) ⟨#[47]⟩ m w (by rw [bs_size]; exact hs) hm (by decide)
  rw [hlen, hvals] at h
  exact h
theorem spl_length : ∀ s, (spl s).length ≤ s.length + 1
  | [] => by simp [spl]
  | c :: s => by
    have ih := spl_length s
    unfold spl
    split
    · simp; omega
    · split
      · simp
      · rename_i h t e; rw [e] at ih; simp at ih ⊢; omega
theorem strVals_at (l : List Str) (i : Nat) (s : Str) (h : l[i]? = some s) : (strVals l)[i]? = some (.string (bs s)) := by
  unfold strVals; rw [List.getElem?_map, h]; rfl
attribute [local go_sem] bs_toList bs_size
/-- What dir.Split answers. -/
def SplitPostF (p : Str) (w : World) (e : Ending) (w' : World) : Prop :=
  ∃ v n, e = .returned (.tuple #[v, .int .i64 n]) ∧ BelowD w.heap.size w w' ∧
    match splitP p with
    | some l => n = 0 ∧ StrsAt w' w'.heap.size v l ∧ ∀ b, v.ownBlock = some b → w.heap.size ≤ b
    | none => n = 8 ∧ v = .slice none 0 0
theorem SplitPostF.none {p : Str} {w w' : World} (h : splitP p = .none) (hb : BelowD w.heap.size w w') : SplitPostF p w (.returned (.tuple #[.slice .none 0 0, .int .i64 8])) w' := by
  refine ⟨_, _, rfl, hb, ?_⟩
  rw [h]; exact ⟨rfl, rfl⟩
theorem SplitPostF.some {p : Str} {l : List Str} {w w' : World} {v : Value} (h : splitP p = .some l) (hb : BelowD w.heap.size w w') (hv : StrsAt w' w'.heap.size v l) (hf : ∀ b, v.ownBlock = some b → w.heap.size ≤ b) : SplitPostF p w (.returned (.tuple #[v, .int .i64 0])) w' := by
  refine ⟨_, _, rfl, hb, ?_⟩
  rw [h]; exact ⟨rfl, hv, hf⟩
theorem hasPrefix_stroke (p : Str) : Lib.hasPrefix p [47] = decide (p.head? = some 47) := by
  cases p with
  | nil => rfl
  | cons c p =>
    by_cases h : c = 47
    · subst h; simp [Lib.hasPrefix, List.isPrefixOf]
    · simp [Lib.hasPrefix, List.isPrefixOf, h, Ne.symm h]
/-- Is it found by the first i pieces that a text is no path? -/
def badTo (L : List Str) (i : Nat) : Bool := decide (16 < L.length) || (L.take i).any (fun s => !nameOk s)
theorem badTo_zero (L : List Str) : badTo L 0 = decide (16 < (L.length : Int)) := by
  unfold badTo
  by_cases h : 16 < L.length
  · simp [h]; omega
  · simp [h]; omega
theorem badTo_succ (L : List Str) (i : Nat) (s : Str) (h : L[i]? = some s) : badTo L (i + 1) = (badTo L i || !nameOk s) := by
  unfold badTo
  rw [List.take_add_one, h]
  simp [Bool.or_assoc]
theorem badTo_mono (L : List Str) (i : Nat) (h : badTo L i = true) : badTo L L.length = true := by
  unfold badTo at *
  simp only [Bool.or_eq_true, List.any_eq_true, decide_eq_true_eq, List.take_length] at *
  rcases h with h | ⟨x, hx, h⟩
  · exact .inl h
  · exact .inr ⟨x, List.mem_of_mem_take hx, h⟩
theorem badTo_split {p : Str} {L : List Str} (h : splitP p = if L.length ≤ 16 ∧ L.all nameOk then some L else none) : splitP p = if badTo L L.length then none else some L := by
  rw [h]
  unfold badTo
  rw [List.take_length]
  by_cases h1 : L.length ≤ 16
  · by_cases h2 : L.all nameOk = true
    · rw [if_pos ⟨h1, h2⟩, if_neg]
      simp only [Bool.or_eq_true, decide_eq_true_eq, List.any_eq_true, not_or, not_exists, not_and]
      exact ⟨by omega, fun x hx => by simp [List.all_eq_true.1 h2 x hx]⟩
    · rw [if_neg (fun h => h2 h.2), if_pos]
      simp only [Bool.or_eq_true, List.any_eq_true]
      right
      simpa using h2
  · rw [if_neg (fun h => h1 h.1), if_pos]
    simp; omega
set_option maxHeartbeats 1000000 in
theorem split_g (p : Str) (w : World) (hm : MaxOk w) : Calls Tryz.prog 146 #[.string (bs p)] w (SplitPostF p w) := by
  have hpre : ∀ w : World, Calls Tryz.prog 206 #[.string (bs p), .string ⟨#[47]⟩] w fun e w' => e = .returned (.bool (decide (p.head? = some 47))) ∧ w' = w := fun w => by
    rw [← hasPrefix_stroke]; exact Tryz.strings_HasPrefix (bs p) ⟨#[47]⟩ w
  by_cases hh : p.head? = some 47
  case neg =>
    have hd : decide (p.head? = some 47) = false := decide_eq_false hh
    rw [hd] at hpre
    have hn : splitP p = none := by unfold splitP; rw [if_neg (fun h => hh h.1)]
    clear hm
    go_enter Tryz.func146, Tryz.ntmps146
    go_wp2_with fail
    go_step3
    go_wp2_with (go_at_call 206; refine (hpre _).mono ?_; rintro e w' ⟨rfl, hw⟩; obtain rfl := hw.symm)
    rw [Exit.noGoto_ret]
    go_ret2
    exact SplitPostF.none hn (BelowD.refl _ _)
  have hd : decide (p.head? = some 47) = true := decide_eq_true hh
  rw [hd] at hpre
  have HH := Lib.hid hh
  clear hh hd
  by_cases hlen : p.length ≤ 255
  case neg =>
    have hn : splitP p = none := by unfold splitP; rw [if_neg (fun h => hlen h.2)]
    have h2 : (255 : Int) < p.length := by omega
    clear hm
    go_enter Tryz.func146, Tryz.ntmps146
    go_wp2_with fail
    go_step3
    go_wp2_with (go_at_call 206; refine (hpre _).mono ?_; rintro e w' ⟨rfl, hw⟩; obtain rfl := hw.symm)
    rw [Exit.noGoto_ret]
    go_ret2
    exact SplitPostF.none hn (BelowD.refl _ _)
  have h2 : ¬ (255 : Int) < p.length := by omega
  by_cases hroot : p = [47]
  case pos =>
    have hn : splitP p = some [] := by rw [hroot]; exact splitP_root
    have hb : (p == [47]) = true := beq_iff_eq.2 hroot
    have HR := Lib.hid hroot
    clear hm hroot
    go_enter Tryz.func146, Tryz.ntmps146
    go_wp2_with fail
    go_step3
    go_wp2_with (go_at_call 206; refine (hpre _).mono ?_; rintro e w' ⟨rfl, hw⟩; obtain rfl := hw.symm)
    rw [Exit.noGoto_ret]
    go_ret2
    exact SplitPostF.some hn (BelowD.refl _ _) (StrsAt.nil _ _ _ _) (fun b e => by cases e)
  have hb : (p == [47]) = false := beq_eq_false_iff_ne.2 hroot
  have hsp : splitP p = if (spl p.tail).length ≤ 16 ∧ (spl p.tail).all nameOk then some (spl p.tail) else none := by
    unfold splitP; rw [if_pos ⟨HH.out, hlen⟩, if_neg hroot]
  have hex : (bs p).extract 1 p.length = bs p.tail := by
    have : p.tail = p.drop 1 := by simp
    rw [this]
    have e : ((bs p).extract 1 p.length).data.toList = p.drop 1 := by
      rw [Lib.extract_data, bs_list]
      exact List.take_of_length_le (by simp)
    exact e ▸ (bs_of _).symm
  have hcon := split_spl p.tail w (by simp; omega) hm
  have hlt := hm.lt
  have h1len : 1 ≤ p.length := by have := HH.out; cases p <;> simp_all
  clear hm hroot
  have HS := Lib.hid hsp
  clear hsp
  have hL : (spl p.tail).length ≤ 9223372036854775807 := by have := spl_length p.tail; simp at this; omega
  generalize spl p.tail = L at hcon HS hL
  go_enter Tryz.func146, Tryz.ntmps146
  go_wp2_with fail
  go_step3
  go_wp2_with (first | (go_at_call 206; refine (hpre _).mono ?_; rintro e w' ⟨rfl, hw⟩; obtain rfl := hw.symm) | (go_at_call 207; refine hcon.mono ?_; rintro e w' ⟨rfl, rfl⟩))
  go_step3
  go_wp2_with fail
  have hB1 : BelowD w.heap.size w (w.alloc (.cells (strVals L).toArray 9)) := (BelowD.refl _ _).alloc (Nat.le_refl _) _
  have hC1 : ∀ i s, L[i]? = some s → (w.alloc (.cells (strVals L).toArray 9)).cell? ⟨w.heap.size, i, none⟩ = some (.string (bs s)) := fun i s hs => by
    rw [World.cell?_alloc_at _ _ _ _ rfl, List.getElem?_toArray, strVals_at L i s hs]
  have hz1 : (w.alloc (.cells (strVals L).toArray 9)).heap.size = w.heap.size + 1 := by simp
  have HC1 := Lib.hid hC1
  have Hz1 := Lib.hid hz1
  clear hC1 hz1
  generalize w.alloc (.cells (strVals L).toArray 9) = W1 at hB1 HC1 Hz1 ⊢
  have hq0 := badTo_zero L
  have HQ := Lib.hid (badTo_split HS.out)
  clear HS
  go_loopg [5, 26] L.length (fun g s5 s26 wx => ∃ i : Nat, i + g = L.length ∧ s26 = .int .i64 i ∧ s5 = .bool (badTo L i) ∧ BelowD (w.heap.size + 1) W1 wx)
  case atStart => exact ⟨0, by omega, rfl, by rw [hq0], BelowD.refl _ _⟩
  case round =>
    obtain ⟨i, hig, rfl, rfl, hb⟩ := hrel
    obtain ⟨wx, rfl⟩ : ∃ wx, wx = wr := ⟨_, rfl⟩
    have hbw : BelowD w.heap.size w wx := hB1.trans (hb.mono (by omega))
    have hv : ∀ l, L = l → StrsAt wx wx.heap.size (.slice (some ⟨w.heap.size, 0, none⟩) L.length L.length) l := fun l hl => by
      subst hl
      have hz := Hz1.out
      have hs := hb.size
      exact ⟨_, _, rfl, Nat.le_refl _, fun _ => ⟨_, _, rfl, by omega, fun i s h => by
        rw [Nat.zero_add, hb.cell (p := ⟨w.heap.size, i, none⟩) (Nat.lt_succ_self _)]; exact HC1.out i s h⟩⟩
    have HV := Lib.hid hv
    clear hv hq0
    cases gk with
    | zero =>
      obtain rfl : i = L.length := by omega
      cases hq : badTo L L.length with
      | true =>
        have hn : splitP p = none := by rw [HQ.out, hq]; rfl
        go_wp2
        rw [Exit.noGoto_ret]
        go_ret2
        exact SplitPostF.none hn hbw
      | false =>
        have hn : splitP p = some L := by rw [HQ.out, hq]; rfl
        go_wp2
        rw [Exit.noGoto_ret]
        go_ret2
        exact SplitPostF.some hn hbw (HV.out _ rfl) (fun b e => by injection e with e; subst e; exact Nat.le_refl _)
    | succ g =>
      have hi : i < L.length := by omega
      have hLi : L[i]? = some L[i] := List.getElem?_eq_getElem hi
      have hcell : wx.cell? ⟨w.heap.size, i, none⟩ = some (.string (bs L[i])) := by
        rw [hb.cell (p := ⟨w.heap.size, i, none⟩) (Nat.lt_succ_self _)]; exact HC1.out i _ hLi
      have hstep := badTo_succ L i _ hLi
      have hmono := badTo_mono L i
      generalize L[i] = s at hcell hstep
      have HStep := Lib.hid hstep
      have HMono := Lib.hid hmono
      have hsz : w.heap.size + 1 ≤ wx.heap.size := by have := hb.size; have := Hz1.out; omega
      clear hstep hmono hLi
      cases hq : badTo L i with
      | true =>
        have hn : splitP p = none := by rw [HQ.out, HMono.out hq]; rfl
        go_wp2
        rw [Exit.noGoto_ret]
        go_ret2
        exact SplitPostF.none hn hbw
      | false =>
        cases hnm : nameOk s with
        | true =>
          go_wp2_with (go_at_call 203; refine (isName_any s _).mono ?_; rintro e w2 ⟨rfl, hb2⟩; rw [hnm])
          go_roundg g
          case measure => omega
          case rel => exact ⟨i + 1, by omega, by go_num, by rw [HStep.out, hq, hnm]; rfl, hb.trans (hb2.mono hsz)⟩
        | false =>
          go_wp2_with (go_at_call 203; refine (isName_any s _).mono ?_; rintro e w2 ⟨rfl, hb2⟩; rw [hnm])
          go_roundg g
          case measure => omega
          case rel => exact ⟨i + 1, by omega, by go_num, by rw [HStep.out, hq, hnm]; rfl, hb.trans (hb2.mono hsz)⟩
/-- The same; the names lie in a row of their own. -/
theorem split_f (p : Str) (l : List Str) (w : World) (hm : MaxOk w) (hp : splitP p = some l) : Calls Tryz.prog 146 #[.string (bs p)] w fun e w' => ∃ v, e = .returned (.tuple #[v, .int .i64 0]) ∧ Below w.heap.size w w' ∧ StrsAt w' w'.heap.size v l ∧ ∀ b, v.ownBlock = some b → w.heap.size ≤ b :=
  (split_g p w hm).mono fun _ _ ⟨v, n, h1, h2, h3⟩ => by
    rw [hp] at h3
    obtain ⟨rfl, h4, h5⟩ := h3
    exact ⟨v, h1, h2.toBelow, h4, h5⟩
end Go.Proofs.YtakmplpfjcddiaaGreatDoor

namespace Go.Proofs.YtakmplpfjcddiaaGreatDoor
open Go.RowKit Go.Shelf Pa
attribute [local go_sem] bs_toList bs_size
/-- A file system at f: its store at s, its cache at c. -/
def FsAt (w : World) (f s c : Nat) : Prop := w.heap[f]? = some (.cells #[.pointer (some ⟨s, 0, none⟩), .pointer (some ⟨c, 0, none⟩)] 103 (0, 0))
/-- It stands for T. -/
structure FsI (B : Nat) (w : World) (f s c : Nat) (T : RS) (N : Nat) (Z : Nat → Prop) : Prop where
  solo : Solo B w s T N Z
  fz : Z f
  at_ : FsAt w f s c
  mx : MaxOk w
  mb : 0 < B
theorem FsI.next {B f s c N N' : Nat} {w w' : World} {T T' : RS} {Z Z' : Nat → Prop} (h : FsI B w f s c T N Z) (hs : Solo B w' s T' N' Z') (hk : KeptS B Z w w') (hz : Z' f) : FsI B w' f s c T' N' Z' := ⟨hs, hz, (hk.z f h.fz).trans h.at_, h.mx.below hk.below h.mb, h.mb⟩
theorem FsI.cells {B f s c N : Nat} {w : World} {T : RS} {Z : Nat → Prop} (h : FsI B w f s c T N Z) : w.cell? ⟨f, 0, none⟩ = some (.pointer (some ⟨s, 0, none⟩)) ∧ w.cell? ⟨f, 1, none⟩ = some (.pointer (some ⟨c, 0, none⟩)) := ⟨cell_of_heap h.at_ 0, cell_of_heap h.at_ 1⟩
/-- Where names lead to from the root, and the error. -/
def thrStep (T : RS) (s : Nat × Nat) (nm : Str) : Nat × Nat := if s.2 ≠ 0 then s else if (findR T s.1 nm).2.2 = 0 then ((findR T s.1 nm).1.i, 0) else (0, (findR T s.1 nm).2.2)
def thr (T : RS) (l : List Str) : Nat × Nat := l.foldl (thrStep T) (1, 0)
theorem thr_snoc (T : RS) (l : List Str) (nm : Str) : thr T (l ++ [nm]) = thrStep T (thr T l) nm := by unfold thr; rw [List.foldl_append]; rfl
theorem thr_stay (T : RS) (l : List Str) : ∀ s : Nat × Nat, s.2 ≠ 0 → l.foldl (thrStep T) s = s := by
  induction l with
  | nil => intro s _; rfl
  | cons nm l ih =>
    intro s hs
    rw [List.foldl_cons]
    have : thrStep T s nm = s := by unfold thrStep; rw [if_pos hs]
    rw [this]
    exact ih s hs
theorem thr_bad {T : RS} {l : List Str} {k : Nat} (h : (thr T (l.take k)).2 ≠ 0) : thr T l = thr T (l.take k) := by
  have e : thr T l = (l.drop k).foldl (thrStep T) (thr T (l.take k)) := by
    unfold thr
    rw [← List.foldl_append, List.take_append_drop]
  rw [e]
  exact thr_stay T _ _ h
/-- An inode is handed back, or it gives up. -/
def ThrP (x : Nat × Nat) (e : Ending) : Prop := (x.2 = 0 → e = .returned (.int .i64 (x.1 : Nat))) ∧ (x.2 ≠ 0 → e = gaveUp x.2)
theorem ThrP.ok {x : Nat × Nat} {i : Nat} {e : Ending} (h : x = (i, 0)) (he : e = .returned (.int .i64 (i : Nat))) : ThrP x e := by rw [h]; exact ⟨fun _ => he, fun e => absurd rfl e⟩
theorem ThrP.bad {x : Nat × Nat} {n : Nat} (h : x.2 = n) (hn : n ≠ 0) : ThrP x (gaveUp n) := ⟨fun e => absurd (h.symm.trans e) hn, fun _ => by rw [h]⟩
/-- Names that can be read, and stay. -/
def StrsZ (w : World) (B : Nat) (Z : Nat → Prop) (A : Option Addr) (l : List Str) : Prop := l ≠ [] → ∃ b o, A = some ⟨b, o, none⟩ ∧ (Z b ∨ b < B) ∧ b < w.heap.size ∧ ∀ (i : Nat) x, l[i]? = some x → w.cell? ⟨b, o + i, none⟩ = some (.string (bs x))
theorem StrsZ.kept {w w' : World} {B : Nat} {Z : Nat → Prop} {A : Option Addr} {l : List Str} (h : StrsZ w B Z A l) (hk : KeptS B Z w w') : StrsZ w' B Z A l := fun hn => by
  obtain ⟨b, o, e, hb, hl, hc⟩ := h hn
  have hh : w'.heap[b]? = w.heap[b]? := by
    rcases hb with hb | hb
    · exact hk.z b hb
    · exact hk.below.block b hb
  exact ⟨b, o, e, hb, Nat.lt_of_lt_of_le hl hk.below.size, fun i x hx => (World.cell?_of_block (w := w) hh).trans (hc i x hx)⟩
set_option maxRecDepth 100000 in
set_option maxHeartbeats 1000000 in
theorem through_any (B f s c N n cc : Nat) (A : Option Addr) (l : List Str) (T : RS) (Z : Nat → Prop) (w : World) (h : FsI B w f s c T N Z) (hl : StrsZ w B Z A l) (hn : n = l.length) (hs : l.length ≤ 1000) :
    Calls Tryz.prog 119 #[.pointer (some ⟨f, 0, none⟩), .slice A n cc] w fun e w' => ThrP (thr T l) e ∧ FsI B w' f s c T N Z ∧ KeptS B Z w w' := by
  subst hn
  have HH := Lib.hid (⟨h, hl⟩ : _ ∧ _)
  clear h hl
  go_enter Tryz.func119, Tryz.ntmps119
  go_wp2_with fail
  go_loopg [5, 12] l.length (fun gg v5 v12 wx => ∃ (k i : Nat), v12 = .int .i64 k ∧ v5 = .int .i64 i ∧ gg = l.length - k ∧ k ≤ l.length ∧ thr T (l.take k) = (i, 0) ∧ FsI B wx f s c T N Z ∧ KeptS B Z w wx)
  case atStart => exact ⟨0, 1, rfl, rfl, rfl, Nat.zero_le _, rfl, HH.out.1, KeptS.refl _ _ _⟩
  case round =>
    obtain ⟨k, i, rfl, rfl, rfl, hk, hth, hF, hkp⟩ := hrel
    by_cases hlt : k < l.length
    · have hlt' : decide ((k : Int) < (l.length : Int)) = true := by simp; omega
      obtain ⟨nm, hnm⟩ : ∃ nm, l[k]? = some nm := ⟨_, List.getElem?_eq_getElem hlt⟩
      obtain ⟨b, o, rfl, hb, hbl, hcs⟩ := HH.out.2.kept hkp (by rintro rfl; simp at hlt)
      have hcell := hcs k nm hnm
      obtain ⟨q0, q1⟩ := hF.cells
      have hfi := lfind_any B s N i nm T Z wr hF.solo
      have hstep : thr T (l.take (k + 1)) = thrStep T (i, 0) nm := by rw [List.take_add_one, hnm, Option.toList_some, thr_snoc, hth]
      obtain ⟨fe, hfe⟩ : ∃ x, x = (findR T i nm).2.2 := ⟨_, rfl⟩
      obtain ⟨fj, hfj⟩ : ∃ x, x = (findR T i nm).1.i := ⟨_, rfl⟩
      rw [← hfe, ← hfj] at hfi
      have hst2 : thr T (l.take (k + 1)) = if fe = 0 then (fj, 0) else (0, fe) := by
        rw [hstep]; unfold thrStep
        rw [if_neg (fun e => e rfl), hfe, hfj]
      have HFi := Lib.hid hfi
      have HF := Lib.hid (⟨hF, hkp⟩ : _ ∧ _)
      have HSt := Lib.hid hst2
      clear hfi hF hkp hstep hst2 hth hcs hnm hfe hfj
      go_wp2_with fail
      refine HFi.out.mono ?_
      rintro e w2 ⟨rfl, hs2, hk2⟩
      have hF2 := HF.out.1.next hs2 hk2 HF.out.1.fz
      have HF2 := Lib.hid (⟨hF2, HF.out.2.trans hk2⟩ : _ ∧ _)
      clear hF2 hs2 hk2 HF HFi
      by_cases h0 : fe = 0
      · subst h0
        go_wp2_with fail
        refine (must_ok _).mono ?_
        rintro e w3 ⟨rfl, hw3⟩
        obtain rfl := hw3.symm
        go_wp2_with fail
        go_roundg (l.length - (k + 1))
        case measure => omega
        case rel => exact ⟨k + 1, fj, by go_num, rfl, rfl, hlt, by rw [HSt.out]; simp, HF2.out.1, HF2.out.2⟩
      · have hE := thr_bad (T := T) (l := l) (k := k + 1) (by rw [HSt.out, if_neg h0]; exact h0)
        rw [HSt.out, if_neg h0] at hE
        have HE := Lib.hid (⟨congrArg Prod.snd hE, h0⟩ : _ ∧ _)
        clear hE
        go_wp2_with fail
        refine (must_bad fe h0 _).mono ?_
        rintro e w3 ⟨rfl, hw3⟩
        obtain rfl := hw3.symm
        clear h0
        go_wp2_with fail
        exact ⟨rfl, ThrP.bad HE.out.1 HE.out.2, HF2.out.1, HF2.out.2⟩
    · have hlt' : decide ((k : Int) < (l.length : Int)) = false := by simp; omega
      obtain rfl : k = l.length := by omega
      rw [List.take_length] at hth
      have HN := Lib.hid (⟨hth, hF, hkp⟩ : _ ∧ _ ∧ _)
      clear hth hF hkp
      go_wp2_with fail
      go_ret
      exact ⟨ThrP.ok HN.out.1 rfl, HN.out.2.1, HN.out.2.2⟩
end Go.Proofs.YtakmplpfjcddiaaGreatDoor

namespace Go.Proofs.YtakmplpfjcddiaaGreatDoor
open Go.RowKit Go.Shelf Pa
attribute [local go_sem] bs_toList bs_size
/-- With the row of names that was made. -/
def Zr (Z : Nat → Prop) (A : Option Addr) (l : List Str) (k : Nat) : Prop := Z k ∨ (l ≠ [] ∧ ∃ o, A = some ⟨k, o, none⟩)
theorem parts_any (B f s c N : Nat) (p : Str) (l : List Str) (T : RS) (Z : Nat → Prop) (w : World) (h : FsI B w f s c T N Z) (hp : splitP p = some l) :
    Calls Tryz.prog 82 #[.string (bs p)] w fun e w' => ∃ A cc, e = .returned (.slice A l.length cc) ∧ l.length ≤ cc ∧ FsI B w' f s c T N (Zr Z A l) ∧ KeptS B Z w w' ∧ StrsZ w' B (Zr Z A l) A l := by
  have hsp := split_f p l w h.mx hp
  have HS := Lib.hid hsp
  have HH := Lib.hid h
  clear hsp h hp
  go_enter Tryz.func82, Tryz.ntmps82
  go_wp2_with fail
  refine HS.out.mono ?_
  rintro e w1 ⟨v, rfl, hb, hst, hfr⟩
  obtain ⟨A, cc, rfl, hcc, hx⟩ := hst
  have hfin : FsI B w1 f s c T N (Zr Z A l) ∧ KeptS B Z w w1 ∧ StrsZ w1 B (Zr Z A l) A l := by
    obtain ⟨a1, a2⟩ := HH.out.solo.fresh (Z' := Zr Z A l) hb (fun k hk => hk.imp id fun ⟨hn, o, e⟩ => by
      obtain ⟨b, o2, e2, hbl, _⟩ := hx hn
      subst e
      injection e2 with e2
      injection e2 with e2
      subst e2
      exact ⟨hfr _ rfl, hbl⟩)
    refine ⟨HH.out.next a1 a2 (.inl HH.out.fz), a2, fun hn => ?_⟩
    obtain ⟨b, o2, e2, hbl, hcs⟩ := hx hn
    exact ⟨b, o2, e2, .inl (.inr ⟨hn, o2, e2⟩), hbl, hcs⟩
  have HF := Lib.hid hfin
  have HC := Lib.hid hcc
  clear hfin hx hfr hb hcc
  go_wp2_with fail
  refine (must_ok _).mono ?_
  rintro e w2 ⟨rfl, hw2⟩
  obtain rfl := hw2.symm
  go_wp2_with fail
  go_ret
  exact ⟨A, cc, rfl, HC.out, HF.out⟩
theorem info_place : (Tryz.prog.info? 116).map (·.size) = some 2 := by kernel_rfl
theorem place_load {w : World} {b i : Nat} {nm : Str} (hb : w.heap[b]? = some (.cells #[.int .i64 i, .string (bs nm)] 116 (0, 0))) : (loadVar 116 ⟨b, 0, none⟩).run Tryz.prog w = .ok (.agg #[.int .i64 i, .string (bs nm)]) w :=
  run_loadVar_row (P := Tryz.prog) w b 116 116 _ (0, 0) _ hb Tryz.underlying116 rfl (by rw [info_place]; rfl)
theorem results_place {fn : Func} {p : Tmp} (h : fn.results = #[.cell p 116]) (tmps : Array Value) (w : World) (b i : Nat) (nm : Str) (hp : tmps.getD p undef = .pointer (some ⟨b, 0, none⟩)) (hb : w.heap[b]? = some (.cells #[.int .i64 i, .string (bs nm)] 116 (0, 0))) :
    (results fn tmps).run Tryz.prog w = .ok (.agg #[.int .i64 i, .string (bs nm)]) w := by
  have hl := place_load hb
  rw [Array.getD_eq_getD_getElem?] at hp
  simp [results, h, hp, hl, asAddr]
set_option maxRecDepth 100000 in
set_option maxHeartbeats 2000000 in
theorem place_any (B f s c N cc i : Nat) (A : Option Addr) (l : List Str) (nm : Str) (T : RS) (Z : Nat → Prop) (w : World) (h : FsI B w f s c T N Z) (hl : StrsZ w B Z A (l ++ [nm])) (hs : l.length ≤ 900) (hcc : l.length + 1 ≤ cc) (ht : thr T l = (i, 0)) :
    Calls Tryz.prog 81 #[.pointer (some ⟨f, 0, none⟩), .slice A (l.length + 1) cc] w fun e w' => e = .returned (.agg #[.int .i64 i, .string (bs nm)]) ∧ FsI B w' f s c T N Z ∧ KeptS B Z w w' := by
  obtain ⟨b, o, rfl, hb, hbl, hcs⟩ := id (hl (by simp))
  obtain ⟨W1, hW1⟩ : ∃ W1, W1 = w.alloc (.cells #[.int .i64 0, .string ⟨#[]⟩] 116) := ⟨_, rfl⟩
  have hb1 : Below w.heap.size w W1 := by rw [hW1]; exact (Below.refl _ _).alloc (Nat.le_refl _) _
  have hz1 : W1.heap.size = w.heap.size + 1 := by rw [hW1, World.size_alloc]
  have hbox : W1.heap[w.heap.size]? = some (.cells #[.int .i64 0, .string ⟨#[]⟩] 116 (0, 0)) := by rw [hW1]; exact heap_alloc_new _ _
  obtain ⟨s1, k1⟩ := h.solo.fresh (Z' := fun k => Z k ∨ k = w.heap.size) hb1 (fun k hk => hk.imp id fun e => by omega)
  have hF1 := h.next s1 k1 (.inl h.fz)
  have hS : ∀ w', KeptS B (fun k => Z k ∨ k = w.heap.size) W1 w' → w'.cell? ⟨b, o + l.length, none⟩ = some (.string (bs nm)) ∧ w'.cell? ⟨w.heap.size, 0, none⟩ = some (.int .i64 0) ∧ w'.cell? ⟨w.heap.size, 1, none⟩ = some (.string ⟨#[]⟩) ∧ w'.frozen? ⟨w.heap.size, 0, none⟩ = false ∧ w'.frozen? ⟨w.heap.size, 1, none⟩ = false := fun w' hk => by
    have hh : w'.heap[w.heap.size]? = _ := (hk.z _ (.inr rfl)).trans hbox
    have hr : w'.heap[b]? = w.heap[b]? := by
      rcases hb with e | e
      · exact (hk.z b (.inl e)).trans (hb1.block b hbl)
      · exact (hk.below.block b e).trans (hb1.block b hbl)
    exact ⟨(World.cell?_of_block (w := w) hr).trans (hcs l.length nm (by simp)), cell_of_heap hh 0, cell_of_heap hh 1, free_of_heap hh 0, free_of_heap hh 1⟩
  have hthr : ∀ W, Below W1.heap.size W1 W → Calls Tryz.prog 119 #[.pointer (some ⟨f, 0, none⟩), .slice (some ⟨b, o, none⟩) l.length cc] W fun e w' => e = .returned (.int .i64 i) ∧ (w'.cell? ⟨b, o + l.length, none⟩ = some (.string (bs nm))) ∧ (w'.cell? ⟨w.heap.size, 0, none⟩ = some (.int .i64 0) ∧ w'.cell? ⟨w.heap.size, 1, none⟩ = some (.string ⟨#[]⟩) ∧ w'.frozen? ⟨w.heap.size, 0, none⟩ = false ∧ w'.frozen? ⟨w.heap.size, 1, none⟩ = false) ∧ Hid (∀ W9, Off (fun k => k = w.heap.size) w' W9 → W9.heap[w.heap.size]? = w'.heap[w.heap.size]?.map (fun _ => Obj.cells #[.int .i64 i, .string (bs nm)] 116 (0, 0)) → W9.heap[w.heap.size]? = some (.cells #[.int .i64 i, .string (bs nm)] 116 (0, 0)) ∧ FsI B W9 f s c T N Z ∧ KeptS B Z w W9) ∧ Hid (w'.heap[w.heap.size]? = some (.cells #[.int .i64 0, .string ⟨#[]⟩] 116 (0, 0))) := fun W hW => by
    obtain ⟨s2, k2⟩ := hF1.solo.fresh (Z' := fun k => Z k ∨ k = w.heap.size) hW (fun k hk => .inl hk)
    have hF2 := hF1.next s2 k2 hF1.fz
    refine (through_any B f s c N l.length cc (some ⟨b, o, none⟩) l T _ W hF2 (fun hn => ⟨b, o, rfl, hb.imp .inl id, by have := hW.size; omega, fun j x hx => ?_⟩) rfl (by omega)).mono ?_
    · have hr : W.heap[b]? = w.heap[b]? := by
        rcases hb with e | e
        · exact (k2.z b (.inl e)).trans (hb1.block b hbl)
        · exact (k2.below.block b e).trans (hb1.block b hbl)
      exact (World.cell?_of_block (w := w) hr).trans (hcs j x (by rw [List.getElem?_append_left (List.getElem?_eq_some_iff.1 hx).1]; exact hx))
    · rintro e w' ⟨he, g1, g2⟩
      rw [ht] at he
      have hk := k2.trans g2
      have hbx : w'.heap[w.heap.size]? = some (.cells #[.int .i64 0, .string ⟨#[]⟩] 116 (0, 0)) := (hk.z _ (.inr rfl)).trans hbox
      refine ⟨he.1 rfl, (hS w' hk).1, (hS w' hk).2, Lib.hid (fun W9 ho h9 => ?_), Lib.hid hbx⟩
      have s9 := g1.solo.own (Z' := Z) ho (fun k e => .inl (.inr e)) (fun k hk => .inl (.inl hk))
      have hkz : KeptS B Z w W9 := by
        refine ⟨(k1.below.trans hk.below).trans (ho.below ?_ fun k e => ?_), fun k hz => ?_⟩
        · obtain ⟨_, _, _, h1, _⟩ := g1.solo; exact h1
        · obtain ⟨_, _, _, h1, _⟩ := h.solo; omega
        · obtain ⟨_, _, _, _, h2⟩ := h.solo
          have hkl := (h2 k hz).2
          have hl2 : k < w'.heap.size := Nat.lt_of_lt_of_le (Nat.lt_of_lt_of_le hkl (by omega : w.heap.size ≤ W1.heap.size)) (Nat.le_trans hW.size g2.below.size)
          exact (ho.block k hl2 (by omega)).trans ((hk.z k (.inl hz)).trans (k1.z k hz))
      refine ⟨by rw [h9, hbx]; rfl, h.next s9 hkz h.fz, hkz⟩
  have hS0 := (hS W1 (KeptS.refl _ _ _)).1
  have HThr := Lib.hid hthr
  have HK1 := Lib.hid k1
  have hn1 : IntKind.i64.wrap (((l.length + 1 : Nat) : Int) - 1) = (l.length : Int) := by rw [IntWalk.i64_in _ (by omega)]; omega
  obtain ⟨ln, hln⟩ : ∃ n, n = l.length + 1 := ⟨_, rfl⟩
  have HLn := Lib.hid hln
  rw [← hln] at hn1 ⊢
  have hlt : (l.length : Int) < (ln : Int) := by omega
  have hlc : (l.length : Int) ≤ (cc : Int) := by omega
  have hlcn : l.length ≤ cc := by omega
  have hne : ¬ b = w.heap.size := by omega
  have hne' : ¬ w.heap.size = b := by omega
  clear hthr hS hcs hl h hF1 s1 k1 hbox hb1 hcc ht hb hln HK1
  go_enter Tryz.func81, Tryz.ntmps81
  go_wp2_with fail
  rw [← hW1]
  clear hW1
  go_region_held3 (fun w' => w'.cell? ⟨b, o + l.length, none⟩ = some (.string (bs nm)))
    ((first | assumption | go_keep))
    (first | (go_at_call 119; go_split_ands; refine (HThr.out _ (by first | exact Below.refl _ _ | exact (Below.refl _ _).drew)).mono ?_; rintro e w9 ⟨rfl, hc9, ⟨x0, x1, x2, x3⟩, HF9, HF10⟩))
  all_goals
    have hbx := HF10.out
    have hX1 := heap_setCell_at w9 w.heap.size 0 (.int .i64 i) hbx
    have hX2 := heap_setCell_at (w9.setCell ⟨w.heap.size, 0, none⟩ (.int .i64 i)) w.heap.size 1 (.string (bs nm)) hX1
    have hoX : Off (fun k => k = w.heap.size) w9 ((w9.setCell ⟨w.heap.size, 0, none⟩ (.int .i64 i)).setCell ⟨w.heap.size, 1, none⟩ (.string (bs nm))) := ((Off.refl (fun k => k = w.heap.size) w9).setCell (p := ⟨w.heap.size, 0, none⟩) (.inl rfl) _).setCell (p := ⟨w.heap.size, 1, none⟩) (.inl rfl) _
    have HX := Lib.hid (⟨hbx, hX2, hoX⟩ : _ ∧ _ ∧ _)
    clear hbx hX1 hX2 hoX
    go_wp2_with fail
    first
      | (obtain ⟨e1, e2, e3⟩ := HF9.out _ HX.out.2.2 (by rw [HX.out.2.1, HX.out.1]; simp)
         exact bodyPost_ret (results_place rfl _ _ w.heap.size i nm rfl e1) rfl ⟨rfl, e2, e3⟩)
      | (obtain ⟨e1, e2, e3⟩ := HF9.out _ HX.out.2.2.drew (by show _ = _; rw [show ∀ W : World, W.drew.heap = W.heap from fun _ => rfl, HX.out.2.1, HX.out.1]; simp)
         exact bodyPost_ret (results_place rfl _ _ w.heap.size i nm rfl e1) rfl ⟨rfl, e2, e3⟩)
end Go.Proofs.YtakmplpfjcddiaaGreatDoor

namespace Go.Proofs.YtakmplpfjcddiaaGreatDoor
open Go.RowKit Go.Shelf Pa
attribute [local go_sem] bs_toList bs_size
theorem Solo.lt {B s N : Nat} {w : World} {T : RS} {Z : Nat → Prop} (h : Solo B w s T N Z) {k : Nat} (hk : Z k) : k < w.heap.size := by obtain ⟨_, _, _, _, hz⟩ := h; exact (hz k hk).2
theorem Solo.base {B s N : Nat} {w : World} {T : RS} {Z : Nat → Prop} (h : Solo B w s T N Z) : B ≤ w.heap.size := by obtain ⟨_, _, _, h1, _⟩ := h; exact h1
/-- A new box of one's own is turned last. -/
theorem FsI.boxed {B f s c N N' b : Nat} {w w' W9 : World} {T T' : RS} {Z Z' : Nat → Prop} (h : FsI B w f s c T N Z) (h' : FsI B w' f s c T' N' Z') (hk : KeptS B Z w w') (hb : w.heap.size ≤ b) (hz : Z' b) (hzz : ∀ k, Z k → Z' k) (ho : Off (fun k => k = b) w' W9) : FsI B W9 f s c T' N' Z ∧ KeptS B Z w W9 := by
  have s9 := h'.solo.own (Z' := Z) ho (fun k e => .inl (by rw [e]; exact hz)) (fun k hk => .inl (hzz k hk))
  have hkz : KeptS B Z w W9 := by
    have hB := h.solo.base
    refine ⟨hk.below.trans (ho.below h'.solo.base fun k e => by omega), fun k hz => ?_⟩
    have hkl := h.solo.lt hz
    exact (ho.block k (h'.solo.lt (hzz k hz)) (by omega)).trans (hk.z k hz)
  exact ⟨h.next s9 hkz h.fz, hkz⟩
/-- With a box more. -/
theorem FsI.box {B f s c N : Nat} {w : World} {T : RS} {Z : Nat → Prop} (h : FsI B w f s c T N Z) (o : Obj) : FsI B (w.alloc o) f s c T N (fun k => Z k ∨ k = w.heap.size) ∧ KeptS B Z w (w.alloc o) := by
  obtain ⟨s1, k1⟩ := h.solo.fresh (w' := w.alloc o) (Z' := fun k => Z k ∨ k = w.heap.size) ((Below.refl _ _).alloc (Nat.le_refl _) _) (fun k hk => hk.imp id fun e => by rw [e, World.size_alloc]; omega)
  exact ⟨h.next s1 k1 (.inl h.fz), k1⟩
theorem FsI.weak {B f s c N : Nat} {w : World} {T : RS} {Z Z' : Nat → Prop} (h : FsI B w f s c T N Z) (hz : ∀ k, Z' k → Z k) (hf : Z' f) : FsI B w f s c T N Z' := by
  obtain ⟨R, a, b, c, d⟩ := h.solo
  exact ⟨⟨R, a, b, c, fun k hk => d k (hz k hk)⟩, hf, h.at_, h.mx, h.mb⟩
set_option maxRecDepth 100000 in
set_option maxHeartbeats 2000000 in
theorem fresh_any (B f s c N i : Nat) (p : Str) (l : List Str) (nm : Str) (T : RS) (Z : Nat → Prop) (w : World) (h : FsI B w f s c T N Z) (hp : splitP p = some (l ++ [nm])) (hs : l.length ≤ 900) (ht : thr T l = (i, 0)) (hf : (findR T i nm).2.2 = 4) :
    Calls Tryz.prog 77 #[.pointer (some ⟨f, 0, none⟩), .string (bs p)] w fun e w' => e = .returned (.agg #[.int .i64 i, .string (bs nm)]) ∧ FsI B w' f s c T N Z ∧ KeptS B Z w w' := by
  obtain ⟨W1, hW1⟩ : ∃ W1, W1 = w.alloc (.cells #[.int .i64 0, .string ⟨#[]⟩] 116) := ⟨_, rfl⟩
  obtain ⟨hF1, k1⟩ := h.box (.cells #[.int .i64 0, .string ⟨#[]⟩] 116)
  have hbox : (w.alloc (.cells #[.int .i64 0, .string ⟨#[]⟩] 116)).heap[w.heap.size]? = some (.cells #[.int .i64 0, .string ⟨#[]⟩] 116 (0, 0)) := heap_alloc_new _ _
  rw [← hW1] at hF1 k1 hbox
  have hpa := parts_any B f s c N p (l ++ [nm]) T _ W1 hF1 hp
  have hlen : (l ++ [nm]).length = l.length + 1 := by simp
  rw [hlen] at hpa
  have HPa := Lib.hid hpa
  have HH := Lib.hid (⟨h, hF1, k1, hbox⟩ : _ ∧ _ ∧ _ ∧ _)
  have HT := Lib.hid (⟨ht, hf⟩ : _ ∧ _)
  have hl0 : (((l.length + 1 : Nat) : Int) == 0) = false := by rw [beq_eq_false_iff_ne]; omega
  clear hpa h hF1 k1 hbox hp ht hf hlen
  go_enter Tryz.func77, Tryz.ntmps77
  go_wp2_with fail
  rw [← hW1]
  clear hW1
  refine HPa.out.mono ?_
  rintro e w2 ⟨A, cc, rfl, hcc, hF2, k2, hst⟩
  have hpl := place_any B f s c N cc i A l nm T _ w2 hF2 hst hs hcc HT.out.1
  have HPl := Lib.hid hpl
  have H2 := Lib.hid (⟨hF2, k2⟩ : _ ∧ _)
  clear hpl hF2 k2 hst HPa hcc
  go_wp2_with fail
  refine HPl.out.mono ?_
  rintro e w3 ⟨rfl, hF3, k3⟩
  obtain ⟨hF4, k4⟩ := hF3.box (.cells #[.int .i64 i, .string (bs nm)] 116)
  have hbox4 : (w3.alloc (.cells #[.int .i64 i, .string (bs nm)] 116)).heap[w3.heap.size]? = some (.cells #[.int .i64 i, .string (bs nm)] 116 (0, 0)) := heap_alloc_new _ _
  obtain ⟨W4, hW4⟩ : ∃ W4, W4 = w3.alloc (.cells #[.int .i64 i, .string (bs nm)] 116) := ⟨_, rfl⟩
  rw [← hW4] at hF4 k4 hbox4
  obtain ⟨q0, _⟩ := hF4.cells
  have b0 : W4.cell? ⟨w3.heap.size, 0, none⟩ = some (.int .i64 i) := cell_of_heap hbox4 0
  have b1 : W4.cell? ⟨w3.heap.size, 1, none⟩ = some (.string (bs nm)) := cell_of_heap hbox4 1
  -- what Find leaves
  have hfin : ∀ W, Below W4.heap.size W4 W → Calls Tryz.prog 140 #[.pointer (some ⟨s, 0, none⟩), .int .i64 i, .string (bs nm)] W fun e w' => (∃ j, e = .returned (.tuple #[.int .i64 j, .int .i64 4])) ∧ (w'.cell? ⟨f, 0, none⟩ = some (.pointer (some ⟨s, 0, none⟩)) ∧ w'.cell? ⟨w3.heap.size, 0, none⟩ = some (.int .i64 i) ∧ w'.cell? ⟨w3.heap.size, 1, none⟩ = some (.string (bs nm))) ∧ Hid (w'.heap[w.heap.size]? = some (.cells #[.int .i64 0, .string ⟨#[]⟩] 116 (0, 0)) ∧ ∀ W9, Off (fun k => k = w.heap.size) w' W9 → FsI B W9 f s c T N Z ∧ KeptS B Z w W9) := fun W hW => by
    obtain ⟨s5, k5⟩ := hF4.solo.fresh (Z' := fun k => Zr (fun k => Z k ∨ k = w.heap.size) A (l ++ [nm]) k ∨ k = w3.heap.size) hW (fun k hk => .inl hk)
    have hF5 := hF4.next s5 k5 hF4.fz
    refine (lfind_any B s N i nm T _ W hF5.solo).mono ?_
    rintro e w' ⟨rfl, g1, g2⟩
    have hF6 := hF5.next g1 g2 hF5.fz
    have hx : w'.heap[w3.heap.size]? = _ := (g2.z _ (.inr rfl)).trans ((k5.z _ (.inr rfl)).trans hbox4)
    obtain ⟨h0, h1, h2, h3⟩ := HH.out
    obtain ⟨h4, h5⟩ := H2.out
    have hkw : KeptS B (fun k => Z k ∨ k = w.heap.size) W1 w' := (((h5.trans (k3.weak fun k hk => .inl hk)).trans (k4.weak fun k hk => .inl hk)).trans (k5.weak fun k hk => .inl (.inl hk))).trans (g2.weak fun k hk => .inl (.inl hk))
    refine ⟨⟨_, by rw [HT.out.2]; rfl⟩, ⟨hF6.cells.1, cell_of_heap hx 0, cell_of_heap hx 1⟩, Lib.hid ⟨(hkw.z _ (.inr rfl)).trans h3, fun W9 ho => ?_⟩⟩
    exact h0.boxed hF6 (h2.trans (hkw.weak fun k hk => .inl hk)) (Nat.le_refl _) (.inl (.inl (.inr rfl))) (fun k hk => .inl (.inl (.inl hk))) ho
  have HFin := Lib.hid hfin
  clear hfin hF3 k3 hF4 k4 hbox4 HPl H2 HH HT
  go_wp2_with fail
  rw [← hW4]
  clear hW4
  go_region_held3 (fun w' => w'.cell? ⟨f, 0, none⟩ = some (.pointer (some ⟨s, 0, none⟩)) ∧ w'.cell? ⟨w3.heap.size, 0, none⟩ = some (.int .i64 i) ∧ w'.cell? ⟨w3.heap.size, 1, none⟩ = some (.string (bs nm)))
    ((first | assumption | go_keep))
    (first | (go_at_call 140; go_split_ands; refine (HFin.out _ (by first | exact Below.refl _ _ | exact (Below.refl _ _).drew)).mono ?_; rintro e w9 ⟨⟨j9, rfl⟩, hc9, HF9⟩))
  all_goals
    obtain ⟨y0, y1, y2⟩ := hc9
    have hbx := HF9.out.1
    have z0 : w9.cell? ⟨w.heap.size, 0, none⟩ = some (.int .i64 0) := cell_of_heap hbx 0
    have z1 : w9.cell? ⟨w.heap.size, 1, none⟩ = some (.string ⟨#[]⟩) := cell_of_heap hbx 1
    have z2 : w9.frozen? ⟨w.heap.size, 0, none⟩ = false := free_of_heap hbx 0
    have hX1 := heap_setCell_at w9 w.heap.size 0 (.int .i64 i) hbx
    have z3 : (w9.setCell ⟨w.heap.size, 0, none⟩ (.int .i64 i)).cell? ⟨w.heap.size, 1, none⟩ = some (.string ⟨#[]⟩) := cell_of_heap hX1 1
    have z4 : (w9.setCell ⟨w.heap.size, 0, none⟩ (.int .i64 i)).frozen? ⟨w.heap.size, 1, none⟩ = false := free_of_heap hX1 1
    have hX2 := heap_setCell_at (w9.setCell ⟨w.heap.size, 0, none⟩ (.int .i64 i)) w.heap.size 1 (.string (bs nm)) hX1
    have hoX : Off (fun k => k = w.heap.size) w9 ((w9.setCell ⟨w.heap.size, 0, none⟩ (.int .i64 i)).setCell ⟨w.heap.size, 1, none⟩ (.string (bs nm))) := ((Off.refl (fun k => k = w.heap.size) w9).setCell (p := ⟨w.heap.size, 0, none⟩) (.inl rfl) _).setCell (p := ⟨w.heap.size, 1, none⟩) (.inl rfl) _
    have HX := Lib.hid (⟨hX2, HF9.out.2 _ hoX⟩ : _ ∧ _)
    clear hbx hX1 hX2 hoX HF9
    go_wp2_with fail
    exact bodyPost_ret (results_place rfl _ _ w.heap.size i nm rfl (by rw [HX.out.1]; simp)) rfl ⟨rfl, HX.out.2⟩
end Go.Proofs.YtakmplpfjcddiaaGreatDoor

namespace Go.Proofs.YtakmplpfjcddiaaGreatDoor
open Go.RowKit Go.Shelf Pa
attribute [local go_sem] bs_toList bs_size
abbrev zInode : Obj := .cells #[.int .i64 0, .int .i64 0, .int .i64 0, .int .i64 0, .int .i64 0, .int .i64 0, .int .i64 0, .int .i64 0, .int .i64 0, .int .i64 0, .int .i64 0, .int .i64 0, .int .i64 0, .int .i64 0, .int .i64 0] 94
/-- An inode is laid into a new box. -/
theorem FsI.inode {B f s c N : Nat} {w : World} {T : RS} {Z : Nat → Prop} (h : FsI B w f s c T N Z) (o : Opn) (hl : o.Len) : ∃ W3, (storeCells ⟨w.heap.size, 0, none⟩ (cellsI o)).run Tryz.prog (w.alloc zInode) = .ok () W3 ∧ KeptS B Z w (w.alloc zInode) ∧ FsI B W3 f s c T N (fun k => Z k ∨ k = w.heap.size) ∧ KeptS B Z w W3 ∧ W3.heap[w.heap.size]? = some (.cells (cellsI o).toArray 94 (0, 0)) := by
  have hc0 := alloc_at w zInode _ rfl
  have hst := inode_store hc0 rfl o hl
  obtain ⟨h1, k1⟩ := h.box zInode
  have ho : Off (fun k => k = w.heap.size) (w.alloc zInode) ((w.alloc zInode).setRow w.heap.size (cellsI o).toArray) := off_setRow _ _ _
  have s3 := h1.solo.own (Z' := fun k => Z k ∨ k = w.heap.size) ho (fun k e => .inl (.inr e)) (fun k hk => .inl hk)
  have hk3 : KeptS B Z w ((w.alloc zInode).setRow w.heap.size (cellsI o).toArray) := by
    refine ⟨k1.below.trans (ho.below h1.solo.base fun k e => by have := h.solo.base; omega), fun k hz => ?_⟩
    have hkl := h.solo.lt hz
    exact (ho.block k (h1.solo.lt (.inl hz)) (by omega)).trans (k1.z k hz)
  exact ⟨_, hst, k1, h.next s3 hk3 (.inl h.fz), hk3, heap_setRow _ _ _ _ hc0⟩
/-- Behind Get: the inode lies at b. -/
def RmQ (B f s c N : Nat) (w W1 : World) (T : RS) (Z : Nat → Prop) (o : Opn) (b : Nat) (W9 : World) : Prop := FsI B W9 f s c T N (fun k => (Z k ∨ k = w.heap.size) ∨ k = b) ∧ KeptS B (fun k => Z k ∨ k = w.heap.size) W1 W9 ∧ W9.heap[b]? = some (.cells (cellsI o).toArray 94 (0, 0))
set_option maxRecDepth 100000 in
set_option maxHeartbeats 2000000 in
/-- There is room for a name more. -/
theorem roomFor_any (B f s c N i : Nat) (nm : Str) (T : RS) (Z : Nat → Prop) (w : World) (h : FsI B w f s c T N Z) (hl : T.look i = 0) (hlen : ∀ j, (getR T j).Len) (hsz : (T.file i).bytes.length ≤ 60000) :
    Calls Tryz.prog 88 #[.pointer (some ⟨f, 0, none⟩), .agg #[.int .i64 i, .string (bs nm)]] w fun e w' => e = .returned (.tuple #[]) ∧ FsI B w' f s c T N Z ∧ KeptS B Z w w' := by
  obtain ⟨hF1, k1⟩ := h.box (.cells #[.int .i64 i, .string (bs nm)] 116)
  have hbox : (w.alloc (.cells #[.int .i64 i, .string (bs nm)] 116)).heap[w.heap.size]? = some (.cells #[.int .i64 i, .string (bs nm)] 116 (0, 0)) := heap_alloc_new _ _
  obtain ⟨W1, hW1⟩ : ∃ W1, W1 = w.alloc (.cells #[.int .i64 i, .string (bs nm)] 116) := ⟨_, rfl⟩
  rw [← hW1] at hF1 k1 hbox
  obtain ⟨q0, _⟩ := hF1.cells
  have b0 : W1.cell? ⟨w.heap.size, 0, none⟩ = some (.int .i64 i) := cell_of_heap hbox 0
  obtain ⟨o, ho⟩ : ∃ o, o = getR T i := ⟨_, rfl⟩
  have hol : o.Len := by rw [ho]; exact hlen i
  have hosz : o.size = (T.file i).bytes.length := by rw [ho]; unfold getR; rw [if_pos hl, Int.toNat_natCast]; rfl
  have hs60 : o.size ≤ 60000 := by rw [hosz]; exact hsz
  have hS : ∀ w' Z' , (∀ k, (Z k ∨ k = w.heap.size) → Z' k) → FsI B w' f s c T N Z' → KeptS B (fun k => Z k ∨ k = w.heap.size) W1 w' → w'.cell? ⟨f, 0, none⟩ = some (.pointer (some ⟨s, 0, none⟩)) ∧ w'.cell? ⟨w.heap.size, 0, none⟩ = some (.int .i64 i) := fun w' Z' hz hF hk => by
    have hx : w'.heap[w.heap.size]? = _ := (hk.z _ (.inr rfl)).trans hbox
    exact ⟨hF.cells.1, cell_of_heap hx 0⟩
  have hQn : ∀ b W3, FsI B W3 f s c T N (fun k => (Z k ∨ k = w.heap.size) ∨ k = b) → KeptS B (fun k => Z k ∨ k = w.heap.size) W1 W3 → W3.heap[b]? = some (.cells (cellsI o).toArray 94 (0, 0)) → ∀ W9, Below W3.heap.size W3 W9 → RmQ B f s c N w W1 T Z o b W9 := fun b W3 h1 h2 h3 W9 hb => by
    obtain ⟨s9, k9⟩ := h1.solo.fresh (Z' := fun k => (Z k ∨ k = w.heap.size) ∨ k = b) hb (fun k hk => .inl hk)
    exact ⟨h1.next s9 k9 h1.fz, h2.trans (k9.weak fun k hk => .inl hk), (k9.z b (.inr rfl)).trans h3⟩
  -- Get, and its box, made behind it or ahead of it
  have hget1 : ∀ W, Below W1.heap.size W1 W → Calls Tryz.prog 107 #[.pointer (some ⟨s, 0, none⟩), .int .i64 i] W fun e w2 => e = .returned (.tuple #[.agg (cellsI o).toArray, .int .i64 0]) ∧ (w2.cell? ⟨f, 0, none⟩ = some (.pointer (some ⟨s, 0, none⟩)) ∧ w2.cell? ⟨w.heap.size, 0, none⟩ = some (.int .i64 i)) ∧ ∃ W3, (storeCells ⟨w2.heap.size, 0, none⟩ (cellsI o)).run Tryz.prog (w2.alloc zInode) = .ok () W3 ∧ ((w2.alloc zInode).cell? ⟨f, 0, none⟩ = some (.pointer (some ⟨s, 0, none⟩)) ∧ (w2.alloc zInode).cell? ⟨w.heap.size, 0, none⟩ = some (.int .i64 i)) ∧ (W3.cell? ⟨f, 0, none⟩ = some (.pointer (some ⟨s, 0, none⟩)) ∧ W3.cell? ⟨w.heap.size, 0, none⟩ = some (.int .i64 i)) ∧
      Hid (∀ W9, Below W3.heap.size W3 W9 → RmQ B f s c N w W1 T Z o w2.heap.size W9) := fun W hW => by
    obtain ⟨s2, k2⟩ := hF1.solo.fresh (Z' := fun k => Z k ∨ k = w.heap.size) hW (fun k hk => .inl hk)
    have hF2 := hF1.next s2 k2 hF1.fz
    have hg := lget_any B s N i T _ W hF2.solo
    rw [← ho, hl] at hg
    refine hg.mono ?_
    rintro e w2 ⟨rfl, g1, g2⟩
    have hF3 := hF2.next g1 g2 hF2.fz
    have k3 := k2.trans g2
    obtain ⟨W3, hst, ka, hF4, k4, hb4⟩ := hF3.inode o hol
    have k34 := k3.trans k4
    exact ⟨rfl, hS w2 _ (fun k hk => hk) hF3 k3, W3, hst, hS _ _ (fun k hk => .inl hk) (hF3.box zInode).1 (k3.trans ka), hS W3 _ (fun k hk => .inl hk) hF4 k34, Lib.hid (hQn _ W3 hF4 k34 hb4)⟩
  obtain ⟨hFA, kA⟩ := hF1.box zInode
  have hbA : (W1.alloc zInode).heap[W1.heap.size]? = some zInode := heap_alloc_new _ _
  have hSA := hS _ _ (fun k hk => .inl hk) hFA kA
  have hget2 : ∀ W, Below (W1.alloc zInode).heap.size (W1.alloc zInode) W → Calls Tryz.prog 107 #[.pointer (some ⟨s, 0, none⟩), .int .i64 i] W fun e w2 => e = .returned (.tuple #[.agg (cellsI o).toArray, .int .i64 0]) ∧ (w2.cell? ⟨f, 0, none⟩ = some (.pointer (some ⟨s, 0, none⟩)) ∧ w2.cell? ⟨w.heap.size, 0, none⟩ = some (.int .i64 i)) ∧ ∃ W3, (storeCells ⟨W1.heap.size, 0, none⟩ (cellsI o)).run Tryz.prog w2 = .ok () W3 ∧ (W3.cell? ⟨f, 0, none⟩ = some (.pointer (some ⟨s, 0, none⟩)) ∧ W3.cell? ⟨w.heap.size, 0, none⟩ = some (.int .i64 i)) ∧
      Hid (∀ W9, Below W3.heap.size W3 W9 → RmQ B f s c N w W1 T Z o W1.heap.size W9) := fun W hW => by
    obtain ⟨s2, k2⟩ := hFA.solo.fresh (Z' := fun k => (Z k ∨ k = w.heap.size) ∨ k = W1.heap.size) hW (fun k hk => .inl hk)
    have hF2 := hFA.next s2 k2 hFA.fz
    have hg := lget_any B s N i T _ W hF2.solo
    rw [← ho, hl] at hg
    refine hg.mono ?_
    rintro e w2 ⟨rfl, g1, g2⟩
    have hF3 := hF2.next g1 g2 hF2.fz
    have kk := k2.trans g2
    have k3 := kA.trans (kk.weak fun k hk => .inl hk)
    have hb2 : w2.heap[W1.heap.size]? = some zInode := (kk.z _ (.inr rfl)).trans hbA
    have hst := inode_store hb2 rfl o hol
    have hoff : Off (fun k => k = W1.heap.size) w2 (w2.setRow W1.heap.size (cellsI o).toArray) := off_setRow _ _ _
    have s3 := hF3.solo.own (Z' := fun k => (Z k ∨ k = w.heap.size) ∨ k = W1.heap.size) hoff (fun k e => .inl (.inr e)) (fun k hk => .inl hk)
    have hk3 : KeptS B (fun k => Z k ∨ k = w.heap.size) W1 (w2.setRow W1.heap.size (cellsI o).toArray) := by
      refine ⟨k3.below.trans (hoff.below hF3.solo.base fun k e => by have := hF1.solo.base; omega), fun k hz => ?_⟩
      have hkl := hF1.solo.lt hz
      exact (hoff.block k (hF3.solo.lt (.inl hz)) (by omega)).trans (k3.z k hz)
    have hF4 := hF1.next s3 hk3 (.inl hF1.fz)
    exact ⟨rfl, hS w2 _ (fun k hk => .inl hk) hF3 k3, _, hst, hS _ _ (fun k hk => .inl hk) hF4 hk3, Lib.hid (hQn _ _ hF4 hk3 (heap_setRow _ _ _ _ hb2))⟩
  have hS0 := hS W1 _ (fun k hk => hk) hF1 (KeptS.refl _ _ _)
  have HGet1 := Lib.hid hget1
  have HGet2 := Lib.hid hget2
  have HH := Lib.hid (⟨h, k1, hS⟩ : _ ∧ _ ∧ _)
  have hl15 := cellsI_length hol
  have hbig : decide ((70656 : Int) < (o.size : Int) + 64) = false := by simp; omega
  have hwb : IntKind.i64.wrap ((o.size : Int) + 64) = (o.size : Int) + 64 := IntWalk.i64_in _ (by omega)
  have hlb : (lookB T i).length ≤ 60000 := by
    unfold lookB
    split
    · rw [Int.toNat_natCast]; exact hsz
    · exact Nat.zero_le _
  clear hget1 hget2 hS hQn hF1 k1 hbox h ho hlen hosz hl hsz hFA kA hbA
  go_enter Tryz.func88, Tryz.ntmps88
  go_upto_region 1 with fail
  rw [← hW1]
  clear hW1
  go_cut [4] (fun v4 wx => ∃ b, v4 = .pointer (some ⟨b, 0, none⟩) ∧ RmQ B f s c N w W1 T Z o b wx)
  case first =>
    go_region_held3 (fun w' => w'.cell? ⟨f, 0, none⟩ = some (.pointer (some ⟨s, 0, none⟩)) ∧ w'.cell? ⟨w.heap.size, 0, none⟩ = some (.int .i64 i))
      ((first | assumption | go_keep))
      (first
        | (go_at_call 107; go_split_ands; refine (HGet1.out _ (by first | exact Below.refl _ _ | exact (Below.refl _ _).drew)).mono ?_; rintro e w2 ⟨rfl, hc2, W3, hst, hca, hc3, HQ⟩)
        | (go_at_call 107; go_split_ands; refine (HGet2.out _ (by first | exact Below.refl _ _ | exact (Below.refl _ _).drew)).mono ?_; rintro e w2 ⟨rfl, hc2, W3, hst, hc3, HQ⟩))
    all_goals (go_wp2_with fail; go_meet; exact ⟨_, rfl, HQ.out _ (by first | exact Below.refl _ _ | exact (Below.refl _ _).drew)⟩)
  case rest =>
    obtain ⟨b, rfl, hQ1, hQ2, hQ3⟩ := hcut
    obtain ⟨h, k1, hS⟩ := HH.out
    have hSc := hS wc _ (fun k hk => .inl hk) hQ1 hQ2
    have hlist : ∀ W4, Below wc.heap.size wc W4 → Calls Tryz.prog 70 #[.pointer (some ⟨s, 0, none⟩), .int .i64 i] W4 fun e w5 => ∃ A n cc ee, e = .returned (.tuple #[.slice A n cc, .int .i64 ee]) ∧ n ≤ 1104 ∧ (w5.cell? ⟨f, 0, none⟩ = some (.pointer (some ⟨s, 0, none⟩)) ∧ w5.cell? ⟨w.heap.size, 0, none⟩ = some (.int .i64 i)) ∧ w5.cell? ⟨b, 3, none⟩ = some (.int .i64 o.size) ∧ Hid (∀ W9, Below w5.heap.size w5 W9 → FsI B W9 f s c T N Z ∧ KeptS B Z w W9) := fun W4 hW4 => by
      obtain ⟨s5, k5⟩ := hQ1.solo.fresh (Z' := fun k => (Z k ∨ k = w.heap.size) ∨ k = b) hW4 (fun k hk => .inl hk)
      have hF5 := hQ1.next s5 k5 hQ1.fz
      refine (llist_any B s N i T _ W4 hF5.solo).mono ?_
      rintro e w5 ⟨v, rfl, hown, m1, m2⟩
      obtain ⟨A, cc, rfl⟩ := ownsRow_slice hown
      have hF6 := hF5.next m1 m2 (.inl hF5.fz)
      have k35 : KeptS B (fun k => Z k ∨ k = w.heap.size) W1 w5 := (hQ2.trans (k5.weak fun k hk => .inl hk)).trans (m2.weak fun k hk => .inl hk)
      refine ⟨A, _, cc, _, rfl, ?_, hS w5 _ (fun k hk => .inl (.inl hk)) hF6 k35, ?_, Lib.hid fun W9 hb9 => ?_⟩
      · unfold listP
        rw [List.length_mergeSort]
        have h2 := namesP_le (slotsP (lookB T i))
        rw [slotsP_length] at h2
        omega
      · have hx : w5.heap[b]? = _ := (m2.z _ (.inr rfl)).trans ((k5.z _ (.inr rfl)).trans hQ3)
        rw [cell_of_heap hx]; rfl
      · obtain ⟨s9, k9⟩ := hF6.solo.fresh (Z' := Z) hb9 (fun k hk => .inl (.inl (.inl (.inl hk))))
        have hkk := (k1.trans (k35.weak fun k hk => .inl hk)).trans (k9.weak fun k hk => .inl (.inl (.inl hk)))
        exact ⟨h.next s9 hkk h.fz, hkk⟩
    have HLi := Lib.hid hlist
    have p0 := hSc.1
    have p1 := hSc.2
    clear hlist hQ1 hQ2 hQ3 hSc h k1 hS HH HGet1 HGet2 hlb q0 b0 hS0 hSA
    go_upto_region 2 with fail
    go_cut [6, 7] (fun v6 _v7 wx => ∃ A n cc, v6 = .slice A n cc ∧ n ≤ 1104 ∧ wx.cell? ⟨b, 3, none⟩ = some (.int .i64 o.size) ∧ FsI B wx f s c T N Z ∧ KeptS B Z w wx)
    case first =>
      go_region_held3 (fun w' => w'.cell? ⟨f, 0, none⟩ = some (.pointer (some ⟨s, 0, none⟩)) ∧ w'.cell? ⟨w.heap.size, 0, none⟩ = some (.int .i64 i))
        ((first | assumption | go_keep))
        (first | (go_at_call 70; go_split_ands; refine (HLi.out _ (by first | exact Below.refl _ _ | exact (Below.refl _ _).drew)).mono ?_; rintro e w5 ⟨A5, n5, cc5, ee5, rfl, hn5, hc5, hb5, HF5⟩))
      all_goals
        have HQ5 := Lib.hid (⟨hn5, hb5⟩ : _ ∧ _)
        go_wp2_with fail
        go_meet
        first
          | exact ⟨_, _, _, rfl, HQ5.out.1, HQ5.out.2, HF5.out _ (Below.refl _ _)⟩
          | exact ⟨_, _, _, rfl, HQ5.out.1, HQ5.out.2, HF5.out _ (Below.refl _ _).drew⟩
    case rest =>
      obtain ⟨A6, n6, cc6, rfl, hn6, hb6, hF6, hk6⟩ := hcut
      have hwm : IntKind.i64.wrap ((n6 : Int) * 64) = (n6 : Int) * 64 := IntWalk.i64_in _ (by omega)
      have HF6 := Lib.hid (⟨hF6, hk6⟩ : _ ∧ _)
      clear hF6 hk6 HLi
      by_cases hge : (o.size : Int) ≤ (n6 : Int) * 64
      · have hge' : decide ((o.size : Int) ≤ (n6 : Int) * 64) = true := decide_eq_true hge
        clear hge
        go_wp2_with fail
        go_end0
        exact ⟨rfl, HF6.out.1, HF6.out.2⟩
      · have hge' : decide ((o.size : Int) ≤ (n6 : Int) * 64) = false := decide_eq_false hge
        clear hge
        go_wp2_with fail
        go_end0
        exact ⟨rfl, HF6.out.1, HF6.out.2⟩
end Go.Proofs.YtakmplpfjcddiaaGreatDoor

namespace Go.Proofs.YtakmplpfjcddiaaGreatDoor
open Go.RowKit Go.Shelf Pa
attribute [local go_sem] bs_toList bs_size
set_option maxRecDepth 100000 in
set_option maxHeartbeats 2000000 in
theorem iwrite0_any (s m c ino cc : Nat) (i : Int) (A : Option Addr) (o : Opn) (C : Ca) (R : Reg) (F : List (Nat × Obj)) (w : World) (h : Held w F c C R) (hm : (m, mapO c ino) ∈ F) (hs : (s, storeO m) ∈ F) (hi : ino ≤ 512) (hp : alFirst ino < C.G.pages)
    (hv : ∀ j, 1 ≤ j → j < ino → bitAt (C.rd 1) j = true → (C.recd j).ind < C.G.pages) (hlo : C.loadR ino i = (o, 0)) (hlen : o.Len) :
    Calls Tryz.prog 63 #[.pointer (some ⟨s, 0, none⟩), .int .i64 i, .int .i64 0, .slice A 0 cc] w fun e w' => e = .returned (.int .i64 0) ∧ Step w F c C R w' := by
  obtain ⟨p0, p1, p2, z0⟩ := alloc3 w (.cells #[.pointer (some ⟨s, 0, none⟩)] 52) (.cells #[.int .i64 0] 3) (.cells #[.slice A 0 cc] 37)
  obtain ⟨W0, hW0⟩ : ∃ W0, W0 = (((w.alloc (.cells #[.pointer (some ⟨s, 0, none⟩)] 52)).alloc (.cells #[.int .i64 0] 3)).alloc (.cells #[.slice A 0 cc] 37)) := ⟨_, rfl⟩
  rw [← hW0] at p0 p1 p2 z0
  have hb0 : Below w.heap.size w W0 := by
    rw [hW0]
    exact (((Below.refl _ _).alloc (Nat.le_refl _) _).alloc (by simp) _).alloc (by simp; omega) _
  have h0 := h.below hb0
  have hld := load_any s m c ino i C R F W0 h0 hm hs hi hp hv
  rw [hlo] at hld
  have ks0 : W0.cell? ⟨w.heap.size, 0, none⟩ = some (.pointer (some ⟨s, 0, none⟩)) := cell_of_heap p0 0
  have HLd := Lib.hid hld
  have HLen := Lib.hid hlen
  have HW0 := Lib.hid (⟨p1, p2, hb0, z0, h⟩ : _ ∧ _ ∧ _ ∧ _ ∧ _)
  clear hld hlen h0 p0 p1 p2 h hm hs hv hlo hb0 z0
  go_enter Tryz.func63, Tryz.ntmps63
  go_wp2_with fail
  rw [← hW0]
  clear hW0
  refine HLd.out.mono ?_
  rintro e w1 ⟨rfl, hs1⟩
  have hst := opn_store (opn_new w1) o HLen.out
  obtain ⟨W3, hW3⟩ : ∃ W3, W3 = (w1.alloc (.cells Tryz.zeroCells171 171)).setRow w1.heap.size (cellsO o).toArray := ⟨_, rfl⟩
  rw [← hW3] at hst
  have ho3 : Off (fun k => k = w1.heap.size) w1 W3 := by
    rw [hW3]
    exact ((Off.refl (fun k => k = w1.heap.size) w1).alloc _).trans (off_setRow _ _ _) (fun k e => .inl e)
  have hl144 := cellsO_length HLen.out
  obtain ⟨p1, p2, hb0, z0, hh⟩ := HW0.out
  have hold : ∀ k, w.heap.size ≤ k → k < w.heap.size + 3 → W3.heap[k]? = W0.heap[k]? := fun k hk hk2 => by
    obtain ⟨R1, g1, t1, o1⟩ := hs1
    have hz := o1.size
    rw [ho3.block k (by omega) (by omega), o1.block k (by omega) (fun e => by have := hh.lt k (.inl e); omega)]
  have c1 : W3.cell? ⟨w.heap.size + 1, 0, none⟩ = some (.int .i64 0) := cell_of_heap ((hold _ (by omega) (by omega)).trans p1) 0
  have c2 : W3.cell? ⟨w.heap.size + 1 + 1, 0, none⟩ = some (.slice A 0 cc) := cell_of_heap ((hold _ (by omega) (by omega)).trans p2) 0
  have hfin : Step w F c C R W3 := by
    obtain ⟨R1, g1, t1, o1⟩ := hs1
    have hz := o1.size
    refine ⟨R1, g1.off ho3 (fun k hk e => by have := g1.lt _ hk; omega), ?_, ((Off.of_below hb0 _).trans o1 (fun k e => ?_)).trans ho3 (fun k e => .inr (by omega))⟩
    · exact ((Reg.To.refl _ _).trans t1 (by omega))
    · exact .inl e
  have HFin := Lib.hid hfin
  clear hW3 ho3 hfin hs1 hold p1 p2 hh
  go_wp2_with fail
  go_ret
  exact ⟨rfl, HFin.out⟩
theorem swrite0_any (s N j cc : Nat) (A : Option Addr) (T : RS) (R : Reg) (w : World) (h : StI w s T R N) (hl : T.live j) :
    Calls Tryz.prog 63 #[.pointer (some ⟨s, 0, none⟩), .int .i64 j, .int .i64 0, .slice A 0 cc] w fun e w' => e = .returned (.int .i64 0) ∧ StStep w s T R N w' := by
  obtain ⟨m, c, C, F, h1, h2, h3, h4, h5, h6, h7⟩ := h
  have hlk := h4.lookLive hl
  have hlo := h4.loadR (j : Int)
  rw [hlk, if_pos rfl, Int.toNat_natCast] at hlo
  refine (iwrite0_any s m c T.inodes cc j A _ C R F w h1 h2 h3 h4.ino8.2.2.1 h4.ino8.2.2.2 h4.recInd hlo (opnOf_len (h4.files j hl).2 h4.npl j)).mono ?_
  rintro e w' ⟨rfl, R', k1, k2, k3⟩
  exact ⟨rfl, R', ⟨m, c, C, F, k1, h2, h3, h4, h5, h6, h7⟩, k2, k3⟩
/-- A write to a file, of bytes that may be none. -/
def wrT (T : RS) (j : Nat) (b : Str) : Option RS := if b = [] then some T else T.write j 0 b
theorem lwrite0_any (B s N j : Nat) (b : Str) (v : Value) (T T' : RS) (Z : Nat → Prop) (w : World) (h : Solo B w s T N Z) (hl : T.live j) (hsz : b.length ≤ 70656) (hv : BytesI w (fun k => Z k ∨ k < B) v b) (hw : wrT T j b = some T') :
    Calls Tryz.prog 63 #[.pointer (some ⟨s, 0, none⟩), .int .i64 j, .int .i64 0, v] w fun e w' => e = .returned (.int .i64 0) ∧ Solo B w' s T' N Z ∧ KeptS B Z w w' := by
  unfold wrT at hw
  by_cases hb : b = []
  · rw [if_pos hb] at hw
    cases hw
    obtain ⟨A, c, rfl, _, _⟩ := hv
    subst hb
    obtain ⟨R, g, hl'⟩ := h.step
    refine (swrite0_any s N j c A T R w g hl).mono ?_
    rintro e w' ⟨rfl, hst⟩
    exact ⟨rfl, hl' w' _ _ hst⟩
  · rw [if_neg hb] at hw
    exact lwrite_any B s N j 0 b v T T' Z w h hl hb (by omega) hv hw
theorem fmode_ok (n : Nat) (hn : n ≤ 4095) (w : World) : Calls Tryz.prog 56 #[.int .i64 n] w fun e w' => e = .returned (.tuple #[]) ∧ w' = w := by
  have h1 : decide ((n : Int) < 0) = false := by simp
  have h2 : decide ((4095 : Int) < (n : Int)) = false := by simp; omega
  go_enter Tryz.func56, Tryz.ntmps56
  go_wp2
  go_end0
  exact ⟨rfl, rfl⟩
theorem fmode_bad (n : Int) (hn : n < 0 ∨ 4095 < n) (w : World) : Calls Tryz.prog 56 #[.int .i64 n] w fun e w' => e = gaveUp 2 ∧ w' = w := by
  have HM := Lib.hid (must_bad 2 (by omega) w)
  by_cases h1 : n < 0
  · have h1' : decide (n < 0) = true := by simp; omega
    clear hn h1
    go_enter Tryz.func56, Tryz.ntmps56
    go_wp2_with fail
    refine HM.out.mono ?_
    rintro e w3 ⟨rfl, hw3⟩
    obtain rfl := hw3.symm
    go_wp2_with fail
    exact ⟨rfl, rfl, rfl⟩
  · have h1' : decide (n < 0) = false := by simp; omega
    have h2' : decide ((4095 : Int) < n) = true := by simp; omega
    clear hn h1
    go_enter Tryz.func56, Tryz.ntmps56
    go_wp2_with fail
    refine HM.out.mono ?_
    rintro e w3 ⟨rfl, hw3⟩
    obtain rfl := hw3.symm
    go_wp2_with fail
    exact ⟨rfl, rfl, rfl⟩
end Go.Proofs.YtakmplpfjcddiaaGreatDoor
