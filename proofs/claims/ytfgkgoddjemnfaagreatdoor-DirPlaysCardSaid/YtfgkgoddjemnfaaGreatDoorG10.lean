/-
  Putting a name into its place among sorted ones, in plain Lean; an entry's index.
  A directory's bytes as the reference lays them: few pages; what a drop leaves comes by a write of zeros and a resize.
  The reference's Slots: the entries of a directory's bytes.
  The reference's bytes of an entry.
  The reference's look at a directory, and the place of a name's entry.
  The reference's Find.
  The walk over the reference's Read of a whole file.
  The reference's Add.
  The reference's List: its names put in their places one by one.
  The reference's Empty and Drop.
  The walk over the document's SameBytes.
  Both stores side by side: the calls of the reference in the words of PairZ.
  Arguments opened: slices of deeds.
  The walk over the law package's do: a deed on both stores.
-/
import Derived.Test.YtfgkgoddjemnfaaGreatDoorG9
import Derived.Laws.AppendOwnNone
import Derived.Laws.Cover1
import Derived.Deep.RegionHeld3
set_option linter.unusedVariables false
set_option linter.unusedSimpArgs false
set_option linter.deprecated false
namespace Go.Proofs.YtfgkgoddjemnfaaGreatDoor
open Go.RowKit Go.Shelf Pa
theorem ins_sorted {out : List Str} {x : Str} {k : Nat} (hs : out.Pairwise (· ≤ ·)) (hk : k ≤ out.length) (hgt : ∀ j y, k ≤ j → out[j]? = some y → x < y) (hle : k = 0 ∨ ∃ y, out[k - 1]? = some y ∧ ¬ x < y) : (out.take k ++ x :: out.drop k).Pairwise (· ≤ ·) := by
  have hs2 : (out.take k ++ out.drop k).Pairwise (· ≤ ·) := by rw [List.take_append_drop]; exact hs
  obtain ⟨p1, p2, p3⟩ := List.pairwise_append.1 hs2
  have hx : ∀ y ∈ out.drop k, x ≤ y := fun y hy => by
    obtain ⟨j, hj⟩ := List.getElem?_of_mem hy
    rw [List.getElem?_drop] at hj
    exact List.le_of_lt (hgt (k + j) y (by omega) hj)
  have ht : ∀ a ∈ out.take k, a ≤ x := fun a ha => by
    obtain ⟨i, hi⟩ := List.getElem?_of_mem ha
    have hik : i < k := by have := (List.getElem?_eq_some_iff.1 hi).1; rw [List.length_take] at this; omega
    rw [List.getElem?_take_of_lt hik] at hi
    rcases hle with rfl | ⟨y, hy, hyx⟩
    · omega
    · have hyx : y ≤ x := hyx
      by_cases e : i = k - 1
      · rw [e, hy] at hi
        cases hi
        exact hyx
      · obtain ⟨h1, rfl⟩ := List.getElem?_eq_some_iff.1 hi
        obtain ⟨h2, rfl⟩ := List.getElem?_eq_some_iff.1 hy
        exact List.le_trans (List.pairwise_iff_getElem.1 hs i (k - 1) h1 h2 (by omega)) hyx
  refine List.pairwise_append.2 ⟨p1, List.pairwise_cons.2 ⟨hx, p2⟩, fun a ha b hb => ?_⟩
  rcases List.mem_cons.1 hb with rfl | hb
  · exact ht a ha
  · exact p3 a ha b hb
theorem ins_perm {out l : List Str} {x : Str} {k : Nat} (h : out.Perm l) : (out.take k ++ x :: out.drop k).Perm (l ++ [x]) := by
  refine List.perm_middle.trans ?_
  rw [List.take_append_drop]
  exact (List.Perm.cons x h).trans (List.perm_append_singleton x l).symm
theorem ins_length (out : List Str) (x : Str) (k : Nat) : (out.take k ++ x :: out.drop k).length = out.length + 1 := by
  rw [List.length_append, List.length_cons, List.length_take, List.length_drop]; omega
theorem sorted_is {out l : List Str} (hs : out.Pairwise (· ≤ ·)) (h : out.Perm l) : out = l.mergeSort fun x y => decide (x ≤ y) := by
  have ht : ∀ x y z : Str, decide (x ≤ y) = true → decide (y ≤ z) = true → decide (x ≤ z) = true := fun x y z h1 h2 => by
    simp only [decide_eq_true_eq] at *; exact List.le_trans h1 h2
  have htot : ∀ x y : Str, (decide (x ≤ y) || decide (y ≤ x)) = true := fun x y => by
    rcases List.le_total x y with h | h <;> simp [h]
  have h2 := List.pairwise_mergeSort ht htot l
  refine List.Perm.eq_of_pairwise (le := fun x y => decide (x ≤ y) = true) ?_ (hs.imp fun h => by simpa using h) h2 (h.trans (List.mergeSort_perm l _).symm)
  intro x y _ _ h3 h4
  simp only [decide_eq_true_eq] at h3 h4
  exact List.le_antisymm h3 h4
/-- Where a name's entry is; -1: nowhere. -/
def AtP (l : List Sl) (nm : Str) (a : Int) : Prop := (a = -1 ∧ ∀ y ∈ l, hitP nm y = false) ∨ ∃ (k : Nat) (x : Sl), a = (k : Int) ∧ l[k]? = some x ∧ hitP nm x = true ∧ ∀ y ∈ l.take k, hitP nm y = false
theorem AtP.none {b nm : Str} {a : Int} (h : AtP (slotsP b) nm a) (ha : a < 0) : findP b nm = Option.none := by
  rcases h with ⟨_, h⟩ | ⟨k, x, e, _⟩
  · exact findP_none h
  · omega
theorem slotsP_at {b : Str} {k : Nat} {x : Sl} (h : (slotsP b)[k]? = some x) : x = decS b k ∧ k < b.length / 64 := by
  unfold slotsP at h
  rw [List.getElem?_map, Option.map_eq_some_iff] at h
  obtain ⟨j, h1, h2⟩ := h
  have hk : k < b.length / 64 := by have := (List.getElem?_eq_some_iff.1 h1).1; simpa using this
  rw [List.getElem?_range hk] at h1
  cases h1
  exact ⟨h2.symm, hk⟩
theorem take_prefix_at {α : Type} {l : List α} {k : Nat} {x : α} (h : l[k]? = some x) : l.take k ++ [x] <+: l := by
  have : l.take k ++ [x] = l.take (k + 1) := by rw [List.take_add_one, h]; rfl
  rw [this]
  exact List.take_prefix _ _
theorem AtP.some {b nm : Str} {a : Int} (h : AtP (slotsP b) nm a) (ha : 0 ≤ a) : ∃ (k : Nat) (x : Sl), a = (k : Int) ∧ (slotsP b)[k]? = some x ∧ findP b nm = some x ∧ x.at_ = 64 * k ∧ k < b.length / 64 := by
  rcases h with ⟨e, _⟩ | ⟨k, x, e, hx, hh, hp⟩
  · omega
  · obtain ⟨e2, hk⟩ := slotsP_at hx
    exact ⟨k, x, e, hx, findP_some (take_prefix_at hx) hp hh, by rw [e2]; rfl, hk⟩
end Go.Proofs.YtfgkgoddjemnfaaGreatDoor

namespace Go.Proofs.YtfgkgoddjemnfaaGreatDoor
open Go.RowKit Go.Shelf Pa
theorem DirU.few {C : Ca} {T : RS} {u : Nat → List Ent} {L : Nat} (h : DirU T u L) (hr : Rel C T (fun _ => False)) (ht : T.Tight) (hL : L ≤ 61) {j : Nat} (hj : j = 1 ∨ j = 3) {size : Nat} (hs : size ≤ 4608) : Few T j size := by
  obtain ⟨es, h1, _, h3⟩ := h
  have hl : T.live j := (h1.live j).2 (by omega)
  have hf := (hr.files j hl).2
  have hbl : (T.file j).bytes.length = 64 * (es j).length := by rw [h1.b, encE_length (h1.ok j)]
  have hc := h3 j
  have hd : (T.file j).data.length ≤ 8 := by rw [ht j, hbl]; unfold npg; omega
  have hi : (T.file j).ind = 0 := hf.ind.2 (by omega)
  have hp : (T.file j).pgs = (T.file j).data := by unfold RF.pgs; rw [if_pos hi]
  have hnp := hr.np
  refine ⟨RS.live_lt hl, hi, by omega, ⟨?_, fun n hn => ?_⟩, by omega, hs⟩
  · have := hf.nodup; rw [hp] at this; exact this
  · obtain ⟨a, b, c⟩ := hf.own n (by rw [hp]; exact hn)
    exact ⟨a, by omega, c⟩
theorem DirU.blen {T : RS} {u : Nat → List Ent} {L : Nat} (h : DirU T u L) (d : Int) : (lookB T d).length ≤ 64 * L := by
  obtain ⟨es, h1, _, h3⟩ := h
  by_cases h0 : lookE T d = 0
  · have := h3 d.toNat
    rw [h1.lookB h0, encE_length (h1.ok _)]; omega
  · unfold lookB; rw [if_neg h0]; exact Nat.zero_le _
theorem Rel.resized {C : Ca} {T T1 : RS} {j size : Nat} (h : Rel C T (fun _ => False)) (ht : T.Tight) (hl : T.live j) (hsz : size ≤ 70656) (e : T.resize j size = some T1) : Resized T T1 j size := by
  have := h.resize (j := j) (size := size) (fun _ e => e.elim) ht hl hsz
  rw [e] at this
  obtain ⟨_, _, _, _, h⟩ := this
  exact h
theorem rshr_set (n : Nat) : ∀ (T : RS) (f : RF) (j : Nat) (g : RF) (b : Str), (rshrinkN n (T.set j g, { f with bytes := b })).1 = (rshrinkN n (T, f)).1.set j g ∧ ∃ b', (rshrinkN n (T.set j g, { f with bytes := b })).2 = { (rshrinkN n (T, f)).2 with bytes := b' } := by
  induction n with
  | zero => intro T f j g b; exact ⟨rfl, b, rfl⟩
  | succ n ih =>
    intro T f j g b
    have e : rshrink1 (T.set j g, { f with bytes := b }) = ((rshrink1 (T, f)).1.set j g, { (rshrink1 (T, f)).2 with bytes := b.take (512 * (f.data.length - 1)) }) := by
      unfold rshrink1
      dsimp only
      split <;> rfl
    rw [rshrinkN, e, rshrinkN]
    exact ih _ _ _ _ _
/-- A write that does not lengthen; a resize to nothing behind it. -/
theorem wipe_eq {T T1 : RS} {j at_ : Nat} {z : Str} (ht : T.Tight) (hlt : j < T.l.length) (ha : at_ + z.length ≤ (T.file j).bytes.length) (hw : T.write j at_ z = some T1) : T1.resize j 0 = T.resize j 0 := by
  obtain ⟨f, hf⟩ : ∃ f, f = T.file j := ⟨_, rfl⟩
  have htj := ht j
  have e : T.resize j f.bytes.length = some (T.set j f) := by
    unfold RS.resize
    rw [← hf] at htj ⊢
    rw [htj, Nat.sub_self]
    simp only [rgrowN]
    rw [htj, Nat.sub_self]
    simp only [rshrinkN]
    congr 2
    unfold fitTo
    rw [Nat.sub_self, List.replicate_zero, List.append_nil, List.take_length]
  unfold RS.write at hw
  rw [← hf] at ha hw htj
  rw [Nat.max_eq_left ha, e] at hw
  have hw : (T.set j f).set j { (T.set j f).file j with bytes := laidAt ((T.set j f).file j).bytes at_ z } = T1 := Option.some.inj hw
  rw [file_set T j j f hlt, if_pos rfl, RS.set_set] at hw
  obtain ⟨nb, hnb⟩ : ∃ nb, nb = laidAt f.bytes at_ z := ⟨_, rfl⟩
  rw [← hnb] at hw
  subst hw
  have e2 : (T.set j { f with bytes := nb }).file j = { f with bytes := nb } := by rw [file_set T j j _ hlt, if_pos rfl]
  have z0 : npg 0 = 0 := by decide
  unfold RS.resize
  rw [e2, ← hf, z0]
  simp only [Nat.zero_sub, rgrowN, Nat.sub_zero]
  obtain ⟨a1, b', a2⟩ := rshr_set f.data.length T f j { f with bytes := nb } nb
  rw [a1, a2, RS.set_set]
  congr 2
  unfold fitTo
  simp
/-- A name's entry is wiped. -/
theorem DirU.wipe {C : Ca} {T : RS} {u : Nat → List Ent} {L : Nat} (h : DirU T u L) (hr : Rel C T (fun _ => False)) (ht : T.Tight) (hL : L ≤ 60) {d : Int} {nm : Str} (he : (Go.Proofs.YtfgkgoddjemnfaaGreatDoor.findR T d nm).2.2 = 0) :
    ∃ T1, T.write d.toNat (Go.Proofs.YtfgkgoddjemnfaaGreatDoor.findR T d nm).1.at_ (encS [] 0) = some T1 ∧ (Go.Proofs.YtfgkgoddjemnfaaGreatDoor.findR T d nm).1.at_ + 64 ≤ (T.file d.toNat).bytes.length ∧ (T.file d.toNat).bytes.length ≤ 3840 ∧ lookE T1 d = 0 ∧ usedP (slotsP (lookB T d)) = usedP (slotsP (lookB T1 d)) + 1 ∧ (if usedP (slotsP (lookB T1 d)) = 0 then T1.resize d.toNat 0 = some (drpT T d nm) else T1 = drpT T d nm) ∧ (∀ size, size ≤ 4608 → Few T1 d.toNat size) ∧ T1.look d = 0 ∧ (lookB T1 d).length = (lookB T d).length := by
  obtain ⟨es, h1, h2, h3⟩ := h
  have hc : ∀ j, (es j).length ≤ 60 := fun j => Nat.le_trans (h3 j) hL
  have ha := h1.findE d nm
  rw [he] at ha
  by_cases h0 : lookE T d = 0
  case neg => rw [if_pos h0] at ha; exact absurd ha.symm h0
  rw [if_neg (fun e => e h0)] at ha
  by_cases hn1 : nameOk nm = false
  case pos => rw [if_pos hn1] at ha; cases ha
  have hj : d.toNat = 1 ∨ d.toNat = 3 := by
    rcases (h1.look0 d).1 h0 with rfl | rfl
    · exact .inl rfl
    · exact .inr rfl
  have hf := findP_encE (h1.ok d.toNat) nm
  have hB := h1.lookB h0
  have hfr : ∃ k i, (es d.toNat)[k]? = some (nm, i) ∧ i ≠ 0 ∧ (Go.Proofs.YtfgkgoddjemnfaaGreatDoor.findR T d nm).1 = ⟨64 * k, nm, i⟩ := by
    have he' := he
    unfold Go.Proofs.YtfgkgoddjemnfaaGreatDoor.findR at he' ⊢
    rw [if_neg (fun e => e h0), if_neg hn1, hB] at he' ⊢
    cases hp : findP (encE (es d.toNat)) nm with
    | some x =>
      rw [hp] at hf
      obtain ⟨k, i, e1, e2, e3⟩ := hf
      exact ⟨k, i, e1, e2, e3⟩
    | none => rw [hp] at he'; cases he'
  obtain ⟨k, i, e1, e2, e3⟩ := hfr
  have hkl : k < (es d.toNat).length := (List.getElem?_eq_some_iff.1 e1).1
  have hcj := hc d.toNat
  have hl : T.live d.toNat := (h1.live _).2 (by omega)
  have hlt : d.toNat < T.l.length := by rw [hr.ino]; exact RS.live_lt hl
  have hbl : (T.file d.toNat).bytes.length = 64 * (es d.toNat).length := by rw [h1.b, encE_length (h1.ok _)]
  have hu : usedP (slotsP (lookB T d)) = (usedE (es d.toNat)).length := by rw [hB, slotsP_encE (h1.ok _), usedP_slE]
  have hp := usedE_del e1 e2
  have hp2 := hp.map (·.1)
  have hnd := hp2.nodup_iff.2 (h1.nodup d.toNat)
  rw [List.map_cons, List.nodup_cons] at hnd
  obtain ⟨a1, T1, a2, a3⟩ := h1.put hr ht hj hc (e := ([], 0)) ⟨by simp, by decide, fun _ => rfl⟩ (Nat.le_of_lt hkl) (fun x hx => h1.nm _ x (hp.mem_iff.1 (List.mem_cons_of_mem _ hx))) hnd.2
  have h01 : lookE T1 d = 0 := (a3.look0 d).2 ((h1.look0 d).1 h0)
  have hB1 := a3.lookB h01
  rw [if_pos rfl] at hB1
  have hok1 := a3.ok d.toNat
  rw [if_pos rfl] at hok1
  have hu1 : usedP (slotsP (lookB T1 d)) = (usedE (putE (es d.toNat) k ([], 0))).length := by rw [hB1, slotsP_encE hok1, usedP_slE]
  have hpl := hp.length_eq
  rw [List.length_cons] at hpl
  have hel : (encS [] 0).length = 64 := encS_length [] 0 (by simp)
  obtain ⟨C1, w1⟩ : ∃ C1, Rel C1 T1 (fun _ => False) ∧ T1.Tight := by
    obtain ⟨_, _, _, C', _, _, _, g1, _, _, g2, _⟩ := hr.write ht hl (by rw [hel]; omega) a2
    exact ⟨C', g1, g2⟩
  have hU1 : DirU T1 (fun m => usedE (if m = d.toNat then putE (es d.toNat) k ([], 0) else es m)) 60 := ⟨_, a3, fun _ => List.Perm.refl _, fun m => by
    by_cases e : m = d.toNat
    · simp only [e, if_true]; rw [putE_length _ (Nat.le_of_lt hkl)]; omega
    · simp only [e, if_false]; exact hc m⟩
  rw [e3]
  refine ⟨T1, a2, by show 64 * k + 64 ≤ _; omega, by omega, h01, by omega, ?_, fun size hs => hU1.few w1.1 w1.2 (by omega) hj hs, (lookE_ok h01).1, ?_⟩
  · unfold drpT
    rw [if_pos he]
    unfold dropT
    rw [hu, hu1, e3]
    by_cases hz : (usedE (putE (es d.toNat) k ([], 0))).length = 0
    · rw [if_pos hz, if_pos (by omega)]
      have hq := wipe_eq ht hlt (by rw [hel]; omega) a2
      rw [hq]
      have hz0 : nd (npg 0) = 0 := by decide
      obtain ⟨T', b1, _⟩ := hr.resizeN (j := d.toNat) (size := 0) (fun _ e => e.elim) ht hl (by omega) (by rw [hz0]; omega)
      rw [b1]; rfl
    · rw [if_neg hz, if_neg (by omega), a2]; rfl
  · rw [hB, hB1, encE_length (h1.ok _), encE_length hok1, putE_length _ (Nat.le_of_lt hkl)]; omega
end Go.Proofs.YtfgkgoddjemnfaaGreatDoor

namespace Go.Proofs.YtfgkgoddjemnfaaGreatDoor
open Go.RowKit Go.Shelf Pa
attribute [local go_sem] bs_toList bs_size
def slotC (l : List Sl) : List Value := l.flatMap fun x => [.string (bs x.name), .int .i64 x.i]
theorem slotC_append (a b : List Sl) : slotC (a ++ b) = slotC a ++ slotC b := List.flatMap_append
theorem info_slot7 : (Tryz.prog.info? 103).map (fun i => (i.zero, i.size, i.bytes)) = some (some (.agg #[.string ⟨#[]⟩, .int .i64 0]), 2, 24) := by kernel_rfl
set_option maxRecDepth 100000 in
set_option maxHeartbeats 4000000 in
theorem rslots7_any (b : Str) (v : Value) (w : World) (hb : OwnL w 0 5 v (bytV b)) (hl : b.length ≤ 100000) :
    Calls Tryz.prog 104 #[v] w fun e w' => ∃ v', e = .returned v' ∧ w'.ownsRow w.heap.size 103 2 v' (slotsP b).length (slotC (slotsP b)) ∧ Below w.heap.size w w' := by
  obtain ⟨i0, hi0, hz0, hz1, hz2⟩ := info_parts info_slot7
  have HI0 := Lib.hid (⟨hi0, hz0, hz1, hz2⟩ : _ ∧ _ ∧ _ ∧ _)
  clear hi0 hz0 hz1 hz2
  obtain ⟨A, c, rfl⟩ := hb.shape
  rw [bytV_length] at hb ⊢
  have hcl : b.length ≤ c := by
    rcases hb.two with ⟨e1, e2⟩ | ⟨g, c', e1, e2⟩
    · have := congrArg List.length e2
      rw [bytV_length] at this
      have h0 : b.length = 0 := this
      omega
    · injection e1 with _ _ e; rw [bytV_length] at e2; omega
  have HB := Lib.hid hb
  clear hb
  go_enter Tryz.func104, Tryz.ntmps104
  go_wp2_with fail
  go_loopg [3, 4] (b.length / 64) (fun gg vv i wx => ∃ (k : Nat) (A3 : Option Addr) (c3 : Nat), vv = .slice A3 k c3 ∧ i = .int .i64 (64 * k : Nat) ∧ gg = b.length / 64 - k ∧ k ≤ b.length / 64 ∧ wx.ownsRow w.heap.size 103 2 (.slice A3 k c3) k (slotC ((slotsP b).take k)) ∧ Below w.heap.size w wx)
  case atStart => exact ⟨0, none, 0, rfl, rfl, rfl, Nat.zero_le _, World.ownsRow_nil _ _ _ _, Below.refl _ _⟩
  case round =>
    obtain ⟨k, A3, c3, rfl, rfl, rfl, hk, hown, hbw⟩ := hrel
    by_cases hlt : k < b.length / 64
    · obtain ⟨at_, hat⟩ : ∃ a, a = 64 * k := ⟨_, rfl⟩
      have hlen : at_ + 64 ≤ b.length := by omega
      have hle' : decide ((at_ : Int) + 64 ≤ (b.length : Int)) = true := by simp; omega
      have hw1 : IntKind.i64.wrap ((at_ : Int) + 64) = (at_ : Int) + 64 := IntWalk.i64_in _ (by omega)
      obtain ⟨g, rfl, _, hg, hcell⟩ := ent_of HB.out (by rw [bytV_length]) at_ (by rw [bytV_length]; omega)
      have hx : ∀ j, j < 64 → ∃ y, b[at_ + j]? = some y ∧ wr.cell? ⟨g, at_ + j, none⟩ = some (.int .u8 (UInt8.toNat y)) := fun j hj => by
        have h1 : b[at_ + j]? = some b[at_ + j] := List.getElem?_eq_getElem (by omega)
        refine ⟨_, h1, (hbw.cell (p := ⟨g, at_ + j, none⟩) hg).trans (hcell _ _ ?_)⟩
        unfold bytV; rw [List.getElem?_map, h1]; rfl
      obtain ⟨y4, e4, c4⟩ := hx 4 (by decide)
      obtain ⟨y0, e0, c0⟩ := hx 0 (by decide)
      obtain ⟨y1, e1, c1⟩ := hx 1 (by decide)
      obtain ⟨y2, e2, c2⟩ := hx 2 (by decide)
      obtain ⟨y3, e3, c3⟩ := hx 3 (by decide)
      rw [Nat.add_zero] at c0
      rw [← hat]
      have hat9 : at_ + 64 ≤ 100000 := by omega
      have v1 : IntKind.i64.wrap ((at_ : Int) + 1) = (at_ : Int) + 1 := IntWalk.i64_in _ (by omega)
      have v2 : IntKind.i64.wrap ((at_ : Int) + 2) = (at_ : Int) + 2 := IntWalk.i64_in _ (by omega)
      have v3 : IntKind.i64.wrap ((at_ : Int) + 3) = (at_ : Int) + 3 := IntWalk.i64_in _ (by omega)
      have v4 : IntKind.i64.wrap ((at_ : Int) + 4) = (at_ : Int) + 4 := IntWalk.i64_in _ (by omega)
      have v5 : IntKind.i64.wrap ((at_ : Int) + 5) = (at_ : Int) + 5 := IntWalk.i64_in _ (by omega)
      have n1' : ((at_ : Int) + 1).toNat = at_ + 1 := by omega
      have n2' : ((at_ : Int) + 2).toNat = at_ + 2 := by omega
      have n3' : ((at_ : Int) + 3).toNat = at_ + 3 := by omega
      have n4' : ((at_ : Int) + 4).toNat = at_ + 4 := by omega
      have p1' : (0 : Int) ≤ (at_ : Int) + 1 := by omega
      have p2' : (0 : Int) ≤ (at_ : Int) + 2 := by omega
      have p3' : (0 : Int) ≤ (at_ : Int) + 3 := by omega
      have p4' : (0 : Int) ≤ (at_ : Int) + 4 := by omega
      have i0' : (at_ : Int) < (b.length : Int) := by omega
      have i1' : (at_ : Int) + 1 < (b.length : Int) := by omega
      have i2' : (at_ : Int) + 2 < (b.length : Int) := by omega
      have i3' : (at_ : Int) + 3 < (b.length : Int) := by omega
      have i4' : (at_ : Int) + 4 < (b.length : Int) := by omega
      obtain ⟨ii, hii⟩ : ∃ ii, ii = getN [y0, y1, y2, y3] := ⟨_, rfl⟩
      have hor : bits .or .i64 (bits .or .i64 (bits .or .i64 (IntKind.i64.wrap (IntKind.i64.wrap (y0.toNat : Int) * 16777216)) (IntKind.i64.wrap (IntKind.i64.wrap (y1.toNat : Int) * 65536))) (IntKind.i64.wrap (IntKind.i64.wrap (y2.toNat : Int) * 256))) (IntKind.i64.wrap (y3.toNat : Int)) = ((ii : Nat) : Int) := by rw [hii]; simp only [IntWalk.i64_left]; exact or4 y0 y1 y2 y3
      have hw4 : IntKind.i64.wrap ((y4.toNat : Nat) : Int) = ((y4.toNat : Nat) : Int) := IntWalk.i64_in _ (by have := UInt8.toNat_lt y4; omega)
      obtain ⟨nn, hnn⟩ : ∃ q, q = min y4.toNat 59 := ⟨_, rfl⟩
      have hn59 : nn ≤ 59 := by omega
      have hc64 : at_ + 64 ≤ c := by omega
      have HNn := Lib.hid hnn
      have HII := Lib.hid hii
      clear hnn hii
      have HAt := Lib.hid hat
      have HX := Lib.hid hx
      have HCell := Lib.hid hcell
      have HOwn := Lib.hid hown
      have HBw := Lib.hid hbw
      have HE := Lib.hid (⟨e0, e1, e2, e3, e4⟩ : _ ∧ _ ∧ _ ∧ _ ∧ _)
      clear hat hx hcell hown hbw e0 e1 e2 e3 e4
      go_upto_region 5 with fail
      go_cut [5] (fun v5 wx => v5 = .int .i64 ii ∧ ∃ q, wx = wr.drewN q)
      case first =>
        go_wp2_with fail
        go_region_with (fail)
        all_goals (go_wp2_with fail; go_meet; first | exact ⟨rfl, 1, rfl⟩ | exact ⟨rfl, _, rfl⟩)
      case rest =>
        obtain ⟨rfl, q, rfl⟩ := hcut
        clear hor c0 c1 c2 c3
        go_upto_if 50 with fail
        go_cut [6] (fun v6 wx => v6 = .int .i64 nn ∧ wx = wr.drewN q)
        case first =>
          by_cases hgt : 59 < y4.toNat
          · have hgt' : decide ((59 : Int) < (y4.toNat : Int)) = true := by simp; omega
            go_wp2_with fail
            go_meet
            have := HNn.out
            exact ⟨by congr 1; omega, rfl⟩
          · have hgt' : decide ((59 : Int) < (y4.toNat : Int)) = false := by simp; omega
            go_wp2_with fail
            go_meet
            have := HNn.out
            exact ⟨by congr 1; omega, rfl⟩
        case rest =>
          obtain ⟨rfl, rfl⟩ := hcut
          clear hw4 c4
          obtain ⟨nm, hnm⟩ : ∃ nm, nm = (b.drop (at_ + 5)).take nn := ⟨_, rfl⟩
          have hnml : nm.length = nn := by rw [hnm, List.length_take, List.length_drop]; omega
          have hcv : (convert 53 9 (.slice (some ⟨g, at_ + 5, none⟩) nn (c - (at_ + 5)))).run Tryz.prog (wr.drewN q) = .ok (.string (bs nm)) (wr.drewN q) := by
            rw [← hnml]
            refine run_bytes_text fun j y hj => ?_
            have hjl : j < nn := by rw [← hnml]; exact (List.getElem?_eq_some_iff.1 hj).1
            rw [hnm, List.getElem?_take_of_lt hjl, List.getElem?_drop] at hj
            show wr.cell? _ = _
            refine (HBw.out.cell (p := ⟨g, at_ + 5 + j, none⟩) hg).trans (HCell.out _ _ ?_)
            unfold bytV
            rw [List.getElem?_map, hj]; rfl
          have hdec : decS b k = ⟨at_, nm, ii⟩ := by
            unfold decS
            obtain ⟨e0, e1, e2, e3, e4⟩ := HE.out
            have e4' : b.getD (64 * k + 4) 0 = y4 := by rw [← HAt.out, List.getD_eq_getElem?_getD, e4]; rfl
            have e03 : (b.drop (64 * k)).take 4 = [y0, y1, y2, y3] := by
              refine List.ext_getElem? fun j => ?_
              rw [List.getElem?_take, ← HAt.out, List.getElem?_drop]
              rw [Nat.add_zero] at e0
              match j with
              | 0 => simpa using e0
              | 1 => simpa using e1
              | 2 => simpa using e2
              | 3 => simpa using e3
              | n + 4 => simp; omega
            rw [e4', e03, ← HNn.out, ← HAt.out, ← hnm, ← HII.out]
          obtain ⟨W2, hW2⟩ : ∃ W2, W2 = (wr.drewN q).alloc (.cells #[.string (bs nm), .int .i64 ii] 103) := ⟨_, rfl⟩
          have hownA : W2.ownsRow w.heap.size 103 2 (.slice A3 k c3) k (slotC ((slotsP b).take k)) := by rw [hW2]; exact World.ownsRow.alloc (w := wr.drewN q) (by exact HOwn.out) _
          have hbW : Below w.heap.size w W2 := by rw [hW2]; exact Below.alloc (w := wr.drewN q) (HBw.out.trans ⟨rfl, rfl, rfl, Nat.le_refl _, fun _ _ => rfl⟩) HBw.out.size _
          have hbase : w.heap.size ≤ W2.heap.size := hbW.size
          have hkm : k + 1 ≤ maxLen := by unfold maxLen; omega
          have hkb : (k + 1) * 24 ≤ 140737488355328 := by omega
          have hnext : ∀ v' w6, w6.ownsRow w.heap.size 103 2 v' (k + 1) (slotC ((slotsP b).take k) ++ [.string (bs nm), .int .i64 ii]) → W2.grownBy w6 (Value.slice A3 k c3).ownBlock → ∃ A9 c9, v' = .slice A9 (k + 1) c9 ∧ w6.ownsRow w.heap.size 103 2 (.slice A9 (k + 1) c9) (k + 1) (slotC ((slotsP b).take (k + 1))) ∧ Below w.heap.size w w6 := fun v' w6 r1 r2 => by
            obtain ⟨A9, c9, rfl⟩ := ownsRow_slice r1
            refine ⟨A9, c9, rfl, ?_, hbW.grown r2 hbase (fun j hj => (World.ownsRow.lt hownA j hj).1)⟩
            rw [slotsP_take b k hlt, hdec, slotC_append]
            exact r1
          have hnews : W2.heap[wr.heap.size]? = some (.cells #[.string (bs nm), .int .i64 ii] 103 (0, 0)) := by rw [hW2]; exact heap_alloc_new _ _
          have hA : IntKind.i64.wrap ((at_ : Int) + 5 + (nn : Int)) = (at_ : Int) + 5 + (nn : Int) := IntWalk.i64_in _ (by omega)
          have m5 : ((at_ : Int) + 5).toNat = at_ + 5 := by omega
          have m6 : ((at_ : Int) + 5 + (nn : Int)).toNat = at_ + 5 + nn := by omega
          have q5 : (0 : Int) ≤ (at_ : Int) + 5 := by omega
          have q6 : (at_ : Int) + 5 ≤ (at_ : Int) + 5 + (nn : Int) := by omega
          have q7 : (at_ : Int) + 5 + (nn : Int) ≤ (c : Int) := by omega
          have q8 : at_ + 5 + nn - (at_ + 5) = nn := by omega
          have q9 : ¬ c = at_ + 5 := by omega
          have HNext := Lib.hid hnext
          have HOwnA := Lib.hid hownA
          have HNw := Lib.hid hnews
          clear hnext hownA hbW hdec hnm hnml HE HNn HII HCell HX HBw HOwn hnews
          subst hW2
          clear v1 v2 v3 v4 n1' n2' n3' n4' p1' p2' p3' p4' i0' i1' i2' i3' i4' hle' q8
          go_wp2_with (at_builtin; refine wpList_append_own_at _ rfl _ _ 98 rfl w.heap.size 103 i0 (.agg #[.string ⟨#[]⟩, .int .i64 0]) 2 24 Tryz.underlying98 HI0.out.1 HI0.out.2.1 HI0.out.2.2.1 HI0.out.2.2.2 rfl (by decide) (.slice A3 k c3) _ _ rfl HOwnA.out ⟨wr.heap.size, 0, none⟩ 1 1 [.string (bs nm), .int .i64 ii] rfl rfl (World.news_of_block HNw.out) (by intro u hu; simp at hu; rcases hu with rfl | rfl <;> rfl) hkm hkb hbase ?_; intro v' w6 hown' hgrow hnil hloc; have hI6 := HNext.out v' w6 hown' hgrow; have HI6 := Lib.hid hI6; clear hown' hgrow hnil hloc hI6)
          go_roundg (b.length / 64 - (k + 1))
          case measure => omega
          case rel =>
            obtain ⟨A9, c9, e1, e2, e3⟩ := HI6.out
            exact ⟨k + 1, A9, c9, e1, by show Value.int .i64 ((at_ : Int) + 64) = .int .i64 ((64 * (k + 1) : Nat) : Int); congr 1; have := HAt.out; omega, rfl, hlt, e2, e3⟩
    · obtain rfl : k = b.length / 64 := by omega
      have hle' : decide (((64 * (b.length / 64) : Nat) : Int) + 64 ≤ (b.length : Int)) = false := by simp; omega
      obtain ⟨q, hq⟩ : ∃ q, q = 64 * (b.length / 64) := ⟨_, rfl⟩
      rw [← hq] at hle' ⊢
      have hw1 : IntKind.i64.wrap ((q : Int) + 64) = (q : Int) + 64 := IntWalk.i64_in _ (by omega)
      rw [show (slotsP b).take (b.length / 64) = slotsP b from List.take_of_length_le (by rw [slotsP_length]; exact Nat.le_refl _)] at hown
      have HN := Lib.hid (⟨hown, hbw⟩ : _ ∧ _)
      have HQ := Lib.hid hq
      clear hown hbw hq
      go_wp2_with fail
      go_ret
      exact ⟨_, rfl, by rw [slotsP_length]; exact HN.out.1, HN.out.2⟩
end Go.Proofs.YtfgkgoddjemnfaaGreatDoor

namespace Go.Proofs.YtfgkgoddjemnfaaGreatDoor
open Go.RowKit Go.Shelf Pa
attribute [local go_sem] bs_toList bs_size
/-- The first five bytes of an entry. -/
def head7 (nm : Str) (i : Nat) : Str := (((((List.replicate 64 (0 : UInt8)).set 0 0).set 1 0).set 2 (UInt8.ofNat (i / 256))).set 3 (UInt8.ofNat i)).set 4 (UInt8.ofNat nm.length)
theorem head7_eq (nm : Str) (i : Nat) : head7 nm i = (((List.replicate 64 (0 : UInt8)).set 2 (UInt8.ofNat (i / 256))).set 3 (UInt8.ofNat i)).set 4 (UInt8.ofNat nm.length) := by
  unfold head7
  congr 3
theorem head7_length (nm : Str) (i : Nat) : (head7 nm i).length = 64 := by unfold head7; simp
theorem encS_head (nm : Str) (i : Nat) (h : i ≠ 0) : encS nm i = laidAt (head7 nm i) 5 nm := by unfold encS; rw [if_neg h, head7_eq]
theorem bytV_set (l : Str) (k : Nat) (b : UInt8) : bytV (l.set k b) = (bytV l).set k (.int .u8 b.toNat) := List.map_set ..
set_option maxRecDepth 100000 in
set_option maxHeartbeats 4000000 in
theorem rsbytes7_any (nm : Str) (i : Nat) (hi : i < 65536) (hn : nm.length ≤ 59) (w : World) : Calls Tryz.prog 58 #[.agg #[.string (bs nm), .int .i64 i]] w fun e w' => ∃ g c, e = .returned (.slice (some ⟨g, 0, none⟩) 64 c) ∧ OwnL w' w.heap.size 5 (.slice (some ⟨g, 0, none⟩) 64 c) (bytV (encS nm i)) ∧ Below w.heap.size w w' := by
  have hms : ∀ w1, (Instr.makeSlice 53 (.int .i64 64) (.int .i64 64)).run Tryz.prog w1 = .ok (.slice (some ⟨w1.heap.size, 0, none⟩) 64 64) (w1.alloc (.cells (madeCells #[.int .u8 0] 64) 5)) := run_make_row' (P := Tryz.prog) 53 5 (.int .u8 0) 1 Tryz.underlying53 info_u8 rfl .i64 .i64 64 (by omega) (by omega)
  have hb1 := heap_alloc_new w (.cells #[.string (bs nm), .int .i64 i] 103)
  by_cases h0 : i = 0
  · have h0' : (((i : Nat) : Int) == 0) = true := by rw [h0]; rfl
    go_enter Tryz.func58, Tryz.ntmps58
    go_wp2_with fail
    go_ret
    have hB := blk_zero (w.alloc (.cells #[.string (bs nm), .int .i64 0] 103)) 64 (by omega)
    have hE : encS nm i = List.replicate 64 0 := by unfold encS; rw [if_pos h0]
    rw [hE]
    rw [World.size_alloc] at hB
    refine ⟨w.heap.size + 1, 64, rfl, ?_, ((Below.refl _ _).alloc (Nat.le_refl _) _).alloc (by simp) _⟩
    have := hB.own (B := w.heap.size) (by omega) (by simp)
    exact this
  · have h0' : (((i : Nat) : Int) == 0) = false := by rw [beq_eq_false_iff_ne]; omega
    obtain ⟨W2, hW2⟩ : ∃ W2, W2 = (w.alloc (.cells #[.string (bs nm), .int .i64 i] 103)).alloc (.cells (madeCells #[.int .u8 0] 64) 5) := ⟨_, rfl⟩
    have hb12 : Below (w.heap.size + 1) (w.alloc (.cells #[.string (bs nm), .int .i64 i] 103)) W2 := by rw [hW2]; exact (Below.refl _ _).alloc (by simp) _
    have hq := (hb12.block w.heap.size (by omega)).trans hb1
    have hB := blk_zero (w.alloc (.cells #[.string (bs nm), .int .i64 i] 103)) 64 (by omega)
    rw [← hW2, World.size_alloc] at hB
    have hbw : Below w.heap.size w W2 := by rw [hW2]; exact ((Below.refl _ _).alloc (Nat.le_refl _) _).alloc (by simp) _
    have k0 : W2.cell? ⟨w.heap.size, 0, none⟩ = some (.string (bs nm)) := by rw [cell_of_heap hq]; rfl
    have k1 : W2.cell? ⟨w.heap.size, 1, none⟩ = some (.int .i64 i) := by rw [cell_of_heap hq]; rfl
    have a0 : (W2.cell? ⟨w.heap.size + 1, 0, none⟩).isSome = true := by rw [hB.cell (i := 0) (y := 0) (by simp)]; rfl
    have a1 : (W2.cell? ⟨w.heap.size + 1, 1, none⟩).isSome = true := by rw [hB.cell (i := 1) (y := 0) (by simp)]; rfl
    have a2 : (W2.cell? ⟨w.heap.size + 1, 2, none⟩).isSome = true := by rw [hB.cell (i := 2) (y := 0) (by simp)]; rfl
    have a3 : (W2.cell? ⟨w.heap.size + 1, 3, none⟩).isSome = true := by rw [hB.cell (i := 3) (y := 0) (by simp)]; rfl
    have a4 : (W2.cell? ⟨w.heap.size + 1, 4, none⟩).isSome = true := by rw [hB.cell (i := 4) (y := 0) (by simp)]; rfl
    have c0 := hB.cell (i := 0) (y := 0) (by simp)
    have c1 := hB.cell (i := 1) (y := 0) (by simp)
    have c2 := hB.cell (i := 2) (y := 0) (by simp)
    have c3 := hB.cell (i := 3) (y := 0) (by simp)
    have c4 := hB.cell (i := 4) (y := 0) (by simp)
    have f0 := hB.free 0
    have f1 := hB.free 1
    have f2 := hB.free 2
    have f3 := hB.free 3
    have f4 := hB.free 4
    have HB := Lib.hid hB
    have HBw := Lib.hid hbw
    have HI := Lib.hid hi
    have HN := Lib.hid hn
    have HE := Lib.hid (encS_head nm i h0)
    have HW2 := Lib.hid hW2
    clear hW2 hB hbw hi hn hq hb12 hb1
    go_enter Tryz.func58, Tryz.ntmps58
    have hfin : Blk (((((W2.setCell ⟨w.heap.size + 1, 0, none⟩ (.int .u8 (IntKind.u8.wrap ((i : Int) / 16777216)))).setCell ⟨w.heap.size + 1, 1, none⟩ (.int .u8 (IntKind.u8.wrap ((i : Int) / 65536)))).setCell ⟨w.heap.size + 1, 2, none⟩ (.int .u8 (IntKind.u8.wrap ((i : Int) / 256)))).setCell ⟨w.heap.size + 1, 3, none⟩ (.int .u8 (IntKind.u8.wrap (i : Int)))).setCell ⟨w.heap.size + 1, 4, none⟩ (.int .u8 (IntKind.u8.wrap (nm.length : Int)))).drew (w.heap.size + 1) 64 (head7 nm i) ∧ Off (fun k => k = w.heap.size + 1) W2 (((((W2.setCell ⟨w.heap.size + 1, 0, none⟩ (.int .u8 (IntKind.u8.wrap ((i : Int) / 16777216)))).setCell ⟨w.heap.size + 1, 1, none⟩ (.int .u8 (IntKind.u8.wrap ((i : Int) / 65536)))).setCell ⟨w.heap.size + 1, 2, none⟩ (.int .u8 (IntKind.u8.wrap ((i : Int) / 256)))).setCell ⟨w.heap.size + 1, 3, none⟩ (.int .u8 (IntKind.u8.wrap (i : Int)))).setCell ⟨w.heap.size + 1, 4, none⟩ (.int .u8 (IntKind.u8.wrap (nm.length : Int)))).drew := by
      have hi := HI.out
      rw [show (i : Int) / 16777216 = ((0 : Nat) : Int) from by omega, show (i : Int) / 65536 = ((0 : Nat) : Int) from by omega, show (i : Int) / 256 = ((i / 256 : Nat) : Int) from by omega, u8w, u8w, u8w, u8w]
      refine ⟨?_, ?_⟩
      · exact (((((HB.out.set 0 (UInt8.ofNat 0) (by simp)).set 1 (UInt8.ofNat 0) (by simp)).set 2 (UInt8.ofNat (i / 256)) (by simp)).set 3 (UInt8.ofNat i) (by simp)).set 4 (UInt8.ofNat nm.length) (by simp)).keep rfl
      · exact ((((((Off.refl (fun k => k = w.heap.size + 1) W2).setCell (p := ⟨w.heap.size + 1, 0, none⟩) (.inl rfl) _).setCell (p := ⟨w.heap.size + 1, 1, none⟩) (.inl rfl) _).setCell (p := ⟨w.heap.size + 1, 2, none⟩) (.inl rfl) _).setCell (p := ⟨w.heap.size + 1, 3, none⟩) (.inl rfl) _).setCell (p := ⟨w.heap.size + 1, 4, none⟩) (.inl rfl) _).drew
    have HFin := Lib.hid hfin
    have HK0 := Lib.hid k0
    clear hfin
    go_upto_region 4 with fail
    rw [← HW2.out]
    have HH0 := Lib.hid h0
    clear h0 h0' HW2
    go_cut [34] (fun _v wx => Blk wx (w.heap.size + 1) 64 (head7 nm i) ∧ Off (fun k => k = w.heap.size + 1) W2 wx)
    case first =>
      go_region_held3 (fun w' => w'.cell? ⟨w.heap.size, 0, none⟩ = some (.string (bs nm)) ∧ w'.cell? ⟨w.heap.size, 1, none⟩ = some (.int .i64 i)) ((first | assumption | go_keep)) (fail)
      all_goals (go_wp2_with fail; go_meet; exact HFin.out)
    case rest =>
      obtain ⟨hB5, ho5⟩ := hcut
      have hlt2 := HB.out.lt
      have k5 := (ho5.cell (p := ⟨w.heap.size, 0, none⟩) (by show w.heap.size < _; omega) (by show ¬ w.heap.size = w.heap.size + 1; omega)).trans HK0.out
      have hn := HN.out
      have HIx := Lib.hid (fun k c h w => bs_index 9 Tryz.underlying9 nm k c h w)
      have H5 := Lib.hid (⟨hB5, ho5⟩ : _ ∧ _)
      clear hB5 ho5 k0 k1 a0 a1 a2 a3 a4 c0 c1 c2 c3 c4 f0 f1 f2 f3 f4 HFin HB
      go_wp2_with fail
      go_loopg [4] nm.length (fun gg v4 wx => ∃ k : Nat, v4 = .int .i64 k ∧ gg = nm.length - k ∧ k ≤ nm.length ∧ Blk wx (w.heap.size + 1) 64 (laidAt (head7 nm i) 5 (nm.take k)) ∧ Off (fun k => k = w.heap.size + 1) W2 wx)
      case atStart => exact ⟨0, rfl, rfl, Nat.zero_le _, by rw [List.take_zero, laidAt_nil]; exact H5.out.1, H5.out.2⟩
      case round =>
        obtain ⟨k, rfl, rfl, hk, hB, ho⟩ := hrel
        have kk := (ho.cell (p := ⟨w.heap.size, 0, none⟩) (by show w.heap.size < _; omega) (by show ¬ w.heap.size = w.heap.size + 1; omega)).trans HK0.out
        by_cases hlt : k < nm.length
        · have hlt' : decide ((k : Int) < (nm.length : Int)) = true := by simp; omega
          obtain ⟨y, hy⟩ : ∃ y, nm[k]? = some y := ⟨_, List.getElem?_eq_getElem hlt⟩
          have hix := HIx.out k y hy
          have hl64 : (laidAt (head7 nm i) 5 (nm.take k)).length = 64 := by rw [laidAt_length (by rw [head7_length, List.length_take]; omega), head7_length]
          obtain ⟨z, hz⟩ : ∃ z, (laidAt (head7 nm i) 5 (nm.take k))[5 + k]? = some z := ⟨_, List.getElem?_eq_getElem (by omega)⟩
          have hcell := hB.cell hz
          have hfree := hB.free (5 + k)
          have hB2 : Blk (wr.setCell ⟨w.heap.size + 1, 5 + k, none⟩ (.int .u8 y.toNat)) (w.heap.size + 1) 64 (laidAt (head7 nm i) 5 (nm.take (k + 1))) := by
            have h1 := hB.set (5 + k) y (by omega)
            have hlk : (nm.take k).length = k := by rw [List.length_take]; omega
            have h2 := laidAt_snoc (head7 nm i) (nm.take k) 5 y (by rw [hlk, head7_length]; omega)
            rw [hlk] at h2
            rw [List.take_add_one, hy]
            show Blk _ _ _ (laidAt (head7 nm i) 5 (nm.take k ++ [y]))
            rw [h2]
            exact h1
          have ho2 : Off (fun k => k = w.heap.size + 1) W2 (wr.setCell ⟨w.heap.size + 1, 5 + k, none⟩ (.int .u8 y.toNat)) := ho.setCell (p := ⟨w.heap.size + 1, 5 + k, none⟩) (.inl rfl) _
          have HN2 := Lib.hid (⟨hB2, ho2⟩ : _ ∧ _)
          have hk59 : k < 59 := by omega
          have hw5 : IntKind.i64.wrap (5 + (k : Int)) = ((5 + k : Nat) : Int) := by rw [IntWalk.i64_in _ (by omega)]; omega
          have hi5 : ((5 + k : Nat) : Int) < 64 := by omega
          obtain ⟨p5, hp5⟩ : ∃ p, p = 5 + k := ⟨_, rfl⟩
          rw [← hp5] at hcell hfree hw5 hi5 HN2
          have HP5 := Lib.hid hp5
          clear hB2 ho2 hB ho hz hy hl64 hp5
          go_wp2_with fail
          go_roundg (nm.length - (k + 1))
          case measure => omega
          case rel => exact ⟨k + 1, by go_num, rfl, hlt, HN2.out.1, HN2.out.2⟩
        · have hlt' : decide ((k : Int) < (nm.length : Int)) = false := by simp; omega
          obtain rfl : k = nm.length := by omega
          rw [List.take_length] at hB
          have hfin : OwnL wr w.heap.size 5 (.slice (some ⟨w.heap.size + 1, 0, none⟩) 64 64) (bytV (encS nm i)) ∧ Below w.heap.size w wr := by
            rw [HE.out]
            have hl64 : (laidAt (head7 nm i) 5 nm).length = 64 := by rw [laidAt_length (by rw [head7_length]; omega), head7_length]
            have := hB.own (B := w.heap.size) (by omega) (by intro e; rw [e] at hl64; cases hl64)
            rw [hl64] at this
            unfold OwnB at this
            rw [hl64] at this
            refine ⟨?_, ((Off.of_below HBw.out (fun k => k = w.heap.size + 1)).then ho).below (Nat.le_refl _) (fun k e => by omega)⟩
            unfold OwnL
            rw [bytV_length, hl64]
            exact this
          have HF := Lib.hid hfin
          clear hfin hB ho
          go_wp2_with fail
          go_ret
          exact ⟨_, _, rfl, HF.out.1, HF.out.2⟩
end Go.Proofs.YtfgkgoddjemnfaaGreatDoor

namespace Go.Proofs.YtfgkgoddjemnfaaGreatDoor
open Go.RowKit Go.Shelf Pa
attribute [local go_sem] bs_toList bs_size
theorem RefI.len {w : World} {r : Nat} {T K : RS} {R : Reg} (h : RefI w r T K R) {j : Nat} (hj : j < T.i.length) : (T.file j).bytes.length ≤ 70656 := by
  obtain ⟨m, lv, u2, u3, pv, iv, X, mk, pk, ik, Y, h1, _⟩ := h
  obtain ⟨g, c, _, _, _, hcs⟩ := h1.cells (by omega)
  obtain ⟨bv, dv, hx, _⟩ := hcs j hj
  exact (h1.small.2 (T.file j) (by rw [← h1.eq]; exact List.mem_map.2 ⟨_, List.mem_of_getElem? hx, rfl⟩)).1
/-- A directory's entries lie in a row of one's own. -/
def OwnSl (w : World) (B : Nat) (v : Value) (l : List Sl) : Prop := w.ownsRow B 103 2 v l.length (slotC l)
set_option maxRecDepth 100000 in
set_option maxHeartbeats 2000000 in
theorem rlook7_any (r : Nat) (d : Int) (T K : RS) (R : Reg) (w : World) (h : RefI w r T K R) (hn : 1 ≤ T.i.length) :
    Calls Tryz.prog 55 #[.pointer (some ⟨r, 0, none⟩), .int .i64 d] w fun e w' => ∃ v, e = .returned (.tuple #[v, .int .i64 (lookE T d : Nat)]) ∧ OwnSl w' w.heap.size v (slotsP (lookB T d)) ∧ Below w.heap.size w w' := by
  have hget := rget6_any r d T K R w h hn
  have hnil : lookE T d ≠ 0 → ∀ w', OwnSl w' w.heap.size (.slice none 0 0) (slotsP (lookB T d)) := fun e w' => by
    unfold lookB
    rw [if_neg e]
    exact World.ownsRow_nil _ _ _ _
  have HGet := Lib.hid hget
  have HH := Lib.hid h
  have HNil := Lib.hid hnil
  clear h hget hnil
  go_enter Tryz.func55, Tryz.ntmps55
  go_wp2_with fail
  refine HGet.out.mono ?_
  rintro e w1 ⟨o, rfl, hol, hf, hb⟩
  have hc0 := alloc_at w1 (.cells #[.int .i64 0, .int .i64 0, .int .i64 0, .int .i64 0, .int .i64 0, .int .i64 0, .int .i64 0, .int .i64 0, .int .i64 0, .int .i64 0, .int .i64 0, .int .i64 0, .int .i64 0, .int .i64 0, .int .i64 0] 120) _ rfl
  have hst := inode_store hc0 rfl o hol
  obtain ⟨W3, hW3⟩ : ∃ W3, W3 = (w1.alloc (.cells #[.int .i64 0, .int .i64 0, .int .i64 0, .int .i64 0, .int .i64 0, .int .i64 0, .int .i64 0, .int .i64 0, .int .i64 0, .int .i64 0, .int .i64 0, .int .i64 0, .int .i64 0, .int .i64 0, .int .i64 0] 120)).setRow w1.heap.size (cellsI o).toArray := ⟨_, rfl⟩
  rw [← hW3] at hst
  have hrow : W3.heap[w1.heap.size]? = some (.cells (cellsI o).toArray 120 (0, 0)) := by rw [hW3]; exact heap_setRow _ _ _ _ hc0
  have ho3 : Off (fun k => k = w1.heap.size) w1 W3 := by
    rw [hW3]
    exact ((Off.refl (fun k => k = w1.heap.size) w1).alloc _).trans (off_setRow _ _ _) (fun k e => .inl e)
  have hb3 : Below w.heap.size w W3 := hb.trans (ho3.below hb.size (fun k e => by rw [e]; exact hb.size))
  have hk3 : W3.cell? ⟨w1.heap.size, 0, none⟩ = some (.int .i64 o.kind) := by rw [cell_of_heap hrow]; rfl
  have hl15 := cellsI_length hol
  have HB3 := Lib.hid hb3
  have HF := Lib.hid hf
  clear hc0 hW3 hrow ho3 hb3 hb hf
  by_cases h0 : T.look d = 0
  · have h4 := HF.out h0
    rw [h4.2.1] at hk3
    obtain ⟨kd, hkde⟩ : ∃ k, k = (T.file d.toNat).kind := ⟨_, rfl⟩
    rw [← hkde] at hk3
    by_cases hk2 : kd = 2
    · have hk2' : ((kd : Int) != 2) = false := by rw [hk2]; rfl
      have hE : lookE T d = 0 := by unfold lookE; rw [if_neg (fun e => e h0), if_neg (fun e => e (by rw [← hkde]; exact hk2))]
      have hB : lookB T d = (T.file d.toNat).bytes := by unfold lookB; rw [if_pos hE]
      obtain ⟨_, hij, hlt, _⟩ := look_live h0
      obtain ⟨j, rfl⟩ : ∃ j : Nat, d = j := ⟨d.toNat, hij⟩
      rw [Int.toNat_natCast] at hB hlt
      have hI3 := HH.out.below (w' := W3) (HB3.out.mono (Nat.le_refl _))
      have hby := rbytes_any r j T K R W3 hI3 hlt
      have hle := HH.out.len hlt
      have HBy := Lib.hid hby
      have HE := Lib.hid hE
      have HBb := Lib.hid hB
      have HLe := Lib.hid hle
      have HH0 := Lib.hid h0
      clear hby hE hB hle hI3 hkde hk2 h4 hij hlt
      rw [h0]
      clear h0
      go_wp2_with fail
      refine HBy.out.mono ?_
      rintro e w2 ⟨v, rfl, hv, hw2⟩
      obtain rfl := hw2.symm
      have hsl := rslots7_any (T.file j).bytes v W3 hv.1 (Nat.le_trans HLe.out (by decide))
      have HSl := Lib.hid hsl
      clear hsl hv
      go_wp2_with fail
      refine HSl.out.mono ?_
      rintro e w3 ⟨v', rfl, hown, hb4⟩
      have HN := Lib.hid (⟨hown, hb4⟩ : _ ∧ _)
      clear hown hb4
      go_wp2_with fail
      go_ret2
      refine ⟨v', by rw [HE.out]; rfl, ?_, HB3.out.trans (HN.out.2.mono HB3.out.size)⟩
      rw [HBb.out]
      exact rowB_base HN.out.1 HB3.out.size
    · have hk2' : ((kd : Int) != 2) = true := by rw [bne_iff_ne]; omega
      have hE : lookE T d = 10 := by unfold lookE; rw [if_neg (fun e => e h0), if_pos (by rw [← hkde]; exact hk2)]
      have hN := HNil.out (by rw [hE]; decide)
      have HN := Lib.hid hN
      have HE := Lib.hid hE
      clear hN hE hkde hk2 h4
      rw [h0]
      clear h0
      go_wp2_with fail
      go_ret2
      exact ⟨_, by rw [HE.out]; rfl, HN.out _, HB3.out⟩
  · have hE : lookE T d = T.look d := by unfold lookE; rw [if_pos h0]
    have hN := HNil.out (by rw [hE]; exact h0)
    obtain ⟨lk, hlk⟩ : ∃ k, k = T.look d := ⟨_, rfl⟩
    rw [← hlk]
    have h0' : ((lk : Int) != 0) = true := by rw [bne_iff_ne]; rw [hlk]; omega
    have HN := Lib.hid hN
    have HE := Lib.hid (hE.trans hlk.symm)
    clear hN hE hlk h0
    go_wp2_with fail
    go_ret2
    exact ⟨_, by rw [HE.out]; rfl, HN.out _, HB3.out⟩
/-- A cell of an entry. -/
theorem slotC_at {l : List Sl} {k : Nat} {x : Sl} (h : l[k]? = some x) : (slotC l)[2 * k]? = some (.string (bs x.name)) ∧ (slotC l)[2 * k + 1]? = some (.int .i64 x.i) := by
  induction l generalizing k with
  | nil => simp at h
  | cons y l ih =>
    have e : slotC (y :: l) = .string (bs y.name) :: .int .i64 y.i :: slotC l := rfl
    rw [e]
    cases k with
    | zero => simp at h; subst h; exact ⟨rfl, rfl⟩
    | succ k =>
      rw [List.getElem?_cons_succ] at h
      obtain ⟨a, b⟩ := ih h
      rw [show 2 * (k + 1) = 2 * k + 1 + 1 from by omega]
      exact ⟨by simpa using a, by simpa using b⟩
theorem OwnSl.shape {w : World} {B : Nat} {v : Value} {l : List Sl} (h : OwnSl w B v l) : ∃ A c, v = .slice A l.length c := ownsRow_slice h
/-- What is read of a row of entries. -/
def SlF (w : World) (A : Option Addr) (l : List Sl) : Prop := ∀ k x, l[k]? = some x → ∃ g, A = some ⟨g, 0, none⟩ ∧ g < w.heap.size ∧ w.cell? ⟨g, k * 2, none⟩ = some (.string (bs x.name)) ∧ w.cell? ⟨g, k * 2 + 1, none⟩ = some (.int .i64 x.i)
theorem OwnSl.fact {w : World} {B c : Nat} {A : Option Addr} {l : List Sl} (h : OwnSl w B (.slice A l.length c) l) : SlF w A l := fun k x hk => by
  obtain ⟨h1, h⟩ := id h
  have hlt : k < l.length := (List.getElem?_eq_some_iff.1 hk).1
  obtain ⟨a1, a2⟩ := slotC_at hk
  rcases h with ⟨e, h0⟩ | ⟨g, cap, cur, e, hB, hg, hc, hm, hs, ht⟩
  · omega
  · injection e with e1 e2 e3
    have hl : (slotC l).length = l.length * 2 := h1
    have hcur : ∀ j u, (slotC l)[j]? = some u → w.cell? ⟨g, j, none⟩ = some u := fun j u hj => by
      have hjl := (List.getElem?_eq_some_iff.1 hj).1
      rw [cell_of_heap hg, ← Array.getElem?_toList, ← List.getElem?_take_of_lt (show j < l.length * 2 by omega), ht]
      exact hj
    exact ⟨g, e1, (Array.getElem?_eq_some_iff.1 hg).1, by rw [Nat.mul_comm]; exact hcur _ _ a1, by rw [Nat.mul_comm]; exact hcur _ _ a2⟩
theorem SlF.below {w w' : World} {A : Option Addr} {l : List Sl} (h : SlF w A l) (hb : Below w.heap.size w w') : SlF w' A l := fun k x hk => by
  obtain ⟨g, e, hg, h1, h2⟩ := h k x hk
  exact ⟨g, e, Nat.lt_of_lt_of_le hg hb.size, (hb.cell (p := ⟨g, k * 2, none⟩) hg).trans h1, (hb.cell (p := ⟨g, k * 2 + 1, none⟩) hg).trans h2⟩
set_option maxRecDepth 100000 in
set_option maxHeartbeats 2000000 in
theorem rat7_any (l : List Sl) (nm : Str) (A : Option Addr) (c : Nat) (w : World) (h : SlF w A l) (hl : l.length ≤ 1000000) (hc : l.length ≤ c) :
    Calls Tryz.prog 56 #[.slice A l.length c, .string (bs nm)] w fun e w' => ∃ a, e = .returned (.int .i64 a) ∧ AtP l nm a ∧ w' = w := by
  have HF := Lib.hid h
  clear h
  go_enter Tryz.func56, Tryz.ntmps56
  go_wp2_with fail
  go_loopg [5] l.length (fun gg i wx => ∃ k : Nat, i = .int .i64 k ∧ gg = l.length - k ∧ k ≤ l.length ∧ wx = w ∧ ∀ y ∈ l.take k, hitP nm y = false)
  case atStart => exact ⟨0, rfl, rfl, Nat.zero_le _, rfl, fun y hy => by simp at hy⟩
  case round =>
    obtain ⟨k, rfl, rfl, hk, rfl, hno⟩ := hrel
    by_cases hlt : k < l.length
    · have hlt' : decide ((k : Int) < (l.length : Int)) = true := by simp; omega
      obtain ⟨x, hx⟩ : ∃ x, l[k]? = some x := ⟨_, List.getElem?_eq_getElem hlt⟩
      obtain ⟨g, rfl, hg, c0, c1⟩ := HF.out k x hx
      obtain ⟨xi, hxi⟩ : ∃ q, q = x.i := ⟨_, rfl⟩
      obtain ⟨xn, hxn⟩ : ∃ q, q = x.name := ⟨_, rfl⟩
      rw [← hxi] at c1
      rw [← hxn] at c0
      have HX := Lib.hid (⟨hx, hxi, hxn⟩ : _ ∧ _ ∧ _)
      have HNo := Lib.hid hno
      have hnext : hitP nm x = false → ∀ y ∈ l.take (k + 1), hitP nm y = false := fun e y hy => by
        rw [List.take_add_one, hx] at hy
        rcases List.mem_append.1 hy with hy | hy
        · exact hno y hy
        · have : y = x := by simpa using hy
          rw [this]; exact e
      have HNx := Lib.hid hnext
      clear hx hxi hxn hno hnext
      by_cases hi0 : xi = 0
      · have hi0' : ((xi : Int) != 0) = false := by rw [hi0]; rfl
        have hmiss : hitP nm x = false := by unfold hitP; rw [← HX.out.2.1]; simp [hi0]
        have HM := Lib.hid (HNx.out hmiss)
        clear hmiss hi0
        go_wp2_with fail
        go_roundg (l.length - (k + 1))
        case measure => omega
        case rel => exact ⟨k + 1, by go_num, rfl, hlt, rfl, HM.out⟩
      · have hi0' : ((xi : Int) != 0) = true := by rw [bne_iff_ne]; omega
        by_cases hnm : xn = nm
        · subst hnm
          have hhit : hitP xn x = true := by unfold hitP; rw [← HX.out.2.1, ← HX.out.2.2]; simp [hi0]
          have HHit := Lib.hid hhit
          clear hhit hi0
          go_wp2_with fail
          go_ret
          exact ⟨(k : Int), rfl, .inr ⟨k, x, rfl, HX.out.1, HHit.out, HNo.out⟩, rfl⟩
        · have hne : (xn == nm) = false := by simpa using hnm
          have hmiss : hitP nm x = false := by unfold hitP; rw [← HX.out.2.2]; simp [hnm]
          have HM := Lib.hid (HNx.out hmiss)
          clear hmiss hi0 hnm
          go_wp2_with fail
          go_roundg (l.length - (k + 1))
          case measure => omega
          case rel => exact ⟨k + 1, by go_num, rfl, hlt, rfl, HM.out⟩
    · have hlt' : decide ((k : Int) < (l.length : Int)) = false := by simp; omega
      obtain rfl : k = l.length := by omega
      rw [List.take_length] at hno
      have HNo := Lib.hid hno
      clear hno
      go_wp2_with fail
      go_ret
      exact ⟨-1, rfl, .inl ⟨rfl, HNo.out⟩, rfl⟩
end Go.Proofs.YtfgkgoddjemnfaaGreatDoor

namespace Go.Proofs.YtfgkgoddjemnfaaGreatDoor
open Go.RowKit Go.Shelf Pa
attribute [local go_sem] bs_toList bs_size
theorem OwnSl.len {w : World} {B c n : Nat} {A : Option Addr} {l : List Sl} (h : OwnSl w B (.slice A n c) l) : l.length ≤ c := by
  obtain ⟨h1, h⟩ := id h
  rcases h with ⟨e, h0⟩ | ⟨g, cap, cur, e, hB, hg, hc, hm, hs, ht⟩
  · omega
  · injection e with e1 e2 e3; omega
theorem lookB_len {w : World} {r : Nat} {T K : RS} {R : Reg} (h : RefI w r T K R) (d : Int) : (lookB T d).length ≤ 70656 := by
  unfold lookB
  split
  · rename_i h0
    obtain ⟨_, _, hlt, _⟩ := look_live (lookE_ok h0).1
    exact h.len hlt
  · exact Nat.zero_le _
set_option maxRecDepth 100000 in
set_option maxHeartbeats 2000000 in
theorem rfind7_any (r : Nat) (d : Int) (nm : Str) (T K : RS) (R : Reg) (w : World) (h : RefI w r T K R) (hn : 1 ≤ T.i.length) (hnl : nm.length ≤ 140737488355328) :
    Calls Tryz.prog 54 #[.pointer (some ⟨r, 0, none⟩), .int .i64 d, .string (bs nm)] w fun e w' => e = .returned (.tuple #[.int .i64 ((findR T d nm).1.i : Nat), .int .i64 ((findR T d nm).2.2 : Nat)]) ∧ Below w.heap.size w w' := by
  have hlk := rlook7_any r d T K R w h hn
  have hll := lookB_len h d
  have hsl : (slotsP (lookB T d)).length ≤ 1104 := by rw [slotsP_length]; omega
  have hnm := fun w => rname7_big nm w hnl
  have HLk := Lib.hid hlk
  have HNm := Lib.hid hnm
  clear hlk hnm hll hnl h hn
  by_cases h0 : lookE T d = 0
  · obtain ⟨b, hb⟩ : ∃ b, b = lookB T d := ⟨_, rfl⟩
    rw [h0, ← hb] at HLk
    rw [← hb] at hsl
    by_cases hok : nameOk nm = true
    · rw [hok] at HNm
      have hR : findR T d nm = match findP b nm with | some x => (x, b, 0) | none => (⟨0, [], 0⟩, b, 4) := by
        rw [hb]; unfold findR
        rw [if_neg (fun e => e h0), if_neg (by rw [hok]; decide)]
        cases findP (lookB T d) nm <;> rfl
      have HR := Lib.hid hR
      clear hR hb h0 hok
      go_enter Tryz.func54, Tryz.ntmps54
      go_wp2_with fail
      refine HLk.out.mono ?_
      rintro e w1 ⟨v, rfl, hown, hb1⟩
      obtain ⟨A, c, rfl⟩ := hown.shape
      have hfa := hown.fact
      have hat := rat7_any (slotsP b) nm A c w1 hfa (by omega) hown.len
      have HAt := Lib.hid hat
      have HFa := Lib.hid hfa
      have HB1 := Lib.hid hb1
      have hcl := hown.len
      clear hown hat hfa hb1
      go_wp2_with fail
      refine (HNm.out _).mono ?_
      rintro e w2 ⟨rfl, hw2⟩
      obtain rfl := hw2.symm
      go_wp2_with fail
      refine HAt.out.mono ?_
      rintro e w2 ⟨a, rfl, hap, hw2⟩
      obtain rfl := hw2.symm
      by_cases ha : a < 0
      · have hp := hap.none ha
        have hr := HR.out
        rw [hp] at hr
        have ha' : decide (a < 0) = true := by simp; exact ha
        have h1 : (findR T d nm).1.i = 0 := by rw [hr]
        have h2 : (findR T d nm).2.2 = 4 := by rw [hr]
        have HQ := Lib.hid (⟨h1, h2⟩ : _ ∧ _)
        clear hap hp hr h1 h2 ha HR HAt HNm HLk
        go_wp2_with fail
        go_ret2
        exact ⟨by rw [HQ.out.1, HQ.out.2]; rfl, HB1.out⟩
      · obtain ⟨k, x, rfl, hx, hp, _, hk⟩ := hap.some (by omega)
        have hkl : k < (slotsP b).length := (List.getElem?_eq_some_iff.1 hx).1
        obtain ⟨g, rfl, hg, c0, c1⟩ := HFa.out k x hx
        have hr := HR.out
        rw [hp] at hr
        have ha' : decide ((k : Int) < 0) = false := by simp
        have h1 : (findR T d nm).1.i = x.i := by rw [hr]
        have h2 : (findR T d nm).2.2 = 0 := by rw [hr]
        obtain ⟨xi, hxi⟩ : ∃ q, q = x.i := ⟨_, rfl⟩
        rw [← hxi] at c1 h1
        have HQ := Lib.hid (⟨h1, h2⟩ : _ ∧ _)
        clear hap hp hr h1 h2 ha HR HAt HNm HLk hx hxi HFa
        go_wp2_with fail
        go_ret2
        exact ⟨by rw [HQ.out.1, HQ.out.2]; rfl, HB1.out⟩
    · have hok : nameOk nm = false := by simpa using hok
      rw [hok] at HNm
      have hR : findR T d nm = (⟨0, [], 0⟩, [], 8) := by
        unfold findR
        rw [if_neg (fun e => e h0), if_pos hok]
      rw [hR]
      clear hR hb h0 hok
      go_enter Tryz.func54, Tryz.ntmps54
      go_wp2_with fail
      refine HLk.out.mono ?_
      rintro e w1 ⟨v, rfl, hown, hb1⟩
      have HB1 := Lib.hid hb1
      clear hown hb1
      go_wp2_with fail
      refine (HNm.out _).mono ?_
      rintro e w2 ⟨rfl, hw2⟩
      obtain rfl := hw2.symm
      go_wp2_with fail
      go_ret2
      exact ⟨rfl, HB1.out⟩
  · have h1 : (findR T d nm).1.i = 0 := by unfold findR; rw [if_pos h0]
    have h2 : (findR T d nm).2.2 = lookE T d := by unfold findR; rw [if_pos h0]
    rw [h1, h2]
    obtain ⟨lk, hlk⟩ : ∃ k, k = lookE T d := ⟨_, rfl⟩
    rw [← hlk] at HLk ⊢
    have h0' : ((lk : Int) != 0) = true := by rw [bne_iff_ne]; rw [hlk]; omega
    clear h1 h2 hlk h0
    go_enter Tryz.func54, Tryz.ntmps54
    go_wp2_with fail
    refine HLk.out.mono ?_
    rintro e w1 ⟨v, rfl, hown, hb1⟩
    have HB1 := Lib.hid hb1
    clear hown hb1
    go_wp2_with fail
    go_ret2
    exact ⟨rfl, HB1.out⟩
end Go.Proofs.YtfgkgoddjemnfaaGreatDoor

namespace Go.Proofs.YtfgkgoddjemnfaaGreatDoor
open Go.RowKit Go.Shelf Pa
attribute [local go_sem] bs_toList bs_size
set_option maxRecDepth 100000 in
set_option maxHeartbeats 4000000 in
theorem rread6_any (r : Nat) (i : Int) (T K : RS) (R : Reg) (w : World) (h : RefI w r T K R) (hn : 1 ≤ T.i.length) :
    Calls Tryz.prog 27 #[.pointer (some ⟨r, 0, none⟩), .int .i64 i, .int .i64 0, .int .i64 70656] w fun e w' => ∃ v, e = .returned (.tuple #[v, .int .i64 (T.look i : Nat)]) ∧ OwnL w' w.heap.size 5 v (bytV (if T.look i = 0 then (T.file i.toNat).bytes else [])) ∧ Below w.heap.size w w' := by
  obtain ⟨i1, hi1, hy0, hy1, hy2⟩ := info_parts info_byte
  have hlk := rlook6_any r i T K R w h hn
  by_cases h0 : T.look i = 0
  case neg =>
    rw [if_neg h0]
    obtain ⟨lk, hlke⟩ : ∃ k, k = T.look i := ⟨_, rfl⟩
    rw [← hlke] at hlk ⊢
    have h0' : ((lk : Int) != 0) = true := by rw [bne_iff_ne, hlke]; omega
    have HLk := Lib.hid hlk
    clear hlk hlke h0 h hn
    go_enter Tryz.func27, Tryz.ntmps27
    go_wp2_with fail
    refine HLk.out.mono ?_
    rintro e w1 ⟨rfl, hw1⟩
    obtain rfl := hw1.symm
    go_wp2_with fail
    go_ret2
    exact ⟨_, rfl, World.ownsRow_nil _ _ _ _, Below.refl _ _⟩
  rw [if_pos h0]
  obtain ⟨_, hij, hlt, _⟩ := look_live h0
  obtain ⟨j, rfl⟩ : ∃ j : Nat, i = j := ⟨i.toNat, hij⟩
  rw [Int.toNat_natCast] at hlt ⊢
  have hj : j < T.i.length := hlt
  rw [h0] at hlk ⊢
  obtain ⟨m, lv, u2, u3, pv, iv, X, mk, pk, ik, Y, h1, h2⟩ := h
  obtain ⟨g, c, rfl, _, hg, hcs⟩ := h1.cells hn
  have c1 : w.cell? ⟨r, 1, none⟩ = some (.slice (some ⟨g, 0, none⟩) T.i.length c) := cell_of_heap h1.at_ 1
  obtain ⟨bv, dv, hx, n1, n2, hq⟩ := hcs j hj
  have hsm := (h1.small.2 (T.file j) (by rw [← h1.eq]; exact List.mem_map.2 ⟨_, List.mem_of_getElem? hx, rfl⟩)).1
  obtain ⟨Ab, cb, rfl⟩ := n1.1.shape
  obtain ⟨b, hb⟩ : ∃ b, b = (T.file j).bytes := ⟨_, rfl⟩
  have c3 := hq 3 _ rfl
  rw [← hb] at c3 n1 hsm ⊢
  rw [bytV_length] at c3 n1
  have HLk := Lib.hid hlk
  have HN := Lib.hid n1.1
  clear hlk h1 h2 hcs hq n1 n2 hx hb hij hlt h0
  go_enter Tryz.func27, Tryz.ntmps27
  go_wp2_with fail
  refine HLk.out.mono ?_
  rintro e w1 ⟨rfl, hw1⟩
  obtain rfl := hw1.symm
  go_wp2_with fail
  go_loopg [11, 13] b.length (fun gg v11 i wx => ∃ (k : Nat) (A9 : Option Addr) (c9 : Nat), v11 = .slice A9 k c9 ∧ i = .int .i64 k ∧ gg = b.length - k ∧ k ≤ b.length ∧ OwnL wx w.heap.size 5 (.slice A9 k c9) (bytV (b.take k)) ∧ Below w.heap.size w wx)
  case atStart => exact ⟨0, none, 0, rfl, rfl, rfl, Nat.zero_le _, World.ownsRow_nil _ _ _ _, Below.refl _ _⟩
  case round =>
    obtain ⟨k, A9, c9, rfl, rfl, rfl, hk, hown, hbw⟩ := hrel
    by_cases hlt : k < b.length
    · have hlt' : decide ((k : Int) < (b.length : Int)) = true := by simp; omega
      have hlt2' : decide ((k : Int) < 70656) = true := by simp; omega
      obtain ⟨gb, rfl, _, hgb, hcb⟩ := ent_of HN.out (by rw [bytV_length]) k (by rw [bytV_length]; exact hlt)
      obtain ⟨y, hy⟩ : ∃ y, b[k]? = some y := ⟨_, List.getElem?_eq_getElem hlt⟩
      have hcell := (hbw.cell (p := ⟨gb, k, none⟩) hgb).trans (hcb k (.int .u8 y.toNat) (by unfold bytV; rw [List.getElem?_map, hy]; rfl))
      have hlen : (bytV (b.take k)).length = k := by rw [bytV_length, List.length_take]; omega
      have hownA : (wr.alloc (.cells #[.int .u8 y.toNat] 5)).ownsRow w.heap.size 5 1 (.slice A9 k c9) k (bytV (b.take k)) := by
        have h1 : wr.ownsRow w.heap.size 5 1 (.slice A9 k c9) k (bytV (b.take k)) := by unfold OwnL at hown; rw [hlen] at hown; exact hown
        exact World.ownsRow.alloc h1 _
      have hbA : Below w.heap.size w (wr.alloc (.cells #[.int .u8 y.toNat] 5)) := hbw.alloc hbw.size _
      have hbase : w.heap.size ≤ (wr.alloc (.cells #[.int .u8 y.toNat] 5)).heap.size := hbA.size
      have hkm : k + 1 ≤ maxLen := by unfold maxLen; omega
      have hkb : (k + 1) * 1 ≤ 140737488355328 := by omega
      have hnext : ∀ v' w6, w6.ownsRow w.heap.size 5 1 v' (k + 1) (bytV (b.take k) ++ [.int .u8 y.toNat]) → (wr.alloc (.cells #[.int .u8 y.toNat] 5)).grownBy w6 (Value.slice A9 k c9).ownBlock → ∃ A9 c9, v' = .slice A9 (k + 1) c9 ∧ OwnL w6 w.heap.size 5 (.slice A9 (k + 1) c9) (bytV (b.take (k + 1))) ∧ Below w.heap.size w w6 := fun v' w6 r1 r2 => by
        have e : bytV (b.take (k + 1)) = bytV (b.take k) ++ [.int .u8 y.toNat] := by rw [List.take_add_one, hy, bytV_append]; rfl
        obtain ⟨A', c', rfl⟩ := ownsRow_slice r1
        refine ⟨A', c', rfl, ?_, hbA.grown r2 hbase (fun j hj => (World.ownsRow.lt hownA j hj).1)⟩
        unfold OwnL
        rw [e, List.length_append, hlen]
        exact r1
      have HNext := Lib.hid hnext
      have HOwnA := Lib.hid hownA
      clear hnext hownA hown hbw hbA hcb hy hlen
      go_wp2_with (at_builtin; refine wpList_append_own_at _ rfl _ _ 53 rfl w.heap.size 5 i1 (.int .u8 0) 1 1 Tryz.underlying53 hi1 hy0 hy1 hy2 rfl (by decide) (.slice A9 k c9) _ _ rfl HOwnA.out ⟨wr.heap.size, 0, none⟩ 1 1 [.int .u8 y.toNat] rfl rfl (World.news_of_block (heap_alloc_new _ _)) (by intro u hu; simp at hu; subst hu; rfl) hkm hkb hbase ?_; intro v' w6 hown' hgrow hnil hloc; have hI6 := HNext.out v' w6 hown' hgrow; have HI6 := Lib.hid hI6; clear hown' hgrow hnil hloc hI6)
      go_roundg (b.length - (k + 1))
      case measure => omega
      case rel =>
        obtain ⟨A', c', e1, e2, e3⟩ := HI6.out
        exact ⟨k + 1, A', c', e1, by go_num, rfl, hlt, e2, e3⟩
    · have hlt' : decide ((k : Int) < (b.length : Int)) = false := by simp; omega
      obtain rfl : k = b.length := by omega
      rw [List.take_length] at hown
      have HN2 := Lib.hid (⟨hown, hbw⟩ : _ ∧ _)
      clear hown hbw
      go_wp2_with fail
      go_ret2
      exact ⟨_, rfl, HN2.out.1, HN2.out.2⟩
end Go.Proofs.YtfgkgoddjemnfaaGreatDoor

namespace Go.Proofs.YtfgkgoddjemnfaaGreatDoor
open Go.RowKit Go.Shelf Pa
attribute [local go_sem] bs_toList bs_size
theorem addAt_free {b : Str} {k : Nat} (hm : b.length % 64 = 0) (hno : ∀ y ∈ (slotsP b).take k, y.i ≠ 0) (hk : k = (slotsP b).length ∨ ∃ x, (slotsP b)[k]? = some x ∧ x.i = 0) : addAt b = 64 * k := by
  unfold addAt
  rcases hk with hk | ⟨x, hx, h0⟩
  · rw [hk, List.take_length] at hno
    rw [freeP_none hno, hk, slotsP_length]
    show b.length = _
    omega
  · rw [freeP_some (take_prefix_at hx) hno h0]
    show x.at_ = _
    rw [(slotsP_at hx).1]; rfl
theorem addE_known {T : RS} {d i : Int} {nm : Str} {a : Int} (h0 : lookE T d = 0) (h1 : nameOk nm = true) (h2 : ¬ (i < 1 ∨ 512 ≤ i)) (ha : AtP (slotsP (lookB T d)) nm a) : addE T d nm i = if 0 ≤ a then 5 else 0 := by
  have hf : (findR T d nm).2.2 = if 0 ≤ a then 0 else 4 := by
    unfold findR
    rw [if_neg (fun e => e h0), if_neg (by rw [h1]; decide)]
    by_cases hh : 0 ≤ a
    · obtain ⟨k, x, _, _, hp, _⟩ := ha.some hh
      rw [hp, if_pos hh]
    · rw [ha.none (by omega), if_neg hh]
  unfold addE
  rw [if_neg (fun e => e h0), if_neg h2, hf]
  by_cases hh : 0 ≤ a
  · rw [if_pos hh, if_pos hh]; rfl
  · rw [if_neg hh, if_neg hh]; rfl
set_option maxRecDepth 100000 in
set_option maxHeartbeats 4000000 in
theorem radd7_any (r L : Nat) (d i : Int) (nm : Str) (T K : RS) (u : Nat → List Ent) (C : Ca) (R : Reg) (w : World) (h : RefI w r T K R) (hd : DirU T u L) (hL : L ≤ 60) (hr : Rel C T (fun _ => False)) (ht : T.Tight) (hnl : nm.length ≤ 140737488355328) :
    Calls Tryz.prog 20 #[.pointer (some ⟨r, 0, none⟩), .int .i64 d, .string (bs nm), .int .i64 i] w fun e w' => e = .returned (.int .i64 (addE T d nm i : Nat)) ∧ RefStep w r (addT T d nm i) K R w' := by
  have hn : 1 ≤ T.i.length := by have := hr.ino8.2.1; omega
  have hlk := rlook7_any r d T K R w h hn
  have hll := lookB_len h d
  have hsl : (slotsP (lookB T d)).length ≤ 1104 := by rw [slotsP_length]; omega
  have hnm := fun w => rname7_big nm w hnl
  have hsame : ∀ w', addE T d nm i ≠ 0 → Below w.heap.size w w' → RefStep w r (addT T d nm i) K R w' := fun w' e hb => by
    unfold addT
    rw [if_neg e]
    exact h.step0 hb
  have HLk := Lib.hid hlk
  have HNm := Lib.hid hnm
  have HSame := Lib.hid hsame
  have HH := Lib.hid h
  have HD := Lib.hid hd
  have HRl := Lib.hid (⟨hr, ht⟩ : _ ∧ _)
  clear hlk hnm hsame hnl h hn hd hr ht
  by_cases h0 : lookE T d = 0
  case neg =>
    have hE : addE T d nm i = lookE T d := by unfold addE; rw [if_pos h0]
    have hS := fun w' => HSame.out w' (by rw [hE]; exact h0)
    rw [hE]
    obtain ⟨lk, hlk⟩ : ∃ k, k = lookE T d := ⟨_, rfl⟩
    rw [← hlk] at HLk ⊢
    have h0' : ((lk : Int) != 0) = true := by rw [bne_iff_ne]; rw [hlk]; omega
    have HS := Lib.hid hS
    clear hS hE hlk h0
    go_enter Tryz.func20, Tryz.ntmps20
    go_wp2_with fail
    refine HLk.out.mono ?_
    rintro e w1 ⟨v, rfl, hown, hb1⟩
    have HB1 := Lib.hid hb1
    clear hown hb1
    go_wp2_with fail
    go_ret
    exact ⟨rfl, HS.out _ HB1.out⟩
  by_cases hok : nameOk nm = true
  case neg =>
    have hok : nameOk nm = false := by simpa using hok
    have hE : addE T d nm i = 8 := by
      have hf : (findR T d nm).2.2 = 8 := by unfold findR; rw [if_neg (fun e => e h0), if_pos hok]
      unfold addE
      rw [if_neg (fun e => e h0), hf, if_pos ⟨by decide, by decide⟩]
    have hS := fun w' => HSame.out w' (by rw [hE]; decide)
    rw [hE]
    rw [h0] at HLk
    rw [hok] at HNm
    have HS := Lib.hid hS
    clear hS hE h0 hok
    go_enter Tryz.func20, Tryz.ntmps20
    go_wp2_with fail
    refine HLk.out.mono ?_
    rintro e w1 ⟨v, rfl, hown, hb1⟩
    have HB1 := Lib.hid hb1
    clear hown hb1
    go_wp2_with fail
    refine (HNm.out _).mono ?_
    rintro e w2 ⟨rfl, hw2⟩
    obtain rfl := hw2.symm
    go_wp2_with fail
    go_ret
    exact ⟨rfl, HS.out _ HB1.out⟩
  by_cases hi : i < 1 ∨ 512 ≤ i
  case pos =>
    have hE : addE T d nm i = 2 := by
      have hf : (findR T d nm).2.2 = 0 ∨ (findR T d nm).2.2 = 4 := by
        unfold findR
        rw [if_neg (fun e => e h0), if_neg (by rw [hok]; decide)]
        cases findP (lookB T d) nm
        · exact .inr rfl
        · exact .inl rfl
      unfold addE
      rw [if_neg (fun e => e h0), if_neg (by omega), if_pos hi]
    have hS := fun w' => HSame.out w' (by rw [hE]; decide)
    rw [hE]
    rw [h0] at HLk
    rw [hok] at HNm
    have HS := Lib.hid hS
    clear hS hE h0 hok
    by_cases h1 : i < 1
    · have h1' : decide (i < 1) = true := by simp; exact h1
      clear hi h1
      go_enter Tryz.func20, Tryz.ntmps20
      go_wp2_with fail
      refine HLk.out.mono ?_
      rintro e w1 ⟨v, rfl, hown, hb1⟩
      have HB1 := Lib.hid hb1
      clear hown hb1
      go_wp2_with fail
      refine (HNm.out _).mono ?_
      rintro e w2 ⟨rfl, hw2⟩
      obtain rfl := hw2.symm
      go_wp2_with fail
      go_ret
      exact ⟨rfl, HS.out _ HB1.out⟩
    · have h1' : decide (i < 1) = false := by simp; omega
      have h2' : decide (511 < i) = true := by simp; omega
      clear hi h1
      go_enter Tryz.func20, Tryz.ntmps20
      go_wp2_with fail
      refine HLk.out.mono ?_
      rintro e w1 ⟨v, rfl, hown, hb1⟩
      have HB1 := Lib.hid hb1
      clear hown hb1
      go_wp2_with fail
      refine (HNm.out _).mono ?_
      rintro e w2 ⟨rfl, hw2⟩
      obtain rfl := hw2.symm
      go_wp2_with fail
      go_ret
      exact ⟨rfl, HS.out _ HB1.out⟩
  obtain ⟨j, rfl⟩ : ∃ j : Nat, i = j := ⟨i.toNat, by omega⟩
  have hj1 : decide ((j : Int) < 1) = false := by simp; omega
  have hj2 : decide ((511 : Int) < (j : Int)) = false := by simp; omega
  have hjl : j < 512 := by omega
  have hj0 : 1 ≤ j := by omega
  have hfin : ∀ a, AtP (slotsP (lookB T d)) nm a → addE T d nm j = if 0 ≤ a then 5 else 0 := fun a ha => addE_known h0 hok hi ha
  have hnl59 : nm.length ≤ 59 := by unfold nameOk at hok; simp at hok; omega
  have hmod := HD.out.mod d
  have hdj : d = 1 ∨ d = 3 := (HD.out.look0 d).1 h0
  have hlook := (lookE_ok h0).1
  have hbeq : lookB T d = (T.file d.toNat).bytes := by unfold lookB; rw [if_pos h0]
  have HFin := Lib.hid hfin
  have HHok := Lib.hid (⟨h0, hok, hi⟩ : _ ∧ _ ∧ _)
  have HLook := Lib.hid hlook
  have HBeq := Lib.hid hbeq
  have HDj := Lib.hid hdj
  rw [h0] at HLk
  rw [hok] at HNm
  obtain ⟨b, hb⟩ : ∃ b, b = lookB T d := ⟨_, rfl⟩
  rw [← hb] at HLk HFin hsl hmod hll
  have HBd := Lib.hid hb
  have HMod := Lib.hid hmod
  clear hfin h0 hok hi hlook hbeq hdj hb hmod
  go_enter Tryz.func20, Tryz.ntmps20
  go_wp2_with fail
  refine HLk.out.mono ?_
  rintro e w1 ⟨v, rfl, hown, hb1⟩
  obtain ⟨A, c, rfl⟩ := hown.shape
  have hfa := hown.fact
  have hat := rat7_any (slotsP b) nm A c w1 hfa (by omega) hown.len
  have HAt := Lib.hid hat
  have HFa := Lib.hid hfa
  have HB1 := Lib.hid hb1
  have hcl := hown.len
  clear hown hat hfa hb1 HLk
  go_wp2_with fail
  refine (HNm.out _).mono ?_
  rintro e w2 ⟨rfl, hw2⟩
  obtain rfl := hw2.symm
  go_wp2_with fail
  refine HAt.out.mono ?_
  rintro e w2 ⟨a, rfl, hap, hw2⟩
  obtain rfl := hw2.symm
  have hE := HFin.out a hap
  by_cases ha : 0 ≤ a
  · rw [if_pos ha] at hE
    have hS := fun w' => HSame.out w' (by rw [hE]; decide)
    have ha' : decide ((0 : Int) ≤ a) = true := by simp; exact ha
    have HS := Lib.hid hS
    have HE := Lib.hid hE
    clear hS hE hap ha HAt HNm
    go_wp2_with fail
    go_ret
    exact ⟨by rw [HE.out]; rfl, HS.out _ HB1.out⟩
  · rw [if_neg ha] at hE
    have ha' : decide ((0 : Int) ≤ a) = false := by simp; omega
    have HE := Lib.hid hE
    clear hE hap ha HAt HNm
    go_upto_block 0 with fail
    go_cut [11] (fun v11 wx => wx = w1 ∧ ∃ k : Nat, v11 = .int .i64 k ∧ addAt b = 64 * k ∧ 64 * k ≤ b.length)
    case first =>
      go_wp2_with fail
      go_loopg [11] (slotsP b).length (fun gg i wx => ∃ k : Nat, i = .int .i64 k ∧ gg = (slotsP b).length - k ∧ k ≤ (slotsP b).length ∧ wx = w1 ∧ ∀ y ∈ (slotsP b).take k, y.i ≠ 0)
      case atStart => exact ⟨0, rfl, rfl, Nat.zero_le _, rfl, fun y hy => by simp at hy⟩
      case round =>
        obtain ⟨k, rfl, rfl, hk, rfl, hno⟩ := hrel
        by_cases hlt : k < (slotsP b).length
        · have hlt' : decide ((k : Int) < ((slotsP b).length : Int)) = true := by simp; omega
          obtain ⟨x, hx⟩ : ∃ x, (slotsP b)[k]? = some x := ⟨_, List.getElem?_eq_getElem hlt⟩
          obtain ⟨g, rfl, hg, c0, c1⟩ := HFa.out k x hx
          obtain ⟨xi, hxi⟩ : ∃ q, q = x.i := ⟨_, rfl⟩
          rw [← hxi] at c1
          clear c0
          by_cases hi0 : xi = 0
          · have hi0' : ((xi : Int) != 0) = false := by rw [hi0]; rfl
            have hres := addAt_free HMod.out hno (.inr ⟨x, hx, by rw [← hxi]; exact hi0⟩)
            have hkl := (slotsP_at hx).2
            have HRes := Lib.hid hres
            clear hres hno hx hxi hi0
            go_wp2_with fail
            go_meet
            exact ⟨rfl, k, rfl, HRes.out, by omega⟩
          · have hi0' : ((xi : Int) != 0) = true := by rw [bne_iff_ne]; omega
            have hnext : ∀ y ∈ (slotsP b).take (k + 1), y.i ≠ 0 := fun y hy => by
              rw [List.take_add_one, hx] at hy
              rcases List.mem_append.1 hy with hy | hy
              · exact hno y hy
              · have : y = x := by simpa using hy
                rw [this, ← hxi]; exact hi0
            have HNx := Lib.hid hnext
            clear hnext hno hx hxi hi0
            go_wp2_with fail
            go_roundg ((slotsP b).length - (k + 1))
            case measure => omega
            case rel => exact ⟨k + 1, by go_num, rfl, hlt, rfl, HNx.out⟩
        · have hlt' : decide ((k : Int) < ((slotsP b).length : Int)) = false := by simp; omega
          have hkl : k = (slotsP b).length := by omega
          have hres := addAt_free HMod.out hno (.inl hkl)
          have hle : 64 * k ≤ b.length := by rw [hkl, slotsP_length]; omega
          have HRes := Lib.hid hres
          clear hres hno hkl
          go_wp2_with fail
          go_meet
          exact ⟨rfl, k, rfl, HRes.out, hle⟩
    case rest =>
      obtain ⟨rfl, k, rfl, hadd, hkb⟩ := hcut
      obtain ⟨at_, hat_⟩ : ∃ a, a = 64 * k := ⟨_, rfl⟩
      rw [← hat_] at hadd hkb
      have hmul : IntKind.i64.wrap (64 * (k : Int)) = (at_ : Int) := by rw [IntWalk.i64_in _ (by omega)]; omega
      have hby := rsbytes7_any nm j (by omega) hnl59 wc
      obtain ⟨dn, rfl⟩ : ∃ dn : Nat, d = dn := ⟨d.toNat, by have := HDj.out; omega⟩
      have hwr : ∀ w3 g cg, OwnL w3 wc.heap.size 5 (.slice (some ⟨g, 0, none⟩) 64 cg) (bytV (encS nm j)) → Below wc.heap.size wc w3 → Calls Tryz.prog 57 #[.pointer (some ⟨r, 0, none⟩), .int .i64 dn, .int .i64 at_, .slice (some ⟨g, 0, none⟩) 64 cg] w3 fun e w' => e = .returned (.int .i64 0) ∧ RefStep w r (addT T dn nm j) K R w' := fun w3 g cg ho hb3 => by
        have hbw := HB1.out.trans (hb3.mono HB1.out.size)
        have hel := encS_length nm j hnl59
        obtain ⟨⟨a1, a2⟩, _⟩ := HD.out.add HRl.out.1 HRl.out.2 hL HE.out
        have hbl := HD.out.blen dn
        rw [← HBd.out] at a1 a2 hbl
        rw [hadd, Int.toNat_natCast, Int.toNat_natCast] at a2
        have hbe := HBeq.out
        rw [← HBd.out, Int.toNat_natCast] at hbe
        have hlv : T.live dn := by have := (look_live HLook.out).1; rw [Int.toNat_natCast] at this; exact this
        have hg : wc.heap.size ≤ g := (ho.block rfl).1
        have hwc := rwr6_any r dn at_ g cg (encS nm j) T (addT T dn nm j) K R w3 (HH.out.below hbw) HLook.out (by rw [hel]; exact ho.base (Nat.zero_le _)) (fun e => by have := HH.out.lt g e; have := HB1.out.size; omega) (by rw [hel]; decide) (HD.out.few HRl.out.1 HRl.out.2 (by omega) (by have := HDj.out; omega) (by rw [hel, ← hbe]; omega)) (fun T1 e => HRl.out.1.resized HRl.out.2 hlv (by rw [hel, ← hbe]; omega) e) a2
        rw [hel] at hwc
        exact hwc.mono fun e w' ⟨h1, h2⟩ => ⟨h1, RefStep.trans (Reg.To.refl _ _) (Off.of_below hbw _) h2⟩
      have HBy := Lib.hid hby
      have HWr := Lib.hid hwr
      clear hby hwr hat_ hadd HD HRl HH HFin HHok HBd HMod HSame HBeq HDj HLook hkb
      go_wp2_with fail
      refine HBy.out.mono ?_
      rintro e w3 ⟨g, cg, rfl, hown, hb3⟩
      have hw := HWr.out w3 g cg hown hb3
      have HW := Lib.hid hw
      clear hw hown hb3
      go_wp2_with fail
      refine HW.out.mono ?_
      rintro e w4 ⟨rfl, hs⟩
      have HS := Lib.hid hs
      clear hs
      go_wp2_with fail
      go_ret
      exact ⟨by rw [HE.out]; rfl, HS.out⟩
end Go.Proofs.YtfgkgoddjemnfaaGreatDoor

namespace Go.Proofs.YtfgkgoddjemnfaaGreatDoor
open Go.RowKit Go.Shelf Pa
attribute [local go_sem] bs_toList bs_size
theorem encStr_one (l : List Str) : ∀ u ∈ l.map encStr, u.oneCell' = true := fun u hu => by obtain ⟨_, _, rfl⟩ := List.mem_map.1 hu; rfl
theorem OwnS.l {w : World} {B : Nat} {v : Value} {l : List Str} (h : OwnS w B v l) : OwnL w B 9 v (l.map encStr) := by
  unfold OwnL
  rw [List.length_map]
  exact h
theorem bless_not {x y : Str} (h : Op.bytesLess x y = false) : ¬ x < y := fun e => by rw [(bless_lt x y).2 e] at h; cases h
/-- What stands between the entries. -/
def InsI (B : Nat) (w wx : World) (v : Value) (l : List Sl) (k : Nat) (o : List Str) : Prop := OwnS wx B v o ∧ Below B w wx ∧ o.Pairwise (· ≤ ·) ∧ o.Perm (namesP (l.take k)) ∧ (o = [] → v = .slice none 0 0)
theorem InsI.names {B k : Nat} {w wx : World} {v : Value} {l : List Sl} {o : List Str} (h : InsI B w wx v l k o) : o.length ≤ k := by
  have h1 := h.2.2.2.1.length_eq
  have h2 := namesP_le (l.take k)
  rw [List.length_take] at h2
  omega
/-- One's own names, read. -/
theorem OwnS.facts {w : World} {B n c : Nat} {A : Option Addr} {o : List Str} (h : OwnS w B (.slice A n c) o) (hn : o ≠ []) : ∃ g, A = some ⟨g, 0, none⟩ ∧ B ≤ g ∧ g < w.heap.size ∧ o.length ≤ c ∧ ∀ (j : Nat) y, o[j]? = some y → w.cell? ⟨g, j, none⟩ = some (.string (bs y)) := by
  obtain ⟨h1, h⟩ := id h
  rcases h with ⟨_, h0⟩ | ⟨g, cap, cur, e, hB, hg, hc, hm, hs, ht⟩
  · exact absurd (List.length_eq_zero_iff.1 h0) hn
  · injection e with e1 e2 e3
    refine ⟨g, e1, hB, (Array.getElem?_eq_some_iff.1 hg).1, by omega, fun j y hj => ?_⟩
    have hjl := (List.getElem?_eq_some_iff.1 hj).1
    rw [cell_of_heap hg, ← Array.getElem?_toList, ← List.getElem?_take_of_lt (show j < o.length * 1 by omega), ht, List.getElem?_map, hj]
    rfl
/-- A name put among the others: what the three appends leave. -/
theorem ins_end {B k m : Nat} {w1 wq w15 w17 : World} {v8 v15 v17 : Value} {l : List Sl} {o : List Str} {xn : Str} (hI : InsI B w1 wq v8 l k o) (hB : B = w1.heap.size) (hnm : namesP (l.take (k + 1)) = namesP (l.take k) ++ [xn]) (hm : m ≤ o.length) (hgt : ∀ j y, m ≤ j → o[j]? = some y → xn < y) (hle : m = 0 ∨ ∃ y, o[m - 1]? = some y ∧ ¬ xn < y)
    (hb : Below wq.heap.size wq w15) (r15 : w15.ownsRow wq.heap.size 9 1 v15 (m + 1) ((o.take m).map encStr ++ [.string (bs xn)])) (r17 : w17.ownsRow wq.heap.size 9 1 v17 (m + 1 + (o.length - m)) (((o.take m).map encStr ++ [.string (bs xn)]) ++ (o.drop m).map encStr)) (hg : w15.grownBy w17 v15.ownBlock) :
    ∃ A9 c9, v17 = .slice A9 (o.take m ++ xn :: o.drop m).length c9 ∧ InsI B w1 w17 (.slice A9 (o.take m ++ xn :: o.drop m).length c9) l (k + 1) (o.take m ++ xn :: o.drop m) := by
  obtain ⟨a1, a2, a3, a4, _⟩ := hI
  have hl := ins_length o xn m
  have hs : OwnS w17 B v17 (o.take m ++ xn :: o.drop m) := by
    unfold OwnS
    rw [hl, show o.length + 1 = m + 1 + (o.length - m) from by omega]
    have e : (o.take m ++ xn :: o.drop m).map encStr = ((o.take m).map encStr ++ [.string (bs xn)]) ++ (o.drop m).map encStr := by simp [encStr]; rfl
    rw [e]
    exact rowB_base r17 (by rw [hB]; exact a2.size)
  have hb2 : Below wq.heap.size wq w17 := hb.grown hg hb.size (fun j hj => (World.ownsRow.lt r15 j hj).1)
  obtain ⟨A9, c9, rfl⟩ := ownsRow_slice hs
  refine ⟨A9, c9, rfl, hs, a2.trans (hb2.mono (by rw [hB]; exact a2.size)), ins_sorted a3 hm hgt hle, by rw [hnm]; exact ins_perm a4, fun e => by have := congrArg List.length e; rw [hl] at this; cases this⟩
set_option maxRecDepth 100000 in
set_option maxHeartbeats 4000000 in
theorem rlist7_any (r : Nat) (d : Int) (T K : RS) (R : Reg) (w : World) (h : RefI w r T K R) (hn : 1 ≤ T.i.length) :
    Calls Tryz.prog 24 #[.pointer (some ⟨r, 0, none⟩), .int .i64 d] w fun e w' => ∃ v, e = .returned (.tuple #[v, .int .i64 (lookE T d : Nat)]) ∧ OwnS w' w.heap.size v (listP (lookB T d)) ∧ Below w.heap.size w w' := by
  obtain ⟨i0, hi0, hz0, hz1, hz2⟩ := info_parts info_str
  have HI0 := Lib.hid (⟨hi0, hz0, hz1, hz2⟩ : _ ∧ _ ∧ _ ∧ _)
  clear hi0 hz0 hz1 hz2
  have hlk := rlook7_any r d T K R w h hn
  have hll := lookB_len h d
  have HLk := Lib.hid hlk
  clear hlk h hn
  by_cases h0 : lookE T d = 0
  case neg =>
    have hB : listP (lookB T d) = [] := by unfold lookB; rw [if_neg h0]; simp [listP, slotsP, namesP]
    rw [hB]
    obtain ⟨lk, hlk⟩ : ∃ k, k = lookE T d := ⟨_, rfl⟩
    rw [← hlk] at HLk ⊢
    have h0' : ((lk : Int) != 0) = true := by rw [bne_iff_ne]; rw [hlk]; omega
    clear hB hlk h0
    go_enter Tryz.func24, Tryz.ntmps24
    go_wp2_with fail
    refine HLk.out.mono ?_
    rintro e w1 ⟨v, rfl, hown, hb1⟩
    have HB1 := Lib.hid hb1
    clear hown hb1
    go_wp2_with fail
    go_ret2
    exact ⟨_, rfl, World.ownsRow_nil _ _ _ _, HB1.out⟩
  rw [h0] at HLk ⊢
  obtain ⟨l, hl⟩ : ∃ l, l = slotsP (lookB T d) := ⟨_, rfl⟩
  have hsl : l.length ≤ 1104 := by rw [hl, slotsP_length]; omega
  have hres : listP (lookB T d) = (namesP l).mergeSort fun x y => decide (x ≤ y) := by rw [hl]; rfl
  rw [← hl] at HLk
  rw [hres]
  clear hl hres hll h0
  go_enter Tryz.func24, Tryz.ntmps24
  go_wp2_with fail
  refine HLk.out.mono ?_
  rintro e w1 ⟨v, rfl, hown, hb1⟩
  obtain ⟨A, c, rfl⟩ := hown.shape
  have hfa := hown.fact
  have hcl := hown.len
  have HFa := Lib.hid hfa
  have HB1 := Lib.hid hb1
  clear hown hfa hb1 HLk
  go_wp2_with fail
  go_loopg [8, 9] l.length (fun gg v8 i wx => ∃ (k : Nat) (o : List Str) (A8 : Option Addr) (c8 : Nat), v8 = .slice A8 o.length c8 ∧ i = .int .i64 k ∧ gg = l.length - k ∧ k ≤ l.length ∧ InsI w1.heap.size w1 wx (.slice A8 o.length c8) l k o)
  case atStart => exact ⟨0, [], none, 0, rfl, rfl, rfl, Nat.zero_le _, World.ownsRow_nil _ _ _ _, Below.refl _ _, List.Pairwise.nil, by rw [List.take_zero]; exact List.Perm.refl _, fun _ => rfl⟩
  case round =>
    obtain ⟨k, o, A8, c8, rfl, rfl, rfl, hk, hI⟩ := hrel
    by_cases hlt : k < l.length
    · have hlt' : decide ((k : Int) < (l.length : Int)) = true := by simp; omega
      obtain ⟨x, hx⟩ : ∃ x, l[k]? = some x := ⟨_, List.getElem?_eq_getElem hlt⟩
      obtain ⟨g, rfl, hg, c0, c1⟩ := (HFa.out.below hI.2.1) k x hx
      obtain ⟨xi, hxi⟩ : ∃ q, q = x.i := ⟨_, rfl⟩
      obtain ⟨xn, hxn⟩ : ∃ q, q = x.name := ⟨_, rfl⟩
      rw [← hxi] at c1
      rw [← hxn] at c0
      have hgx : g < w1.heap.size := by
        obtain ⟨g', e, hg', _⟩ := HFa.out k x hx
        injection e with e
        injection e with e
        omega
      have htk : l.take (k + 1) = l.take k ++ [x] := by rw [List.take_add_one, hx]; rfl
      by_cases hi0 : xi = 0
      · have hi0' : ((xi : Int) == 0) = true := by rw [hi0]; rfl
        have hnext : InsI w1.heap.size w1 wr (.slice A8 o.length c8) l (k + 1) o := by
          obtain ⟨a1, a2, a3, a4, a5⟩ := hI
          exact ⟨a1, a2, a3, by rw [htk, namesP_miss _ _ (by rw [← hxi]; exact hi0)]; exact a4, a5⟩
        have HNx := Lib.hid hnext
        clear hnext hI htk hx hxi hxn hi0
        go_wp2_with fail
        go_roundg (l.length - (k + 1))
        case measure => omega
        case rel => exact ⟨k + 1, o, A8, c8, rfl, by go_num, rfl, hlt, HNx.out⟩
      · have hi0' : ((xi : Int) == 0) = false := by rw [beq_eq_false_iff_ne]; omega
        have hol : o.length ≤ k := hI.names
        have hnm : namesP (l.take (k + 1)) = namesP (l.take k) ++ [xn] := by rw [htk, namesP_hit _ _ (by rw [← hxi]; exact hi0), hxn]
        have hcells : ∀ j y, o[j]? = some y → ∃ g8, A8 = some ⟨g8, 0, none⟩ ∧ wr.cell? ⟨g8, j, none⟩ = some (.string (bs y)) ∧ o.length ≤ c8 := fun j y hj => by
          obtain ⟨g8, e, _, _, hc8, hf⟩ := hI.1.facts (fun e => by rw [e] at hj; simp at hj)
          exact ⟨g8, e, hf j y hj, hc8⟩
        have HCells := Lib.hid hcells
        have HI := Lib.hid hI
        have HNm := Lib.hid hnm
        clear hI htk hx hxi hxn hi0 hnm hcells
        obtain ⟨wq, rfl⟩ : ∃ wq, wq = wr := ⟨_, rfl⟩
        go_upto_block 2 with fail
        go_cut [10] (fun v10 wx => ∃ (m : Nat) (q : Nat), v10 = .int .i64 m ∧ m ≤ o.length ∧ wx = wq.drewN q ∧ (∀ j y, m ≤ j → o[j]? = some y → xn < y) ∧ (m = 0 ∨ ∃ y, o[m - 1]? = some y ∧ ¬ xn < y))
        case first =>
          go_wp2_with fail
          go_loopg [10] o.length (fun gg v10 wx => ∃ (m q : Nat), v10 = .int .i64 m ∧ gg = m ∧ m ≤ o.length ∧ wx = wq.drewN q ∧ ∀ j y, m ≤ j → o[j]? = some y → xn < y)
          case atStart => exact ⟨o.length, 0, rfl, rfl, Nat.le_refl _, rfl, fun j y hj h => by have := (List.getElem?_eq_some_iff.1 h).1; omega⟩
          case round =>
            obtain ⟨m, q, rfl, rfl, hm, hwx, hgt⟩ := hrel
            by_cases hz : gk = 0
            · subst hz
              have h0' : decide ((0 : Int) < ((0 : Nat) : Int)) = false := by decide
              have HG := Lib.hid (⟨hgt, hwx⟩ : _ ∧ _)
              clear hgt hwx
              go_wp2_with fail
              go_quiet (fail)
              go_wp2_with fail
              go_meet
              exact ⟨0, q + nq, rfl, Nat.zero_le _, by rw [HG.out.2]; exact World.drewN_drewN _ _ _, HG.out.1, .inl rfl⟩
            · have h0' : decide (0 < gk) = true := by simp; omega
              obtain ⟨m, hmk⟩ : ∃ m, m + 1 = gk := ⟨gk - 1, by omega⟩
              have hml : m < o.length := by omega
              obtain ⟨y, hy⟩ : ∃ y, o[m]? = some y := ⟨_, List.getElem?_eq_getElem hml⟩
              obtain ⟨g8, rfl, cy, hc8⟩ := HCells.out m y hy
              have cy' : wr.cell? ⟨g8, m, none⟩ = some (.string (bs y)) := by rw [hwx]; exact cy
              have c0' : wr.cell? ⟨g, k * 2, none⟩ = some (.string (bs xn)) := by rw [hwx]; exact c0
              have hsub : IntKind.i64.wrap ((gk : Int) - 1) = (m : Int) := by rw [IntWalk.i64_in _ (by omega)]; omega
              have hgk : gk < 2000 := by omega
              have HG := Lib.hid (⟨hgt, hwx, hy⟩ : _ ∧ _ ∧ _)
              have HMk := Lib.hid hmk
              clear hgt hwx hy c0 cy hmk hz
              rcases bless_tri y xn with hb1 | hb1 | hb1
              · have hnl : ¬ xn < y := fun e => List.lt_asymm e ((bless_lt _ _).1 hb1)
                have HNl := Lib.hid hnl
                clear hnl
                go_wp2_with fail
                go_quiet (fail)
                go_wp2_with fail
                go_meet
                exact ⟨gk, q + nq, rfl, hm, by rw [HG.out.2.1]; exact World.drewN_drewN _ _ _, HG.out.1, .inr ⟨y, by rw [show gk - 1 = m from by have := HMk.out; omega]; exact HG.out.2.2, HNl.out⟩⟩
              · subst hb1
                go_wp2_with fail
                go_quiet (fail)
                go_wp2_with fail
                go_meet
                exact ⟨gk, q + nq, rfl, hm, by rw [HG.out.2.1]; exact World.drewN_drewN _ _ _, HG.out.1, .inr ⟨y, by rw [show gk - 1 = m from by have := HMk.out; omega]; exact HG.out.2.2, List.lt_irrefl _⟩⟩
              · have hlt2 : xn < y := (bless_lt _ _).1 hb1
                have hb2 : Op.bytesLess y xn = false := by
                  by_cases e : Op.bytesLess y xn = true
                  · exact absurd hlt2 (List.lt_asymm ((bless_lt _ _).1 e))
                  · simpa using e
                have hb3 : (y == xn) = false := by
                  rw [beq_eq_false_iff_ne]
                  rintro rfl
                  exact List.lt_irrefl _ hlt2
                have hnext : ∀ j y, m ≤ j → o[j]? = some y → xn < y := fun j y' hj hj2 => by
                  by_cases e : j = m
                  · rw [e, HG.out.2.2] at hj2
                    cases hj2
                    exact hlt2
                  · exact HG.out.1 j y' (by have := HMk.out; omega) hj2
                have HNx := Lib.hid hnext
                clear hnext hlt2 hb1
                go_wp2_with fail
                go_quiet (fail)
                go_wp2_with fail
                go_roundg m
                case measure => have := HMk.out; omega
                case rel => exact ⟨m, q + nq, rfl, rfl, by omega, by rw [HG.out.2.1]; exact World.drewN_drewN _ _ _, HNx.out⟩
        case rest =>
          obtain ⟨m, q, rfl, hm, rfl, hgt, hle⟩ := hcut
          have hA : ∀ v13 w13, w13.ownsRow wq.heap.size 9 1 v13 m ((o.take m).map encStr) → Below wq.heap.size (wq.drewN q) w13 → ((w13.alloc (.cells #[.string (bs xn)] 9)).ownsRow wq.heap.size 9 1 v13 m ((o.take m).map encStr) ∧ wq.heap.size ≤ (w13.alloc (.cells #[.string (bs xn)] 9)).heap.size ∧ Below wq.heap.size wq (w13.alloc (.cells #[.string (bs xn)] 9))) ∧ w13.cell? ⟨g, k * 2, none⟩ = some (.string (bs xn)) := fun v13 w13 r hb => by
            have hb0 : Below wq.heap.size wq w13 := Below.trans (b := wq.drewN q) ⟨rfl, rfl, rfl, Nat.le_refl _, fun _ _ => rfl⟩ hb
            have hb1 := hb0.alloc hb0.size (.cells #[.string (bs xn)] 9)
            exact ⟨⟨World.ownsRow.alloc r _, hb1.size, hb1⟩, (hb0.cell (p := ⟨g, k * 2, none⟩) hg).trans c0⟩
          have hC := fun w15 v15 v17 w17 => ins_end (w15 := w15) (v15 := v15) (v17 := v17) (w17 := w17) HI.out rfl HNm.out hm hgt hle
          have hkm : m + 1 ≤ maxLen := by unfold maxLen; omega
          have hkb : (m + 1) * 16 ≤ 140737488355328 := by omega
          have hkm2 : m + 1 + (o.length - m) ≤ maxLen := by unfold maxLen; omega
          have hkb2 : (m + 1 + (o.length - m)) * 16 ≤ 140737488355328 := by omega
          have HA := Lib.hid hA
          have HC := Lib.hid hC
          have HM := Lib.hid (⟨hgt, hle⟩ : _ ∧ _)
          clear hA hC hgt hle
          by_cases ho : o = []
          · subst ho
            obtain rfl : m = 0 := by simpa using hm
            have h8 := HI.out.2.2.2.2 rfl
            injection h8 with e1 _ e3
            subst e1 e3
            have hrow : (wq.drewN q).ownsRow 0 9 1 (.slice none 0 0) 0 [] := World.ownsRow_nil _ _ _ _
            have HRow := Lib.hid hrow
            clear hrow hm HCells
            go_wp2_with (first
              | (at_builtin; refine wpList_append_clone rfl _ _ 22 rfl 9 i0 (.string ⟨#[]⟩) 1 16 Tryz.underlying22 HI0.out.1 HI0.out.2.1 HI0.out.2.2.1 HI0.out.2.2.2 rfl (by decide) (.slice none 0 0) 0 0 _ rfl rfl HRow.out (fun u hu => by cases hu) (by decide) (by decide) ?_; intro v13 w13 hown13 hb13; have hA13 := HA.out v13 w13 hown13 hb13; have c13 := hA13.2; have HA13 := Lib.hid hA13.1; clear hown13 hb13 hA13)
              | (at_builtin; refine wpList_append_own_at _ rfl _ _ 22 rfl wq.heap.size 9 i0 (.string ⟨#[]⟩) 1 16 Tryz.underlying22 HI0.out.1 HI0.out.2.1 HI0.out.2.2.1 HI0.out.2.2.2 rfl (by decide) v13 _ _ rfl HA13.out.1 ⟨w13.heap.size, 0, none⟩ 1 1 [.string (bs xn)] rfl rfl (World.news_of_block (heap_alloc_new _ _)) (by intro u hu; simp at hu; subst hu; rfl) hkm hkb HA13.out.2.1 ?_; intro v15 w15 hown15 hgr15 hnil15 hloc15; have hb15 := Below.grown HA13.out.2.2 hgr15 HA13.out.2.1 (fun j hj => (World.ownsRow.lt HA13.out.1 j hj).1); have HA15 := Lib.hid (⟨hown15, hb15⟩ : _ ∧ _); clear hown15 hb15 hgr15 hnil15 hloc15)
              | (at_builtin; refine wpList_append_own_none rfl _ _ 22 rfl wq.heap.size 9 i0 1 Tryz.underlying22 HI0.out.1 v15 _ _ rfl HA15.out.1 rfl ?_))
            have hfin := HC.out w15 v15 v15 w15 HA15.out.2 HA15.out.1 (by simpa using HA15.out.1) ⟨rfl, rfl, rfl, Nat.le_refl _, fun _ _ _ => rfl⟩
            have HFin := Lib.hid hfin
            clear hfin
            go_roundg (l.length - (k + 1))
            case measure => omega
            case rel =>
              obtain ⟨A9, c9, e1, e2⟩ := HFin.out
              exact ⟨k + 1, _, A9, c9, e1, by go_num, rfl, hlt, e2⟩
          · obtain ⟨g8, e8, hB8, hg8, hc8, hf8⟩ := HI.out.1.facts ho
            subst e8
            have hrow : OwnL (wq.drewN q) w1.heap.size 9 (.slice (some ⟨g8, 0, none⟩) m c8) ((o.take m).map encStr) := by
              have h1 : OwnL (wq.drewN q) w1.heap.size 9 (.slice (some ⟨g8, 0, none⟩) o.length c8) (o.map encStr) := HI.out.1.l
              rw [List.map_take]
              exact h1.cut (by rw [List.length_map]) hm (by intro e; cases e)
            have hrow2 : (wq.drewN q).ownsRow w1.heap.size 9 1 (.slice (some ⟨g8, 0, none⟩) m c8) m ((o.take m).map encStr) := by
              unfold OwnL at hrow
              rw [List.length_map, List.length_take, Nat.min_eq_left hm] at hrow
              exact hrow
            have hB : ∀ w15, Below wq.heap.size wq w15 → ∀ j u, ((o.drop m).map encStr)[j]? = some u → w15.cell? ((⟨g8, m, none⟩ : Addr).add j) = some u := fun w15 hb j u hj => by
              rw [List.getElem?_map, List.getElem?_drop, Option.map_eq_some_iff] at hj
              obtain ⟨y, hy, rfl⟩ := hj
              have e : (⟨g8, m, none⟩ : Addr).add j = ⟨g8, m + j, none⟩ := by
                unfold Addr.add
                split
                · rename_i h; subst h; rfl
                · rfl
              rw [e]
              exact (hb.cell (p := ⟨g8, m + j, none⟩) hg8).trans (hf8 _ _ hy)
            have hmc : m ≤ c8 := by omega
            have HRow := Lib.hid hrow2
            have HBc := Lib.hid hB
            clear hrow hrow2 hB hf8 HCells
            have hmo : (m : Int) ≤ (o.length : Int) := by omega
            have hld : (List.map encStr (o.drop m)).length = (o.length - m) * 1 := by rw [List.length_map, List.length_drop, Nat.mul_one]
            have HLd := Lib.hid hld
            clear hld
            by_cases hcm : c8 = m
            · have hnil : ∀ (w15 : World) j u, (List.map encStr (o.drop m))[j]? = some u → w15.cell? ((⟨g8, 0, none⟩ : Addr).add j) = some u := fun w15 j u hj => by
                rw [List.drop_of_length_le (by omega)] at hj
                simp at hj
              subst hcm
              have hz0 : o.length - c8 = 0 ∧ List.map encStr (o.drop c8) = [] := ⟨by omega, by rw [List.drop_of_length_le hc8]; rfl⟩
              have HZ0 := Lib.hid hz0
              clear hnil hz0
              go_wp2_with (first
                | (at_builtin; refine wpList_append_clone rfl _ _ 22 rfl 9 i0 (.string ⟨#[]⟩) 1 16 Tryz.underlying22 HI0.out.1 HI0.out.2.1 HI0.out.2.2.1 HI0.out.2.2.2 rfl (by decide) (.slice (some ⟨g8, 0, none⟩) c8 c8) c8 w1.heap.size _ rfl rfl HRow.out (encStr_one _) (by unfold maxLen; omega) (by omega) ?_; intro v13 w13 hown13 hb13; have hA13 := HA.out v13 w13 hown13 hb13; have c13 := hA13.2; have HA13 := Lib.hid hA13.1; clear hown13 hb13 hA13)
                | (at_builtin; refine wpList_append_own_at _ rfl _ _ 22 rfl wq.heap.size 9 i0 (.string ⟨#[]⟩) 1 16 Tryz.underlying22 HI0.out.1 HI0.out.2.1 HI0.out.2.2.1 HI0.out.2.2.2 rfl (by decide) v13 _ _ rfl HA13.out.1 ⟨w13.heap.size, 0, none⟩ 1 1 [.string (bs xn)] rfl rfl (World.news_of_block (heap_alloc_new _ _)) (by intro u hu; simp at hu; subst hu; rfl) hkm hkb HA13.out.2.1 ?_; intro v15 w15 hown15 hgr15 hnil15 hloc15; have hb15 := Below.grown HA13.out.2.2 hgr15 HA13.out.2.1 (fun j hj => (World.ownsRow.lt HA13.out.1 j hj).1); have HA15 := Lib.hid (⟨hown15, hb15⟩ : _ ∧ _); clear hown15 hb15 hgr15 hnil15 hloc15)
                | (at_builtin; refine wpList_append_own_at _ rfl _ _ 22 rfl wq.heap.size 9 i0 (.string ⟨#[]⟩) 1 16 Tryz.underlying22 HI0.out.1 HI0.out.2.1 HI0.out.2.2.1 HI0.out.2.2.2 rfl (by decide) v15 _ _ rfl HA15.out.1 ⟨g8, 0, none⟩ 0 _ [] rfl rfl (fun j u hj => by simp at hj) (fun u hu => by cases hu) hkm hkb HA15.out.2.size ?_; intro v17 w17 hown17 hgr17 hnil17 hloc17; have hfin := HC.out w15 v15 v17 w17 HA15.out.2 HA15.out.1 (by rw [HZ0.out.1, HZ0.out.2]; exact hown17) hgr17; have HFin := Lib.hid hfin; clear hfin hown17 hgr17 hnil17 hloc17))
              go_roundg (l.length - (k + 1))
              case measure => omega
              case rel =>
                obtain ⟨A9, c9, e1, e2⟩ := HFin.out
                exact ⟨k + 1, _, A9, c9, e1, by go_num, rfl, hlt, e2⟩
            · have hcm2 : ¬ c8 = m := hcm
              go_wp2_with (first
                | (at_builtin; refine wpList_append_clone rfl _ _ 22 rfl 9 i0 (.string ⟨#[]⟩) 1 16 Tryz.underlying22 HI0.out.1 HI0.out.2.1 HI0.out.2.2.1 HI0.out.2.2.2 rfl (by decide) (.slice (some ⟨g8, 0, none⟩) m c8) m w1.heap.size _ rfl rfl HRow.out (encStr_one _) (by unfold maxLen; omega) (by omega) ?_; intro v13 w13 hown13 hb13; have hA13 := HA.out v13 w13 hown13 hb13; have c13 := hA13.2; have HA13 := Lib.hid hA13.1; clear hown13 hb13 hA13)
                | (at_builtin; refine wpList_append_own_at _ rfl _ _ 22 rfl wq.heap.size 9 i0 (.string ⟨#[]⟩) 1 16 Tryz.underlying22 HI0.out.1 HI0.out.2.1 HI0.out.2.2.1 HI0.out.2.2.2 rfl (by decide) v13 _ _ rfl HA13.out.1 ⟨w13.heap.size, 0, none⟩ 1 1 [.string (bs xn)] rfl rfl (World.news_of_block (heap_alloc_new _ _)) (by intro u hu; simp at hu; subst hu; rfl) hkm hkb HA13.out.2.1 ?_; intro v15 w15 hown15 hgr15 hnil15 hloc15; have hb15 := Below.grown HA13.out.2.2 hgr15 HA13.out.2.1 (fun j hj => (World.ownsRow.lt HA13.out.1 j hj).1); have HA15 := Lib.hid (⟨hown15, hb15⟩ : _ ∧ _); clear hown15 hb15 hgr15 hnil15 hloc15)
                | (at_builtin; refine wpList_append_own_at _ rfl _ _ 22 rfl wq.heap.size 9 i0 (.string ⟨#[]⟩) 1 16 Tryz.underlying22 HI0.out.1 HI0.out.2.1 HI0.out.2.2.1 HI0.out.2.2.2 rfl (by decide) v15 _ _ rfl HA15.out.1 ⟨g8, m, none⟩ (o.length - m) (c8 - m) (List.map encStr (o.drop m)) rfl HLd.out (HBc.out w15 HA15.out.2) (encStr_one _) hkm2 hkb2 HA15.out.2.size ?_; intro v17 w17 hown17 hgr17 hnil17 hloc17; have hfin := HC.out w15 v15 v17 w17 HA15.out.2 HA15.out.1 hown17 hgr17; have HFin := Lib.hid hfin; clear hfin hown17 hgr17 hnil17 hloc17))
              go_roundg (l.length - (k + 1))
              case measure => omega
              case rel =>
                obtain ⟨A9, c9, e1, e2⟩ := HFin.out
                exact ⟨k + 1, _, A9, c9, e1, by go_num, rfl, hlt, e2⟩
    · have hlt' : decide ((k : Int) < (l.length : Int)) = false := by simp; omega
      obtain rfl : k = l.length := by omega
      obtain ⟨a1, a2, a3, a4, a5⟩ := hI
      rw [List.take_length] at a4
      have hs := sorted_is a3 a4
      have HN := Lib.hid (⟨a1, a2, hs⟩ : _ ∧ _ ∧ _)
      clear a1 a2 a3 a4 a5 hs
      go_wp2_with fail
      go_ret2
      refine ⟨_, rfl, ?_, HB1.out.trans (HN.out.2.1.mono HB1.out.size)⟩
      rw [← HN.out.2.2]
      exact rowB_base HN.out.1 HB1.out.size
end Go.Proofs.YtfgkgoddjemnfaaGreatDoor

namespace Go.Proofs.YtfgkgoddjemnfaaGreatDoor
open Go.RowKit Go.Shelf Pa
attribute [local go_sem] bs_toList bs_size
theorem listP_length (b : Str) : (listP b).length = usedP (slotsP b) := by
  unfold listP namesP usedP
  rw [List.length_mergeSort, List.length_map]
set_option maxRecDepth 100000 in
set_option maxHeartbeats 2000000 in
theorem rempty7_any (r : Nat) (d : Int) (T K : RS) (R : Reg) (w : World) (h : RefI w r T K R) (hn : 1 ≤ T.i.length) :
    Calls Tryz.prog 25 #[.pointer (some ⟨r, 0, none⟩), .int .i64 d] w fun e w' => e = .returned (.tuple #[.bool (decide (lookE T d = 0) && (listP (lookB T d)).isEmpty), .int .i64 (lookE T d : Nat)]) ∧ Below w.heap.size w w' := by
  have hli := rlist7_any r d T K R w h hn
  have HLi := Lib.hid hli
  obtain ⟨lk, hlk⟩ : ∃ k, k = lookE T d := ⟨_, rfl⟩
  obtain ⟨ls, hls⟩ : ∃ k, k = listP (lookB T d) := ⟨_, rfl⟩
  rw [← hlk, ← hls] at HLi
  rw [← hlk, ← hls]
  clear hli h hn hlk hls
  go_enter Tryz.func25, Tryz.ntmps25
  go_wp2_with fail
  refine HLi.out.mono ?_
  rintro e w1 ⟨v, rfl, hown, hb1⟩
  obtain ⟨A, c, rfl⟩ := ownsRow_slice hown
  have HB1 := Lib.hid hb1
  clear hown hb1
  by_cases h0 : lk = 0
  · subst h0
    cases ls with
    | nil =>
      go_wp2_with fail
      go_ret2
      exact ⟨rfl, HB1.out⟩
    | cons x ls =>
      have hne : (((x :: ls).length : Int) == 0) = false := by rw [beq_eq_false_iff_ne]; simp; omega
      go_wp2_with fail
      go_ret2
      exact ⟨rfl, HB1.out⟩
  · have h0' : ((lk : Int) == 0) = false := by rw [beq_eq_false_iff_ne]; omega
    have HQ := Lib.hid h0
    clear h0
    go_wp2_with fail
    go_ret2
    exact ⟨by rw [decide_eq_false HQ.out]; rfl, HB1.out⟩
set_option maxRecDepth 100000 in
set_option maxHeartbeats 4000000 in
theorem rdrop7_any (r L : Nat) (d : Int) (nm : Str) (T K : RS) (u : Nat → List Ent) (C : Ca) (R : Reg) (w : World) (h : RefI w r T K R) (hd : DirU T u L) (hL : L ≤ 60) (hr : Rel C T (fun _ => False)) (ht : T.Tight) (hnl : nm.length ≤ 140737488355328) :
    Calls Tryz.prog 53 #[.pointer (some ⟨r, 0, none⟩), .int .i64 d, .string (bs nm)] w fun e w' => e = .returned (.tuple #[.int .i64 (if (findR T d nm).2.2 = 0 then (findR T d nm).1.i else 0 : Nat), .int .i64 ((findR T d nm).2.2 : Nat)]) ∧ RefStep w r (drpT T d nm) K R w' := by
  have hn : 1 ≤ T.i.length := by have := hr.ino8.2.1; omega
  have hfi := rfind7_any r d nm T K R w h hn hnl
  by_cases he : (findR T d nm).2.2 = 0
  case neg =>
    have hsame : ∀ w', Below w.heap.size w w' → RefStep w r (drpT T d nm) K R w' := fun w' hb => by
      unfold drpT
      rw [if_neg he]
      exact h.step0 hb
    rw [if_neg he]
    have HFi := Lib.hid hfi
    have HS := Lib.hid hsame
    obtain ⟨lk, hlk⟩ : ∃ k, k = (findR T d nm).2.2 := ⟨_, rfl⟩
    obtain ⟨xi, hxi⟩ : ∃ k, k = (findR T d nm).1.i := ⟨_, rfl⟩
    rw [← hlk, ← hxi] at HFi
    rw [← hlk]
    have h0' : ((lk : Int) != 0) = true := by rw [bne_iff_ne, hlk]; omega
    clear hsame hfi h hn hd hr ht hlk he hxi hnl
    go_enter Tryz.func53, Tryz.ntmps53
    go_wp2_with fail
    refine HFi.out.mono ?_
    rintro e w1 ⟨rfl, hb1⟩
    have HB1 := Lib.hid hb1
    clear hb1
    go_wp2_with fail
    go_ret2
    exact ⟨rfl, HS.out _ HB1.out⟩
  rw [if_pos he, he]
  rw [he] at hfi
  have h0 : lookE T d = 0 := by
    by_cases e : lookE T d = 0
    · exact e
    · exfalso; unfold findR at he; rw [if_pos e] at he; exact e he
  have hok : nameOk nm = true := by
    by_cases e : nameOk nm = true
    · exact e
    · exfalso; unfold findR at he; rw [if_neg (fun x => x h0), if_pos (by simpa using e)] at he; cases he
  have hdj : d = 1 ∨ d = 3 := (hd.look0 d).1 h0
  obtain ⟨dn, rfl⟩ : ∃ dn : Nat, d = dn := ⟨d.toNat, by omega⟩
  have hll := lookB_len h dn
  have hsl : (slotsP (lookB T dn)).length ≤ 1104 := by rw [slotsP_length]; omega
  obtain ⟨T1, w1, w2, w3, w4, w5, w6, w7, w8, w9⟩ := hd.wipe hr ht hL he
  rw [Int.toNat_natCast] at w1 w2 w3 w6 w7
  have hlook := (lookE_ok h0).1
  have hlv : T.live dn := by have := (look_live hlook).1; rw [Int.toNat_natCast] at this; exact this
  have hel : (encS [] 0).length = 64 := encS_length [] 0 (by simp)
  have hl1 : (listP (lookB T1 dn)).length = usedP (slotsP (lookB T1 dn)) := listP_length _
  obtain ⟨b, hb⟩ : ∃ b, b = lookB T dn := ⟨_, rfl⟩
  have hfr : ∀ a, AtP (slotsP b) nm a → ∃ k : Nat, a = (k : Int) ∧ 64 * k = (findR T dn nm).1.at_ := fun a ha => by
    have hp : findP b nm ≠ none := fun e => by
      unfold findR at he
      rw [if_neg (fun x => x h0), if_neg (by rw [hok]; decide), ← hb, e] at he
      cases he
    by_cases hh : 0 ≤ a
    · obtain ⟨k, x, e1, _, e2, e3, _⟩ := ha.some hh
      refine ⟨k, e1, ?_⟩
      unfold findR
      rw [if_neg (fun x => x h0), if_neg (by rw [hok]; decide), ← hb, e2]
      exact e3.symm
    · exact absurd (ha.none (by omega)) hp
  have hlk := fun w1 (hb : Below w.heap.size w w1) => rlook7_any r dn T K R w1 (h.below hb) hn
  rw [h0, ← hb] at hlk
  rw [← hb] at hsl
  have hwr : ∀ W g cg, Below w.heap.size w W → w.heap.size ≤ g → OwnL W 0 5 (.slice (some ⟨g, 0, none⟩) 64 cg) (bytV (encS [] 0)) → Calls Tryz.prog 57 #[.pointer (some ⟨r, 0, none⟩), .int .i64 dn, .int .i64 ((findR T dn nm).1.at_ : Nat), .slice (some ⟨g, 0, none⟩) 64 cg] W fun e w' => e = .returned (.int .i64 0) ∧ RefStep w r T1 K R w' := fun W g cg hbw hg ho => by
    have hwc := rwr6_any r dn (findR T dn nm).1.at_ g cg (encS [] 0) T T1 K R W (h.below hbw) hlook (by rw [hel]; exact ho) (fun e => by have := h.lt g e; omega) (by rw [hel]; decide) (hd.few hr ht (by omega) (by omega) (by rw [hel]; omega)) (fun T1 e => hr.resized ht hlv (by rw [hel]; omega) e) w1
    rw [hel] at hwc
    exact hwc.mono fun e w' ⟨h1, h2⟩ => ⟨h1, RefStep.trans (Reg.To.refl _ _) (Off.of_below hbw _) h2⟩
  have hn1 : 1 ≤ T1.i.length := by have := (w7 0 (by decide)).lt; omega
  have hli : ∀ W, RefStep w r T1 K R W → Calls Tryz.prog 24 #[.pointer (some ⟨r, 0, none⟩), .int .i64 dn] W fun e w' => ∃ A c, e = .returned (.tuple #[.slice A (usedP (slotsP (lookB T1 dn))) c, .int .i64 0]) ∧ RefStep w r T1 K R w' := fun W hs => by
    obtain ⟨R1, g1, _, _⟩ := id hs
    have := rlist7_any r dn T1 K R1 W g1 hn1
    rw [w4] at this
    refine this.mono ?_
    rintro e w' ⟨v, rfl, ho, hb⟩
    obtain ⟨A, c, rfl⟩ := ownsRow_slice ho
    rw [hl1]
    exact ⟨A, c, rfl, hs.step hb⟩
  have hrz : usedP (slotsP (lookB T1 dn)) = 0 → ∀ W, RefStep w r T1 K R W → Calls Tryz.prog 102 #[.pointer (some ⟨r, 0, none⟩), .int .i64 dn, .int .i64 0] W fun e w' => e = .returned (.int .i64 0) ∧ RefStep w r (drpT T dn nm) K R w' := fun hz W hs => by
    obtain ⟨R1, g1, t1, o1⟩ := id hs
    rw [if_pos hz] at w6
    have := rrs6_any r dn 0 T1 _ K R1 W g1 w8 (w7 0 (by decide)) w6
    exact this.mono fun e w' ⟨h1, h2⟩ => ⟨h1, RefStep.trans t1 o1 h2⟩
  have hkp : usedP (slotsP (lookB T1 dn)) ≠ 0 → T1 = drpT T dn nm := fun hz => by rw [if_neg hz] at w6; exact w6
  obtain ⟨un, hun⟩ : ∃ n, n = usedP (slotsP (lookB T1 dn)) := ⟨_, rfl⟩
  rw [← hun] at hli hrz hkp
  obtain ⟨xi, hxi⟩ : ∃ k, k = (findR T dn nm).1.i := ⟨_, rfl⟩
  obtain ⟨at_, hat_⟩ : ∃ k, k = (findR T dn nm).1.at_ := ⟨_, rfl⟩
  rw [← hxi] at hfi ⊢
  have hat4 : at_ + 64 ≤ 4608 := by omega
  rw [← hat_] at hfr hwr
  have HFi := Lib.hid hfi
  have HLk := Lib.hid hlk
  have HFr := Lib.hid hfr
  have HWr := Lib.hid hwr
  have HLi := Lib.hid hli
  have HRz := Lib.hid hrz
  have HKp := Lib.hid hkp
  have hby := fun W => rsbytes7_any [] 0 (by decide) (by simp) W
  have HBy := Lib.hid hby
  clear hfi hlk hfr hwr hli hrz hkp hby h hn hd hr ht w1 w2 w3 w4 w5 w6 w7 w8 w9 hlook hlv hel hl1 hb hn1 he h0 hok hdj hxi hat_ hun hll hnl
  go_enter Tryz.func53, Tryz.ntmps53
  go_wp2_with fail
  refine HFi.out.mono ?_
  rintro e x1 ⟨rfl, hb1⟩
  have hl2 := HLk.out x1 hb1
  have HL2 := Lib.hid hl2
  have HB1 := Lib.hid hb1
  clear hb1 hl2 HLk HFi
  go_wp2_with fail
  refine HL2.out.mono ?_
  rintro e x2 ⟨v, rfl, hown, hb2⟩
  obtain ⟨A, c, rfl⟩ := hown.shape
  have hat := rat7_any (slotsP b) nm A c x2 hown.fact (by omega) hown.len
  have HAt := Lib.hid hat
  have HB2 := Lib.hid (HB1.out.trans (hb2.mono HB1.out.size))
  clear hown hat hb2 HL2
  go_wp2_with fail
  refine HAt.out.mono ?_
  rintro e x3 ⟨a, rfl, hap, hw2⟩
  obtain rfl := hw2.symm
  obtain ⟨k, rfl, hk⟩ := HFr.out a hap
  have hmul : IntKind.i64.wrap (64 * (k : Int)) = (at_ : Int) := by rw [IntWalk.i64_in _ (by omega)]; omega
  have HB3 := HBy.out x2
  have HB3 := Lib.hid HB3
  clear hap hk HAt HFr HBy
  go_wp2_with fail
  refine HB3.out.mono ?_
  rintro e x4 ⟨g, cg, rfl, hown, hb4⟩
  have hwc := HWr.out x4 g cg (HB2.out.trans (hb4.mono HB2.out.size)) (by have h1 : x2.heap.size ≤ g := (hown.block rfl).1; have := HB2.out.size; omega) (hown.base (Nat.zero_le _))
  have HW := Lib.hid hwc
  clear hwc hown hb4 HB3 HWr
  go_wp2_with fail
  refine HW.out.mono ?_
  rintro e x5 ⟨rfl, hs5⟩
  have hl5 := HLi.out x5 hs5
  have HL5 := Lib.hid hl5
  clear hl5 hs5 HLi HW
  go_wp2_with fail
  refine HL5.out.mono ?_
  rintro e x6 ⟨A6, c6, rfl, hs6⟩
  by_cases hz : un = 0
  · subst hz
    have hrz := HRz.out rfl x6 hs6
    have HR := Lib.hid hrz
    clear hrz hs6 HL5 HRz HKp
    go_wp2_with fail
    refine HR.out.mono ?_
    rintro e x7 ⟨rfl, hs7⟩
    have HS := Lib.hid hs7
    clear hs7
    go_wp2_with fail
    go_ret2
    exact ⟨rfl, HS.out⟩
  · have hz' : ((un : Int) == 0) = false := by rw [beq_eq_false_iff_ne]; omega
    have hT := HKp.out hz
    rw [hT] at hs6
    have HS := Lib.hid hs6
    clear hs6 HL5 HRz HKp hT hz
    go_wp2_with fail
    go_ret2
    exact ⟨rfl, HS.out⟩
end Go.Proofs.YtfgkgoddjemnfaaGreatDoor

namespace Go.Proofs.YtfgkgoddjemnfaaGreatDoor
open Go.RowKit Go.Shelf Pa
attribute [local go_sem] bs_toList bs_size
theorem take_same {a b : Str} {k : Nat} {x y : UInt8} (h : a.take k = b.take k) (ha : a[k]? = some x) (hb : b[k]? = some y) (e : x = y) : a.take (k + 1) = b.take (k + 1) := by
  obtain ⟨h1, h2⟩ := List.getElem?_eq_some_iff.1 ha
  obtain ⟨h3, h4⟩ := List.getElem?_eq_some_iff.1 hb
  rw [List.take_succ_eq_append_getElem h1, List.take_succ_eq_append_getElem h3, h, h2, h4, e]
set_option maxHeartbeats 1000000 in
theorem sameBytes_any (a b : Str) (va vb : Value) (B : Nat) (w : World) (ha : BytesAt w B va a) (hb : BytesAt w B vb b) :
    Calls Tryz.prog 28 #[va, vb] w fun e w' => e = .returned (.bool (decide (a = b))) ∧ ∃ n, w' = w.drewN n := by
  obtain ⟨A, ca, rfl, ⟨hca, hla⟩, hfa⟩ := ha
  obtain ⟨A2, cb, rfl, ⟨hcb, hlb⟩, hfb⟩ := hb
  have HA := Lib.hid hfa
  have HB := Lib.hid hfb
  clear hfa hfb
  by_cases hl : a.length = b.length
  · have hl' : ((a.length : Int) != (b.length : Int)) = false := by simp [hl]
    have HL := Lib.hid hl
    clear hl
    go_enter Tryz.func28, Tryz.ntmps28
    go_wp2_with fail
    go_loopg [5] a.length (fun g i wx => ∃ k : Nat, i = .int .i64 k ∧ g = a.length - k ∧ k ≤ a.length ∧ a.take k = b.take k ∧ ∃ n, wx = w.drewN n)
    case atStart => exact ⟨0, rfl, rfl, Nat.zero_le _, rfl, 0, rfl⟩
    case round =>
      obtain ⟨k, rfl, rfl, hk, htk, nd, hw⟩ := hrel
      have HTk := Lib.hid htk
      have HW := Lib.hid hw
      clear htk hw
      by_cases hlt : k < a.length
      · have hlt' : decide ((k : Int) < (a.length : Int)) = true := by simp; omega
        have hltb : k < b.length := by rw [← HL.out]; exact hlt
        obtain ⟨ba, oa, rfl, _, hxa⟩ := HA.out (by rintro rfl; simp at hlt)
        obtain ⟨bb, ob, rfl, _, hxb⟩ := HB.out (by rintro rfl; simp at hltb)
        have ka : wr.cell? ⟨ba, oa + k, none⟩ = _ := (by rw [HW.out]; rfl : wr.cell? ⟨ba, oa + k, none⟩ = w.cell? ⟨ba, oa + k, none⟩).trans (hxa k _ (List.getElem?_eq_getElem hlt))
        have kb : wr.cell? ⟨bb, ob + k, none⟩ = _ := (by rw [HW.out]; rfl : wr.cell? ⟨bb, ob + k, none⟩ = w.cell? ⟨bb, ob + k, none⟩).trans (hxb k _ (List.getElem?_eq_getElem hltb))
        have hg1 := List.getElem?_eq_getElem hlt
        have hg2 := List.getElem?_eq_getElem hltb
        generalize a[k] = x at ka hg1
        generalize b[k] = y at kb hg2
        have HG1 := Lib.hid hg1
        have HG2 := Lib.hid hg2
        clear hg1 hg2 hxa hxb
        by_cases hxy : x = y
        · have hne : (((UInt8.toNat x : Nat) : Int) != ((UInt8.toNat y : Nat) : Int)) = false := by simp [hxy]
          have HXy := Lib.hid hxy
          clear hxy
          go_wp2_with fail
          go_quiet (fail)
          go_wp2_with fail
          go_roundg (a.length - (k + 1))
          case measure => omega
          case rel => exact ⟨k + 1, by go_num, rfl, hlt, take_same HTk.out HG1.out HG2.out HXy.out, nd + nq, by rw [HW.out]; exact World.drewN_drewN _ _ _⟩
        · have hne : (((UInt8.toNat x : Nat) : Int) != ((UInt8.toNat y : Nat) : Int)) = true := by
            simp only [bne_iff_ne, ne_eq, Int.ofNat_inj]
            exact fun h => hxy (UInt8.toNat_inj.1 h)
          have HXy := Lib.hid hxy
          have hab : decide (a = b) = false := by
            simp only [decide_eq_false_iff_not]
            rintro rfl
            exact HXy.out (Option.some.inj (HG1.out.symm.trans HG2.out))
          have HAb := Lib.hid hab
          clear hxy hab
          go_wp2_with fail
          go_quiet (fail)
          go_wp2_with fail
          go_ret
          exact ⟨ret_bool HAb.out.symm, nd + nq, by rw [HW.out]; exact World.drewN_drewN _ _ _⟩
      · have hlt' : decide ((k : Int) < (a.length : Int)) = false := by simp; omega
        have hall : decide (a = b) = true := by
          have h := HTk.out
          rw [List.take_of_length_le (by omega), List.take_of_length_le (by rw [← HL.out]; omega)] at h
          simpa using h
        have HAll := Lib.hid hall
        clear hall
        go_wp2_with fail
        go_ret
        exact ⟨ret_bool HAll.out.symm, nd, HW.out⟩
  · have hl' : ((a.length : Int) != (b.length : Int)) = true := by simp; omega
    have hne : decide (a = b) = false := by simp; rintro rfl; exact hl rfl
    have HNe := Lib.hid hne
    clear hl hne
    go_enter Tryz.func28, Tryz.ntmps28
    go_wp2_with fail
    go_ret
    exact ⟨ret_bool HNe.out.symm, 0, rfl⟩
theorem ownL_bytesAt {w : World} {B : Nat} {v : Value} {l : Str} (h : OwnL w B 5 v (bytV l)) (hl : l.length ≤ 140737488355328) : BytesAt w w.heap.size v l := by
  obtain ⟨h1, h⟩ := id h
  rcases h with ⟨rfl, h0⟩ | ⟨g, cap, cur, rfl, hB, hg, hc, hm, hs, ht⟩
  · rw [bytV_length] at h0
    have : l = [] := List.length_eq_zero_iff.1 h0
    subst this
    exact BytesAt.nil _ _ _ _
  · rw [bytV_length] at hc ht
    refine ⟨_, cap, by rw [bytV_length], ⟨hc, hl⟩, fun _ => ⟨g, 0, rfl, (Array.getElem?_eq_some_iff.1 hg).1, fun i s hi => ?_⟩⟩
    have hlt : i < l.length := (List.getElem?_eq_some_iff.1 hi).1
    rw [Nat.zero_add, cell_of_heap hg, ← Array.getElem?_toList, ← List.getElem?_take_of_lt (show i < l.length * 1 by omega), ht]
    unfold bytV
    rw [List.getElem?_map, hi]
    rfl
end Go.Proofs.YtfgkgoddjemnfaaGreatDoor

namespace Go.Proofs.YtfgkgoddjemnfaaGreatDoor
open Go.RowKit Go.Shelf Pa
attribute [local go_sem] bs_toList bs_size
/-- Some pages stand for T. -/
def Sound (T : RS) : Prop := ∃ C, Rel C T (fun _ => False) ∧ T.Tight
theorem PairZ.sound {B : Nat} {w : World} {s r : Nat} {T U K : RS} {N : Nat} {Z : Nat → Prop} (h : PairZ B w s r T U K N Z) : Sound T := by
  obtain ⟨R, g, _⟩ := h.step
  exact g.rel
theorem Sound.ino {T : RS} (h : Sound T) : 1 ≤ T.i.length := by
  obtain ⟨C, hr, _⟩ := h
  have := hr.ino8.2.1
  omega
theorem PairZ.fresh {B : Nat} {w w' : World} {s r : Nat} {T U K : RS} {N : Nat} {Z Z' : Nat → Prop} (h : PairZ B w s r T U K N Z) (hb : Below w.heap.size w w') (hz : ∀ k, Z' k → Z k ∨ (w.heap.size ≤ k ∧ k < w'.heap.size)) : PairZ B w' s r T U K N Z' ∧ KeptZ B Z w w' := by
  obtain ⟨_, kz⟩ := h.below hb
  obtain ⟨R, Q, h1, h2, hd, hR, hQ, hB, hZ⟩ := h
  refine ⟨⟨R, Q, h1.below hb, h2.below hb, hd, hR, hQ, Nat.le_trans hB hb.size, fun k hk => ?_⟩, kz⟩
  rcases hz k hk with e | ⟨a, b⟩
  · exact ⟨(hZ k e).1, (hZ k e).2.1, Nat.lt_of_lt_of_le (hZ k e).2.2 hb.size⟩
  · exact ⟨fun e => by have := h1.lt k e; omega, fun e => by have := h2.lt k e; omega, b⟩
theorem KeptZ.weak {B : Nat} {Z Z' : Nat → Prop} {w w' : World} (h : KeptZ B Z w w') (hz : ∀ k, Z' k → Z k) : KeptZ B Z' w w' := ⟨h.below, fun k hk => h.z k (hz k hk)⟩
theorem raddZ_any (B s r N L : Nat) (d i : Int) (nm : Str) (T' T K : RS) (u : Nat → List Ent) (Z : Nat → Prop) (w : World) (h : PairZ B w s r T' T K N Z) (hd : DirU T u L) (hL : L ≤ 60) (hs : Sound T) (hnl : nm.length ≤ 140737488355328) :
    Calls Tryz.prog 20 #[.pointer (some ⟨r, 0, none⟩), .int .i64 d, .string (bs nm), .int .i64 i] w fun e w' => e = .returned (.int .i64 (addE T d nm i : Nat)) ∧ PairZ B w' s r T' (addT T d nm i) K N Z ∧ KeptZ B Z w w' := by
  obtain ⟨Q, g, hl⟩ := h.right
  obtain ⟨C, hr, ht⟩ := hs
  refine (radd7_any r L d i nm T K u C Q w g hd hL hr ht hnl).mono ?_
  rintro e w' ⟨rfl, hst⟩
  exact ⟨rfl, hl w' _ _ hst⟩
theorem rdropZ_any (B s r N L : Nat) (d : Int) (nm : Str) (T' T K : RS) (u : Nat → List Ent) (Z : Nat → Prop) (w : World) (h : PairZ B w s r T' T K N Z) (hd : DirU T u L) (hL : L ≤ 60) (hs : Sound T) (hnl : nm.length ≤ 140737488355328) :
    Calls Tryz.prog 53 #[.pointer (some ⟨r, 0, none⟩), .int .i64 d, .string (bs nm)] w fun e w' => e = .returned (.tuple #[.int .i64 (if (findR T d nm).2.2 = 0 then (findR T d nm).1.i else 0 : Nat), .int .i64 ((findR T d nm).2.2 : Nat)]) ∧ PairZ B w' s r T' (drpT T d nm) K N Z ∧ KeptZ B Z w w' := by
  obtain ⟨Q, g, hl⟩ := h.right
  obtain ⟨C, hr, ht⟩ := hs
  refine (rdrop7_any r L d nm T K u C Q w g hd hL hr ht hnl).mono ?_
  rintro e w' ⟨rfl, hst⟩
  exact ⟨rfl, hl w' _ _ hst⟩
theorem rfindZ_any (B s r N : Nat) (d : Int) (nm : Str) (T' T K : RS) (Z : Nat → Prop) (w : World) (h : PairZ B w s r T' T K N Z) (hs : Sound T) (hnl : nm.length ≤ 140737488355328) :
    Calls Tryz.prog 54 #[.pointer (some ⟨r, 0, none⟩), .int .i64 d, .string (bs nm)] w fun e w' => e = .returned (.tuple #[.int .i64 ((findR T d nm).1.i : Nat), .int .i64 ((findR T d nm).2.2 : Nat)]) ∧ PairZ B w' s r T' T K N Z ∧ KeptZ B Z w w' := by
  obtain ⟨Q, g, hl⟩ := h.right
  refine (rfind7_any r d nm T K Q w g hs.ino hnl).mono ?_
  rintro e w' ⟨rfl, hb⟩
  exact ⟨rfl, h.below hb⟩
theorem rlistZ_any (B s r N : Nat) (d : Int) (T' T K : RS) (Z : Nat → Prop) (w : World) (h : PairZ B w s r T' T K N Z) (hs : Sound T) :
    Calls Tryz.prog 24 #[.pointer (some ⟨r, 0, none⟩), .int .i64 d] w fun e w' => ∃ v, e = .returned (.tuple #[v, .int .i64 (lookE T d : Nat)]) ∧ OwnS w' w.heap.size v (listP (lookB T d)) ∧ PairZ B w' s r T' T K N (fun k => Z k ∨ v.ownBlock = some k) ∧ KeptZ B Z w w' := by
  obtain ⟨Q, g, hl⟩ := h.right
  refine (rlist7_any r d T K Q w g hs.ino).mono ?_
  rintro e w' ⟨v, rfl, ho, hb⟩
  exact ⟨v, rfl, ho, h.fresh hb (fun k hk => hk.imp id fun e => World.ownsRow.lt ho k e)⟩
theorem remptyZ_any (B s r N : Nat) (d : Int) (T' T K : RS) (Z : Nat → Prop) (w : World) (h : PairZ B w s r T' T K N Z) (hs : Sound T) :
    Calls Tryz.prog 25 #[.pointer (some ⟨r, 0, none⟩), .int .i64 d] w fun e w' => e = .returned (.tuple #[.bool (decide (lookE T d = 0) && (listP (lookB T d)).isEmpty), .int .i64 (lookE T d : Nat)]) ∧ PairZ B w' s r T' T K N Z ∧ KeptZ B Z w w' := by
  obtain ⟨Q, g, hl⟩ := h.right
  refine (rempty7_any r d T K Q w g hs.ino).mono ?_
  rintro e w' ⟨rfl, hb⟩
  exact ⟨rfl, h.below hb⟩
/-- A file's bytes; none, where there is none. -/
def wholeB (T : RS) (i : Int) : Str := if T.look i = 0 then (T.file i.toNat).bytes else []
theorem rreadZ_any (B s r N : Nat) (i : Int) (T' T K : RS) (Z : Nat → Prop) (w : World) (h : PairZ B w s r T' T K N Z) (hs : Sound T) :
    Calls Tryz.prog 27 #[.pointer (some ⟨r, 0, none⟩), .int .i64 i, .int .i64 0, .int .i64 70656] w fun e w' => ∃ v, e = .returned (.tuple #[v, .int .i64 (T.look i : Nat)]) ∧ OwnL w' w.heap.size 5 v (bytV (wholeB T i)) ∧ PairZ B w' s r T' T K N (fun k => Z k ∨ v.ownBlock = some k) ∧ KeptZ B Z w w' := by
  obtain ⟨Q, g, hl⟩ := h.right
  refine (rread6_any r i T K Q w g hs.ino).mono ?_
  rintro e w' ⟨v, rfl, ho, hb⟩
  exact ⟨v, rfl, ho, h.fresh hb (fun k hk => hk.imp id fun e => ho.block e)⟩
theorem preadZ_any (B s r N : Nat) (i : Int) (T U K : RS) (Z : Nat → Prop) (w : World) (h : PairZ B w s r T U K N Z) :
    Calls Tryz.prog 26 #[.pointer (some ⟨s, 0, none⟩), .int .i64 i, .int .i64 0, .int .i64 70656] w fun e w' => ∃ v, e = .returned (.tuple #[v, .int .i64 (T.look i : Nat)]) ∧ OwnL w' w.heap.size 5 v (bytV (wholeB T i)) ∧ PairZ B w' s r T U K N (fun k => Z k ∨ v.ownBlock = some k) ∧ KeptZ B Z w w' := by
  have hs := h.sound
  obtain ⟨R, g, hl⟩ := h.left
  have he : readR T i 0 70656 = wholeB T i := by
    unfold readR wholeB
    by_cases h0 : T.look i = 0
    · rw [if_pos h0, if_pos h0, List.drop_zero, List.take_of_length_le]
      obtain ⟨C, hr, _⟩ := hs
      exact (hr.files _ (look_live h0).1).2.size
    · rw [if_neg h0, if_neg h0]
  refine (stread_any s N 0 70656 i T R w g (by omega) (fun _ _ => by decide)).mono ?_
  rintro e w' ⟨v, rfl, R', ho, g', t', o', hn⟩
  rw [he] at ho
  have ho' : OwnL w' w.heap.size 5 v (bytV (wholeB T i)) := by
    unfold OwnL
    rw [bytV_length]
    exact ho
  refine ⟨v, rfl, ho', hl w' R' T N g' t' o' _ fun k hk => ?_⟩
  rcases hk with hk | hk
  · exact .inl hk
  · exact .inr ⟨hn k hk, ho'.block hk⟩
theorem rcommitZ_any (B s r N : Nat) (T U K : RS) (Z : Nat → Prop) (w : World) (h : PairZ B w s r T U K N Z) :
    Calls Tryz.prog 45 #[.pointer (some ⟨r, 0, none⟩)] w fun e w' => e = .returned (.tuple #[]) ∧ PairZ B w' s r T U U N Z ∧ KeptZ B Z w w' := by
  obtain ⟨Q, g, hl⟩ := h.right
  obtain ⟨m, lv, u2, u3, pv, iv, X, mk, pk, ik, Y, h1, _⟩ := g
  refine (rcommit_any r m U Q lv u2 u3 pv iv X w h1).mono ?_
  rintro e w' ⟨rfl, hst⟩
  exact ⟨rfl, hl w' _ _ hst⟩
/-- What Add leaves of the entries. -/
theorem addU_other {T : RS} {u : Nat → List Ent} {d i : Int} {nm : Str} {j : Nat} (hj : j ≠ d.toNat) : addU T u d nm i j = u j := by
  unfold addU
  split
  · exact if_neg hj
  · rfl
theorem drpU_other {T : RS} {u : Nat → List Ent} {d : Int} {nm : Str} {j : Nat} (hj : j ≠ d.toNat) : drpU T u d nm j = u j := by
  unfold drpU
  split
  · exact if_neg hj
  · rfl
end Go.Proofs.YtfgkgoddjemnfaaGreatDoor

namespace Go.Proofs.YtfgkgoddjemnfaaGreatDoor
open Go.RowKit Go.Shelf Pa
open Go.ChangeShapes Go.WideShapes Go.Deep
/-- A deed: its kind, its directory, its inode, its name. -/
structure Dd where
  kind : Int
  dir : Int
  i : Int
  name : Str
instance : Inhabited Dd := ⟨⟨0, 0, 0, []⟩⟩
/-- Deeds lie in blocks below B. -/
def DdsAt (w : World) (B : Nat) (v : Value) (ds : List Dd) : Prop :=
  ∃ A n, v = .slice A ds.length n ∧ (ds.length ≤ n ∧ ds.length ≤ 140737488355328) ∧ (ds ≠ [] → ∃ b o, A = some ⟨b, o, none⟩ ∧ b < B ∧ ∀ i d, ds[i]? = some d → d.name.length ≤ 140737488355328 ∧ w.cell? ⟨b, o + i * 4, none⟩ = some (.int .i64 d.kind) ∧ w.cell? ⟨b, o + i * 4 + 1, none⟩ = some (.int .i64 d.dir) ∧ w.cell? ⟨b, o + i * 4 + 2, none⟩ = some (.int .i64 d.i) ∧ w.cell? ⟨b, o + i * 4 + 3, none⟩ = some (.string (bs d.name)))
abbrev DeedsIn (w : World) (v : Value) (ds : List Dd) : Prop := DdsAt w w.heap.size v ds
section
variable {H : Type} {enc : TypeId × Value → H} {w : World} {base : Nat} {spare : Nat → Bool} {held : Bool}
theorem lit_small {t : TypeId} {d : DataW H} {s : Str} (hs : Small t d) (hd : d = .lit (.string s)) : s.length ≤ 140737488355328 := by
  have h := hs s.length (by rw [hd, DataW.weights]; exact List.mem_singleton.2 rfl)
  unfold reachBytes at h
  omega
set_option maxRecDepth 100000 in
theorem deed_open {fuel : Nat} {cs : List Value} {x : DataW H × List MemPlace} (h : DataW.trod enc Tryz.prog w base spare held fuel 42 cs = some x) (hs : Small 42 x.1) :
    ∃ d : Dd, cs = [.int .i64 d.kind, .int .i64 d.dir, .int .i64 d.i, .string (bs d.name)] ∧ d.name.length ≤ 140737488355328 := by
  obtain ⟨xs, n, _, hx, hcl, hxl, hf⟩ := DataW.trod_struct Tryz.underlying42 h
  have hcl4 : cs.length = 4 := hcl.trans (by kernel_rfl)
  obtain ⟨v0, v1, v2, v3, rfl⟩ := list4 hcl4
  obtain ⟨y0, y1, y2, y3, rfl⟩ := list4 (show xs.length = 4 from hxl)
  have e0 := hf 0 _ rfl
  have e1 := hf 1 _ rfl
  have e2 := hf 2 _ rfl
  have e3 := hf 3 _ rfl
  simp only [List.getElem?_cons_zero, List.getElem?_cons_succ] at e0 e1 e2 e3
  obtain ⟨n0, h0, _, _⟩ := DataW.trod_int Tryz.underlying3 e0
  obtain ⟨n1, h1, _, _⟩ := DataW.trod_int Tryz.underlying3 e1
  obtain ⟨n2, h2, _, _⟩ := DataW.trod_int Tryz.underlying3 e2
  obtain ⟨s3, h3, x3, _⟩ := DataW.trod_string Tryz.underlying9 e3
  rw [hx] at hs
  have hw := lit_small (s := s3.data.toList) (Small.field (j := 3) hs Tryz.underlying42 rfl rfl) (congrArg Prod.fst x3)
  obtain rfl : v0 = .int .i64 n0 := by injection h0
  obtain rfl : v1 = .int .i64 n1 := by injection h1
  obtain rfl : v2 = .int .i64 n2 := by injection h2
  obtain rfl : v3 = .string s3 := by injection h3
  exact ⟨⟨n0, n1, n2, s3.data.toList⟩, by rw [bs_of], hw⟩
theorem deeds_open {fuel : Nat} {v : Value} {x : DataW H × List MemPlace} (h : DataW.trod enc Tryz.prog w base spare held fuel 39 [v] = some x) (hs : Small 39 x.1) : ∃ ds, DeedsIn w v ds := by
  rcases open_slice Tryz.underlying39 h with ⟨hcs, _⟩ | ⟨a, len, cap, m, n, D, Pl, hcs, _, hl, hm, hmm, hx, hi⟩
  · obtain rfl : v = .slice none 0 0 := by injection hcs
    exact ⟨[], none, 0, rfl, ⟨Nat.le_refl _, by simp⟩, fun h => absurd rfl h⟩
  · obtain rfl : v = .slice (some a) len cap := by injection hcs
    have hC : Tryz.prog.cellsOf 42 = 4 := by kernel_rfl
    have hlm : len ≤ m := by rw [hmm]; split <;> omega
    rw [hx] at hs
    obtain ⟨hsz, hsm⟩ := Small.slice hs Tryz.underlying39
    have hB : Tryz.prog.bytesOf 42 = 40 := by kernel_rfl
    rw [hB] at hsz
    simp only [List.length_map, List.length_range] at hsz
    have hcells : ∀ i, i < len → ∃ d : Dd, d.name.length ≤ 140737488355328 ∧ ∀ j u, [Value.int .i64 d.kind, .int .i64 d.dir, .int .i64 d.i, .string (bs d.name)][j]? = some u → w.cell? (a.add (i * 4 + j)) = some u := by
      intro i hil
      obtain ⟨cs', hc, ht⟩ := hi i (by omega)
      rw [hC] at hc
      obtain ⟨_, _, hat⟩ := World.cells?_some hc
      obtain ⟨d, rfl, hdn⟩ := deed_open ht (hsm (D i) (List.mem_map.2 ⟨i, List.mem_range.2 hil, rfl⟩))
      refine ⟨d, hdn, fun j u hj => ?_⟩
      have hj4 : j < 4 := (List.getElem?_eq_some_iff.1 hj).1
      rw [← Go.Deep.add_add, hat j hj4, hj]
    obtain ⟨ds, hcl, hcp⟩ := list_of len hcells
    refine ⟨ds, some a, cap, by rw [hcl], by rw [hcl]; omega, fun hn => ?_⟩
    have h0 : 0 < len := by
      rw [← hcl]
      exact List.length_pos_iff.2 hn
    obtain ⟨d0, _, hc0⟩ := hcells 0 h0
    have hcell0 := hc0 0 _ rfl
    have hsp := spot_none (w := w) hcell0
    obtain ⟨b, o, s⟩ := a
    obtain rfl : s = none := hsp
    refine ⟨b, o, rfl, World.block_lt_of_cell? w _ (by rw [add_flat] at hcell0; exact hcell0), fun i d hci => ?_⟩
    obtain ⟨hdn, hc⟩ := hcp i d hci
    simp only [add_flat, ← Nat.add_assoc] at hc
    exact ⟨hdn, hc 0 _ rfl, hc 1 _ rfl, hc 2 _ rfl, hc 3 _ rfl⟩
/-- Texts, each no longer than may be reached. -/
def TextsInL (w : World) (v : Value) (ls : List Str) : Prop := TextsIn w v ls ∧ ∀ x ∈ ls, x.length ≤ 140737488355328
theorem texts_openL {fuel : Nat} {v : Value} {x : DataW H × List MemPlace} (h : DataW.trod enc Tryz.prog w base spare held fuel 22 [v] = some x) (hs : Small 22 x.1) : ∃ ls, TextsInL w v ls := by
  rcases open_slice Tryz.underlying22 h with ⟨hcs, _⟩ | ⟨a, len, cap, m, n, D, Pl, hcs, _, hl, hm, hmm, hx, hi⟩
  · obtain rfl : v = .slice none 0 0 := by injection hcs
    exact ⟨[], ⟨StrsAt.nil _ _ _ _, by simp⟩, fun x hx => by cases hx⟩
  · obtain rfl : v = .slice (some a) len cap := by injection hcs
    have hC : Tryz.prog.cellsOf 9 = 1 := by kernel_rfl
    have hlm : len ≤ m := by rw [hmm]; split <;> omega
    rw [hx] at hs
    obtain ⟨hsz, hsm⟩ := Small.slice hs Tryz.underlying22
    have hB : Tryz.prog.bytesOf 9 = 16 := by kernel_rfl
    rw [hB] at hsz
    simp only [List.length_map, List.length_range] at hsz
    have hcells : ∀ i, i < len → ∃ s : Str, s.length ≤ 140737488355328 ∧ w.cell? (a.add i) = some (.string (bs s)) := by
      intro i hil
      obtain ⟨cs', hc, ht⟩ := hi i (by omega)
      rw [hC, Nat.mul_one] at hc
      obtain ⟨_, hl1, hat⟩ := World.cells?_some hc
      match cs', hl1 with
      | [lv], _ =>
        obtain ⟨s0, h0, x0, _⟩ := DataW.trod_string Tryz.underlying9 ht
        obtain rfl : lv = .string s0 := by injection h0
        refine ⟨s0.data.toList, lit_small (hsm (D i) (List.mem_map.2 ⟨i, List.mem_range.2 hil, rfl⟩)) (congrArg Prod.fst x0), ?_⟩
        have := hat 0 (by omega)
        rw [Go.Deep.add_add] at this
        rw [bs_of]
        simpa using this
    obtain ⟨ls, hcl, hcp⟩ := list_of len hcells
    refine ⟨ls, ⟨⟨some a, cap, by rw [hcl], by rw [hcl]; omega, fun hn => ?_⟩, by rw [hcl]; omega⟩, fun x hx => ?_⟩
    · have h0 : 0 < len := by
        rw [← hcl]
        exact List.length_pos_iff.2 hn
      obtain ⟨_, _, hcell0⟩ := hcells 0 h0
      have hsp := spot_none (w := w) hcell0
      obtain ⟨b, o, s⟩ := a
      obtain rfl : s = none := hsp
      refine ⟨b, o, rfl, World.block_lt_of_cell? w _ (by rw [add_flat] at hcell0; exact hcell0), fun i cs hci => ?_⟩
      have hc := (hcp i cs hci).2
      rw [add_flat] at hc
      exact hc
    · obtain ⟨i, hi⟩ := List.getElem?_of_mem hx
      exact (hcp i x hi).1
end
end Go.Proofs.YtfgkgoddjemnfaaGreatDoor

namespace Go.Proofs.YtfgkgoddjemnfaaGreatDoor
open Go.RowKit Go.Shelf Pa
attribute [local go_sem] bs_toList bs_size
abbrev ddV (x : Dd) : Value := .agg #[.int .i64 x.kind, .int .i64 x.dir, .int .i64 x.i, .string (bs x.name)]
/-- The deed's box. -/
def DdB (w : World) (b : Nat) (x : Dd) : Prop := w.heap[b]? = some (.cells #[.int .i64 x.kind, .int .i64 x.dir, .int .i64 x.i, .string (bs x.name)] 42 (0, 0))
theorem DdB.cells {w : World} {b : Nat} {x : Dd} (h : DdB w b x) : w.cell? ⟨b, 0, none⟩ = some (.int .i64 x.kind) ∧ w.cell? ⟨b, 1, none⟩ = some (.int .i64 x.dir) ∧ w.cell? ⟨b, 2, none⟩ = some (.int .i64 x.i) ∧ w.cell? ⟨b, 3, none⟩ = some (.string (bs x.name)) := ⟨cell_of_heap h 0, cell_of_heap h 1, cell_of_heap h 2, cell_of_heap h 3⟩
/-- What a deed leaves. -/
def Did (B : Nat) (s r N L : Nat) (Z : Nat → Prop) (d : Int) (u : Nat → List Ent) (w w' : World) : Prop := ∃ T' u' K', PairZ B w' s r T' T' K' N Z ∧ DirU T' u' L ∧ (∀ j, j ≠ d.toNat → u' j = u j) ∧ KeptZ B Z w w'
set_option maxRecDepth 100000 in
set_option maxHeartbeats 4000000 in
theorem lawDo_any (B s r N L : Nat) (x : Dd) (T K : RS) (u : Nat → List Ent) (Z : Nat → Prop) (w : World) (h : PairZ B w s r T T K N Z) (hd : DirU T u L) (hL : L ≤ 60) (hN : N + 1000 < 1000000000) (hnl : x.name.length ≤ 140737488355328) :
    Calls Tryz.prog 19 #[.pointer (some ⟨s, 0, none⟩), .pointer (some ⟨r, 0, none⟩), ddV x] w fun e w' => e = .returned (.bool true) ∧ ∃ T' u', PairZ B w' s r T' T' T' (N + 206) Z ∧ DirU T' u' (L + 1) ∧ (∀ j, j ≠ x.dir.toNat → u' j = u j) ∧ KeptZ B Z w w' := by
  obtain ⟨kd, d, i, nm⟩ := x
  have hB : B ≤ w.heap.size := by obtain ⟨_, _, _, _, _, _, _, hB, _⟩ := h; exact hB
  have hb1 : Below w.heap.size w (w.alloc (.cells #[.int .i64 kd, .int .i64 d, .int .i64 i, .string (bs nm)] 42)) := (Below.refl _ _).alloc (Nat.le_refl _) _
  obtain ⟨hP1, hk1⟩ := h.fresh (Z' := fun k => Z k ∨ k = w.heap.size) hb1 (fun k hk => hk.imp id fun e => by rw [e, World.size_alloc]; omega)
  have hs := h.sound
  have hx1 : DdB (w.alloc (.cells #[.int .i64 kd, .int .i64 d, .int .i64 i, .string (bs nm)] 42)) w.heap.size ⟨kd, d, i, nm⟩ := heap_alloc_new _ _
  obtain ⟨W1, hW1⟩ : ∃ W1, W1 = w.alloc (.cells #[.int .i64 kd, .int .i64 d, .int .i64 i, .string (bs nm)] 42) := ⟨_, rfl⟩
  rw [← hW1] at hP1 hk1 hx1
  -- behind the deed, both commit
  have hend : ∀ wx, Did B s r N (L + 1) (fun k => Z k ∨ k = w.heap.size) d u W1 wx → Calls Tryz.prog 45 #[.pointer (some ⟨r, 0, none⟩)] wx fun e w' => e = .returned (.tuple #[]) ∧ ∃ m c,
      Calls Tryz.prog 21 #[.pointer (some ⟨s, 0, none⟩)] w' (fun e w2 => e = .returned (.pointer (some ⟨m, 0, none⟩)) ∧ w' = w2) ∧
      Calls Tryz.prog 22 #[.pointer (some ⟨m, 0, none⟩)] w' (fun e w2 => e = .returned (.pointer (some ⟨c, 0, none⟩)) ∧ w' = w2) ∧
      Calls Tryz.prog 23 #[.pointer (some ⟨c, 0, none⟩)] w' fun e w2 => e = .returned (.int .i64 0) ∧ ∃ T' u', PairZ B w2 s r T' T' T' (N + 206) Z ∧ DirU T' u' (L + 1) ∧ (∀ j, j ≠ d.toNat → u' j = u j) ∧ KeptZ B Z w w2 := fun wx ⟨T', u', K', g1, g2, g3, g4⟩ => by
    refine (rcommitZ_any B s r N T' T' K' _ wx g1).mono ?_
    rintro e w' ⟨rfl, p1, p2⟩
    obtain ⟨m, c, c1, c2, c3⟩ := pcommitZ_any B s r N T' T' T' _ w' p1 hN
    refine ⟨rfl, m, c, c1, c2, c3.mono ?_⟩
    rintro e w2 ⟨rfl, q1, q2⟩
    exact ⟨rfl, T', u', q1.weak (fun k hk => .inl hk), g2, g3, hk1.trans (((g4.trans p2).trans q2).weak (fun k hk => .inl hk))⟩
  have HEnd := Lib.hid hend
  -- a deed on the one store, then on the other
  have HP1 := Lib.hid hP1
  have HD := Lib.hid hd
  have HS := Lib.hid hs
  obtain ⟨x0, x1, x2, x3⟩ := hx1.cells
  dsimp only at x0 x1 x2 x3 hnl ⊢
  have HX := Lib.hid hx1
  clear hend hP1 hd hs h hk1 hb1 hx1
  go_enter Tryz.func19, Tryz.ntmps19
  go_upto_block 0 with fail
  rw [← hW1]
  have HW1 := Lib.hid hW1
  clear hW1
  go_cut [7] (fun v7 wx => v7 = .bool true ∧ Did B s r N (L + 1) (fun k => Z k ∨ k = w.heap.size) d u W1 wx)
  case first =>
    have hcells : ∀ w', KeptZ B (fun k => Z k ∨ k = w.heap.size) W1 w' → w'.cell? ⟨w.heap.size, 1, none⟩ = some (.int .i64 d) ∧ w'.cell? ⟨w.heap.size, 2, none⟩ = some (.int .i64 i) ∧ w'.cell? ⟨w.heap.size, 3, none⟩ = some (.string (bs nm)) := fun w' hk => by
      have hx : DdB w' w.heap.size ⟨kd, d, i, nm⟩ := (hk.z _ (.inr rfl)).trans HX.out
      exact hx.cells.2
    have HCells := Lib.hid hcells
    clear hcells HEnd
    by_cases k0 : kd = 0
    · subst k0
      have hadd : ∀ W, Below W1.heap.size W1 W → Calls Tryz.prog 13 #[.pointer (some ⟨s, 0, none⟩), .int .i64 d, .string (bs nm), .int .i64 i] W fun e w' => e = .returned (.int .i64 (addE T d nm i : Nat)) ∧ (w'.cell? ⟨w.heap.size, 1, none⟩ = some (.int .i64 d) ∧ w'.cell? ⟨w.heap.size, 2, none⟩ = some (.int .i64 i) ∧ w'.cell? ⟨w.heap.size, 3, none⟩ = some (.string (bs nm))) ∧ Hid (∀ W', Below w'.heap.size w' W' → Calls Tryz.prog 20 #[.pointer (some ⟨r, 0, none⟩), .int .i64 d, .string (bs nm), .int .i64 i] W' fun e w' => e = .returned (.int .i64 (addE T d nm i : Nat)) ∧ (w'.cell? ⟨w.heap.size, 1, none⟩ = some (.int .i64 d) ∧ w'.cell? ⟨w.heap.size, 2, none⟩ = some (.int .i64 i) ∧ w'.cell? ⟨w.heap.size, 3, none⟩ = some (.string (bs nm))) ∧ Hid (∀ w3, Below w'.heap.size w' w3 → Did B s r N (L + 1) (fun k => Z k ∨ k = w.heap.size) d u W1 w3)) := fun W hW => by
        obtain ⟨pW, kW⟩ := HP1.out.below hW
        refine (paddZ_any B s r N L d i nm T T K u _ W pW HD.out hL).mono ?_
        rintro e w' ⟨rfl, p1, p2⟩
        refine ⟨rfl, HCells.out _ (kW.trans p2), Lib.hid fun W' hW' => ?_⟩
        obtain ⟨pW', kW'⟩ := p1.below hW'
        refine (raddZ_any B s r N L d i nm (addT T d nm i) T K u _ W' pW' HD.out hL HS.out hnl).mono ?_
        rintro e w2 ⟨rfl, q1, q2⟩
        refine ⟨rfl, HCells.out _ (((kW.trans p2).trans kW').trans q2), Lib.hid fun w3 hb => ?_⟩
        obtain ⟨z1, z2⟩ := q1.below hb
        exact ⟨_, _, K, z1, HP1.out.dir HD.out hL, fun j hj => addU_other hj, (((kW.trans p2).trans kW').trans q2).trans z2⟩
      have HA1 := Lib.hid hadd
      obtain ⟨ad, had⟩ : ∃ a, a = addE T d nm i := ⟨_, rfl⟩
      rw [← had] at HA1
      clear hadd had HP1 HD HS HX HCells
      go_wp2_with fail
      go_region_held3 (fun w' => w'.cell? ⟨w.heap.size, 1, none⟩ = some (.int .i64 d) ∧ w'.cell? ⟨w.heap.size, 2, none⟩ = some (.int .i64 i) ∧ w'.cell? ⟨w.heap.size, 3, none⟩ = some (.string (bs nm)))
        ((first | assumption | go_keep))
        (first
          | (go_at_call 13; go_split_ands; refine (HA1.out _ (by first | exact Below.refl _ _ | exact (Below.refl _ _).drew)).mono ?_; rintro e w9 ⟨rfl, hc9, HA2⟩)
          | (go_at_call 20; go_split_ands; refine (HA2.out _ (by first | exact Below.refl _ _ | exact (Below.refl _ _).drew)).mono ?_; rintro e w10 ⟨rfl, hc10, HDid⟩))
      all_goals (go_wp2_with fail; go_meet; exact ⟨rfl, HDid.out _ (by first | exact Below.refl _ _ | exact (Below.refl _ _).drew)⟩)
    · have k0' : (kd == 0) = false := by rw [beq_eq_false_iff_ne]; exact k0
      by_cases k1 : kd = 1
      · subst k1
        have hdrp : Calls Tryz.prog 17 #[.pointer (some ⟨s, 0, none⟩), .int .i64 d, .string (bs nm)] W1 fun e w' => e = .returned (.tuple #[.int .i64 (if (findR T d nm).2.2 = 0 then (findR T d nm).1.i else 0 : Nat), .int .i64 ((findR T d nm).2.2 : Nat)]) ∧ (w'.cell? ⟨w.heap.size, 1, none⟩ = some (.int .i64 d) ∧ w'.cell? ⟨w.heap.size, 2, none⟩ = some (.int .i64 i) ∧ w'.cell? ⟨w.heap.size, 3, none⟩ = some (.string (bs nm))) ∧ Hid (Calls Tryz.prog 53 #[.pointer (some ⟨r, 0, none⟩), .int .i64 d, .string (bs nm)] w' fun e w2 => e = .returned (.tuple #[.int .i64 (if (findR T d nm).2.2 = 0 then (findR T d nm).1.i else 0 : Nat), .int .i64 ((findR T d nm).2.2 : Nat)]) ∧ Hid (Did B s r N (L + 1) (fun k => Z k ∨ k = w.heap.size) d u W1 w2)) := by
          refine (pdropZ_any B s r N L d nm T T K u _ W1 HP1.out HD.out hL).mono ?_
          rintro e w' ⟨rfl, p1, p2⟩
          refine ⟨rfl, HCells.out _ p2, Lib.hid ((rdropZ_any B s r N L d nm (drpT T d nm) T K u _ w' p1 HD.out hL HS.out hnl).mono ?_)⟩
          rintro e w2 ⟨rfl, q1, q2⟩
          exact ⟨rfl, Lib.hid ⟨_, _, K, q1, (HP1.out.dirDrop HD.out hL).1.more (Nat.le_succ _), fun j hj => drpU_other hj, p2.trans q2⟩⟩
        have HA1 := Lib.hid hdrp
        obtain ⟨de, hde⟩ : ∃ a, a = (findR T d nm).2.2 := ⟨_, rfl⟩
        obtain ⟨di, hdi⟩ : ∃ a, a = (if (findR T d nm).2.2 = 0 then (findR T d nm).1.i else 0) := ⟨_, rfl⟩
        rw [← hdi, ← hde] at HA1
        clear hdrp hde hdi HP1 HD HS HX HCells k0
        go_wp2_with fail
        refine HA1.out.mono ?_
        rintro e w9 ⟨rfl, ⟨hc1, hc2, hc3⟩, HA2⟩
        go_wp2_with fail
        refine HA2.out.mono ?_
        rintro e w10 ⟨rfl, HDid⟩
        go_wp2_with fail
        go_meet
        exact ⟨rfl, HDid.out⟩
      · have k1' : (kd == 1) = false := by rw [beq_eq_false_iff_ne]; exact k1
        by_cases k2 : kd = 2
        · subst k2
          have hfnd : Calls Tryz.prog 16 #[.pointer (some ⟨s, 0, none⟩), .int .i64 d, .string (bs nm)] W1 fun e w' => e = .returned (.tuple #[.int .i64 ((findR T d nm).1.i : Nat), .int .i64 ((findR T d nm).2.2 : Nat)]) ∧ (w'.cell? ⟨w.heap.size, 1, none⟩ = some (.int .i64 d) ∧ w'.cell? ⟨w.heap.size, 2, none⟩ = some (.int .i64 i) ∧ w'.cell? ⟨w.heap.size, 3, none⟩ = some (.string (bs nm))) ∧ Hid (Calls Tryz.prog 54 #[.pointer (some ⟨r, 0, none⟩), .int .i64 d, .string (bs nm)] w' fun e w2 => e = .returned (.tuple #[.int .i64 ((findR T d nm).1.i : Nat), .int .i64 ((findR T d nm).2.2 : Nat)]) ∧ Hid (Did B s r N (L + 1) (fun k => Z k ∨ k = w.heap.size) d u W1 w2)) := by
            refine (pfindZ_any B s r N d nm T T K _ W1 HP1.out).mono ?_
            rintro e w' ⟨rfl, p1, p2⟩
            refine ⟨rfl, HCells.out _ p2, Lib.hid ((rfindZ_any B s r N d nm T T K _ w' p1 HS.out hnl).mono ?_)⟩
            rintro e w2 ⟨rfl, q1, q2⟩
            exact ⟨rfl, Lib.hid ⟨T, u, K, q1, HD.out.more (Nat.le_succ _), fun j hj => rfl, p2.trans q2⟩⟩
          have HA1 := Lib.hid hfnd
          obtain ⟨de, hde⟩ : ∃ a, a = (findR T d nm).2.2 := ⟨_, rfl⟩
          obtain ⟨di, hdi⟩ : ∃ a, a = (findR T d nm).1.i := ⟨_, rfl⟩
          rw [← hdi, ← hde] at HA1
          clear hfnd hde hdi HP1 HD HS HX HCells k0 k1
          go_wp2_with fail
          refine HA1.out.mono ?_
          rintro e w9 ⟨rfl, ⟨hc1, hc2, hc3⟩, HA2⟩
          go_wp2_with fail
          refine HA2.out.mono ?_
          rintro e w10 ⟨rfl, HDid⟩
          go_wp2_with fail
          go_meet
          exact ⟨rfl, HDid.out⟩
        · have k2' : (kd == 2) = false := by rw [beq_eq_false_iff_ne]; exact k2
          have hdid : Did B s r N (L + 1) (fun k => Z k ∨ k = w.heap.size) d u W1 W1 := ⟨T, u, K, HP1.out, HD.out.more (Nat.le_succ _), fun j hj => rfl, KeptZ.refl _ _ _⟩
          have HDid := Lib.hid hdid
          clear hdid HP1 HD HS HX HCells k0 k1 k2
          go_wp2_with fail
          go_meet
          exact ⟨rfl, HDid.out⟩
  case rest =>
    obtain ⟨rfl, hdid⟩ := hcut
    have hc := HEnd.out _ hdid
    have HC := Lib.hid hc
    clear hc hdid HEnd
    go_wp2_with fail
    refine HC.out.mono ?_
    rintro e w2 ⟨rfl, m, c, c1, c2, c3⟩
    have H1 := Lib.hid c1
    have H2 := Lib.hid c2
    have H3 := Lib.hid c3
    clear c1 c2 c3 HC
    go_wp2_with (first | (go_at_call 21; refine H1.out.mono ?_; rintro e w3 ⟨rfl, rfl⟩) | (go_at_call 22; refine H2.out.mono ?_; rintro e w3 ⟨rfl, rfl⟩) | (go_at_call 23; refine H3.out.mono ?_; rintro e w3 ⟨rfl, hfin⟩; have HFin := Lib.hid hfin; clear hfin))
    go_ret
    exact ⟨rfl, HFin.out⟩
end Go.Proofs.YtfgkgoddjemnfaaGreatDoor
