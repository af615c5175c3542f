/-
  The walks over union.below and maps.DeleteFunc: what lies below a path goes out of a tree's map.
-/
import Derived.Test.YtjolgckkoidhgaaGreatDoorTreeMap
namespace Go.Proofs.YtjolgckkoidhgaaGreatDoor
open Go.RowKit Go.Shelf Pa
open Go.MapKept
open Go.ChangeMaps (setBlock)
attribute [local go_sem] bs_toList bs_size

def topOf (top : Str) : Str := if top = [47] then top else top ++ [47]
theorem isBelow_topOf (top p : Str) : isBelow top p = (topOf top).isPrefixOf p := rfl
theorem bs_append (a b : Str) : bs a ++ bs b = bs (a ++ b) := by
  have : (bs a ++ bs b).data.toList = a ++ b := by
    rw [ByteArray.data_append]; simp [bs]
  exact this ▸ (bs_of _).symm

set_option maxHeartbeats 400000 in
theorem below_any (top : Str) (w : World) (hl : top.length ≤ 1000000) :
    Calls Tryz.prog 71 #[.string (bs top)] w fun e w' => e = .returned (.func (.func 107) #[] #[.pointer (some ⟨w.heap.size, 0, none⟩)]) ∧ w' = w.alloc (.cells #[.string (bs (topOf top))] 9) := by
  have hmf : ∀ (fn : Fn) (first cap : Array Value) (w : World), (Instr.makeFunc fn first cap).run Tryz.prog w = .ok (.func fn first cap) w := fun _ _ _ _ => rfl
  by_cases h : top = [47]
  · have ht : topOf top = top := by unfold topOf; rw [if_pos h]
    have hb : (top == [47]) = true := by simpa using h
    have HT := Lib.hid ht
    clear ht h
    go_enter Tryz.func71, Tryz.ntmps71
    go_wp2
    go_ret
    exact ⟨rfl, by rw [HT.out]⟩
  · have ht : bs top ++ ⟨#[47]⟩ = bs (topOf top) := by unfold topOf; rw [if_neg h]; exact bs_append top [47]
    have hb : (top == [47]) = false := by simpa using h
    have HT := Lib.hid ht
    clear ht h
    go_enter Tryz.func71, Tryz.ntmps71
    go_wp2
    go_ret
    exact ⟨rfl, by rw [HT.out]⟩

set_option maxHeartbeats 400000 in
theorem closure_any (p q : Str) (v : Value) (bx : Nat) (w : World) (n : Nd) (dv : Value) (hv : v = ndV n dv) (hx : w.cell? ⟨bx, 0, none⟩ = some (.string (bs q))) :
    Calls Tryz.prog 107 #[.string (bs p), v, .pointer (some ⟨bx, 0, none⟩)] w fun e w' => e = .returned (.bool (q.isPrefixOf p)) ∧ Below w.heap.size w w' := by
  subst hv
  unfold ndV
  have hlt : bx < w.heap.size := by
    rcases Nat.lt_or_ge bx w.heap.size with h | h
    · exact h
    · rw [World.cell?, Array.getElem?_eq_none h] at hx; cases hx
  have hpre : ∀ w, Calls Tryz.prog 36 #[.string (bs p), .string (bs q)] w fun e w' => e = .returned (.bool (q.isPrefixOf p)) ∧ w' = w := fun w => Tryz.strings_HasPrefix (bs p) (bs q) w
  go_enter Tryz.func107, Tryz.ntmps107
  go_wp2_with (go_at_call 36; refine (hpre _).mono ?_; rintro e w' ⟨rfl, hw⟩; obtain rfl := hw.symm)
  go_ret
  exact ⟨rfl, (Below.refl _ _).alloc (Nat.le_refl _) _⟩

/-- One step of a range over a map, whatever block its iterator lies in; nothing is laid into the map meanwhile. -/
theorem iter_step {P : Program} (wr : World) (b r : Nat) (es : Array MapEntry) (c : Nat) (seen : Array Nat) (hr : wr.heap[r]? = some (.mapIter (some b) c seen c)) (hb : wr.heap[b]? = some (.map es c)) (hs : Stamped es c) (hne : r ≠ b) (ty : TypeId) :
    ((∀ x ∈ es.toList, seen.contains x.born = true) ∧ (Instr.next (.pointer (some ⟨r, 0, none⟩)) false ty).run P wr = .ok (.tuple #[.bool false]) wr) ∨
    ∃ e ∈ es.toList, seen.contains e.born = false ∧ (leftOf es (seen.push e.born)).size < (leftOf es seen).size ∧ ∃ W2, (Instr.next (.pointer (some ⟨r, 0, none⟩)) false ty).run P wr = .ok (.tuple #[.bool true, e.key, e.val]) W2 ∧
      (Instr.entry (.pointer (some ⟨r, 0, none⟩))).run P W2 = .ok (.tuple #[e.key, e.val]) W2 ∧ W2.heap[r]? = some (.mapIter (some b) c (seen.push e.born) c) ∧ W2.heap.size = wr.heap.size ∧ (∀ k, k ≠ r → W2.heap[k]? = wr.heap[k]?) ∧ W2.os = wr.os ∧ W2.tape = wr.tape ∧ W2.output = wr.output := by
  obtain ⟨hborn, hnd, _⟩ := hs
  rcases run_next_at (P := P) wr ty r b c c seen es c hr hb hborn (Nat.le_refl _) with ⟨h0, hrun⟩ | ⟨e, he, w1, hw1, hrun⟩
  · exact .inl ⟨all_seen es seen h0, hrun⟩
  · right
    obtain ⟨hm, hns⟩ := mem_left he
    refine ⟨e, hm, hns, left_shrinks es seen e he, _, hrun, ?_⟩
    have hlt : r < wr.heap.size := (Array.getElem?_eq_some_iff.1 hr).1
    have h1 : w1.heap = wr.heap ∧ w1.os = wr.os ∧ w1.tape = wr.tape ∧ w1.output = wr.output := by
      rcases hw1 with rfl | rfl
      · exact ⟨rfl, rfl, rfl, rfl⟩
      · exact ⟨rfl, rfl, rfl, rfl⟩
    have hr2 : (setBlock w1 r (.mapIter (some b) c (seen.push e.born) c)).heap[r]? = some (.mapIter (some b) c (seen.push e.born) c) := by
      simp [setBlock, h1.1, hlt]
    have hoth : ∀ k, k ≠ r → (setBlock w1 r (.mapIter (some b) c (seen.push e.born) c)).heap[k]? = wr.heap[k]? := fun k hk => by
      simp only [setBlock, h1.1]
      rw [Array.getElem?_setIfInBounds_ne (fun e => hk e.symm)]
    exact ⟨run_entry_at _ r b c seen es c e hr2 ((hoth b (fun e => hne e.symm)).trans hb) hm hnd, hr2, by simp [setBlock, h1.1], hoth, h1.2.1, h1.2.2.1, h1.2.2.2⟩

/-- delete, entry by entry. -/
theorem run_delete_at (w : World) (b : Nat) (es : Array MapEntry) (c : Nat) (hb : w.heap[b]? = some (.map es c)) (hs : Stamped es c) (hks : ∀ x ∈ es.toList, IsKey .string x.key) (s : ByteArray) :
    ∃ es', (∀ ty, (Builtin.delete_ #[68, 9] ty #[.map (some b), .string s]).run Tryz.prog w = .ok (.tuple #[]) (setBlock w b (.map es' c))) ∧ Stamped es' c ∧ es'.toList.Sublist es.toList ∧ ∀ x ∈ es.toList, (x ∈ es'.toList ↔ x.key ≠ .string s) := by
  have ht := Tryz.underlying68
  have hk := Tryz.underlying9
  have hkey : IsKey .string (.string s) := trivial
  rcases findNow_spec hkey es.toList 0 hks with ⟨h1, h2⟩ | ⟨j, e0, h1, h2, h3⟩
  · refine ⟨es, ?_, hs, List.Sublist.refl _, fun x hx => ⟨fun _ => h2 x hx, fun _ => hx⟩⟩
    intro ty
    simp [Builtin.delete_, run_underlying ht, MapKept.run_getObj_map hb, run_checkKey hk hkey, run_findKey hk h1, MapKept.run_setObj_map _ hb, Result.andThen, setBlock]
  · have hjs : j < es.size := by simpa using (List.getElem?_eq_some_iff.1 h2).1
    have hsub : (es.eraseIdxIfInBounds j).toList = es.toList.eraseIdx j := by
      unfold Array.eraseIdxIfInBounds
      rw [dif_pos hjs]
      simp
    refine ⟨es.eraseIdxIfInBounds j, ?_, stamped_erase hs j, by rw [hsub]; exact List.eraseIdx_sublist _ _, fun x hx => ?_⟩
    · intro ty
      simp [Builtin.delete_, run_underlying ht, MapKept.run_getObj_map hb, run_checkKey hk hkey, run_findKey hk h1, MapKept.run_setObj_map _ hb, Result.andThen, setBlock]
    · rw [hsub, List.mem_eraseIdx_iff_getElem?]
      have hpw := ((stamped_iff es c).1 hs).2.2
      constructor
      · rintro ⟨i, hi, hxi⟩ e
        have h4 : i < es.toList.length := (List.getElem?_eq_some_iff.1 hxi).1
        have h5 : j < es.toList.length := (List.getElem?_eq_some_iff.1 h2).1
        have hx' : es.toList[i] = x := by rw [List.getElem?_eq_getElem h4] at hxi; exact Option.some.inj hxi
        have he' : es.toList[j] = e0 := by rw [List.getElem?_eq_getElem h5] at h2; exact Option.some.inj h2
        rcases Nat.lt_trichotomy i j with h | h | h
        · have := List.pairwise_iff_getElem.1 hpw i j h4 h5 h
          rw [hx', he', e, h3] at this
          exact this rfl
        · exact hi h
        · have := List.pairwise_iff_getElem.1 hpw j i h5 h4 h
          rw [hx', he', e, h3] at this
          exact this rfl
      · intro hne
        obtain ⟨i, hi⟩ := List.getElem?_of_mem hx
        refine ⟨i, ?_, hi⟩
        rintro rfl
        rw [h2] at hi
        cases hi
        exact hne h3

theorem sublist_filter {α : Type} {p : α → Bool} : ∀ {l' l : List α}, l'.Sublist l → l.Nodup → (∀ x ∈ l, (x ∈ l' ↔ p x = true)) → l' = l.filter p := by
  intro l' l h
  induction h with
  | slnil => intro _ _; rfl
  | @cons l1 l2 a hs ih =>
    intro hn hx
    have hn := List.nodup_cons.1 hn
    have ha : p a = false := by
      cases hp : p a with
      | false => rfl
      | true => exact absurd (hs.subset ((hx a (by simp)).2 hp)) hn.1
    rw [List.filter_cons, if_neg (by rw [ha]; simp)]
    exact ih hn.2 fun x hm => hx x (by simp [hm])
  | @cons_cons l1 l2 a hs ih =>
    intro hn hx
    have hn := List.nodup_cons.1 hn
    have ha : p a = true := (hx a (by simp)).1 (by simp)
    rw [List.filter_cons, if_pos ha, ← ih hn.2]
    intro x hm
    rw [← hx x (by simp [hm])]
    constructor
    · intro h; simp [h]
    · intro h
      rcases List.mem_cons.1 h with rfl | h
      · exact absurd hm hn.1
      · exact h

theorem nodup_of_map {α β : Type} (f : α → β) {l : List α} (h : (l.map f).Nodup) : l.Nodup :=
  (List.pairwise_map.1 h).imp fun hne e => hne (by rw [e])

/-- Is an entry's path one that goes? -/
def keyBad (q : Str) : Value → Bool
  | .string s => q.isPrefixOf s.data.toList
  | _ => false

/-- What holds between two rounds: of the entries those that have come and must go are gone. -/
structure DelInv (w wr : World) (b r : Nat) (q : Str) (es0 : Array MapEntry) (c : Nat) (seen : Array Nat) (es : Array MapEntry) : Prop where
  iter : wr.heap[r]? = some (.mapIter (some b) c seen c)
  map : wr.heap[b]? = some (.map es c)
  st : Stamped es c
  sub : es.toList.Sublist es0.toList
  mem : ∀ x ∈ es0.toList, (x ∈ es.toList ↔ ¬ (seen.contains x.born = true ∧ keyBad q x.key = true))
  grow : w.grownBy wr (some b)

theorem leftOf_le {es es' : Array MapEntry} (h : es'.toList.Sublist es.toList) (s : Array Nat) : (leftOf es' s).size ≤ (leftOf es s).size := by
  have key : ∀ (a : Array MapEntry), (leftOf a s).size = (a.toList.filter (fun e => !s.contains e.born)).length := fun a => by
    unfold leftOf
    rw [← Array.length_toList, Array.toList_filter]
  rw [key, key]
  exact (h.filter _).length_le

theorem grownBy_step {w wr W2 : World} {b r : Nat} (h : w.grownBy wr (some b)) (hr : w.heap.size ≤ r) (hz : wr.heap.size ≤ W2.heap.size) (ho : ∀ k, k < wr.heap.size → k ≠ r → W2.heap[k]? = wr.heap[k]?) (e1 : W2.os = wr.os) (e2 : W2.tape = wr.tape) (e3 : W2.output = wr.output) : w.grownBy W2 (some b) :=
  ⟨e1.trans h.os, e2.trans h.tape, e3.trans h.output, Nat.le_trans h.size hz, fun k hk hne => by rw [ho k (Nat.lt_of_lt_of_le hk h.size) (by omega)]; exact h.block k hk hne⟩
theorem grownBy_below {w wr W2 : World} {b : Nat} (h : w.grownBy wr (some b)) (hb : Below wr.heap.size wr W2) : w.grownBy W2 (some b) :=
  ⟨hb.os.trans h.os, hb.tape.trans h.tape, hb.output.trans h.output, Nat.le_trans h.size hb.size, fun k hk hne => by rw [hb.block k (Nat.lt_of_lt_of_le hk h.size)]; exact h.block k hk hne⟩
theorem grownBy_set {w wr : World} {b : Nat} (h : w.grownBy wr (some b)) (o : Obj) : w.grownBy (setBlock wr b o) (some b) :=
  ⟨h.os, h.tape, h.output, by simp only [setBlock, Array.size_setIfInBounds]; exact h.size, fun k hk hne => by
    simp only [setBlock]
    rw [Array.getElem?_setIfInBounds_ne (fun e => hne (by rw [e]))]
    exact h.block k hk hne⟩

theorem DelInv.done {w wr : World} {b r : Nat} {q : Str} {es0 es : Array MapEntry} {c : Nat} {seen : Array Nat} {T : List Nd} {L : List (Str × Value)} (h : DelInv w wr b r q es0 c seen es) (hs0 : Stamped es0 c)
    (hp : es0.toList.map (fun e => (e.key, e.val)) = L.map (fun p => (Value.string (bs p.1), p.2))) (e : L.map (·.1) = T.map (·.path)) (hd : ∀ n ∈ T, ∃ dv, (n.path, ndV n dv) ∈ L ∧ BytesAt w w.heap.size dv n.data)
    (hb0 : w.heap[b]? = some (.map es0 c)) (hall : ∀ x ∈ es.toList, seen.contains x.born = true) : TreeAt wr b (T.filter (fun n => !q.isPrefixOf n.path)) := by
  have hes : es.toList = es0.toList.filter (fun x => !keyBad q x.key) := by
    refine sublist_filter h.sub (nodup_of_map _ hs0.2.1) fun x hx => ?_
    rw [h.mem x hx]
    constructor
    · intro hn
      have hxe : x ∈ es.toList := (h.mem x hx).2 hn
      cases hk : keyBad q x.key
      · rfl
      · exact absurd ⟨hall x hxe, hk⟩ hn
    · intro hk hh
      rw [hh.2] at hk
      cases hk
  refine TreeAt.filter (fun k => !q.isPrefixOf k) h.grow ⟨es0, c, hb0, hs0, hp⟩ e hd ⟨es, c, h.map, h.st, ?_⟩
  rw [hes]
  have key : ∀ (l : List MapEntry) (M : List (Str × Value)), l.map (fun e => (e.key, e.val)) = M.map (fun p => (Value.string (bs p.1), p.2)) → (l.filter (fun x => !keyBad q x.key)).map (fun e => (e.key, e.val)) = (M.filter (fun p => !q.isPrefixOf p.1)).map (fun p => (Value.string (bs p.1), p.2)) := by
    intro l
    induction l with
    | nil => intro M hM; cases M with
      | nil => rfl
      | cons _ _ => cases hM
    | cons x l ih => intro M hM; cases M with
      | nil => cases hM
      | cons p M =>
        simp only [List.map_cons, List.cons.injEq, Prod.mk.injEq] at hM
        obtain ⟨⟨h1, h2⟩, h3⟩ := hM
        have hk : keyBad q x.key = q.isPrefixOf p.1 := by rw [h1]; rfl
        rw [List.filter_cons, List.filter_cons, hk]
        cases q.isPrefixOf p.1
        · simp [h1, h2, ih M h3]
        · simp [ih M h3]
  exact key _ _ hp

theorem born_inj {es : Array MapEntry} (h : (es.toList.map (·.born)).Nodup) {x y : MapEntry} (hx : x ∈ es.toList) (hy : y ∈ es.toList) (e : x.born = y.born) : x = y := by
  obtain ⟨i, hi⟩ := List.getElem?_of_mem hx
  obtain ⟨j, hj⟩ := List.getElem?_of_mem hy
  have h1 := List.pairwise_iff_getElem.1 (List.pairwise_map.1 h)
  obtain ⟨h4, h5⟩ := List.getElem?_eq_some_iff.1 hi
  obtain ⟨h6, h7⟩ := List.getElem?_eq_some_iff.1 hj
  rcases Nat.lt_trichotomy i j with h | h | h
  · exact absurd (by rw [h5, h7]; exact e) (h1 i j h4 h6 h)
  · subst h; exact h5.symm.trans h7
  · exact absurd (by rw [h5, h7]; exact e.symm) (h1 j i h6 h4 h)
theorem key_inj {es : Array MapEntry} {c : Nat} (h : Stamped es c) : ∀ e ∈ es.toList, ∀ x ∈ es.toList, x.key = e.key → x = e := by
  intro y hy x hx e
  obtain ⟨i, hi⟩ := List.getElem?_of_mem hx
  obtain ⟨j, hj⟩ := List.getElem?_of_mem hy
  have h1 := List.pairwise_iff_getElem.1 ((stamped_iff es c).1 h).2.2
  obtain ⟨h4, h5⟩ := List.getElem?_eq_some_iff.1 hi
  obtain ⟨h6, h7⟩ := List.getElem?_eq_some_iff.1 hj
  rcases Nat.lt_trichotomy i j with h | h | h
  · exact absurd (by rw [h5, h7]; exact e) (h1 i j h4 h6 h)
  · subst h; exact h5.symm.trans h7
  · exact absurd (by rw [h5, h7]; exact e.symm) (h1 j i h6 h4 h)
theorem DelInv.skip {w wr W4 : World} {b r : Nat} {q : Str} {es0 es : Array MapEntry} {c : Nat} {seen : Array Nat} (h : DelInv w wr b r q es0 c seen es) (hs0 : (es0.toList.map (·.born)).Nodup) {e : MapEntry} (he : e ∈ es.toList) (hk : keyBad q e.key = false)
    (hi : W4.heap[r]? = some (.mapIter (some b) c (seen.push e.born) c)) (hm : W4.heap[b]? = some (.map es c)) (hg : w.grownBy W4 (some b)) : DelInv w W4 b r q es0 c (seen.push e.born) es := by
  refine ⟨hi, hm, h.st, h.sub, fun x hx => ?_, hg⟩
  rw [h.mem x hx, Array.contains_push]
  cases hb : (x.born == e.born) with
  | false => simp only [Bool.or_false]
  | true =>
    have : x = e := born_inj hs0 hx (h.sub.subset he) (by simpa using hb)
    subst this
    simp [hk]
theorem DelInv.drop {w wr W4 : World} {b r : Nat} {q : Str} {es0 es es' : Array MapEntry} {c : Nat} {seen : Array Nat} (h : DelInv w wr b r q es0 c seen es) (hs0 : (es0.toList.map (·.born)).Nodup) {e : MapEntry} (he : e ∈ es.toList) (hk : keyBad q e.key = true)
    (hi : W4.heap[r]? = some (.mapIter (some b) c (seen.push e.born) c)) (hm : W4.heap[b]? = some (.map es' c)) (hg : w.grownBy W4 (some b)) (hst : Stamped es' c) (hsub : es'.toList.Sublist es.toList) (hin : ∀ x ∈ es.toList, (x ∈ es'.toList ↔ x.key ≠ e.key))
    (hkey : ∀ x ∈ es0.toList, x.key = e.key → x = e) : DelInv w W4 b r q es0 c (seen.push e.born) es' := by
  refine ⟨hi, hm, hst, hsub.trans h.sub, fun x hx => ?_, hg⟩
  rw [Array.contains_push]
  cases hb : (x.born == e.born) with
  | false =>
    simp only [Bool.or_false]
    rw [← h.mem x hx]
    constructor
    · exact fun hm => hsub.subset hm
    · intro hm
      refine (hin x hm).2 fun he' => ?_
      rw [hkey x hx he'] at hb
      simp at hb
  | true =>
    have : x = e := born_inj hs0 hx (h.sub.subset he) (by simpa using hb)
    subst this
    simp [hk]
    intro hx'
    exact (hin x he).1 (by simpa using hx') rfl

set_option maxHeartbeats 1000000 in
theorem deleteFunc_any (T : List Nd) (b : Nat) (q : Str) (bx : Nat) (w : World) (h : TreeAt w b T) (hx : w.cell? ⟨bx, 0, none⟩ = some (.string (bs q))) :
    Calls Tryz.prog 70 #[.map (some b), .func (.func 107) #[] #[.pointer (some ⟨bx, 0, none⟩)]] w fun e w' =>
      e = .returned (.tuple #[]) ∧ TreeAt w' b (T.filter (fun n => !q.isPrefixOf n.path)) ∧ w.grownBy w' (some b) := by
  have hblt := h.lt
  obtain ⟨L, ⟨es0, c, hb, hs, hp⟩, e, hd⟩ := h
  have hbx : bx < w.heap.size := by
    rcases Nat.lt_or_ge bx w.heap.size with h | h
    · exact h
    · rw [World.cell?, Array.getElem?_eq_none h] at hx; cases hx
  have hbne : bx ≠ b := by
    rintro rfl
    rw [World.cell?, hb] at hx
    cases hx
  have hent : ∀ x ∈ es0.toList, ∃ (n : Nd) (A l cp : _), x.key = .string (bs n.path) ∧ x.val = ndV n (.slice A l cp) := by
    intro x hxm
    obtain ⟨j, hj⟩ := List.getElem?_of_mem hxm
    obtain ⟨p, hpL, hk, hv⟩ := raw_at hp j x hj
    have hpm : p.1 ∈ T.map (·.path) := by rw [← e]; exact List.mem_map.2 ⟨p, List.mem_of_getElem? hpL, rfl⟩
    obtain ⟨n, hn, hnp⟩ := List.mem_map.1 hpm
    obtain ⟨dv, hm, hba⟩ := hd n hn
    obtain ⟨A, cp, rfl, _⟩ := hba
    have hnd := raw_keys hp ((stamped_iff es0 c).1 hs).2.2
    have h1 := mem_of_find hnd hm
    have h2 := find_at hnd hpL hnp.symm
    rw [h1] at h2
    have h3 := Option.some.inj h2
    exact ⟨n, A, _, cp, by rw [hk, hnp], by rw [hv, ← h3]⟩
  have hkeys : ∀ x ∈ es0.toList, IsKey .string x.key := RawMap.isKey hp
  have hrange := run_range_map (P := Tryz.prog) w 68 9 45 b es0 c Tryz.underlying68 hb
  have H0 : DelInv w (w.alloc (.mapIter (some b) c #[] c)) b w.heap.size q es0 c #[] es0 := ⟨heap_alloc_new _ _, (Below.heap_alloc _ _ _ hblt).trans hb, hs, List.Sublist.refl _, fun x hx => by simp [hx], World.grownBy_alloc _ _ _⟩
  have HFin := Lib.hid (fun wr seen es (h : DelInv w wr b w.heap.size q es0 c seen es) hall => DelInv.done h hs hp e hd hb hall)
  have HEnt := Lib.hid hent
  have HX := Lib.hid hx
  have HKeys := Lib.hid hkeys
  have HBorn := Lib.hid hs.2.1
  have HKey1 := Lib.hid (key_inj hs)
  clear hent hd hp hb hs hx hkeys e
  go_enter Tryz.func70, Tryz.ntmps70
  go_wp2_with fail
  go_loopg [4] (leftOf es0 #[]).size (fun g _ wx => ∃ seen es, (leftOf es seen).size = g ∧ DelInv w wx b w.heap.size q es0 c seen es)
  case atStart => exact ⟨_, _, rfl, H0⟩
  case round =>
    obtain ⟨seen, es, hg, hI⟩ := hrel
    obtain ⟨wx, rfl⟩ : ∃ wx, wx = wr := ⟨_, rfl⟩
    have hstep := fun ty => iter_step (P := Tryz.prog) wx b w.heap.size es c seen hI.iter hI.map hI.st (by omega) ty
    have HI := Lib.hid hI
    clear hI H0 hrange
    rcases hstep 0 with ⟨hall, hnx⟩ | ⟨e, hm, hns, hsh, W2, hnx, hen, hr2, hz2, ho2, e1, e2, e3⟩
    · have hfin := HFin.out wx seen es HI.out hall
      have HF := Lib.hid hfin
      clear hfin hstep
      have hgr := HI.out.grow
      go_wp2
      go_end0
      exact ⟨rfl, HF.out, hgr⟩
    · have hsub := HI.out.sub
      obtain ⟨n, A, l, cp, hek, hev⟩ := HEnt.out e (hsub.subset hm)
      have hbk : keyBad q e.key = q.isPrefixOf n.path := by rw [hek]; rfl
      have HBk := Lib.hid hbk
      have HEk := Lib.hid hek
      rw [hek, hev] at hnx hen
      unfold ndV at hnx hen
      have hgr2 : w.grownBy W2 (some b) := grownBy_step HI.out.grow (Nat.le_refl _) (Nat.le_of_eq hz2.symm) (fun k _ hk => ho2 k hk) e1 e2 e3
      have hmap2 : W2.heap[b]? = some (.map es c) := (ho2 b (by omega)).trans HI.out.map
      have hz : w.heap.size ≤ W2.heap.size := hgr2.size
      have hx2 : W2.cell? ⟨bx, 0, none⟩ = some (.string (bs q)) := (World.cell?_of_block (w := w) (hgr2.block bx hbx (fun e => hbne (Option.some.inj e)))).trans HX.out
      -- the entry's value, in a variable of the round's own
      have hB3 : Below W2.heap.size W2 (W2.alloc (.cells #[.string (bs n.path), .int .i64 n.kind, .int .i64 n.mode, .string (bs n.link), .slice A l cp] 45)) := (Below.refl _ _).alloc (Nat.le_refl _) _
      have hx3 : (W2.alloc (.cells #[.string (bs n.path), .int .i64 n.kind, .int .i64 n.mode, .string (bs n.link), .slice A l cp] 45)).cell? ⟨bx, 0, none⟩ = some (.string (bs q)) := (hB3.cell (p := ⟨bx, 0, none⟩) (by show bx < _; omega)).trans hx2
      have hcl := closure_any n.path q _ bx _ n (.slice A l cp) rfl hx3
      unfold ndV at hcl
      have HR2 := Lib.hid hr2
      have HM2 := Lib.hid hmap2
      have HO2 := Lib.hid ho2
      have HG2 := Lib.hid hgr2
      have HZ2 := Lib.hid hz2
      clear hstep hek hev hbk hz2 hx2 hx3 hr2 hmap2 hsub ho2 hgr2 e1 e2 e3
      go_wp2_with fail
      refine hcl.mono ?_
      rintro e4 W4 ⟨rfl, hB4⟩
      have hBW : Below W2.heap.size W2 W4 := hB3.trans (hB4.mono (by rw [World.size_alloc]; omega))
      clear hcl hB3 hB4
      have hsub := HI.out.sub
      have hit4 : W4.heap[w.heap.size]? = some (.mapIter (some b) c (seen.push e.born) c) := (hBW.block _ (by have := HI.out.iter; have := (Array.getElem?_eq_some_iff.1 this).1; have := HZ2.out; omega)).trans HR2.out
      have hmap4 : W4.heap[b]? = some (.map es c) := (hBW.block b (by omega)).trans HM2.out
      have hgr4 : w.grownBy W4 (some b) := grownBy_below HG2.out hBW
      have HIt := Lib.hid hit4
      have HG4 := Lib.hid hgr4
      clear hit4 hgr4
      cases hq : q.isPrefixOf n.path with
      | false =>
        have hnew := DelInv.skip HI.out HBorn.out hm (HBk.out.trans hq) HIt.out hmap4 HG4.out
        have HN := Lib.hid hnew
        clear hnew hmap4
        go_wp2
        go_roundg (leftOf es (seen.push e.born)).size
        case measure => rw [← hg]; exact hsh
        case rel => exact ⟨_, _, rfl, HN.out⟩
      | true =>
        obtain ⟨es', hdel, hst', hsub', hin'⟩ := run_delete_at W4 b es c hmap4 HI.out.st (fun x hx => HKeys.out x (hsub.subset hx)) (bs n.path)
        have hlt4 : b < W4.heap.size := (Array.getElem?_eq_some_iff.1 hmap4).1
        have hnew := DelInv.drop (W4 := setBlock W4 b (.map es' c)) HI.out HBorn.out hm (HBk.out.trans hq) (by simp only [setBlock]; rw [Array.getElem?_setIfInBounds_ne (by omega)]; exact HIt.out) (by simp [setBlock, hlt4]) (grownBy_set HG4.out _) hst' hsub' (by rw [HEk.out]; exact hin') (HKey1.out e (hsub.subset hm))
        have hle := leftOf_le hsub' (seen.push e.born)
        have HN := Lib.hid hnew
        clear hnew hmap4 hin' hst' hsub'
        go_wp2
        go_roundg (leftOf es' (seen.push e.born)).size
        case measure => rw [← hg]; omega
        case rel => exact ⟨_, _, rfl, HN.out⟩

end Go.Proofs.YtjolgckkoidhgaaGreatDoor
