/-
  What inodes do, in plain Lean: an inode as bytes, taking and giving pages, the growing and shrinking of a file, reading and writing.
  The walks over the map's Inode, Page, give, GivePage.
  The walks over the map's give, GivePage.
  Inodes as bytes and back, in plain Lean; a cache that always has room.
  The walks over get and put: a number out of bytes, and into them.
  An inode that is open, in memory: a block of 144 cells.
  The walk over load: an inode is read.
  The walks over the inodes' small functions: mode, pages, New, slot, write, take, give.
  The walk over save: an inode is written.
-/
import Derived.Test.YtakmplpfjcddiaaGreatDoorG3
import Derived.Laws.Rows
import Derived.Laws.Tables
import Derived.Deep.MidRow
set_option linter.unusedVariables false
set_option linter.unusedSimpArgs false
set_option linter.deprecated false
namespace Go.Proofs.YtakmplpfjcddiaaGreatDoor
open Go.RowKit Go.Shelf Pa
/-- A page of zeros. -/
def pageZ : Str := List.replicate 512 0
theorem pageZ_length : pageZ.length = 512 := by unfold pageZ; exact List.length_replicate
/-- A page is written, if there is room. -/
def Ca.w (C : Ca) (n : Nat) (x : Str) : Option Ca := if C.may n = true then some (C.set n x) else none
/-- A page is taken: the first that is free. -/
def Ca.page (C : Ca) : Option (Nat × Ca) :=
  match firstB (C.rd 2) C.G.pages with
  | none => none
  | some n => if C.fits [2, n] = true then some (n, (C.set 2 (turnB (C.rd 2) n)).set n pageZ) else none
/-- An inode's number is taken. -/
def Ca.inode (C : Ca) (inodes : Nat) : Option (Nat × Ca) :=
  match firstB (C.rd 1) inodes with
  | none => none
  | some i => if C.fits [1] = true then some (i, C.set 1 (turnB (C.rd 1) i)) else none
/-- One is free again. -/
def Ca.give (C : Ca) (page n i least : Nat) : Nat × Ca :=
  if i < least ∨ n ≤ i then (2, C) else if bitAt (C.rd page) i = false then (4, C) else if C.fits [page] = false then (7, C) else (0, C.set page (turnB (C.rd page) i))
def Ca.giveP (C : Ca) (inodes n : Nat) : Option Ca := match C.give 2 C.G.pages n (alFirst inodes) with | (0, C') => some C' | _ => none
/-- An inode with its number and the pages that its indirect page names. -/
structure Opn where
  kind : Nat
  mode : Nat
  links : Nat
  size : Nat
  pages : List Nat
  i : Nat
  more : List Nat
/-- An inode of nothing. -/
def Opn.none : Opn := ⟨0, 0, 0, 0, List.replicate 11 0, 0, List.replicate 128 0⟩
structure Opn.Ok (o : Opn) (n : Nat) : Prop where
  pages : o.pages.length = 11
  more : o.more.length = 128
  size : o.size ≤ 70656
  pagesB : ∀ x ∈ o.pages, x < n
  moreB : ∀ x ∈ o.more, x < n
/-- Page k of a file. -/
def Opn.slot (o : Opn) (k : Nat) : Nat := if k < 10 then o.pages.getD k 0 else o.more.getD (k - 10) 0
def Opn.setSlot (o : Opn) (k n : Nat) : Opn := if k < 10 then { o with pages := o.pages.set k n } else { o with more := o.more.set (k - 10) n }
def Opn.ind (o : Opn) : Nat := o.pages.getD 10 0
def Opn.setInd (o : Opn) (n : Nat) : Opn := { o with pages := o.pages.set 10 n }
/-- An inode as bytes. -/
def encI (o : Opn) : Str := [UInt8.ofNat o.kind] ++ putN 2 o.mode ++ putN 2 o.links ++ putN 4 o.size ++ (o.pages.map (putN 4)).flatten ++ List.replicate 11 0
def encM (l : List Nat) : Str := (l.map (putN 4)).flatten
def numAt (b : Str) (at_ k : Nat) : Nat := getN ((b.drop at_).take k)
def decI (b : Str) (i : Nat) : Opn := ⟨(b.getD 0 0).toNat, numAt b 1 2, numAt b 3 2, numAt b 5 4, (List.range 11).map fun k => numAt b (9 + 4 * k) 4, i, List.replicate 128 0⟩
def decM (b : Str) : List Nat := (List.range 128).map fun k => numAt b (4 * k) 4
/-- An inode is read: the number of the error, or the inode. -/
def Ca.load (C : Ca) (inodes : Nat) (i : Int) : Except Nat Opn :=
  if i ≤ 0 ∨ (inodes : Int) ≤ i then .error 2
  else if bitAt (C.rd 1) i.toNat = false then .error 4
  else
    let o := decI (((C.rd (3 + i.toNat / 8)).drop (64 * (i.toNat % 8))).take 64) i.toNat
    if o.kind = 0 then .error 4
    else if o.ind = 0 then .ok o
    else .ok { o with more := decM (C.rd o.ind) }
/-- An inode is written. -/
def laidAt (b : Str) (at_ : Nat) (x : Str) : Str := b.take at_ ++ x ++ b.drop (at_ + x.length)
def Ca.save (C : Ca) (o : Opn) : Option Ca :=
  match C.w (3 + o.i / 8) (laidAt (C.rd (3 + o.i / 8)) (64 * (o.i % 8)) (encI o)) with
  | none => none
  | some C1 => if o.ind = 0 then some C1 else C1.w o.ind (encM o.more)
/-- How many pages a size has. -/
def npg (size : Nat) : Nat := (size + 511) / 512
abbrev OC := Opn × Ca
def grow1 (s : OC) (k : Nat) : Option OC :=
  match (if k = 10 then (match s.2.page with | none => none | some (n, C) => some (s.1.setInd n, C)) else some s) with
  | none => none
  | some s1 => match s1.2.page with | none => none | some (n, C) => some (s1.1.setSlot k n, C)
def shrink1 (inodes : Nat) (s : OC) (k : Nat) : Option OC :=
  match s.2.giveP inodes (s.1.slot k) with
  | none => none
  | some C1 =>
    if k = 10 then (match C1.giveP inodes (s.1.setSlot k 0).ind with | none => none | some C2 => some ((s.1.setSlot k 0).setInd 0, C2)) else some (s.1.setSlot k 0, C1)
/-- So many pages more, from page a on. -/
def growN (a : Nat) : Nat → OC → Option OC
  | 0, s => some s
  | n + 1, s => match grow1 s a with | none => none | some s1 => growN (a + 1) n s1
/-- So many pages less; page a - 1 goes first. -/
def shrinkN (inodes : Nat) : Nat → Nat → OC → Option OC
  | _, 0, s => some s
  | a, n + 1, s => match shrink1 inodes s (a - 1) with | none => none | some s1 => shrinkN inodes (a - 1) n s1
def tailZ (s : OC) (old size : Nat) : Option OC :=
  if size < old ∧ 0 < size % 512 then
    (match s.2.w (s.1.slot (npg size - 1)) ((s.2.rd (s.1.slot (npg size - 1))).take (size % 512) ++ List.replicate (512 - size % 512) 0) with | none => none | some C => some (s.1, C))
  else some s
def resizeP (inodes : Nat) (s : OC) (size : Nat) : Option OC :=
  match growN (npg s.1.size) (npg size - npg s.1.size) s with
  | none => none
  | some s1 => match shrinkN inodes (npg s.1.size) (npg s.1.size - npg size) s1 with
    | none => none
    | some s2 => match tailZ s2 s.1.size size with
      | none => none
      | some s3 => some ({ s3.1 with size := size }, s3.2)
/-- Bytes are written over a file's pages. -/
def over (b : Str) (at_ : Nat) (x : Str) : Str := laidAt b at_ (x.take (b.length - at_))
def layP (o : Opn) : Nat → Ca → Nat → Str → Option Ca
  | 0, C, _, _ => some C
  | f + 1, C, at_, b =>
    if b = [] then some C else
    match C.w (o.slot (at_ / 512)) (over (C.rd (o.slot (at_ / 512))) (at_ % 512) b) with
    | none => none
    | some C1 => layP o f C1 (at_ + min (512 - at_ % 512) b.length) (b.drop (min (512 - at_ % 512) b.length))
/-- All that was not committed is forgotten. -/
def Ca.aborted (C : Ca) : Ca := ⟨C.G, C.most, []⟩
/-- Something is done, or all is forgotten. -/
def tried (C : Ca) (r : Option Ca) : Nat × Ca := match r with | none => (7, C.aborted) | some C' => (0, C')
def Ca.write (C : Ca) (inodes : Nat) (i : Int) (at_ : Nat) (b : Str) : Nat × Ca :=
  match C.load inodes i with
  | .error e => (e, C)
  | .ok o =>
    if 70656 < at_ ∨ 70656 - at_ < b.length then (6, C)
    else if b = [] then (0, C)
    else tried C (match resizeP inodes (o, C) (max o.size (at_ + b.length)) with
      | none => none
      | some (o1, C1) => match layP o1 b.length C1 at_ b with
        | none => none
        | some C2 => C2.save o1)
def Ca.resize (C : Ca) (inodes : Nat) (i : Int) (size : Nat) : Nat × Ca :=
  match C.load inodes i with
  | .error e => (e, C)
  | .ok o =>
    if 70656 < size then (6, C)
    else if size = o.size then (0, C)
    else tried C (match resizeP inodes (o, C) size with | none => none | some (o1, C1) => C1.save o1)
end Go.Proofs.YtakmplpfjcddiaaGreatDoor

namespace Go.Proofs.YtakmplpfjcddiaaGreatDoor
open Go.RowKit Go.Shelf Pa
attribute [local go_sem] bs_toList bs_size
theorem newN_more {s l : List Nat} {n : Nat} (h1 : n ∉ s) (h2 : n ∈ l) : s.length + 1 ≤ (newN s l).length := by
  induction l generalizing s with
  | nil => cases h2
  | cons x l ih =>
    show s.length + 1 ≤ (newN (if x ∈ s then s else s ++ [x]) l).length
    by_cases hx : x = n
    · subst hx
      rw [if_neg h1]
      have := newN_le (s := s ++ [x]) (l := l)
      simpa using this
    · have h3 : n ∈ l := by
        rcases List.mem_cons.1 h2 with e | e
        · exact absurd e.symm hx
        · exact e
      split
      · exact ih h1 h3
      · have := ih (s := s ++ [x]) (by simp [h1]; exact fun e => hx e.symm) h3
        rw [List.length_append, List.length_singleton] at this
        omega
theorem Ca.fits_may {C : Ca} {l : List Nat} (h : C.fits l = true) {n : Nat} (hn : n ∈ l) : C.may n = true := by
  unfold Ca.may
  cases hp : phas C.dirty n with
  | true => rfl
  | false =>
    simp only [Bool.false_or, decide_eq_true_eq]
    unfold Ca.fits at h
    simp only [decide_eq_true_eq] at h
    have h1 : n ∉ srtN C.dirty := fun e => by rw [phas_iff.2 (srtN_mem.1 e)] at hp; cases hp
    have := newN_more h1 hn
    rw [srtN_length] at this
    unfold Ca.room; omega
theorem Ca.fits_may2 {C : Ca} {a n : Nat} {x : Str} (h : C.fits [a, n] = true) : (C.set a x).may n = true := by
  unfold Ca.may
  show (phas (pset C.dirty a x) n || decide (0 < (C.set a x).room)) = true
  rw [phas_put]
  cases hp : phas C.dirty n with
  | true => simp
  | false =>
    by_cases hna : n = a
    · simp [hna]
    · simp only [hna, decide_false, Bool.false_or, decide_eq_true_eq, Bool.or_false]
      unfold Ca.fits at h
      simp only [decide_eq_true_eq] at h
      have h1 : n ∉ srtN C.dirty := fun e => by rw [phas_iff.2 (srtN_mem.1 e)] at hp; cases hp
      unfold Ca.room
      show 0 < (C.G.cap : Int) - ((pset C.dirty a x).length : Int)
      rw [pset_length]
      have h2 : newN (srtN C.dirty) [a, n] = newN (if a ∈ srtN C.dirty then srtN C.dirty else srtN C.dirty ++ [a]) [n] := rfl
      rw [h2] at h
      by_cases ha : phas C.dirty a = true
      · rw [if_pos ha]
        rw [if_pos (srtN_mem.2 (phas_iff.1 ha))] at h
        have := newN_more h1 (l := [n]) (by simp)
        rw [srtN_length] at this
        omega
      · have ha2 : a ∉ srtN C.dirty := fun e => ha (phas_iff.2 (srtN_mem.1 e))
        rw [if_neg ha]
        rw [if_neg ha2] at h
        have := newN_more (s := srtN C.dirty ++ [a]) (n := n) (l := [n]) (by simp [h1, hna]) (by simp)
        rw [List.length_append, srtN_length, List.length_singleton] at this
        omega
/-- What Inode and Page hand back: the number, the error, the cache. -/
def Ca.inodeR (C : Ca) (ino : Nat) : Nat × Nat × Ca := match C.inode ino with | none => (0, 7, C) | some (i, C') => (i, 0, C')
def Ca.pageR (C : Ca) : Nat × Nat × Ca := match C.page with | none => (0, 7, C) | some (i, C') => (i, 0, C')
theorem inodeR_none {C : Ca} {ino : Nat} (h : firstB (C.rd 1) ino = none) : C.inodeR ino = (0, 7, C) := by unfold Ca.inodeR Ca.inode; rw [h]
theorem inodeR_full {C : Ca} {ino i : Nat} (h : firstB (C.rd 1) ino = some i) (hf : C.fits [1] = false) : C.inodeR ino = (0, 7, C) := by unfold Ca.inodeR Ca.inode; rw [h]; simp only; rw [if_neg (by rw [hf]; decide)]
theorem inodeR_some {C : Ca} {ino i : Nat} (h : firstB (C.rd 1) ino = some i) (hf : C.fits [1] = true) : C.inodeR ino = (i, 0, C.set 1 (turnB (C.rd 1) i)) := by unfold Ca.inodeR Ca.inode; rw [h]; simp only; rw [if_pos hf]
theorem pageR_none {C : Ca} (h : firstB (C.rd 2) C.G.pages = none) : C.pageR = (0, 7, C) := by unfold Ca.pageR Ca.page; rw [h]
theorem pageR_full {C : Ca} {i : Nat} (h : firstB (C.rd 2) C.G.pages = some i) (hf : C.fits [2, i] = false) : C.pageR = (0, 7, C) := by unfold Ca.pageR Ca.page; rw [h]; simp only; rw [if_neg (by rw [hf]; decide)]
theorem pageR_some {C : Ca} {i : Nat} (h : firstB (C.rd 2) C.G.pages = some i) (hf : C.fits [2, i] = true) : C.pageR = (i, 0, (C.set 2 (turnB (C.rd 2) i)).set i pageZ) := by unfold Ca.pageR Ca.page; rw [h]; simp only; rw [if_pos hf]
theorem HRd.held {w w' : World} {F : List (Nat × Obj)} {c : Nat} {C : Ca} {R : Reg} {x : Str} {v : Value} (h : HRd w F c C R x v w') : Step w F c C R w' := by
  obtain ⟨R', _, h2, h3, h4, _⟩ := h
  exact ⟨R', h2, h3, h4⟩
theorem Step.below {w w' w2 : World} {F : List (Nat × Obj)} {c : Nat} {C : Ca} {R : Reg} (h : Step w F c C R w') (hb : Below w'.heap.size w' w2) : Step w F c C R w2 := by
  obtain ⟨R', h2, h3, h4⟩ := h
  exact ⟨R', h2.below hb, h3, h4.step hb⟩
theorem Step.then {w w' w2 : World} {F : List (Nat × Obj)} {c : Nat} {C C2 : Ca} {R : Reg} (h : Step w F c C R w') (hk : ∀ R', Held w' F c C R' → Step w' F c C2 R' w2) : Step w F c C2 R w2 := by
  obtain ⟨R', h2, h3, h4⟩ := h
  exact Step.trans h3 h4 (hk R' h2)
theorem nats_new {w : World} {l : List Nat} {cs : Array Value} (h : cs.toList = l.map fun n => Value.int .i64 (n : Nat)) : NatsI (w.alloc (.cells cs 3)) (fun _ => True) (.slice (some ⟨w.heap.size, 0, none⟩) l.length l.length) l := by
  refine ⟨_, _, rfl, Nat.le_refl _, fun _ => ⟨_, _, rfl, ⟨by simp, trivial⟩, fun i x hx => ?_⟩⟩
  rw [Nat.zero_add, cell_of_heap (heap_alloc_new w _), ← Array.getElem?_toList, h, List.getElem?_map, hx]; rfl
set_option maxRecDepth 100000 in
set_option maxHeartbeats 2000000 in
theorem inode_any (m c ino : Nat) (C : Ca) (R : Reg) (F : List (Nat × Obj)) (w : World) (h : Held w F c C R) (hm : (m, mapO c ino) ∈ F) (hp : 1 < C.G.pages) (hi : ino ≤ 512) :
    Calls Tryz.prog 178 #[.pointer (some ⟨m, 0, none⟩)] w fun e w' => e = .returned (.tuple #[.int .i64 (C.inodeR ino).1, .int .i64 (C.inodeR ino).2.1]) ∧ Step w F c (C.inodeR ino).2.2 R w' := by
  have hlen := h.at_.rdlen hp
  have hrd := mread_any 1 m c ino C R F w h hm hp
  have hcnt : cntB C ino 1 = ino := rfl
  rw [hcnt] at hrd
  have HLen := Lib.hid hlen
  have HRd1 := Lib.hid hrd
  clear hrd h hlen hcnt
  go_enter Tryz.func178, Tryz.ntmps178
  go_wp2_with fail
  refine HRd1.out.mono ?_
  rintro e w2 ⟨v, rfl, hr⟩
  have hfi := firstb_any ino v (C.rd 1) w2 (hr.bytes (by have := HLen.out; omega)) (by have := HLen.out; omega) (by have := HLen.out; omega)
  obtain ⟨A, cv, rfl⟩ : ∃ A cv, v = .slice A (C.rd 1).length cv := by obtain ⟨_, k1, _⟩ := id hr; exact ownsRow_slice k1
  have HFi := Lib.hid hfi
  have HR := Lib.hid hr.held
  clear hfi hr
  go_wp2_with fail
  refine HFi.out.mono ?_
  rintro e w3 ⟨rfl, hb3⟩
  have hs3 := HR.out.below hb3
  cases hfb : firstB (C.rd 1) ino with
  | none =>
    have hfI : firstI (C.rd 1) ino = -1 := by unfold firstI; rw [hfb]
    rw [hfI]
    have HE := Lib.hid (inodeR_none hfb)
    have HS := Lib.hid hs3
    clear hs3 hb3 hfI hfb
    go_wp2_with fail
    go_ret2
    exact ⟨by rw [HE.out]; rfl, by rw [HE.out]; exact HS.out⟩
  | some i =>
    have hfI : firstI (C.rd 1) ino = (i : Int) := by unfold firstI; rw [hfb]
    have hil := (firstB_some hfb).1
    rw [hfI]
    have h0 : decide ((i : Int) < 0) = false := by simp
    obtain ⟨R3, g1, g2, g3⟩ := id hs3
    have hba : Below w3.heap.size w3 (w3.alloc (.cells #[.int .i64 1] 3)) := (Below.refl _ _).alloc (Nat.le_refl _) _
    have hft := fits_any m c ino _ [1] C R3 F _ (g1.below hba) hm (nats_new (w := w3) (l := [1]) (cs := #[.int .i64 1]) rfl) (by decide)
    have HFt := Lib.hid hft
    have HG := Lib.hid g1
    have HS := Lib.hid hs3
    have HBa := Lib.hid hba
    clear hft g1 hs3 hb3 hba
    go_wp2_with fail
    refine HFt.out.mono ?_
    rintro e w4 ⟨rfl, hb4⟩
    have hb34 : Below w3.heap.size w3 w4 := HBa.out.trans (hb4.mono HBa.out.size)
    cases hff : C.fits [1] with
    | false =>
      have HE := Lib.hid (inodeR_full hfb hff)
      have HS4 := Lib.hid (HS.out.below hb34)
      clear hb34 hb4 hfb hfI hff
      go_wp2_with fail
      go_ret2
      exact ⟨by rw [HE.out]; rfl, by rw [HE.out]; exact HS4.out⟩
    | true =>
      have HE := Lib.hid (inodeR_some hfb hff)
      have htu := turn_any 1 i m c ino C R3 F w4 (HG.out.below hb34) hm hp (by omega)
      rw [if_pos (Ca.fits_may hff (by simp))] at htu
      have HTu := Lib.hid htu
      have HB34 := Lib.hid hb34
      clear htu hb34 hb4 hfb hfI hff
      go_wp2_with fail
      refine HTu.out.mono ?_
      rintro e w5 ⟨rfl, hs5⟩
      have hfin := Step.trans g2 g3 (Step.trans (Reg.To.refl R3 w3.heap.size) (Off.of_below HB34.out R3.m) hs5)
      have HFin := Lib.hid hfin
      clear hfin hs5
      go_wp2_with fail
      go_ret2
      exact ⟨by rw [HE.out]; rfl, by rw [HE.out]; exact HFin.out⟩
set_option maxRecDepth 100000 in
set_option maxHeartbeats 2000000 in
theorem page_any (m c ino : Nat) (C : Ca) (R : Reg) (F : List (Nat × Obj)) (w : World) (h : Held w F c C R) (hm : (m, mapO c ino) ∈ F) (hp : 2 < C.G.pages) :
    Calls Tryz.prog 251 #[.pointer (some ⟨m, 0, none⟩)] w fun e w' => e = .returned (.tuple #[.int .i64 (C.pageR).1, .int .i64 (C.pageR).2.1]) ∧ Step w F c (C.pageR).2.2 R w' := by
  have hlen := h.at_.rdlen hp
  have hpgs := h.at_.pages
  have hrd := mread_any 2 m c ino C R F w h hm hp
  have hcnt : cntB C ino 2 = C.G.pages := rfl
  rw [hcnt] at hrd
  have HLen := Lib.hid hlen
  have HRd1 := Lib.hid hrd
  clear hrd h hlen hcnt
  go_enter Tryz.func251, Tryz.ntmps251
  go_wp2_with fail
  refine HRd1.out.mono ?_
  rintro e w2 ⟨v, rfl, hr⟩
  have hfi := firstb_any C.G.pages v (C.rd 2) w2 (hr.bytes (by have := HLen.out; omega)) (by have := HLen.out; omega) (by have := HLen.out; omega)
  obtain ⟨A, cv, rfl⟩ : ∃ A cv, v = .slice A (C.rd 2).length cv := by obtain ⟨_, k1, _⟩ := id hr; exact ownsRow_slice k1
  have HFi := Lib.hid hfi
  have HR := Lib.hid hr.held
  clear hfi hr
  go_wp2_with fail
  refine HFi.out.mono ?_
  rintro e w3 ⟨rfl, hb3⟩
  have hs3 := HR.out.below hb3
  cases hfb : firstB (C.rd 2) C.G.pages with
  | none =>
    have hfI : firstI (C.rd 2) C.G.pages = -1 := by unfold firstI; rw [hfb]
    rw [hfI]
    have HE := Lib.hid (pageR_none hfb)
    have HS := Lib.hid hs3
    clear hs3 hb3 hfI hfb
    go_wp2_with fail
    go_ret2
    exact ⟨by rw [HE.out]; rfl, by rw [HE.out]; exact HS.out⟩
  | some i =>
    have hfI : firstI (C.rd 2) C.G.pages = (i : Int) := by unfold firstI; rw [hfb]
    have hil := (firstB_some hfb).1
    rw [hfI]
    have h0 : decide ((i : Int) < 0) = false := by simp
    obtain ⟨R3, g1, g2, g3⟩ := id hs3
    have hba : Below w3.heap.size w3 (w3.alloc (.cells #[.int .i64 2, .int .i64 i] 3)) := (Below.refl _ _).alloc (Nat.le_refl _) _
    have hft := fits_any m c ino _ [2, i] C R3 F _ (g1.below hba) hm (nats_new (w := w3) (l := [2, i]) (cs := #[.int .i64 2, .int .i64 i]) rfl) (show 2 ≤ 1000 by decide)
    have HFt := Lib.hid hft
    have HG := Lib.hid g1
    have HS := Lib.hid hs3
    have HBa := Lib.hid hba
    clear hft g1 hs3 hb3 hba
    go_wp2_with fail
    refine HFt.out.mono ?_
    rintro e w4 ⟨rfl, hb4⟩
    have hb34 : Below w3.heap.size w3 w4 := HBa.out.trans (hb4.mono HBa.out.size)
    cases hff : C.fits [2, i] with
    | false =>
      have HE := Lib.hid (pageR_full hfb hff)
      have HS4 := Lib.hid (HS.out.below hb34)
      clear hb34 hb4 hfb hfI hff
      go_wp2_with fail
      go_ret2
      exact ⟨by rw [HE.out]; rfl, by rw [HE.out]; exact HS4.out⟩
    | true =>
      have HE := Lib.hid (pageR_some hfb hff)
      have htu := turn_any 2 i m c ino C R3 F w4 (HG.out.below hb34) hm hp (by omega)
      rw [if_pos (Ca.fits_may hff (by simp))] at htu
      have HTu := Lib.hid htu
      have HMay2 := Lib.hid (Ca.fits_may2 (x := turnB (C.rd 2) i) hff)
      have HB34 := Lib.hid hb34
      clear htu hb34 hb4 hfb hfI hff
      go_wp2_with fail
      refine HTu.out.mono ?_
      rintro e w5 ⟨rfl, hs5⟩
      obtain ⟨R5, g5, t5, o5⟩ := hs5
      have hms : ∀ w1, (Instr.makeSlice 37 (.int .i64 512) (.int .i64 512)).run Tryz.prog w1 = .ok (.slice (some ⟨w1.heap.size, 0, none⟩) 512 512) (w1.alloc (.cells (madeCells #[.int .u8 0] 512) 5)) := run_make_row' (P := Tryz.prog) 37 5 (.int .u8 0) 1 Tryz.underlying37 info_u8 rfl .i64 .i64 512 (by omega) (by omega)
      have k0 : w5.cell? ⟨m, 0, none⟩ = some (.pointer (some ⟨c, 0, none⟩)) := cell_of_heap (g5.fix _ hm).1 0
      have hmlt : m < w5.heap.size := g5.lt m (.inr (g5.fix _ hm).2)
      have hS : ∀ W, Below w5.heap.size w5 W → W.cell? ⟨m, 0, none⟩ = some (.pointer (some ⟨c, 0, none⟩)) := fun W hb => (hb.cell (p := ⟨m, 0, none⟩) hmlt).trans k0
      have hq : ∀ W, Below w5.heap.size w5 W → Below (w5.heap.size + 1) (w5.alloc (.cells (madeCells #[.int .u8 0] 512) 5)) W → Calls Tryz.prog 176 #[.pointer (some ⟨c, 0, none⟩), .int .i64 i, .slice (some ⟨w5.heap.size, 0, none⟩) 512 512] W fun e w9 => ∃ z, e = .returned (.int .i64 z) ∧ w9.cell? ⟨m, 0, none⟩ = some (.pointer (some ⟨c, 0, none⟩)) ∧ Step w F c ((C.set 2 (turnB (C.rd 2) i)).set i pageZ) R w9 := fun W hb hb1 => by
        have hz := zSec_new w5 (fun _ => True) 512 trivial (by decide)
        have hz2 : BytesAt W W.heap.size (.slice (some ⟨w5.heap.size, 0, none⟩) 512 512) pageZ := ((hz.at.more (B' := w5.heap.size + 1) (by simp)).below hb1).more (by have := hb1.size; rw [World.size_alloc] at this; exact this)
        have hwr := hwrite_any i c _ R5 F _ pageZ W (g5.below hb) hil hz2 pageZ_length
        rw [if_pos HMay2.out, if_pos HMay2.out] at hwr
        refine hwr.mono ?_
        rintro e w9 ⟨rfl, hs9⟩
        obtain ⟨R9, g9, t9, o9⟩ := id hs9
        exact ⟨_, rfl, cell_of_heap (g9.fix _ hm).1 0, Step.trans g2 g3 (Step.trans (Reg.To.refl R3 w3.heap.size) (Off.of_below HB34.out R3.m) (Step.trans t5 o5 (Step.trans (Reg.To.refl R5 w5.heap.size) (Off.of_below hb R5.m) hs9)))⟩
      have HQ := Lib.hid hq
      have HS := Lib.hid hS
      have hb0 := Below.refl w5.heap.size w5
      have hb1 := Below.refl (w5.heap.size + 1) (w5.alloc (.cells (madeCells #[.int .u8 0] 512) 5))
      have hb2 : Below (w5.heap.size + 1) (w5.alloc (.cells (madeCells #[.int .u8 0] 512) 5)) (w5.drew.alloc (.cells (madeCells #[.int .u8 0] 512) 5)) := hb1.drew
      clear hq hS g5 t5 o5 k0
      go_wp2_with fail
      go_region_held3 (fun w' => w'.cell? ⟨m, 0, none⟩ = some (.pointer (some ⟨c, 0, none⟩)))
        ((first | assumption | (refine HS.out _ ?_; with_reducible (repeat' first | assumption | refine Below.drew ?_ | refine Below.alloc ?_ ?_ _ | exact Below.size (by assumption)))))
        ((go_at_call 176; go_split_ands; refine (HQ.out _ (by with_reducible (repeat' first | assumption | refine Below.drew ?_ | refine Below.alloc ?_ ?_ _ | exact Below.size (by assumption))) (by with_reducible (repeat' first | assumption | refine Below.drew ?_))).mono ?_; rintro e w9 ⟨z9, rfl, hc9, hs9⟩))
      all_goals (have HS9 := Lib.hid hs9; clear hs9; go_wp2; go_ret2; exact ⟨by rw [HE.out]; rfl, by rw [HE.out]; exact HS9.out⟩)
end Go.Proofs.YtakmplpfjcddiaaGreatDoor

namespace Go.Proofs.YtakmplpfjcddiaaGreatDoor
open Go.RowKit Go.Shelf Pa
attribute [local go_sem] bs_toList bs_size
set_option maxRecDepth 100000 in
set_option maxHeartbeats 2000000 in
theorem give_any (page i least m c ino : Nat) (C : Ca) (R : Reg) (F : List (Nat × Obj)) (w : World) (h : Held w F c C R) (hm : (m, mapO c ino) ∈ F) (hp : page < C.G.pages) (hi : ino ≤ 512) :
    Calls Tryz.prog 266 #[.pointer (some ⟨m, 0, none⟩), .int .i64 page, .int .i64 i, .int .i64 least] w fun e w' => e = .returned (.int .i64 (C.give page (cntB C ino page) i least).1) ∧ Step w F c (C.give page (cntB C ino page) i least).2 R w' := by
  have hlen := h.at_.rdlen hp
  have hpgs := h.at_.pages
  have hrd := mread_any page m c ino C R F w h hm hp
  have hcn : cntB C ino page ≤ 4096 := by unfold cntB; split <;> omega
  have HLen := Lib.hid hlen
  have HRd1 := Lib.hid hrd
  clear hrd h hlen
  go_enter Tryz.func266, Tryz.ntmps266
  go_wp2_with fail
  refine HRd1.out.mono ?_
  rintro e w2 ⟨v, rfl, hr⟩
  obtain ⟨A, cv, rfl⟩ : ∃ A cv, v = .slice A (C.rd page).length cv := by obtain ⟨_, k1, _⟩ := id hr; exact ownsRow_slice k1
  have hba : Below w2.heap.size w2 (w2.alloc (.cells #[.slice A (C.rd page).length cv, .int .i64 (cntB C ino page)] 266)) := (Below.refl _ _).alloc (Nat.le_refl _) _
  have hby := (hr.bytes (by have := HLen.out; omega)).below hba
  have hs2 := hr.held
  have HS2 := Lib.hid hs2
  have HBa := Lib.hid hba
  clear hs2 hba hr
  by_cases hl : i < least
  · have hl' : decide ((i : Int) < (least : Int)) = true := by simp; omega
    have HE : Hid (C.give page (cntB C ino page) i least = (2, C)) := Lib.hid (by unfold Ca.give; rw [if_pos (.inl hl)])
    clear hby
    go_wp2_with fail
    go_ret
    exact ⟨by rw [HE.out]; rfl, by rw [HE.out]; exact HS2.out.below HBa.out⟩
  · have hl' : decide ((i : Int) < (least : Int)) = false := by simp; omega
    by_cases hcn2 : cntB C ino page ≤ i
    · have hcn' : decide ((cntB C ino page : Int) ≤ (i : Int)) = true := by simp; omega
      have HE : Hid (C.give page (cntB C ino page) i least = (2, C)) := Lib.hid (by unfold Ca.give; rw [if_pos (.inr hcn2)])
      clear hby
      go_wp2_with fail
      go_ret
      exact ⟨by rw [HE.out]; rfl, by rw [HE.out]; exact HS2.out.below HBa.out⟩
    · have hcn' : decide ((cntB C ino page : Int) ≤ (i : Int)) = false := by simp; omega
      have hno : ¬ (i < least ∨ cntB C ino page ≤ i) := by omega
      have hat := at_any i (cntB C ino page) _ (C.rd page) _ (hby.more (by simp)) (by have := HLen.out; omega)
      have HAt := Lib.hid hat
      clear hat hby
      go_wp2_with fail
      refine HAt.out.mono ?_
      rintro e w3 ⟨rfl, hb3⟩
      rw [World.size_alloc] at hb3
      have hb23 : Below w2.heap.size w2 w3 := HBa.out.trans (hb3.mono (Nat.le_succ _))
      have hs3 := HS2.out.below hb23
      have HS3 := Lib.hid hs3
      clear hb3 hb23 hs3
      cases hbt : bitAt (C.rd page) i with
      | false =>
        have HE : Hid (C.give page (cntB C ino page) i least = (4, C)) := Lib.hid (by unfold Ca.give; rw [if_neg hno, if_pos hbt])
        clear hno hbt
        go_wp2_with fail
        go_ret
        exact ⟨by rw [HE.out]; rfl, by rw [HE.out]; exact HS3.out⟩
      | true =>
        obtain ⟨R3, g1, g2, g3⟩ := id HS3.out
        have hba3 : Below w3.heap.size w3 (w3.alloc (.cells #[.int .i64 page] 3)) := (Below.refl _ _).alloc (Nat.le_refl _) _
        have hft := fits_any m c ino _ [page] C R3 F _ (g1.below hba3) hm (nats_new (w := w3) (l := [page]) (cs := #[.int .i64 page]) rfl) (show 1 ≤ 1000 by decide)
        have HFt := Lib.hid hft
        have HG := Lib.hid g1
        have HBa3 := Lib.hid hba3
        clear hft g1 hba3
        go_wp2_with fail
        refine HFt.out.mono ?_
        rintro e w4 ⟨rfl, hb4⟩
        have hb34 : Below w3.heap.size w3 w4 := HBa3.out.trans (hb4.mono HBa3.out.size)
        cases hff : C.fits [page] with
        | false =>
          have HE : Hid (C.give page (cntB C ino page) i least = (7, C)) := Lib.hid (by unfold Ca.give; rw [if_neg hno, if_neg (by rw [hbt]; decide), if_pos hff])
          have HS4 := Lib.hid (HS3.out.below hb34)
          clear hno hbt hb34 hb4 hff
          go_wp2_with fail
          go_ret
          exact ⟨by rw [HE.out]; rfl, by rw [HE.out]; exact HS4.out⟩
        | true =>
          have HE : Hid (C.give page (cntB C ino page) i least = (0, C.set page (turnB (C.rd page) i))) := Lib.hid (by unfold Ca.give; rw [if_neg hno, if_neg (by rw [hbt]; decide), if_neg (by rw [hff]; decide)])
          have htu := turn_any page i m c ino C R3 F w4 (HG.out.below hb34) hm hp (by omega)
          rw [if_pos (Ca.fits_may hff (by simp))] at htu
          have HTu := Lib.hid htu
          have HB34 := Lib.hid hb34
          clear htu hb34 hb4 hff hno hbt
          go_wp2_with fail
          refine HTu.out.mono ?_
          rintro e w5 ⟨rfl, hs5⟩
          have hfin := Step.trans g2 g3 (Step.trans (Reg.To.refl R3 w3.heap.size) (Off.of_below HB34.out R3.m) hs5)
          have HFin := Lib.hid hfin
          clear hfin hs5
          go_wp2_with fail
          go_ret
          exact ⟨by rw [HE.out]; rfl, by rw [HE.out]; exact HFin.out⟩
theorem givePage_any (n m c ino : Nat) (C : Ca) (R : Reg) (F : List (Nat × Obj)) (w : World) (h : Held w F c C R) (hm : (m, mapO c ino) ∈ F) (hp : 2 < C.G.pages) (hi : ino ≤ 512) :
    Calls Tryz.prog 252 #[.pointer (some ⟨m, 0, none⟩), .int .i64 n] w fun e w' => e = .returned (.int .i64 (C.give 2 C.G.pages n (alFirst ino)).1) ∧ Step w F c (C.give 2 C.G.pages n (alFirst ino)).2 R w' := by
  have hf := first_any m c ino w (h.fix _ hm).1 hi
  have hg := give_any 2 n (alFirst ino) m c ino C R F w h hm hp hi
  have HF := Lib.hid hf
  have HG := Lib.hid hg
  clear hf hg h
  go_enter Tryz.func252, Tryz.ntmps252
  go_wp2_with fail
  refine HF.out.mono ?_
  rintro e w2 ⟨rfl, rfl⟩
  go_wp2_with fail
  refine HG.out.mono ?_
  rintro e w3 ⟨rfl, hs3⟩
  have HS3 := Lib.hid hs3
  clear hs3
  go_wp2_with fail
  go_ret
  exact ⟨rfl, HS3.out⟩
end Go.Proofs.YtakmplpfjcddiaaGreatDoor

namespace Go.Proofs.YtakmplpfjcddiaaGreatDoor
open Go.RowKit Go.Shelf Pa
theorem flat4_length (l : List Nat) : ((l.map (putN 4)).flatten).length = 4 * l.length := by
  induction l with
  | nil => rfl
  | cons n l ih => rw [List.map_cons, List.flatten_cons, List.length_append, ih, putN_length, List.length_cons]; omega
theorem flat4 (l : List Nat) (k : Nat) (h : k < l.length) : (((l.map (putN 4)).flatten).drop (4 * k)).take 4 = putN 4 (l.getD k 0) := by
  induction l generalizing k with
  | nil => simp at h
  | cons n l ih =>
    rw [List.map_cons, List.flatten_cons]
    cases k with
    | zero =>
      rw [Nat.mul_zero, List.drop_zero, List.take_append_of_le_length (by rw [putN_length]; exact Nat.le_refl _), List.take_of_length_le (by rw [putN_length]; exact Nat.le_refl _)]
      rfl
    | succ k =>
      rw [show 4 * (k + 1) = (putN 4 n).length + 4 * k from by rw [putN_length]; omega, List.drop_length_add_append, ih k (by simpa using h)]
      rfl
theorem numAt_mid (a b c : Str) : numAt (a ++ b ++ c) a.length b.length = getN b := by
  unfold numAt
  rw [List.append_assoc, List.drop_left, List.take_left]
theorem mod_of_lt32 {n : Nat} (h : n < 4294967296) : n % 256 ^ 4 = n := Nat.mod_eq_of_lt (by simpa using h)
theorem encI_length {o : Opn} (h : o.pages.length = 11) : (encI o).length = 64 := by
  unfold encI
  simp only [List.length_append, putN_length, List.length_cons, List.length_nil, flat4_length, h, List.length_replicate]
theorem encM_length (l : List Nat) : (encM l).length = 4 * l.length := flat4_length l
/-- What goes into an inode's bytes. -/
structure Opn.Fit (o : Opn) : Prop where
  kind : o.kind < 256
  mode : o.mode < 65536
  links : o.links < 65536
  size : o.size < 4294967296
  pages : o.pages.length = 11
  pagesB : ∀ x ∈ o.pages, x < 4294967296
theorem getD_lt {l : List Nat} {B : Nat} (h : ∀ x ∈ l, x < B) (k : Nat) (hB : 0 < B) : l.getD k 0 < B := by
  rw [List.getD_eq_getElem?_getD]
  cases hk : l[k]? with
  | none => exact hB
  | some x => exact h x (List.mem_of_getElem? hk)
theorem range_getD {l : List Nat} {n : Nat} (h : l.length = n) : (List.range n).map (fun k => l.getD k 0) = l := by
  refine List.ext_getElem? fun i => ?_
  rw [List.getElem?_map]
  by_cases hi : i < n
  · rw [List.getElem?_range hi, Option.map_some, List.getD_eq_getElem?_getD, List.getElem?_eq_getElem (by omega)]; rfl
  · rw [List.getElem?_eq_none (by simpa using hi), List.getElem?_eq_none (by omega)]; rfl
theorem decI_encI {o : Opn} (h : o.Fit) : decI (encI o) o.i = { o with more := List.replicate 128 0 } := by
  have hk : ((encI o).getD 0 0).toNat = o.kind := by
    show (UInt8.ofNat o.kind).toNat = o.kind
    rw [UInt8.toNat_ofNat']; exact Nat.mod_eq_of_lt h.kind
  have hm : numAt (encI o) 1 2 = o.mode := by
    have := numAt_mid [UInt8.ofNat o.kind] (putN 2 o.mode) (putN 2 o.links ++ putN 4 o.size ++ (o.pages.map (putN 4)).flatten ++ List.replicate 11 0)
    rw [putN_length, getN_putN, Nat.mod_eq_of_lt (by simpa using h.mode)] at this
    rw [← this]; unfold encI; simp only [List.append_assoc]; rfl
  have hl : numAt (encI o) 3 2 = o.links := by
    have := numAt_mid ([UInt8.ofNat o.kind] ++ putN 2 o.mode) (putN 2 o.links) (putN 4 o.size ++ (o.pages.map (putN 4)).flatten ++ List.replicate 11 0)
    rw [putN_length, getN_putN, Nat.mod_eq_of_lt (by simpa using h.links)] at this
    rw [← this]; unfold encI; simp only [List.append_assoc]; rfl
  have hs : numAt (encI o) 5 4 = o.size := by
    have := numAt_mid ([UInt8.ofNat o.kind] ++ putN 2 o.mode ++ putN 2 o.links) (putN 4 o.size) ((o.pages.map (putN 4)).flatten ++ List.replicate 11 0)
    rw [putN_length, getN_putN, mod_of_lt32 h.size] at this
    rw [← this]; unfold encI; simp only [List.append_assoc]; rfl
  have hp : (List.range 11).map (fun k => numAt (encI o) (9 + 4 * k) 4) = o.pages := by
    rw [← range_getD h.pages]
    refine List.map_congr_left fun k hk => ?_
    have hk : k < 11 := by simpa using hk
    unfold numAt encI
    rw [List.append_assoc, show 9 + 4 * k = ([UInt8.ofNat o.kind] ++ putN 2 o.mode ++ putN 2 o.links ++ putN 4 o.size).length + 4 * k from by simp only [List.length_append, putN_length, List.length_cons, List.length_nil], List.drop_length_add_append,
      List.drop_append_of_le_length (by rw [flat4_length, h.pages]; omega), List.take_append_of_le_length (by rw [List.length_drop, flat4_length, h.pages]; omega), flat4 _ _ (by rw [h.pages]; exact hk), getN_putN,
      mod_of_lt32 (getD_lt h.pagesB k (by decide))]
  unfold decI
  rw [hk, hm, hl, hs, hp]
theorem decM_encM {l : List Nat} (h : l.length = 128) (hB : ∀ x ∈ l, x < 4294967296) : decM (encM l) = l := by
  unfold decM
  rw [← range_getD h]
  refine List.map_congr_left fun k hk => ?_
  have hk : k < 128 := by simpa using hk
  unfold numAt encM
  rw [range_getD h, flat4 _ _ (by rw [h]; exact hk), getN_putN, mod_of_lt32 (getD_lt hB k (by decide))]
theorem laidAt_length {b x : Str} {a : Nat} (h : a + x.length ≤ b.length) : (laidAt b a x).length = b.length := by
  unfold laidAt
  simp only [List.length_append, List.length_take, List.length_drop]
  omega
theorem laidAt_on {b x : Str} {a : Nat} (h : a + x.length ≤ b.length) : ((laidAt b a x).drop a).take x.length = x := by
  unfold laidAt
  have h1 : (b.take a).length = a := by rw [List.length_take]; omega
  rw [List.append_assoc]
  conv => lhs; rw [show List.drop a = List.drop (b.take a).length from by rw [h1]]
  rw [List.drop_left, List.take_left]
theorem laidAt_getElem? (b x : Str) (a j : Nat) (h : a + x.length ≤ b.length) : (laidAt b a x)[j]? = if a ≤ j ∧ j < a + x.length then x[j - a]? else b[j]? := by
  unfold laidAt
  have h1 : (b.take a).length = a := by rw [List.length_take]; omega
  rw [List.append_assoc]
  by_cases hj : j < a
  · rw [List.getElem?_append_left (by omega), if_neg (by omega), List.getElem?_take_of_lt hj]
  · rw [List.getElem?_append_right (by omega), h1]
    by_cases hj2 : j < a + x.length
    · rw [List.getElem?_append_left (by omega), if_pos (by omega)]
    · rw [List.getElem?_append_right (by omega), if_neg (by omega), List.getElem?_drop]
      congr 1; omega
theorem laidAt_off {b x : Str} {a d n : Nat} (h : a + x.length ≤ b.length) (hd : d + n ≤ a ∨ a + x.length ≤ d) : ((laidAt b a x).drop d).take n = (b.drop d).take n := by
  refine List.ext_getElem? fun j => ?_
  rw [List.getElem?_take, List.getElem?_take]
  split
  · rw [List.getElem?_drop, List.getElem?_drop, laidAt_getElem? _ _ _ _ h, if_neg (by omega)]
  · rfl
/-- A cache in which every page has room. -/
structure Ca.Rm (C : Ca) : Prop where
  ok : C.Ok
  nd : (C.dirty.map (·.1)).Nodup
  cap : C.G.pages ≤ C.G.cap
theorem Ca.Rm.may {C : Ca} (h : C.Rm) {n : Nat} (hn : n < C.G.pages) : C.may n = true := by
  unfold Ca.may
  cases hp : phas C.dirty n with
  | true => rfl
  | false =>
    simp only [Bool.false_or, decide_eq_true_eq]
    unfold Ca.room
    have h1 : (C.dirty.map (·.1) ++ [n]).Nodup := by
      rw [List.nodup_append]
      refine ⟨h.nd, by simp, fun a ha b hb e => ?_⟩
      have hb : b = n := by simpa using hb
      rw [hb] at e
      rw [e] at ha
      rw [phas_iff.2 ha] at hp
      cases hp
    have h2 := nodup_bound h1 (n := C.G.pages) (fun x hx => by
      rcases List.mem_append.1 hx with hx | hx
      · obtain ⟨p, hp, rfl⟩ := List.mem_map.1 hx
        exact (h.ok.dirty p hp).1
      · have : x = n := by simpa using hx
        omega)
    rw [List.length_append, List.length_map, List.length_singleton] at h2
    have := h.cap
    omega
theorem Ca.Rm.set {C : Ca} (h : C.Rm) {n : Nat} {x : Str} (hn : n < C.G.pages) (hx : x.length = 512) : (C.set n x).Rm :=
  ⟨h.ok.set hn hx (h.may hn), pset_nodup h.nd, h.cap⟩
theorem Ca.Rm.w {C : Ca} (h : C.Rm) {n : Nat} (x : Str) (hn : n < C.G.pages) : C.w n x = some (C.set n x) := by
  unfold Ca.w; rw [if_pos (h.may hn)]
theorem Ca.Rm.fits {C : Ca} (h : C.Rm) {l : List Nat} (hl : ∀ n ∈ l, n < C.G.pages) : C.fits l = true := Ca.fits_of h.ok h.nd h.cap hl
theorem Ca.Rm.aborted {C : Ca} (h : C.Rm) : C.aborted.Rm := ⟨⟨h.ok.most, (fun p hp => by cases hp), Nat.zero_le _⟩, List.nodup_nil, h.cap⟩
end Go.Proofs.YtakmplpfjcddiaaGreatDoor

namespace Go.Proofs.YtakmplpfjcddiaaGreatDoor
open Go.RowKit Go.Shelf Pa
attribute [local go_sem] bs_toList bs_size
theorem i64_or_nat (a b : Nat) (ha : a < 9223372036854775808) (hb : b < 9223372036854775808) : bits .or .i64 (a : Int) (b : Int) = ((a ||| b : Nat) : Int) := by
  have hx : a ||| b < 2 ^ 63 := Nat.or_lt_two_pow ha hb
  show IntKind.i64.wrap ((BitVec.ofInt 64 (a : Int) ||| BitVec.ofInt 64 (b : Int)).toNat : Int) = _
  rw [BitVec.toNat_or, ofInt_u64 a (by omega), ofInt_u64 b (by omega)]
  exact IntWalk.i64_in _ (by omega)
theorem shl_or (n : Nat) (x : UInt8) (h : n < 16777216) : bits .or .i64 (wrap64 ((n : Int) * 256)) (wrap64 ((x.toNat : Nat) : Int)) = ((n * 256 + x.toNat : Nat) : Int) := by
  have hx := UInt8.toNat_lt x
  have e1 : wrap64 ((n : Int) * 256) = ((n * 256 : Nat) : Int) := by unfold wrap64; omega
  have e2 : wrap64 ((x.toNat : Nat) : Int) = ((x.toNat : Nat) : Int) := by unfold wrap64; omega
  rw [e1, e2, i64_or_nat _ _ (by omega) (by omega), nat_join 8 (n * 256) x.toNat (by show n * 256 % 256 = 0; omega) hx]
theorem getN_snoc (b : Str) (x : UInt8) : getN (b ++ [x]) = getN b * 256 + x.toNat := by unfold getN; rw [List.foldl_append]; rfl
set_option maxHeartbeats 1000000 in
theorem get_any (x : Str) (v : Value) (w : World) (h : BytesAt w w.heap.size v x) (hl : x.length ≤ 4) :
    Calls Tryz.prog 188 #[v] w fun e w' => e = .returned (.int .i64 (getN x)) ∧ w = w' := by
  obtain ⟨A, c, rfl, ⟨hc, _⟩, hf⟩ := h
  have HF := Lib.hid hf
  clear hf
  go_enter Tryz.func188, Tryz.ntmps188
  go_wp2_with fail
  go_loopg [3, 8] x.length (fun g s3 i wx => ∃ k : Nat, s3 = .int .i64 (getN (x.take k)) ∧ i = .int .i64 k ∧ g = x.length - k ∧ k ≤ x.length ∧ wx = w)
  case atStart => exact ⟨0, rfl, rfl, rfl, Nat.zero_le _, rfl⟩
  case round =>
    obtain ⟨k, rfl, rfl, rfl, hk, rfl⟩ := hrel
    by_cases hlt : k < x.length
    · have hlt' : decide ((k : Int) < (x.length : Int)) = true := by simp; omega
      obtain ⟨g, o, rfl, hg, hx⟩ := HF.out (by rintro rfl; simp at hlt)
      have hx1 := hx k _ (List.getElem?_eq_getElem hlt)
      have hy := take_succ_at x k _ (List.getElem?_eq_getElem hlt)
      generalize x[k] = y at hx1 hy
      have hg3 : getN (x.take k) < 16777216 := by
        have := getN_lt (x.take k)
        have h2 : (x.take k).length ≤ 3 := by rw [List.length_take]; omega
        exact Nat.lt_of_lt_of_le this (Nat.pow_le_pow_right (by decide) h2)
      have HY := Lib.hid hy
      have HG3 := Lib.hid hg3
      clear hx hy hg3
      go_wp2_with fail
      go_roundg (x.length - (k + 1))
      case measure => omega
      case rel => exact ⟨k + 1, by rw [HY.out, getN_snoc, shl_or _ _ HG3.out], by go_num, rfl, hlt, rfl⟩
    · have hlt' : decide ((k : Int) < (x.length : Int)) = false := by simp; omega
      obtain rfl : k = x.length := by omega
      go_wp2_with fail
      go_ret
      exact ⟨ret_int (by rw [List.take_length]), rfl⟩
/-- Block g holds S cells, of which the first are these bytes. -/
def Blk (w : World) (g S : Nat) (x : Str) : Prop := ∃ cs : Array Value, w.heap[g]? = some (.cells cs 5 (0, 0)) ∧ cs.size = S ∧ (x.length ≤ S ∧ S ≤ maxLen) ∧ ∀ (i : Nat) (y : UInt8), x[i]? = some y → cs[i]? = some (.int .u8 y.toNat)
theorem Blk.cell {w : World} {g S : Nat} {x : Str} (h : Blk w g S x) {i : Nat} {y : UInt8} (hi : x[i]? = some y) : w.cell? ⟨g, i, none⟩ = some (.int .u8 y.toNat) := by
  obtain ⟨cs, h1, _, _, h4⟩ := h
  rw [cell_of_heap h1]; exact h4 i y hi
theorem Blk.free {w : World} {g S : Nat} {x : Str} (h : Blk w g S x) (i : Nat) : w.frozen? ⟨g, i, none⟩ = false := by
  obtain ⟨cs, h1, _⟩ := h
  exact free_of_heap h1 i
theorem Blk.lt {w : World} {g S : Nat} {x : Str} (h : Blk w g S x) : g < w.heap.size := by
  obtain ⟨cs, h1, _⟩ := h
  exact (Array.getElem?_eq_some_iff.1 h1).1
theorem Blk.keep {w w' : World} {g S : Nat} {x : Str} (h : Blk w g S x) (hb : w'.heap[g]? = w.heap[g]?) : Blk w' g S x := by
  obtain ⟨cs, h1, h2⟩ := h
  exact ⟨cs, hb.trans h1, h2⟩
theorem Blk.below {w w' : World} {g S B : Nat} {x : Str} (h : Blk w g S x) (hb : Below B w w') (hg : g < B) : Blk w' g S x := h.keep (hb.block g hg)
theorem Blk.set {w : World} {g S : Nat} {x : Str} (h : Blk w g S x) (i : Nat) (y : UInt8) (hi : i < x.length) : Blk (w.setCell ⟨g, i, none⟩ (.int .u8 y.toNat)) g S (x.set i y) := by
  obtain ⟨cs, h1, h2, h3, h4⟩ := h
  refine ⟨_, heap_setCell_at w g i _ h1, by simpa using h2, by simpa using h3, fun j z hj => ?_⟩
  rw [List.getElem?_set] at hj
  by_cases e : i = j
  · subst e
    rw [if_pos rfl, if_pos hi] at hj
    cases hj
    rw [Array.getElem?_setIfInBounds_self_of_lt (by omega)]
  · rw [if_neg e] at hj
    rw [Array.getElem?_setIfInBounds_ne e]; exact h4 j z hj
theorem laidAt_nil (x : Str) (o : Nat) : laidAt x o [] = x := by unfold laidAt; simp
theorem laidAt_snoc (x l : Str) (o : Nat) (y : UInt8) (h : o + l.length < x.length) : laidAt x o (l ++ [y]) = (laidAt x o l).set (o + l.length) y := by
  refine List.ext_getElem? fun j => ?_
  rw [laidAt_getElem? _ _ _ _ (by rw [List.length_append, List.length_singleton]; omega), List.getElem?_set, laidAt_length (by omega), laidAt_getElem? _ _ _ _ (by omega)]
  rw [List.length_append, List.length_singleton]
  by_cases h1 : o + l.length = j
  · subst h1
    rw [if_pos ⟨by omega, by omega⟩, if_pos rfl, if_pos h, Nat.add_sub_cancel_left, List.getElem?_append_right (Nat.le_refl _), Nat.sub_self]; rfl
  · rw [if_neg h1]
    by_cases h2 : o ≤ j ∧ j < o + l.length
    · rw [if_pos ⟨h2.1, by omega⟩, if_pos h2, List.getElem?_append_left (by omega)]
    · rw [if_neg (by omega), if_neg h2]
theorem Blk.cells {w : World} {g S : Nat} {x : Str} (h : Blk w g S x) (o : Nat) (ys : Str) (ho : o + ys.length ≤ x.length) : Blk (w.setCells g o (ys.map fun y => Value.int .u8 y.toNat)) g S (laidAt x o ys) ∧ Off (fun k => k = g) w (w.setCells g o (ys.map fun y => Value.int .u8 y.toNat)) := by
  induction ys generalizing w x o with
  | nil => exact ⟨by rw [laidAt_nil]; exact h, Off.refl _ _⟩
  | cons y ys ih =>
    rw [List.length_cons] at ho
    have h1 := h.set o y (by omega)
    obtain ⟨h2, h3⟩ := ih (x := x.set o y) h1 (o + 1) (by rw [List.length_set]; omega)
    have e : laidAt (x.set o y) (o + 1) ys = laidAt x o (y :: ys) := by
      refine List.ext_getElem? fun j => ?_
      rw [laidAt_getElem? _ _ _ _ (by rw [List.length_set]; omega), laidAt_getElem? _ _ _ _ (by rw [List.length_cons]; omega), List.length_cons, List.getElem?_set]
      by_cases h1 : j = o
      · subst h1
        rw [if_neg (by omega), if_pos rfl, if_pos (by omega), if_pos (by omega), Nat.sub_self]; rfl
      · by_cases h2 : o + 1 ≤ j ∧ j < o + 1 + ys.length
        · rw [if_pos h2, if_pos (show o ≤ j ∧ j < o + (ys.length + 1) by omega), show j - o = j - (o + 1) + 1 from by omega, List.getElem?_cons_succ]
        · rw [if_neg h2, if_neg (fun e => h1 e.symm), if_neg (show ¬ (o ≤ j ∧ j < o + (ys.length + 1)) by omega)]
    rw [← e]
    exact ⟨h2, ((Off.refl (fun k => k = g) w).setCell (p := ⟨g, o, none⟩) (.inl rfl) _).then h3⟩
theorem OwnB.blk {w : World} {B : Nat} {v : Value} {x : Str} (h : OwnB w B v x) (hx : x ≠ []) : ∃ g c, v = .slice (some ⟨g, 0, none⟩) x.length c ∧ B ≤ g ∧ Blk w g c x ∧ x.length ≤ c := by
  obtain ⟨h1, h2⟩ := h
  rcases h2 with ⟨rfl, h0⟩ | ⟨g, cap, cur, rfl, hB, hg, hc, hm, hs, ht⟩
  · exact absurd (List.length_eq_zero_iff.1 h0) hx
  · refine ⟨g, cap, rfl, hB, ⟨cur, hg, by omega, ⟨hc, hm⟩, fun i y hy => ?_⟩, hc⟩
    have hi : i < x.length := (List.getElem?_eq_some_iff.1 hy).1
    rw [← Array.getElem?_toList, ← List.getElem?_take_of_lt (show i < x.length * 1 by omega), ht, List.getElem?_map, hy]; rfl
theorem Blk.own {w : World} {B g c : Nat} {x : Str} (h : Blk w g c x) (hB : B ≤ g) (hx : x ≠ []) : OwnB w B (.slice (some ⟨g, 0, none⟩) x.length c) x := by
  obtain ⟨cs, h1, h2, h3, h4⟩ := h
  have hp := List.length_pos_iff.2 hx
  refine ⟨by simp, .inr ⟨g, c, cs, rfl, hB, h1, h3.1, h3.2, by omega, ?_⟩⟩
  refine List.ext_getElem? fun i => ?_
  have hl : cs.toList.length = c := by rw [Array.length_toList]; exact h2
  by_cases hi : i < x.length
  · rw [List.getElem?_take_of_lt (by omega), Array.getElem?_toList, h4 i _ (List.getElem?_eq_getElem hi), List.getElem?_map, List.getElem?_eq_getElem hi]; rfl
  · rw [List.getElem?_eq_none (by rw [List.length_take]; omega), List.getElem?_eq_none (by rw [List.length_map]; omega)]
theorem Blk.bytes {w : World} {g c : Nat} {x : Str} (h : Blk w g c x) (hl : x.length ≤ 140737488355328) : BytesAt w w.heap.size (.slice (some ⟨g, 0, none⟩) x.length c) x := by
  have hg := h.lt
  obtain ⟨cs, h1, h2, h3, h4⟩ := h
  exact ⟨_, c, rfl, ⟨h3.1, hl⟩, fun _ => ⟨g, 0, rfl, hg, fun i y hy => by rw [Nat.zero_add, cell_of_heap h1]; exact h4 i y hy⟩⟩
theorem Blk.sub {w : World} {g c : Nat} {x : Str} (h : Blk w g c x) (hl : x.length ≤ 140737488355328) (a n cap : Nat) (ha : a + n ≤ x.length) (hc : n ≤ cap) : BytesAt w w.heap.size (.slice (some ⟨g, a, none⟩) n cap) ((x.drop a).take n) := by
  have hg := h.lt
  have hn : ((x.drop a).take n).length = n := by rw [List.length_take, List.length_drop]; omega
  refine ⟨some ⟨g, a, none⟩, cap, by rw [hn], ⟨by omega, by omega⟩, fun _ => ⟨g, a, rfl, hg, fun i y hy => h.cell ?_⟩⟩
  have hi : i < n := by rw [← hn]; exact (List.getElem?_eq_some_iff.1 hy).1
  rw [List.getElem?_take_of_lt hi, List.getElem?_drop] at hy
  exact hy
theorem putN_getElem? (len n k : Nat) (hk : k < len) : (putN len n)[k]? = some (UInt8.ofNat (n / 2 ^ (8 * (len - 1 - k)))) := by
  unfold putN; rw [List.getElem?_map, List.getElem?_range hk]; rfl
set_option maxHeartbeats 1000000 in
theorem put_any (g o len c S n : Nat) (x : Str) (w : World) (hB : Blk w g S x) (ho : o + len ≤ x.length) (hl : len ≤ 4) (hc : len ≤ c) :
    Calls Tryz.prog 193 #[.slice (some ⟨g, o, none⟩) len c, .int .i64 n] w fun e w' => e = .returned (.tuple #[]) ∧ Blk w' g S (laidAt x o (putN len n)) ∧ Off (fun k => k = g) w w' := by
  have HB := Lib.hid hB
  clear hB
  go_enter Tryz.func193, Tryz.ntmps193
  go_wp2_with fail
  go_loopg [7] len (fun gg i wx => ∃ k : Nat, i = .int .i64 k ∧ gg = len - k ∧ k ≤ len ∧ Blk wx g S (laidAt x o ((putN len n).take k)) ∧ Off (fun k => k = g) w wx)
  case atStart => exact ⟨0, rfl, rfl, Nat.zero_le _, by rw [List.take_zero, laidAt_nil]; exact HB.out, Off.refl _ _⟩
  case round =>
    obtain ⟨k, rfl, rfl, hk, hb, hoff⟩ := hrel
    by_cases hlt : k < len
    · have hlt' : decide ((k : Int) < (len : Int)) = true := by simp; omega
      have hlay : o + ((putN len n).take k).length ≤ x.length := by rw [List.length_take, putN_length]; omega
      obtain ⟨y, hy⟩ : ∃ y, (laidAt x o ((putN len n).take k))[o + k]? = some y := ⟨_, List.getElem?_eq_getElem (by rw [laidAt_length hlay]; omega)⟩
      have hcell := hb.cell hy
      have hfr := hb.free (o + k)
      have hnext := hb.set (o + k) (UInt8.ofNat (n / 2 ^ (8 * (len - 1 - k)))) (by rw [laidAt_length hlay]; omega)
      have e2 : (laidAt x o ((putN len n).take k)).set (o + k) (UInt8.ofNat (n / 2 ^ (8 * (len - 1 - k)))) = laidAt x o ((putN len n).take (k + 1)) := by
        have hkl : ((putN len n).take k).length = k := by rw [List.length_take, putN_length]; omega
        rw [take_succ_at _ _ _ (putN_getElem? len n k hlt), laidAt_snoc _ _ _ _ (by rw [hkl]; omega), hkl]
      rw [e2] at hnext
      have hw1 : IntKind.i64.wrap ((len : Int) - 1) = (len : Int) - 1 := IntWalk.i64_in _ (by omega)
      have hw2 : IntKind.i64.wrap ((len : Int) - 1 - (k : Int)) = (len : Int) - 1 - (k : Int) := IntWalk.i64_in _ (by omega)
      have hw3 : IntKind.i64.wrap (8 * ((len : Int) - 1 - (k : Int))) = 8 * ((len : Int) - 1 - (k : Int)) := IntWalk.i64_in _ (by omega)
      have HN := Lib.hid hnext
      have HO := Lib.hid hoff
      clear hnext hoff hb hy e2 hlay
      go_wp2_with fail
      have e3 : ((n : Int) / 2 ^ (8 * (len - 1 - k)) % 256) = (((UInt8.ofNat (n / 2 ^ (8 * (len - 1 - k)))).toNat : Nat) : Int) := by
        rw [div_cast, UInt8.toNat_ofNat']; omega
      rw [e3]
      clear e3
      go_roundg (len - (k + 1))
      case measure => omega
      case rel => exact ⟨k + 1, by go_num, rfl, hlt, HN.out, HO.out.setCell (p := ⟨g, o + k, none⟩) (.inl rfl) _⟩
    · have hlt' : decide ((k : Int) < (len : Int)) = false := by simp; omega
      obtain rfl : k = len := by omega
      rw [List.take_of_length_le (by rw [putN_length]; exact Nat.le_refl _)] at hb
      have HN := Lib.hid hb
      have HO := Lib.hid hoff
      clear hb hoff
      go_wp2_with fail
      go_end0
      exact ⟨rfl, HN.out, HO.out⟩
end Go.Proofs.YtakmplpfjcddiaaGreatDoor

namespace Go.Proofs.YtakmplpfjcddiaaGreatDoor
open Go.RowKit Go.Shelf Pa
attribute [local go_sem] bs_toList bs_size
def ints (l : List Nat) : List Value := l.map fun n => Value.int .i64 (n : Nat)
/-- The cells of an inode that is open. -/
def cellsO (o : Opn) : List Value := [.int .i64 o.kind, .int .i64 o.mode, .int .i64 o.links, .int .i64 o.size] ++ (ints o.pages ++ (.int .i64 o.i :: ints o.more))
abbrev OpnV (o : Opn) : Value := .agg (cellsO o).toArray
/-- Its lengths are right. -/
structure Opn.Len (o : Opn) : Prop where
  pages : o.pages.length = 11
  more : o.more.length = 128
theorem Opn.none_len : Opn.none.Len := ⟨by simp [Opn.none], by simp [Opn.none]⟩
theorem cellsO_length {o : Opn} (h : o.Len) : (cellsO o).length = 144 := by
  unfold cellsO ints
  simp only [List.length_append, List.length_map, List.length_cons, List.length_nil, h.pages, h.more]
theorem ints_at (l : List Nat) (k : Nat) (h : k < l.length) : (ints l)[k]? = some (.int .i64 (l.getD k 0 : Nat)) := by
  unfold ints
  rw [List.getElem?_map, List.getElem?_eq_getElem h, List.getD_eq_getElem?_getD, List.getElem?_eq_getElem h]; rfl
theorem ints_set (l : List Nat) (k n : Nat) : (ints l).set k (.int .i64 (n : Nat)) = ints (l.set k n) := by unfold ints; rw [List.map_set]
theorem cellsO_page {o : Opn} (h : o.Len) (k : Nat) (hk : k < 11) : (cellsO o)[4 + k]? = some (.int .i64 (o.pages.getD k 0 : Nat)) := by
  unfold cellsO
  rw [List.getElem?_append_right (by show 4 ≤ 4 + k; omega), show 4 + k - ([Value.int .i64 o.kind, .int .i64 o.mode, .int .i64 o.links, .int .i64 o.size] : List Value).length = k from by show 4 + k - 4 = k; omega, List.getElem?_append_left (by simp [ints, h.pages, hk])]
  exact ints_at _ _ (by rw [h.pages]; exact hk)
theorem cellsO_i (o : Opn) (h : o.Len) : (cellsO o)[15]? = some (.int .i64 o.i) := by
  unfold cellsO
  rw [List.getElem?_append_right (by show 4 ≤ 15; omega), List.getElem?_append_right (by simp [ints, h.pages])]
  simp [ints, h.pages]
theorem cellsO_more {o : Opn} (h : o.Len) (k : Nat) (hk : k < 128) : (cellsO o)[16 + k]? = some (.int .i64 (o.more.getD k 0 : Nat)) := by
  unfold cellsO
  rw [List.getElem?_append_right (by show 4 ≤ 16 + k; omega), List.getElem?_append_right (by simp [ints, h.pages]; omega)]
  have e : 16 + k - ([Value.int .i64 o.kind, .int .i64 o.mode, .int .i64 o.links, .int .i64 o.size] : List Value).length - (ints o.pages).length = k + 1 := by simp [ints, h.pages]; omega
  rw [e, List.getElem?_cons_succ]
  exact ints_at _ _ (by rw [h.more]; exact hk)
theorem cellsO_setPage {o : Opn} (h : o.Len) (k n : Nat) (hk : k < 11) : (cellsO o).set (4 + k) (.int .i64 (n : Nat)) = cellsO { o with pages := o.pages.set k n } := by
  unfold cellsO
  rw [List.set_append_right _ _ (by show 4 ≤ 4 + k; omega), show 4 + k - ([Value.int .i64 o.kind, .int .i64 o.mode, .int .i64 o.links, .int .i64 o.size] : List Value).length = k from by show 4 + k - 4 = k; omega, List.set_append_left _ _ (by simp [ints, h.pages, hk]), ints_set]
theorem cellsO_setMore {o : Opn} (h : o.Len) (k n : Nat) : (cellsO o).set (16 + k) (.int .i64 (n : Nat)) = cellsO { o with more := o.more.set k n } := by
  unfold cellsO
  rw [List.set_append_right _ _ (by show 4 ≤ 16 + k; omega), List.set_append_right _ _ (by simp [ints, h.pages]; omega)]
  have e : 16 + k - ([Value.int .i64 o.kind, .int .i64 o.mode, .int .i64 o.links, .int .i64 o.size] : List Value).length - (ints o.pages).length = k + 1 := by simp [ints, h.pages]; omega
  rw [e, List.set_cons_succ, ints_set]
theorem cellsO_setI {o : Opn} (h : o.Len) (n : Nat) : (cellsO o).set 15 (.int .i64 (n : Nat)) = cellsO { o with i := n } := by
  unfold cellsO
  rw [List.set_append_right _ _ (by show 4 ≤ 15; omega), List.set_append_right _ _ (by simp [ints, h.pages])]
  have e : 15 - ([Value.int .i64 o.kind, .int .i64 o.mode, .int .i64 o.links, .int .i64 o.size] : List Value).length - (ints o.pages).length = 0 := by simp [ints, h.pages]
  rw [e, List.set_cons_zero]
/-- Block b is an inode that is open. -/
def OpnAt (w : World) (b : Nat) (o : Opn) : Prop := w.heap[b]? = some (.cells (cellsO o).toArray 171 (0, 0)) ∧ o.Len
theorem OpnAt.lt {w : World} {b : Nat} {o : Opn} (h : OpnAt w b o) : b < w.heap.size := (Array.getElem?_eq_some_iff.1 h.1).1
theorem OpnAt.keep {w w' : World} {b : Nat} {o : Opn} (h : OpnAt w b o) (hb : w'.heap[b]? = w.heap[b]?) : OpnAt w' b o := ⟨hb.trans h.1, h.2⟩
theorem OpnAt.free {w : World} {b : Nat} {o : Opn} (h : OpnAt w b o) (j : Nat) : w.frozen? ⟨b, j, none⟩ = false := free_of_heap h.1 j
theorem OpnAt.cell {w : World} {b : Nat} {o : Opn} (h : OpnAt w b o) (j : Nat) : w.cell? ⟨b, j, none⟩ = (cellsO o)[j]? := by rw [cell_of_heap h.1]; simp
theorem OpnAt.kind {w : World} {b : Nat} {o : Opn} (h : OpnAt w b o) : w.cell? ⟨b, 0, none⟩ = some (.int .i64 o.kind) := h.cell 0
theorem OpnAt.mode {w : World} {b : Nat} {o : Opn} (h : OpnAt w b o) : w.cell? ⟨b, 1, none⟩ = some (.int .i64 o.mode) := h.cell 1
theorem OpnAt.links {w : World} {b : Nat} {o : Opn} (h : OpnAt w b o) : w.cell? ⟨b, 2, none⟩ = some (.int .i64 o.links) := h.cell 2
theorem OpnAt.size {w : World} {b : Nat} {o : Opn} (h : OpnAt w b o) : w.cell? ⟨b, 3, none⟩ = some (.int .i64 o.size) := h.cell 3
theorem OpnAt.page {w : World} {b : Nat} {o : Opn} (h : OpnAt w b o) (k : Nat) (hk : k < 11) : w.cell? ⟨b, 4 + k, none⟩ = some (.int .i64 (o.pages.getD k 0 : Nat)) := (h.cell _).trans (cellsO_page h.2 k hk)
theorem OpnAt.num {w : World} {b : Nat} {o : Opn} (h : OpnAt w b o) : w.cell? ⟨b, 15, none⟩ = some (.int .i64 o.i) := (h.cell _).trans (cellsO_i o h.2)
theorem OpnAt.more {w : World} {b : Nat} {o : Opn} (h : OpnAt w b o) (k : Nat) (hk : k < 128) : w.cell? ⟨b, 16 + k, none⟩ = some (.int .i64 (o.more.getD k 0 : Nat)) := (h.cell _).trans (cellsO_more h.2 k hk)
theorem OpnAt.put {w : World} {b : Nat} {o o' : Opn} (h : OpnAt w b o) (j : Nat) (v : Value) (he : (cellsO o).set j v = cellsO o') (hl : o'.Len) : OpnAt (w.setCell ⟨b, j, none⟩ v) b o' := by
  refine ⟨?_, hl⟩
  rw [heap_setCell_at w b j v h.1, ← he]
  simp
theorem OpnAt.setPage {w : World} {b : Nat} {o : Opn} (h : OpnAt w b o) (k n : Nat) (hk : k < 11) : OpnAt (w.setCell ⟨b, 4 + k, none⟩ (.int .i64 (n : Nat))) b { o with pages := o.pages.set k n } := h.put _ _ (cellsO_setPage h.2 k n hk) ⟨by simpa using h.2.pages, h.2.more⟩
theorem OpnAt.setMore {w : World} {b : Nat} {o : Opn} (h : OpnAt w b o) (k n : Nat) : OpnAt (w.setCell ⟨b, 16 + k, none⟩ (.int .i64 (n : Nat))) b { o with more := o.more.set k n } := h.put _ _ (cellsO_setMore h.2 k n) ⟨h.2.pages, by simpa using h.2.more⟩
theorem OpnAt.setI {w : World} {b : Nat} {o : Opn} (h : OpnAt w b o) (n : Nat) : OpnAt (w.setCell ⟨b, 15, none⟩ (.int .i64 (n : Nat))) b { o with i := n } := h.put _ _ (cellsO_setI h.2 n) ⟨h.2.pages, h.2.more⟩
theorem OpnAt.setKind {w : World} {b : Nat} {o : Opn} (h : OpnAt w b o) (n : Nat) : OpnAt (w.setCell ⟨b, 0, none⟩ (.int .i64 (n : Nat))) b { o with kind := n } := h.put _ _ rfl ⟨h.2.pages, h.2.more⟩
theorem OpnAt.setMode {w : World} {b : Nat} {o : Opn} (h : OpnAt w b o) (n : Nat) : OpnAt (w.setCell ⟨b, 1, none⟩ (.int .i64 (n : Nat))) b { o with mode := n } := h.put _ _ rfl ⟨h.2.pages, h.2.more⟩
theorem OpnAt.setLinks {w : World} {b : Nat} {o : Opn} (h : OpnAt w b o) (n : Nat) : OpnAt (w.setCell ⟨b, 2, none⟩ (.int .i64 (n : Nat))) b { o with links := n } := h.put _ _ rfl ⟨h.2.pages, h.2.more⟩
theorem OpnAt.setSize {w : World} {b : Nat} {o : Opn} (h : OpnAt w b o) (n : Nat) : OpnAt (w.setCell ⟨b, 3, none⟩ (.int .i64 (n : Nat))) b { o with size := n } := h.put _ _ rfl ⟨h.2.pages, h.2.more⟩
theorem info_open : (Tryz.prog.info? 171).map (·.size) = some 144 := by kernel_rfl
theorem open_zero_cells : Tryz.zeroCells171 = (cellsO Opn.none).toArray := by kernel_rfl
theorem OpnAt.info {w : World} {b : Nat} {o : Opn} (h : OpnAt w b o) : (Tryz.prog.info? 171).map (·.size) = some (cellsO o).toArray.size := by rw [info_open, List.size_toArray, cellsO_length h.2]
theorem opn_new (w : World) : OpnAt (w.alloc (.cells Tryz.zeroCells171 171)) w.heap.size Opn.none := ⟨by rw [heap_alloc_new, open_zero_cells], Opn.none_len⟩
theorem opn_box (w : World) (o : Opn) (h : o.Len) : OpnAt (w.alloc (.cells (cellsO o).toArray 171)) w.heap.size o := ⟨heap_alloc_new _ _, h⟩
theorem ints_one (l : List Nat) : ∀ v ∈ ints l, v.oneCell' = true := fun v hv => by
  obtain ⟨n, _, rfl⟩ := List.mem_map.1 hv
  rfl
theorem cellsO_one (o : Opn) : (cellsO o).toArray.all (·.oneCell') = true := by
  rw [Array.all_eq_true_iff_forall_mem]
  intro v hv
  have hv : v ∈ cellsO o := by simpa using hv
  unfold cellsO at hv
  rcases List.mem_append.1 hv with hv | hv
  · simp at hv; rcases hv with rfl | rfl | rfl | rfl <;> rfl
  · rcases List.mem_append.1 hv with hv | hv
    · exact ints_one _ v hv
    · rcases List.mem_cons.1 hv with rfl | hv
      · rfl
      · exact ints_one _ v hv
theorem heap_setRow (w : World) (g : Nat) (cs cs' : Array Value) {t : TypeId} {f : Nat × Nat} (h : w.heap[g]? = some (.cells cs t f)) : (w.setRow g cs').heap[g]? = some (.cells cs' t f) := by
  simp [World.setRow, Array.getElem?_modify, h]
theorem off_setRow (w : World) (g : Nat) (cs : Array Value) : Off (fun k => k = g) w (w.setRow g cs) := by
  refine ⟨rfl, rfl, rfl, by simp [World.setRow], fun k _ hk => ?_⟩
  simp only [World.setRow, Array.getElem?_modify]
  rw [if_neg (fun e => hk e.symm)]
theorem OpnAt.row {w : World} {b : Nat} {o : Opn} (h : OpnAt w b o) (o' : Opn) (hl : o'.Len) : OpnAt (w.setRow b (cellsO o').toArray) b o' := ⟨heap_setRow w b _ _ h.1, hl⟩
/-- The results of a function whose first one is such a block. -/
theorem results_open {fn : Func} {p q : Tmp} (h : fn.results = #[.cell p 171, .tmp q]) (tmps : Array Value) (w : World) (b : Nat) (o : Opn) (hp : tmps.getD p undef = .pointer (some ⟨b, 0, none⟩)) (hb : OpnAt w b o) :
    (results fn tmps).run Tryz.prog w = .ok (.tuple #[OpnV o, tmps.getD q undef]) w := by
  have hl := run_loadVar_row (P := Tryz.prog) w b 171 171 (cellsO o).toArray (0, 0) _ hb.1 Tryz.underlying171 rfl hb.info
  rw [Array.getD_eq_getD_getElem?] at hp
  simp [results, h, hp, hl, OpnV, asAddr]
theorem setRow_self (w : World) (g : Nat) (cs : Array Value) {t : TypeId} {f : Nat × Nat} (h : w.heap[g]? = some (.cells cs t f)) : w.setRow g cs = w := by
  have e : w.heap.modify g (fun o => match o with | .cells _ elem frozen => .cells cs elem frozen | o => o) = w.heap := by
    apply Array.ext_getElem?
    intro i
    rw [Array.getElem?_modify]
    by_cases hi : g = i
    · subst hi; rw [if_pos rfl, h]; rfl
    · rw [if_neg hi]
  show { w with heap := w.heap.modify g (fun o => match o with | .cells _ elem frozen => .cells cs elem frozen | o => o) } = w
  rw [e]
theorem opn_store {w : World} {b : Nat} {o : Opn} (h : OpnAt w b o) (o' : Opn) (hl : o'.Len) : (storeCells ⟨b, 0, none⟩ (cellsO o')).run Tryz.prog w = .ok () (w.setRow b (cellsO o').toArray) := by
  have hs := run_storeVar_row (P := Tryz.prog) w b 171 171 (cellsO o).toArray (cellsO o').toArray h.1 (by rw [info_open, List.size_toArray, cellsO_length hl]) (by rw [List.size_toArray, List.size_toArray, cellsO_length hl, cellsO_length h.2]) (cellsO_one o')
  have hi := info_open
  cases hq : Tryz.prog.info? 171 with
  | none => rw [hq] at hi; cases hi
  | some i =>
    rw [hq] at hi
    have hi : i.size = 144 := by simpa using hi
    simpa [storeVar, sizeOf, typeInfo, hq, Value.cells, hi, cellsO_length hl] using hs
theorem opn_store_same {w : World} {b : Nat} {o : Opn} (h : OpnAt w b o) : (storeCells ⟨b, 0, none⟩ (cellsO o)).run Tryz.prog w = .ok () w := by
  rw [opn_store h o h.2, setRow_self w b _ h.1]
theorem opn_store_zero {w : World} {b : Nat} {o : Opn} (h : OpnAt w b o) : (storeCells ⟨b, 0, none⟩ Tryz.zeroCells171.toList).run Tryz.prog w = .ok () (w.setRow b (cellsO Opn.none).toArray) := by
  rw [open_zero_cells]
  exact opn_store h Opn.none Opn.none_len
theorem opn_load {w : World} {b : Nat} {o : Opn} (h : OpnAt w b o) : (loadCellsFrom ⟨b, 0, none⟩ 0 144 #[]).run Tryz.prog w = .ok (cellsO o).toArray w := by
  have := run_loadCells_list (P := Tryz.prog) w ⟨b, 0, none⟩ (cellsO o) (fun j v hv => by
    have hadd : (⟨b, 0, none⟩ : Addr).add j = ⟨b, j, none⟩ := by unfold Addr.add; split <;> simp_all
    rw [hadd, h.cell]; exact hv)
  rw [cellsO_length h.2] at this
  simpa [loadCells] using this
end Go.Proofs.YtakmplpfjcddiaaGreatDoor

namespace Go.Proofs.YtakmplpfjcddiaaGreatDoor
open Go.RowKit Go.Shelf Pa
attribute [local go_sem] bs_toList bs_size
abbrev storeO (m : Nat) : Obj := .cells #[.pointer (some ⟨m, 0, none⟩)] 180 (0, 0)
/-- The record of an inode. -/
def Ca.recd (C : Ca) (j : Nat) : Opn := decI (((C.rd (3 + j / 8)).drop (64 * (j % 8))).take 64) j
/-- What load hands back: the inode, the error. -/
def Ca.loadR (C : Ca) (ino : Nat) (i : Int) : Opn × Nat := match C.load ino i with | .ok o => (o, 0) | .error e => (Opn.none, e)
theorem loadR_range {C : Ca} {ino : Nat} {i : Int} (h : i ≤ 0 ∨ (ino : Int) ≤ i) : C.loadR ino i = (Opn.none, 2) := by unfold Ca.loadR Ca.load; rw [if_pos h]
theorem loadR_free {C : Ca} {ino : Nat} {j : Nat} (h : ¬ ((j : Int) ≤ 0 ∨ (ino : Int) ≤ (j : Int))) (hb : bitAt (C.rd 1) j = false) : C.loadR ino j = (Opn.none, 4) := by
  unfold Ca.loadR Ca.load; rw [if_neg h, Int.toNat_natCast, if_pos hb]
theorem loadR_none {C : Ca} {ino : Nat} {j : Nat} (h : ¬ ((j : Int) ≤ 0 ∨ (ino : Int) ≤ (j : Int))) (hb : bitAt (C.rd 1) j = true) (hk : (C.recd j).kind = 0) : C.loadR ino j = (Opn.none, 4) := by
  unfold Ca.loadR Ca.load
  rw [if_neg h, Int.toNat_natCast, if_neg (by rw [hb]; decide)]
  unfold Ca.recd at hk
  simp only [hk, if_pos]
theorem loadR_flat {C : Ca} {ino : Nat} {j : Nat} (h : ¬ ((j : Int) ≤ 0 ∨ (ino : Int) ≤ (j : Int))) (hb : bitAt (C.rd 1) j = true) (hk : (C.recd j).kind ≠ 0) (hi : (C.recd j).ind = 0) : C.loadR ino j = (C.recd j, 0) := by
  unfold Ca.loadR Ca.load
  rw [if_neg h, Int.toNat_natCast, if_neg (by rw [hb]; decide)]
  unfold Ca.recd at hk hi ⊢
  simp only [if_neg hk, hi, if_pos]
theorem loadR_deep {C : Ca} {ino : Nat} {j : Nat} (h : ¬ ((j : Int) ≤ 0 ∨ (ino : Int) ≤ (j : Int))) (hb : bitAt (C.rd 1) j = true) (hk : (C.recd j).kind ≠ 0) (hi : (C.recd j).ind ≠ 0) : C.loadR ino j = ({ C.recd j with more := decM (C.rd (C.recd j).ind) }, 0) := by
  unfold Ca.loadR Ca.load
  rw [if_neg h, Int.toNat_natCast, if_neg (by rw [hb]; decide)]
  unfold Ca.recd at hk hi ⊢
  simp only [if_neg hk, if_neg hi]
theorem upto_set (f : Nat → Nat) (n k : Nat) (hk : k < n) : ((List.range k).map f ++ List.replicate (n - k) 0).set k (f k) = (List.range (k + 1)).map f ++ List.replicate (n - (k + 1)) 0 := by
  rw [List.set_append_right _ _ (by simp), List.length_map, List.length_range, Nat.sub_self, show n - k = (n - (k + 1)) + 1 from by omega, List.replicate_succ, List.set_cons_zero, List.range_succ, List.map_append]
  simp
set_option maxRecDepth 100000 in
set_option maxHeartbeats 3000000 in
theorem load_any (s m c ino : Nat) (i : Int) (C : Ca) (R : Reg) (F : List (Nat × Obj)) (w : World) (h : Held w F c C R) (hm : (m, mapO c ino) ∈ F) (hs : (s, storeO m) ∈ F) (hi : ino ≤ 512) (hp : alFirst ino < C.G.pages)
    (hv : ∀ j, 1 ≤ j → j < ino → bitAt (C.rd 1) j = true → (C.recd j).ind < C.G.pages) :
    Calls Tryz.prog 120 #[.pointer (some ⟨s, 0, none⟩), .int .i64 i] w fun e w' => e = .returned (.tuple #[OpnV (C.loadR ino i).1, .int .i64 (C.loadR ino i).2]) ∧ Step w F c C R w' := by
  have hb0 : Below w.heap.size w (w.alloc (.cells Tryz.zeroCells171 171)) := (Below.refl _ _).alloc (Nat.le_refl _) _
  have h0 := h.below hb0
  have hO0 := opn_new w
  have k0 : (w.alloc (.cells Tryz.zeroCells171 171)).cell? ⟨s, 0, none⟩ = some (.pointer (some ⟨m, 0, none⟩)) := cell_of_heap (h0.fix _ hs).1 0
  have hsl : s < w.heap.size := h.lt s (.inr (h.fix _ hs).2)
  have hRl := h.lt
  -- what holds behind an act on W0 that leaves the block b
  have hfin : ∀ w1 w2, Step (w.alloc (.cells Tryz.zeroCells171 171)) F c C R w1 → Off (fun k => k = w.heap.size) w1 w2 → Step w F c C R w2 := by
    intro w1 w2 ⟨R1, g1, g2, g3⟩ ho
    rw [World.size_alloc] at g2
    refine ⟨R1, g1.off ho (fun k hk e => ?_), ⟨fun k hk => ?_, fun k hk => ?_⟩, ((Off.of_below hb0 _).trans g3 (fun k e => .inl e)).trans ho (fun k e => .inr (Nat.le_of_eq e.symm))⟩
    · subst e
      rcases g2.has hk with e | e
      · exact absurd (hRl _ e) (Nat.lt_irrefl _)
      · omega
    · rcases g2.m k hk with e | e
      · exact .inl e
      · right; omega
    · rcases g2.i k hk with e | e
      · exact .inl e
      · right; omega
  have HFin := Lib.hid hfin
  have HO0 := Lib.hid hO0
  have HB0 := Lib.hid hb0
  have H0 := Lib.hid h0
  have HRl := Lib.hid hRl
  have hlen : ∀ n, n < C.G.pages → (C.rd n).length = 512 := fun n hn => h.at_.rdlen hn
  have HLen := Lib.hid hlen
  have HS := Lib.hid hs
  have HM := Lib.hid hm
  have hmap := (h0.fix _ hm).1
  have HMp := Lib.hid hmap
  clear hfin hO0 hb0 h0 hRl hs hm h hmap hlen
  by_cases hbad : i < 0 ∨ (ino : Int) ≤ i
  · have HE := Lib.hid (loadR_range (C := C) (show i ≤ 0 ∨ (ino : Int) ≤ i by omega))
    have htb := table_bad m c ino i _ HMp.out hbad
    have HTb := Lib.hid htb
    have hz0 := opn_store_zero HO0.out
    clear htb
    go_enter Tryz.func120, Tryz.ntmps120
    go_wp2_with fail
    refine HTb.out.mono ?_
    rintro e w1 ⟨rfl, rfl⟩
    go_wp2_with fail
    (try simp only [Exit.inBlock, Exit.then])
    refine bodyPost_ret (results_open rfl _ _ _ Opn.none rfl (HO0.out.row _ Opn.none_len)) rfl ?_
    exact ⟨by rw [HE.out]; rfl, HFin.out _ _ (H0.out.step0 (Below.refl _ _)) (off_setRow _ _ _)⟩
  · obtain ⟨j, rfl⟩ : ∃ j : Nat, i = j := ⟨i.toNat, by omega⟩
    have hj : j < ino := by omega
    have htb := table_ok m c ino j _ HMp.out hi hj
    have HTb := Lib.hid htb
    clear htb
    by_cases hj0 : j = 0
    · subst hj0
      have HE := Lib.hid (loadR_range (C := C) (ino := ino) (i := (0 : Nat)) (.inl (by simp)))
      have hz0 := opn_store_zero HO0.out
      go_enter Tryz.func120, Tryz.ntmps120
      go_wp2_with fail
      refine HTb.out.mono ?_
      rintro e w1 ⟨rfl, rfl⟩
      go_wp2_with fail
      (try simp only [Exit.inBlock, Exit.then])
      refine bodyPost_ret (results_open rfl _ _ _ Opn.none rfl (HO0.out.row _ Opn.none_len)) rfl ?_
      exact ⟨by rw [HE.out]; rfl, HFin.out _ _ (H0.out.step0 (Below.refl _ _)) (off_setRow _ _ _)⟩
    · have hjI : ((j : Int) == 0) = false := by simp; omega
      have hno : ¬ ((j : Int) ≤ 0 ∨ (ino : Int) ≤ (j : Int)) := by omega
      have hp1 : 1 < C.G.pages := by unfold alFirst at hp; omega
      have hpt : 3 + j / 8 < C.G.pages := by unfold alFirst at hp; omega
      have hus := usedInode_any m c ino (j : Int) C R F _ H0.out HM.out hp1 hi
      have hisB : isB C ino 1 (j : Int) = bitAt (C.rd 1) j := by
        unfold isB
        rw [show cntB C ino 1 = ino from rfl, decide_eq_true (by omega : (0 : Int) ≤ (j : Int)), decide_eq_true (by omega : (j : Int) < (ino : Int))]
        rfl
      rw [hisB] at hus
      have HUs := Lib.hid hus
      have HNo2 := Lib.hid hno
      clear hus hisB hno
      go_enter Tryz.func120, Tryz.ntmps120
      go_wp2_with fail
      refine HTb.out.mono ?_
      rintro e w1 ⟨rfl, rfl⟩
      go_wp2_with fail
      refine HUs.out.mono ?_
      rintro e w2 ⟨rfl, hs2⟩
      obtain ⟨R2, g1, g2, g3⟩ := id hs2
      have hO2 : OpnAt w2 w.heap.size Opn.none := HO0.out.keep (g3.block _ HO0.out.lt (fun e => by have := HRl.out _ (.inl e); omega))
      have HO2 := Lib.hid hO2
      have HG2 := Lib.hid g1
      have HS2 := Lib.hid hs2
      have e0 : w2.cell? ⟨s, 0, none⟩ = some (.pointer (some ⟨m, 0, none⟩)) := cell_of_heap (g1.fix _ HS.out).1 0
      have hm2 := (g1.fix _ HM.out).1
      have HM2 := Lib.hid hm2
      clear hO2 g1 hs2 hm2
      cases hbt : bitAt (C.rd 1) j with
      | false =>
        have HE := Lib.hid (loadR_free HNo2.out hbt)
        have hz2 := opn_store_zero HO2.out
        clear hbt
        go_wp2_with fail
        (try simp only [Exit.inBlock, Exit.then])
        refine bodyPost_ret (results_open rfl _ _ _ Opn.none rfl (HO2.out.row _ Opn.none_len)) rfl ?_
        exact ⟨by rw [HE.out]; rfl, HFin.out _ _ HS2.out (off_setRow _ _ _)⟩
      | true =>
        have HBt := Lib.hid hbt
        have hmc := mcache_any m c ino w2 HM2.out
        have hrd := hread_any (3 + j / 8) c C R2 F w2 HG2.out hpt
        have HMc := Lib.hid hmc
        have HRd := Lib.hid hrd
        clear hbt hmc hrd
        go_wp2_with fail
        refine HMc.out.mono ?_
        rintro e w3 ⟨rfl, rfl⟩
        go_wp2_with fail
        refine HRd.out.mono ?_
        rintro e w4 ⟨v, rfl, hr⟩
        obtain ⟨page, hpage⟩ : ∃ page, page = C.rd (3 + j / 8) := ⟨_, rfl⟩
        have hpl : page.length = 512 := by rw [hpage]; exact HLen.out _ hpt
        rw [← hpage] at hr
        obtain ⟨R4, o4, g4, t4, f4, fr4⟩ := id hr
        obtain ⟨g, cv, rfl, hgB, hblk, hcv⟩ := o4.blk (by intro e; rw [e] at hpl; cases hpl)
        have hO4 : OpnAt w4 w.heap.size Opn.none := HO2.out.keep (f4.block _ HO2.out.lt (fun e => by
          rcases g2.m _ e with e | e
          · have := HRl.out _ (.inl e); omega
          · rw [World.size_alloc] at e; omega))
        have hS4 : Step w2 F c C R2 w4 := ⟨R4, g4, t4, f4⟩
        have hb4 : ¬ R4.has w.heap.size := fun e => by
          rcases (g2.trans t4 g3.size).has e with e | e
          · have := HRl.out _ e; omega
          · rw [World.size_alloc] at e; omega
        have HK4 := Lib.hid (⟨g4, g2.trans t4 g3.size, g3.trans f4 g2.m, hb4⟩ : Held w4 F c C R4 ∧ R.To R4 _ ∧ Off R.m _ w4 ∧ ¬ R4.has w.heap.size)
        have HO4 := Lib.hid hO4
        have HS4 := Lib.hid (hS4)
        have HBlk := Lib.hid hblk
        have HPage := Lib.hid hpage
        have HPl := Lib.hid hpl
        have hgl := hblk.lt
        have hbne : w.heap.size ≠ g := by have := HO2.out.lt; omega
        rw [hpl] at hcv
        have hcv64 : 64 * (j % 8) + 64 ≤ cv := by omega
        clear hr o4 g4 t4 f4 fr4 hblk hO4 hS4 hpage hb4 hpl
        have hO5 := HO4.out.setI j
        have f15 := HO4.out.free 15
        have n15 := HO4.out.num
        go_wp2_with fail
        rw [show 64 * (j % 8) + 64 - 64 * (j % 8) = 64 from by omega]
        obtain ⟨a, ha⟩ : ∃ a, a = 64 * (j % 8) := ⟨_, rfl⟩
        have ha8 : a + 64 ≤ 512 := by omega
        have hx : ((C.rd (3 + j / 8)).drop (64 * (j % 8))).take 64 = (page.drop a).take 64 := by rw [HPage.out, ha]
        rw [← ha] at hcv64 ⊢
        obtain ⟨cp, hcp⟩ : ∃ cp, cp = cv - a := ⟨_, rfl⟩
        rw [← hcp]
        have hcp64 : 64 ≤ cp := by omega
        obtain ⟨W5, hW5⟩ : ∃ W5, W5 = w4.setCell ⟨w.heap.size, 15, none⟩ (.int .i64 (j : Nat)) := ⟨_, rfl⟩
        rw [← hW5] at hO5 ⊢
        have hblk5 : Blk W5 g cv page := HBlk.out.keep (by rw [hW5]; exact Below.heap_setCell _ _ _ _ hbne.symm)
        have hget : ∀ (o n k : Nat) (W : World), Below W5.heap.size W5 W → o + n ≤ 64 → n ≤ 4 → n ≤ k → Calls Tryz.prog 188 #[.slice (some ⟨g, a + o, none⟩) n k] W fun e w' => e = .returned (.int .i64 (getN (((page.drop a).take 64).drop o |>.take n))) ∧ w' = W := fun o n k W hb h1 h2 h3 => by
          have h9 := (hblk5.below hb hblk5.lt).sub (by rw [HPl.out]; decide) (a + o) n k (by rw [HPl.out]; omega) h3
          refine (get_any _ _ W h9 (by rw [List.length_take]; omega)).mono ?_
          rintro e w' ⟨rfl, rfl⟩
          refine ⟨?_, rfl⟩
          rw [List.drop_take, List.drop_drop, List.take_take, show min n (64 - o) = n from by omega]
        have hb5 : Below W5.heap.size W5 W5 := Below.refl _ _
        have hcell0 := fun y (hy : page[a]? = some y) => hblk5.cell hy
        obtain ⟨y, hy⟩ : ∃ y, page[a]? = some y := ⟨_, List.getElem?_eq_getElem (by rw [HPl.out]; omega)⟩
        have hc0 := hcell0 y hy
        have HO5 := Lib.hid hO5
        have HW45 := Lib.hid (show Off (fun k => k = w.heap.size) w4 W5 by rw [hW5]; exact (Off.refl (fun k => k = w.heap.size) w4).setCell (p := ⟨w.heap.size, 15, none⟩) (.inl rfl) _)
        have HGet := Lib.hid hget
        have HBlk5 := Lib.hid hblk5
        have HY := Lib.hid hy
        have HX := Lib.hid hx
        have HA := Lib.hid ha
        have p0 := HO5.out.kind
        have p1 := HO5.out.mode
        have p2 := HO5.out.links
        have p3 := HO5.out.size
        have f0 := HO5.out.free 0
        have f1 := HO5.out.free 1
        have f2 := HO5.out.free 2
        have f3 := HO5.out.free 3
        clear hO5 hget hblk5 hy hx hcell0 hcp ha f15 n15 hW5
        have hc3 : 3 ≤ cp := by omega
        have hc5 : 5 ≤ cp := by omega
        have hc9 : 9 ≤ cp := by omega
        have hi3 : (3 : Int) ≤ (cp : Int) := by omega
        have hi5 : (5 : Int) ≤ (cp : Int) := by omega
        have hi9 : (9 : Int) ≤ (cp : Int) := by omega
        have hn1 : ¬ cp = 1 := by omega
        have hn3 : ¬ cp = 3 := by omega
        have hn5 : ¬ cp = 5 := by omega
        go_wp2_with fail
        go_cut [0, 1, 4, 8] (fun s0 s1 s4 s8 wx => s0 = .pointer (some ⟨s, 0, none⟩) ∧ s1 = .int .i64 j ∧ s4 = .pointer (some ⟨w.heap.size, 0, none⟩) ∧ s8 = .slice (some ⟨g, a, none⟩) 64 cp ∧ OpnAt wx w.heap.size ⟨y.toNat, numAt ((page.drop a).take 64) 1 2, numAt ((page.drop a).take 64) 3 2, numAt ((page.drop a).take 64) 5 4, List.replicate 11 0, j, List.replicate 128 0⟩ ∧ Off (fun k => k = w.heap.size) W5 wx)
        · go_region_held3 (fun w' => w'.cell? ⟨g, a, none⟩ = some (.int .u8 y.toNat))
            ((first | assumption | go_keep))
            ((go_simp; go_at_call 188; go_split_ands; refine (HGet.out _ _ _ _ (by with_reducible (repeat' first | assumption | refine Below.drew ?_)) (by omega) (by omega) (by omega)).mono ?_; rintro e w9 ⟨rfl, rfl⟩))
          have e1 : IntKind.i64.wrap ((y.toNat : Nat) : Int) = ((y.toNat : Nat) : Int) := IntWalk.i64_in _ (by have := UInt8.toNat_lt y; omega)
          have e2 : (List.take 64 (List.drop a page)).tail = List.drop 1 (List.take 64 (List.drop a page)) := by simp
          rw [e1, e2]
          clear e1 e2
          go_wp2_with fail
          go_meet
          refine ⟨rfl, rfl, rfl, rfl, (((HO5.out.setKind y.toNat).setMode (numAt ((page.drop a).take 64) 1 2)).setLinks (numAt ((page.drop a).take 64) 3 2)).setSize (numAt ((page.drop a).take 64) 5 4), ?_⟩
          exact ((((Off.refl (fun k => k = w.heap.size) W5).setCell (p := ⟨w.heap.size, 0, none⟩) (.inl rfl) _).setCell (p := ⟨w.heap.size, 1, none⟩) (.inl rfl) _).setCell (p := ⟨w.heap.size, 2, none⟩) (.inl rfl) _).setCell (p := ⟨w.heap.size, 3, none⟩) (.inl rfl) _ |>.drew
        · obtain ⟨rfl, rfl, rfl, rfl, hOc, hoc⟩ := hcut
          have hblkc : Blk wc g cv page := HBlk5.out.keep (hoc.block g HBlk5.out.lt (fun e => hbne e.symm))
          have hy2 : ((page.drop a).take 64).getD 0 0 = y := by
            rw [List.getD_eq_getElem?_getD, List.getElem?_take_of_lt (by decide), List.getElem?_drop, Nat.add_zero, HY.out]; rfl
          obtain ⟨rec, hrec⟩ : ∃ rec, rec = (page.drop a).take 64 := ⟨_, rfl⟩
          have hrl : rec.length = 64 := by rw [hrec, List.length_take, List.length_drop, HPl.out]; omega
          rw [← hrec] at hOc hy2
          have hdec : C.recd j = ⟨y.toNat, numAt rec 1 2, numAt rec 3 2, numAt rec 5 4, (List.range 11).map fun k => numAt rec (9 + 4 * k) 4, j, List.replicate 128 0⟩ := by
            unfold Ca.recd
            rw [HX.out, ← hrec]
            unfold decI
            rw [hy2]
          have HOc := Lib.hid hOc
          have HBlkc := Lib.hid hblkc
          have HDec := Lib.hid hdec
          have HRec := Lib.hid hrec
          have HRl2 := Lib.hid hrl
          clear hOc hblkc hdec hrec hrl hy2 hc0 p0 p1 p2 p3 f0 f1 f2 f3 hb5 hc3 hc5 hc9 hi3 hi5 hi9 hn1 hn3 hn5
          -- the pages that the inode names
          have hget2 : ∀ (o k : Nat) (W : World), Off (fun k => k = w.heap.size) wc W → o + 4 ≤ 64 → 4 ≤ k → Calls Tryz.prog 188 #[.slice (some ⟨g, a + o, none⟩) 4 k] W fun e w' => e = .returned (.int .i64 (numAt rec o 4)) ∧ W = w' := fun o k W ho h1 h3 => by
            have h9 := (HBlkc.out.keep (ho.block g HBlkc.out.lt (fun e => hbne e.symm))).sub (by rw [HPl.out]; decide) (a + o) 4 k (by rw [HPl.out]; omega) h3
            refine (get_any _ _ W h9 (by rw [List.length_take]; omega)).mono ?_
            rintro e w' ⟨rfl, rfl⟩
            refine ⟨?_, rfl⟩
            unfold numAt
            rw [HRec.out, List.drop_take, List.drop_drop, List.take_take, show min 4 (64 - o) = 4 from by omega]
          have HGet2 := Lib.hid hget2
          clear hget2
          go_wp2_with fail
          go_loopg [81] 11 (fun gg i wx => ∃ k : Nat, i = .int .i64 k ∧ gg = 11 - k ∧ k ≤ 11 ∧ OpnAt wx w.heap.size ⟨y.toNat, numAt rec 1 2, numAt rec 3 2, numAt rec 5 4, (List.range k).map (fun k => numAt rec (9 + 4 * k) 4) ++ List.replicate (11 - k) 0, j, List.replicate 128 0⟩ ∧ Off (fun k => k = w.heap.size) wc wx)
          case atStart => exact ⟨0, rfl, rfl, Nat.zero_le _, HOc.out, Off.refl _ _⟩
          case round =>
            obtain ⟨k, rfl, rfl, hk, hO, ho⟩ := hrel
            by_cases hlt : k < 11
            · have hlt' : decide ((k : Int) < 11) = true := by simp; omega
              have hg := HGet2.out (9 + 4 * k) (cp - (9 + 4 * k)) wr ho (by omega) (by omega)
              have hcell := hO.page k hlt
              have hfree := hO.free (4 + k)
              have hnext := hO.setPage k (numAt rec (9 + 4 * k) 4) hlt
              rw [show (⟨y.toNat, numAt rec 1 2, numAt rec 3 2, numAt rec 5 4, (List.range k).map (fun k => numAt rec (9 + 4 * k) 4) ++ List.replicate (11 - k) 0, j, List.replicate 128 0⟩ : Opn).pages = (List.range k).map (fun k => numAt rec (9 + 4 * k) 4) ++ List.replicate (11 - k) 0 from rfl, upto_set (fun k => numAt rec (9 + 4 * k) 4) 11 k hlt] at hnext
              have hnoff : Off (fun k => k = w.heap.size) wc (wr.setCell ⟨w.heap.size, 4 + k, none⟩ (.int .i64 (numAt rec (9 + 4 * k) 4 : Nat))) := ho.setCell (p := ⟨w.heap.size, 4 + k, none⟩) (.inl rfl) _
              have h13 : 13 + 4 * k ≤ cp := by omega
              have h9n : ¬ cp = 9 + 4 * k := by omega
              have HG := Lib.hid hg
              have HN := Lib.hid hnext
              have HNo := Lib.hid hnoff
              clear hg hnext hnoff hO ho
              go_wp2_with fail
              rw [show 13 + 4 * k - (9 + 4 * k) = 4 from by omega]
              refine HG.out.mono ?_
              rintro e w6 ⟨rfl, rfl⟩
              go_wp2_with fail
              go_roundg (11 - (k + 1))
              case measure => omega
              case rel => exact ⟨k + 1, by go_num, rfl, hlt, HN.out, HNo.out⟩
            · have hlt' : decide ((k : Int) < 11) = false := by simp; omega
              obtain rfl : k = 11 := by omega
              have e11 : (List.range 11).map (fun k => numAt rec (9 + 4 * k) 4) ++ List.replicate (11 - 11) 0 = (List.range 11).map (fun k => numAt rec (9 + 4 * k) 4) := by simp
              rw [e11, ← HDec.out] at hO
              have hkd : (C.recd j).kind = y.toNat := by rw [HDec.out]
              have hck := hO.kind
              obtain ⟨g4, t4, f4, b4⟩ := HK4.out
              have ho4 : Off (fun k => k = w.heap.size) w4 wr := (HW45.out.then hoc).then ho
              have hHr : Held wr F c C R4 := g4.off ho4 (fun k hk e => b4 (e ▸ hk))
              have hSt : ∀ wx, Off (fun k => k = w.heap.size) wr wx → Step w F c C R wx := fun wx h1 => HFin.out w4 wx ⟨R4, g4, t4, f4⟩ (ho4.then h1)
              have HSt := Lib.hid hSt
              have HO4r := Lib.hid ho4
              have HHr := Lib.hid hHr
              have HO := Lib.hid hO
              have HT4 := Lib.hid (⟨t4, f4, b4⟩ : _ ∧ _ ∧ _)
              have hskp : wr.cell? ⟨s, 0, none⟩ = some (.pointer (some ⟨m, 0, none⟩)) := cell_of_heap (hHr.fix _ HS.out).1 0
              have hmkp := (hHr.fix _ HM.out).1
              have HMk := Lib.hid hmkp
              clear hO ho g4 t4 f4 b4 hSt hHr hmkp e11
              rw [hkd] at hck
              by_cases hk0 : y.toNat = 0
              · have hk0' : (((y.toNat : Nat) : Int) == 0) = true := by rw [hk0]; rfl
                have HE := Lib.hid (loadR_none HNo2.out HBt.out (hkd.trans hk0))
                have hz6 := opn_store_zero HO.out
                clear hkd
                go_wp2_with fail
                (try simp only [Exit.inBlock, Exit.then])
                refine bodyPost_ret (results_open rfl _ _ _ Opn.none rfl (HO.out.row _ Opn.none_len)) rfl ?_
                exact ⟨by rw [HE.out]; rfl, HSt.out _ (off_setRow _ _ _)⟩
              · have hk0' : (((y.toNat : Nat) : Int) == 0) = false := by simp; exact hk0
                have hkn : (C.recd j).kind ≠ 0 := by rw [hkd]; exact hk0
                have hci := HO.out.page 10 (by decide)
                have hcind : (C.recd j).pages.getD 10 0 = (C.recd j).ind := rfl
                rw [hcind] at hci
                obtain ⟨nn, hnn⟩ : ∃ nn, nn = (C.recd j).ind := ⟨_, rfl⟩
                rw [← hnn] at hci
                have HKn := Lib.hid hkn
                have HNn := Lib.hid hnn
                clear hkd hkn hcind hnn
                by_cases hn0 : nn = 0
                · have hn0' : (((nn : Nat) : Int) != 0) = false := by rw [hn0]; rfl
                  have HE := Lib.hid (loadR_flat HNo2.out HBt.out HKn.out (HNn.out.symm.trans hn0))
                  have hl6 := opn_load HO.out
                  have hs6 := opn_store_same HO.out
                  go_wp2_with (refine wpList_load_row rfl 171 _ rfl w.heap.size rfl 171 (cellsO (C.recd j)).toArray (0, 0) _ HO.out.1 Tryz.underlying171 rfl HO.out.info ?_)
                  (try simp only [Exit.inBlock, Exit.then])
                  refine bodyPost_ret (results_open rfl _ _ _ (C.recd j) rfl HO.out) rfl ?_
                  exact ⟨by rw [HE.out]; rfl, HSt.out _ (Off.refl _ _)⟩
                · have hn0' : (((nn : Nat) : Int) != 0) = true := by simp; exact hn0
                  have hnp : nn < C.G.pages := by rw [HNn.out]; exact hv j (by omega) hj HBt.out
                  have HE := Lib.hid (loadR_deep HNo2.out HBt.out HKn.out (by rw [← HNn.out]; exact hn0))
                  have hmc6 := mcache_any m c ino wr HMk.out
                  have hrd6 := hread_any nn c C R4 F wr HHr.out hnp
                  have HMc6 := Lib.hid hmc6
                  have HRd6 := Lib.hid hrd6
                  clear hmc6 hrd6
                  go_wp2_with fail
                  refine HMc6.out.mono ?_
                  rintro e w5 ⟨rfl, rfl⟩
                  go_wp2_with fail
                  refine HRd6.out.mono ?_
                  rintro e w6 ⟨v, rfl, hr⟩
                  obtain ⟨page2, hpage2⟩ : ∃ page2, page2 = C.rd nn := ⟨_, rfl⟩
                  have hpl2 : page2.length = 512 := by rw [hpage2]; exact HLen.out _ hnp
                  rw [← hpage2] at hr
                  obtain ⟨R6, o6, g6, t6, f6, fr6⟩ := id hr
                  obtain ⟨q, cv2, rfl, hqB, hblk6, hcv2⟩ := o6.blk (by intro e; rw [e] at hpl2; cases hpl2)
                  have hO6 : OpnAt w6 w.heap.size (C.recd j) := HO.out.keep (f6.block _ HO.out.lt (fun e => HT4.out.2.2 (.inl e)))
                  have hbq : w.heap.size ≠ q := by have := HO.out.lt; omega
                  have hSt6 : ∀ wx, Off (fun k => k = w.heap.size) w6 wx → Step w F c C R wx := fun wx h1 => by
                    obtain ⟨t4, f4, b4⟩ := HT4.out
                    rw [World.size_alloc] at t4
                    have b6 : ¬ R6.has w.heap.size := t6.free b4 HO.out.lt
                    have toW : R.To R4 w.heap.size := ⟨fun k hk => (t4.m k hk).imp id (by omega), fun k hk => (t4.i k hk).imp id (by omega)⟩
                    have offW : Off R.m w wr := ((Off.of_below HB0.out _).then f4).trans (HO4r.out) (fun k e => .inr (Nat.le_of_eq e.symm))
                    exact ⟨R6, g6.off h1 (fun k hk e => b6 (e ▸ hk)), toW.trans t6 offW.size, (offW.trans f6 toW.m).trans h1 (fun k e => .inr (Nat.le_of_eq e.symm))⟩
                  have HO6 := Lib.hid hO6
                  have HBlk6 := Lib.hid hblk6
                  have HSt6 := Lib.hid hSt6
                  have HPg2 := Lib.hid hpage2
                  have HPl2 := Lib.hid hpl2
                  rw [hpl2] at hcv2
                  clear hr o6 g6 t6 f6 fr6 hO6 hblk6 hSt6 hpage2
                  rw [hpl2]
                  clear hpl2
                  have hget3 : ∀ (o k : Nat) (W : World), Off (fun k => k = w.heap.size) w6 W → o + 4 ≤ 512 → 4 ≤ k → Calls Tryz.prog 188 #[.slice (some ⟨q, o, none⟩) 4 k] W fun e w' => e = .returned (.int .i64 (numAt page2 o 4)) ∧ W = w' := fun o k W ho h1 h3 => by
                    have h9 := (HBlk6.out.keep (ho.block q HBlk6.out.lt (fun e => hbq e.symm))).sub (by rw [HPl2.out]; decide) o 4 k (by rw [HPl2.out]; omega) h3
                    refine (get_any _ _ W h9 (by rw [List.length_take]; omega)).mono ?_
                    rintro e w' ⟨rfl, rfl⟩
                    exact ⟨rfl, rfl⟩
                  have HGet3 := Lib.hid hget3
                  clear hget3
                  obtain ⟨rd, hrdE⟩ : ∃ rd, rd = C.recd j := ⟨_, rfl⟩
                  have hm0 : rd.more = List.replicate 128 0 := by rw [hrdE, HDec.out]
                  rw [← hrdE] at HO6
                  have HRdE := Lib.hid hrdE
                  have HM0 := Lib.hid hm0
                  clear hrdE hm0
                  go_wp2_with fail
                  go_loopg [119] 128 (fun gg i wx => ∃ k : Nat, i = .int .i64 k ∧ gg = 128 - k ∧ k ≤ 128 ∧ OpnAt wx w.heap.size { rd with more := (List.range k).map (fun k => numAt page2 (4 * k) 4) ++ List.replicate (128 - k) 0 } ∧ Off (fun k => k = w.heap.size) w6 wx)
                  case atStart => exact ⟨0, rfl, rfl, Nat.zero_le _, by have h9 := HO6.out; rw [show ({ rd with more := (List.range 0).map (fun k => numAt page2 (4 * k) 4) ++ List.replicate (128 - 0) 0 } : Opn) = rd from by cases rd; simp at HM0 ⊢; exact HM0.out.symm]; exact h9, Off.refl _ _⟩
                  case round =>
                    obtain ⟨k, rfl, rfl, hk, hO, ho⟩ := hrel
                    by_cases hlt : k < 128
                    · have hlt' : decide ((k : Int) < 128) = true := by simp; omega
                      have hg := HGet3.out (4 * k) (cv2 - 4 * k) wr ho (by omega) (by omega)
                      have hcell := hO.more k hlt
                      have hfree := hO.free (16 + k)
                      have hnext := hO.setMore k (numAt page2 (4 * k) 4)
                      rw [show ({ rd with more := (List.range k).map (fun k => numAt page2 (4 * k) 4) ++ List.replicate (128 - k) 0 } : Opn).more = (List.range k).map (fun k => numAt page2 (4 * k) 4) ++ List.replicate (128 - k) 0 from rfl, upto_set (fun k => numAt page2 (4 * k) 4) 128 k hlt] at hnext
                      have hnoff : Off (fun k => k = w.heap.size) w6 (wr.setCell ⟨w.heap.size, 16 + k, none⟩ (.int .i64 (numAt page2 (4 * k) 4 : Nat))) := ho.setCell (p := ⟨w.heap.size, 16 + k, none⟩) (.inl rfl) _
                      have h4k : 4 * k + 4 ≤ cv2 := by omega
                      have h4n : ¬ cv2 = 4 * k := by omega
                      have HG := Lib.hid hg
                      have HN := Lib.hid hnext
                      have HNo := Lib.hid hnoff
                      clear hg hnext hnoff hO ho
                      go_wp2_with fail
                      refine HG.out.mono ?_
                      rintro e w7 ⟨rfl, rfl⟩
                      go_wp2_with fail
                      go_roundg (128 - (k + 1))
                      case measure => omega
                      case rel => exact ⟨k + 1, by go_num, rfl, hlt, HN.out, HNo.out⟩
                    · have hlt' : decide ((k : Int) < 128) = false := by simp; omega
                      obtain rfl : k = 128 := by omega
                      have e128 : ({ rd with more := (List.range 128).map (fun k => numAt page2 (4 * k) 4) ++ List.replicate (128 - 128) 0 } : Opn) = { C.recd j with more := decM (C.rd (C.recd j).ind) } := by
                        rw [HRdE.out, ← HNn.out, ← HPg2.out]; simp [decM]
                      rw [e128] at hO
                      have hSt9 := HSt6.out wr ho
                      have HO9 := Lib.hid hO
                      have HSt9 := Lib.hid hSt9
                      clear hO ho hSt9 e128
                      have hs9 := opn_store_same HO9.out
                      go_wp2_with (refine wpList_load_row rfl 171 _ rfl w.heap.size rfl 171 (cellsO { C.recd j with more := decM (C.rd (C.recd j).ind) }).toArray (0, 0) _ HO9.out.1 Tryz.underlying171 rfl HO9.out.info ?_)
                      (try simp only [Exit.inBlock, Exit.then])
                      refine bodyPost_ret (results_open rfl _ _ _ { C.recd j with more := decM (C.rd (C.recd j).ind) } rfl HO9.out) rfl ?_
                      exact ⟨by rw [HE.out]; rfl, HSt9.out⟩
end Go.Proofs.YtakmplpfjcddiaaGreatDoor

namespace Go.Proofs.YtakmplpfjcddiaaGreatDoor
open Go.RowKit Go.Shelf Pa
attribute [local go_sem] bs_toList bs_size
theorem mode_any (n : Int) (w : World) : Calls Tryz.prog 130 #[.int .i64 n] w fun e w' => e = .returned (.bool (decide (0 ≤ n) && decide (n ≤ 4095))) ∧ w = w' := by
  by_cases h : 0 ≤ n
  · have h' : decide (0 ≤ n) = true := by simpa using h
    go_enter Tryz.func130, Tryz.ntmps130
    go_wp2
    go_ret
    exact ⟨ret_bool (by first | rfl | (rw [h']; rfl)), rfl⟩
  · have h' : decide (0 ≤ n) = false := by simpa using h
    go_enter Tryz.func130, Tryz.ntmps130
    go_wp2
    go_ret
    exact ⟨ret_bool (by first | rfl | (rw [h']; rfl)), rfl⟩
theorem npages_any (n : Nat) (w : World) (h : n ≤ 1000000) : Calls Tryz.prog 190 #[.int .i64 n] w fun e w' => e = .returned (.int .i64 (npg n)) ∧ w = w' := by
  have w1 : IntKind.i64.wrap ((n : Int) + 512) = (n : Int) + 512 := IntWalk.i64_in _ (by omega)
  have w2 : IntKind.i64.wrap ((n : Int) + 512 - 1) = (n : Int) + 512 - 1 := IntWalk.i64_in _ (by omega)
  go_enter Tryz.func190, Tryz.ntmps190
  go_wp2
  go_ret
  exact ⟨ret_int (by unfold npg; omega), rfl⟩
theorem inew_any (m : Nat) (w : World) : Calls Tryz.prog 172 #[.pointer (some ⟨m, 0, none⟩)] w fun e w' => e = .returned (.tuple #[.pointer (some ⟨w.heap.size, 0, none⟩), .int .i64 0]) ∧ w' = w.alloc (.cells #[.pointer (some ⟨m, 0, none⟩)] 180) := by
  go_enter Tryz.func172, Tryz.ntmps172
  go_wp2
  go_ret2
  exact ⟨rfl, rfl⟩
/-- Where page k of a file is named. -/
def slotOff (k : Nat) : Nat := if k < 10 then 4 + k else 16 + (k - 10)
theorem slot_any (b k : Nat) (w : World) (h : k < 138) : Calls Tryz.prog 126 #[.pointer (some ⟨b, 0, none⟩), .int .i64 k] w fun e w' => e = .returned (.pointer (some ⟨b, slotOff k, none⟩)) ∧ w = w' := by
  by_cases hk : k < 10
  · have hk' : decide ((k : Int) < 10) = true := by simp; omega
    have hk1 : (k : Int) < 11 := by omega
    go_enter Tryz.func126, Tryz.ntmps126
    go_wp2
    go_ret
    exact ⟨by unfold slotOff; rw [if_pos hk]; rfl, rfl⟩
  · have hk' : decide ((k : Int) < 10) = false := by simp; omega
    obtain ⟨j, rfl⟩ : ∃ j, k = 10 + j := ⟨k - 10, by omega⟩
    have w1 : IntKind.i64.wrap ((10 : Int) + (j : Int) - 10) = (j : Int) := by rw [IntWalk.i64_in _ (by omega)]; omega
    clear hk hk'
    have hk' : decide ((10 : Int) + (j : Int) < 10) = false := by simp; omega
    rw [show ((10 + j : Nat) : Int) = (10 : Int) + (j : Int) from by omega]
    have hj1 : (j : Int) < 128 := by omega
    have hj2 : j < 128 := by omega
    go_enter Tryz.func126, Tryz.ntmps126
    go_wp2
    go_ret
    exact ⟨by unfold slotOff; rw [if_neg (by omega), Nat.add_sub_cancel_left]; rfl, rfl⟩
theorem OpnAt.slot {w : World} {b : Nat} {o : Opn} (h : OpnAt w b o) (k : Nat) (hk : k < 138) : w.cell? ⟨b, slotOff k, none⟩ = some (.int .i64 (o.slot k : Nat)) := by
  unfold slotOff Opn.slot
  split
  · rename_i h1; exact h.page k (by omega)
  · exact h.more _ (by omega)
theorem OpnAt.setSlot {w : World} {b : Nat} {o : Opn} (h : OpnAt w b o) (k n : Nat) : OpnAt (w.setCell ⟨b, slotOff k, none⟩ (.int .i64 (n : Nat))) b (o.setSlot k n) := by
  unfold slotOff Opn.setSlot
  split
  · rename_i h1; exact h.setPage k n (by omega)
  · exact h.setMore _ n
theorem OpnAt.ind {w : World} {b : Nat} {o : Opn} (h : OpnAt w b o) : w.cell? ⟨b, 14, none⟩ = some (.int .i64 (o.ind : Nat)) := h.page 10 (by decide)
theorem OpnAt.setInd {w : World} {b : Nat} {o : Opn} (h : OpnAt w b o) (n : Nat) : OpnAt (w.setCell ⟨b, 14, none⟩ (.int .i64 (n : Nat))) b (o.setInd n) := h.setPage 10 n (by decide)
set_option maxHeartbeats 1000000 in
/-- write, where there is room. -/
theorem iwrite_any (s m c ino n : Nat) (v : Value) (x : Str) (C C' : Ca) (R : Reg) (F : List (Nat × Obj)) (w : World) (h : Held w F c C R) (hm : (m, mapO c ino) ∈ F) (hs : (s, storeO m) ∈ F) (hn : n < C.G.pages) (hv : BytesAt w w.heap.size v x) (hx : x.length = 512) (hw : C.w n x = some C') :
    Calls Tryz.prog 129 #[.pointer (some ⟨s, 0, none⟩), .int .i64 n, v] w fun e w' => e = .returned (.tuple #[]) ∧ Step w F c C' R w' := by
  have hmay : C.may n = true := by
    unfold Ca.w at hw
    split at hw
    · assumption
    · cases hw
  have hC' : C' = C.set n x := by unfold Ca.w at hw; rw [if_pos hmay] at hw; exact (Option.some.inj hw).symm
  have k0 : w.cell? ⟨s, 0, none⟩ = some (.pointer (some ⟨m, 0, none⟩)) := cell_of_heap (h.fix _ hs).1 0
  have hmc := mcache_any m c ino w (h.fix _ hm).1
  have hwr := hwrite_any n c C R F v x w h hn hv hx
  rw [if_pos hmay, if_pos hmay, ← hC'] at hwr
  have HMc := Lib.hid hmc
  have HWr := Lib.hid hwr
  obtain ⟨A, cp, rfl, _, _⟩ := hv
  clear hmc hwr h hm hs hw hC' hmay hx
  go_enter Tryz.func129, Tryz.ntmps129
  go_wp2_with fail
  refine HMc.out.mono ?_
  rintro e w1 ⟨rfl, rfl⟩
  go_wp2_with fail
  refine HWr.out.mono ?_
  rintro e w2 ⟨rfl, hs2⟩
  have HS := Lib.hid hs2
  clear hs2
  go_wp2_with fail
  go_end0
  exact ⟨rfl, HS.out⟩
set_option maxHeartbeats 1000000 in
theorem take_any (s m c ino n : Nat) (C C' : Ca) (R : Reg) (F : List (Nat × Obj)) (w : World) (h : Held w F c C R) (hm : (m, mapO c ino) ∈ F) (hs : (s, storeO m) ∈ F) (hp : 2 < C.G.pages) (hw : C.page = some (n, C')) :
    Calls Tryz.prog 191 #[.pointer (some ⟨s, 0, none⟩)] w fun e w' => e = .returned (.int .i64 n) ∧ Step w F c C' R w' := by
  have hR : C.pageR = (n, 0, C') := by unfold Ca.pageR; rw [hw]
  have k0 : w.cell? ⟨s, 0, none⟩ = some (.pointer (some ⟨m, 0, none⟩)) := cell_of_heap (h.fix _ hs).1 0
  have hpg := page_any m c ino C R F w h hm hp
  rw [hR] at hpg
  have HPg := Lib.hid hpg
  clear hpg h hm hs hw hR
  go_enter Tryz.func191, Tryz.ntmps191
  go_wp2_with fail
  refine HPg.out.mono ?_
  rintro e w1 ⟨rfl, hs1⟩
  have HS := Lib.hid hs1
  clear hs1
  go_wp2_with fail
  go_ret
  exact ⟨rfl, HS.out⟩
set_option maxHeartbeats 1000000 in
theorem igive_any (s m c ino n : Nat) (C C' : Ca) (R : Reg) (F : List (Nat × Obj)) (w : World) (h : Held w F c C R) (hm : (m, mapO c ino) ∈ F) (hs : (s, storeO m) ∈ F) (hp : 2 < C.G.pages) (hi : ino ≤ 512) (hw : C.giveP ino n = some C') :
    Calls Tryz.prog 192 #[.pointer (some ⟨s, 0, none⟩), .int .i64 n] w fun e w' => e = .returned (.tuple #[]) ∧ Step w F c C' R w' := by
  have hR : C.give 2 C.G.pages n (alFirst ino) = (0, C') := by
    unfold Ca.giveP at hw
    split at hw
    · rename_i C2 h2; rw [h2]; rw [Option.some.inj hw]
    · cases hw
  have k0 : w.cell? ⟨s, 0, none⟩ = some (.pointer (some ⟨m, 0, none⟩)) := cell_of_heap (h.fix _ hs).1 0
  have hpg := givePage_any n m c ino C R F w h hm hp hi
  rw [hR] at hpg
  have HPg := Lib.hid hpg
  clear hpg h hm hs hw hR
  go_enter Tryz.func192, Tryz.ntmps192
  go_wp2_with fail
  refine HPg.out.mono ?_
  rintro e w1 ⟨rfl, hs1⟩
  have HS := Lib.hid hs1
  clear hs1
  go_wp2_with fail
  go_end0
  exact ⟨rfl, HS.out⟩
end Go.Proofs.YtakmplpfjcddiaaGreatDoor

namespace Go.Proofs.YtakmplpfjcddiaaGreatDoor
open Go.RowKit Go.Shelf Pa
attribute [local go_sem] bs_toList bs_size
theorem int_plain (w : World) : (isAgg 3).run Tryz.prog w = .ok false w := by kernel_rfl
theorem size_int (w : World) : (sizeOf 3).run Tryz.prog w = .ok 1 w := by kernel_rfl
theorem run_index_ints {t : TypeId} {n : Nat} (ht : Tryz.prog.underlying t = some (.array n 3)) (l : List Nat) (hl : l.length = n) (k : Nat) (hk : k < n) (w : World) : (Instr.index t (.agg (ints l).toArray) (.int .i64 k)).run Tryz.prog w = .ok (.int .i64 (l.getD k 0 : Nat)) w := by
  have h1 : (ints l)[k]? = some (.int .i64 (l.getD k 0 : Nat)) := ints_at l k (by omega)
  simp [Instr.index, asIntOf, run_underlying ht, hk, part, int_plain, size_int, h1]
/-- A record under way: what is written, then zeros. -/
def stage (page : Str) (a : Nat) (pre : Str) : Str := laidAt page a (pre ++ List.replicate (64 - pre.length) 0)
theorem stage_length {page : Str} {a : Nat} {pre : Str} (h : pre.length ≤ 64) (ha : a + 64 ≤ page.length) : (stage page a pre).length = page.length := laidAt_length (by rw [List.length_append, List.length_replicate]; omega)
theorem stage_put {page : Str} {a : Nat} {pre y : Str} (h : pre.length + y.length ≤ 64) (ha : a + 64 ≤ page.length) : laidAt (stage page a pre) (a + pre.length) y = stage page a (pre ++ y) := by
  have hl1 : (pre ++ List.replicate (64 - pre.length) (0 : UInt8)).length = 64 := by rw [List.length_append, List.length_replicate]; omega
  have hl2 : (pre ++ y ++ List.replicate (64 - (pre ++ y).length) (0 : UInt8)).length = 64 := by rw [List.length_append, List.length_replicate, List.length_append]; omega
  refine List.ext_getElem? fun j => ?_
  rw [laidAt_getElem? _ _ _ _ (by rw [stage_length (by omega) ha]; omega)]
  unfold stage
  rw [laidAt_getElem? _ _ _ _ (by rw [hl1]; omega), laidAt_getElem? _ _ _ _ (by rw [hl2]; omega), hl1, hl2]
  by_cases h1 : a ≤ j ∧ j < a + 64
  · rw [if_pos h1, if_pos h1]
    by_cases h2 : a + pre.length ≤ j ∧ j < a + pre.length + y.length
    · rw [if_pos h2, List.append_assoc, List.getElem?_append_right (by omega), List.getElem?_append_left (by omega)]
      congr 1; omega
    · rw [if_neg h2]
      by_cases h3 : j - a < pre.length
      · rw [List.getElem?_append_left h3, List.append_assoc, List.getElem?_append_left h3]
      · rw [List.getElem?_append_right (by omega), List.getElem?_append_right (by rw [List.length_append]; omega), List.getElem?_replicate, List.getElem?_replicate, List.length_append, if_pos (by omega), if_pos (by omega)]
  · rw [if_neg h1, if_neg h1, if_neg (by omega)]
/-- The bytes of an inode up to its pages. -/
def headI (o : Opn) : Str := [UInt8.ofNat o.kind] ++ putN 2 o.mode ++ putN 2 o.links ++ putN 4 o.size
theorem headI_length (o : Opn) : (headI o).length = 9 := by unfold headI; simp only [List.length_append, putN_length, List.length_cons, List.length_nil]
def pagesI (o : Opn) (k : Nat) : Str := ((o.pages.take k).map (putN 4)).flatten
theorem pagesI_length (o : Opn) (k : Nat) (h : k ≤ o.pages.length) : (pagesI o k).length = 4 * k := by unfold pagesI; rw [flat4_length, List.length_take, Nat.min_eq_left h]
theorem pagesI_succ (o : Opn) (k : Nat) (h : k < o.pages.length) : pagesI o (k + 1) = pagesI o k ++ putN 4 (o.pages.getD k 0) := by
  unfold pagesI
  rw [take_succ_at _ _ _ (List.getElem?_eq_getElem h), List.map_append, List.flatten_append, List.getD_eq_getElem?_getD, List.getElem?_eq_getElem h]
  simp
theorem stage_all (page : Str) (a : Nat) (o : Opn) (h : o.pages.length = 11) : stage page a (headI o ++ pagesI o 11) = laidAt page a (encI o) := by
  unfold stage
  have e : (headI o ++ pagesI o 11).length = 53 := by rw [List.length_append, headI_length, pagesI_length o 11 (by omega)]
  rw [e]
  unfold encI headI pagesI
  rw [List.take_of_length_le (by omega)]
def moreI (o : Opn) (k : Nat) : Str := ((o.more.take k).map (putN 4)).flatten
theorem moreI_length (o : Opn) (k : Nat) (h : k ≤ o.more.length) : (moreI o k).length = 4 * k := by unfold moreI; rw [flat4_length, List.length_take, Nat.min_eq_left h]
theorem moreI_succ (o : Opn) (k : Nat) (h : k < o.more.length) : moreI o (k + 1) = moreI o k ++ putN 4 (o.more.getD k 0) := by
  unfold moreI
  rw [take_succ_at _ _ _ (List.getElem?_eq_getElem h), List.map_append, List.flatten_append, List.getD_eq_getElem?_getD, List.getElem?_eq_getElem h]
  simp
theorem rangeAt_pages {w : World} {b : Nat} {o : Opn} (h : OpnAt w b o) : w.rangeAt b 4 (ints o.pages) := fun j v hv => by
  have hj : j < o.pages.length := by have := (List.getElem?_eq_some_iff.1 hv).1; simpa [ints] using this
  rw [ints_at _ _ hj] at hv
  cases hv
  exact h.page j (by rw [← h.2.pages]; exact hj)
theorem rangeAt_more {w : World} {b : Nat} {o : Opn} (h : OpnAt w b o) : w.rangeAt b 16 (ints o.more) := fun j v hv => by
  have hj : j < o.more.length := by have := (List.getElem?_eq_some_iff.1 hv).1; simpa [ints] using this
  rw [ints_at _ _ hj] at hv
  cases hv
  exact h.more j (by rw [← h.2.more]; exact hj)
theorem info_pages : (Tryz.prog.info? 92).map (·.size) = some 11 := by kernel_rfl
theorem info_more : (Tryz.prog.info? 169).map (·.size) = some 128 := by kernel_rfl
end Go.Proofs.YtakmplpfjcddiaaGreatDoor
