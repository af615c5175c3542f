/-
  What the map of free pages and inodes does, in plain Lean: bits of a page, the first that is not set, numbers as bytes, the superblock, whether a group has room
  What inodes do, in plain Lean: an inode as bytes, taking and giving pages, the growing and shrinking of a file, reading and writing.
  Inodes as bytes and back, in plain Lean; a cache that always has room.
  What the document says of inodes, in plain Lean; and when the pages of a cache stand for it.
  The saving of an inode, the taking and giving of a page, in plain Lean, against what the document says.
  A cache behind a Commit: what is collected of the pages that were written, and what is left.
  The walk over a cache's Commit.
  A cache in memory with objects beside it that are never written; what an act on it leaves. The walks over the map's small functions: First, Cache, Table.
  The walks over the map's bits: at, first; Table, may.
  The cache's Read, Write, Abort, Commit with objects beside it; the walks over the map's read, is, UsedInode.
  The walks over the map's fits and numbers: whether a group has room.
  The walk over the map's turn: a bit is turned, and its page is written.
  The walks over the map's Inode, Page, give, GivePage.
-/
import Derived.Test.YtfgkgoddjemnfaaGreatDoorG2
import Derived.Laws.BitsAllLaws
set_option linter.unusedVariables false
set_option linter.unusedSimpArgs false
set_option linter.deprecated false
namespace Go.Proofs.YtfgkgoddjemnfaaGreatDoor
open Go.RowKit Go.Shelf Pa
/-- A bit of a page. -/
def bitAt (b : Str) (i : Nat) : Bool := (b.getD (i / 8) 0).toNat.testBit (i % 8)
/-- A page with one bit turned. -/
def turnB (b : Str) (i : Nat) : Str := b.set (i / 8) (UInt8.ofNat ((b.getD (i / 8) 0).toNat ^^^ 2 ^ (i % 8)))
theorem turnB_length (b : Str) (i : Nat) : (turnB b i).length = b.length := by unfold turnB; simp
theorem xor_lt256 {x k : Nat} (hx : x < 256) (hk : k < 8) : x ^^^ 2 ^ k < 256 :=
  Nat.xor_lt_two_pow (n := 8) hx (Nat.pow_lt_pow_right (by decide) hk)
theorem bitAt_turnB {b : Str} {i j : Nat} (hi : i / 8 < b.length) : bitAt (turnB b i) j = if j = i then !bitAt b i else bitAt b j := by
  unfold bitAt turnB
  have hk : i % 8 < 8 := Nat.mod_lt _ (by decide)
  have hx : (b.getD (i / 8) 0).toNat < 256 := UInt8.toNat_lt _
  by_cases h : j / 8 = i / 8
  · rw [List.getD_eq_getElem?_getD, h, List.getElem?_set_self hi, Option.getD_some, UInt8.toNat_ofNat', Nat.mod_eq_of_lt (xor_lt256 hx hk), Nat.testBit_xor, Nat.testBit_two_pow]
    by_cases h2 : j = i
    · subst h2; rw [if_pos rfl]; simp
    · rw [if_neg h2]
      have : i % 8 ≠ j % 8 := by omega
      simp [this]
  · have h2 : j ≠ i := fun e => h (by rw [e])
    rw [if_neg h2, List.getD_eq_getElem?_getD, List.getElem?_set_ne (fun e => h e.symm), ← List.getD_eq_getElem?_getD]
/-- The first bit that is not set. -/
def firstB (b : Str) (n : Nat) : Option Nat := (List.range n).find? (fun i => !bitAt b i)
theorem firstB_some {b : Str} {n i : Nat} (h : firstB b n = some i) : i < n ∧ bitAt b i = false ∧ ∀ j, j < i → bitAt b j = true := by
  unfold firstB at h
  rw [List.find?_range_eq_some] at h
  obtain ⟨h1, h2, h3⟩ := h
  exact ⟨by simpa using h2, by simpa using h1, fun j hj => by simpa using h3 j hj⟩
theorem firstB_intro {b : Str} {n i : Nat} (h1 : i < n) (h2 : bitAt b i = false) (h3 : ∀ j, j < i → bitAt b j = true) : firstB b n = some i := by
  unfold firstB
  rw [List.find?_range_eq_some]
  exact ⟨by simpa using h2, by simpa using h1, fun j hj => by simpa using h3 j hj⟩
theorem firstB_intro0 {b : Str} {n : Nat} (h : ∀ j, j < n → bitAt b j = true) : firstB b n = none := by
  unfold firstB
  rw [List.find?_eq_none]
  intro j hj
  simpa using h j (by simpa using hj)
/-- A number in so many bytes, the highest first; and back. -/
def putN (k n : Nat) : Str := (List.range k).map fun j => UInt8.ofNat (n / 2 ^ (8 * (k - 1 - j)))
def getN (b : Str) : Nat := b.foldl (fun n x => n * 256 + x.toNat) 0
theorem putN_length (k n : Nat) : (putN k n).length = k := by simp [putN]
theorem putN_succ (k n : Nat) : putN (k + 1) n = UInt8.ofNat (n / 2 ^ (8 * k)) :: putN k n := by
  unfold putN
  rw [List.range_succ_eq_map, List.map_cons, List.map_map]
  congr 1
  refine List.map_congr_left fun j hj => ?_
  simp only [Function.comp]
  have : j < k := by simpa using hj
  rw [show k + 1 - 1 - (j + 1) = k - 1 - j from by omega]
theorem getN_from (b : Str) (a : Nat) : b.foldl (fun n x => n * 256 + x.toNat) a = a * 256 ^ b.length + getN b := by
  induction b generalizing a with
  | nil => simp [getN]
  | cons x b ih =>
    unfold getN
    rw [List.foldl_cons, List.foldl_cons, ih, ih (0 * 256 + x.toNat), List.length_cons, Nat.pow_succ]
    rw [Nat.add_mul]
    simp only [Nat.zero_mul, Nat.zero_add]
    rw [Nat.mul_assoc, Nat.mul_comm 256]
    omega
theorem getN_cons (x : UInt8) (b : Str) : getN (x :: b) = x.toNat * 256 ^ b.length + getN b := by
  show b.foldl (fun n x => n * 256 + x.toNat) (0 * 256 + x.toNat) = _
  rw [getN_from]; simp
theorem getN_lt (b : Str) : getN b < 256 ^ b.length := by
  induction b with
  | nil => simp [getN]
  | cons x b ih =>
    rw [getN_cons, List.length_cons, Nat.pow_succ]
    have := UInt8.toNat_lt x
    have h2 : x.toNat * 256 ^ b.length ≤ 255 * 256 ^ b.length := Nat.mul_le_mul_right _ (by omega)
    omega
theorem getN_putN (k n : Nat) : getN (putN k n) = n % 256 ^ k := by
  induction k with
  | zero => simp [putN, getN, Nat.mod_one]
  | succ k ih =>
    rw [putN_succ, getN_cons, putN_length, ih, UInt8.toNat_ofNat']
    rw [show (2 : Nat) ^ (8 * k) = 256 ^ k from by rw [Nat.pow_mul]]
    rw [show (2 : Nat) ^ 8 = 256 from rfl, Nat.pow_succ, Nat.mod_mul]
    rw [Nat.mul_comm]
    omega
/-- The first page that files may have. -/
def alFirst (inodes : Nat) : Nat := 3 + inodes / 8
/-- The superblock. -/
def superB (pages inodes : Nat) : Str := [68, 85, 78, 49] ++ putN 4 pages ++ putN 4 inodes ++ List.replicate 500 0
theorem superB_length (p i : Nat) : (superB p i).length = 512 := by simp only [superB, List.length_append, putN_length, List.length_replicate, List.length_cons, List.length_nil]
/-- Numbers, with those that are not there yet. -/
def newN (s l : List Nat) : List Nat := l.foldl (fun s n => if n ∈ s then s else s ++ [n]) s
theorem newN_nodup {s l : List Nat} (h : s.Nodup) : (newN s l).Nodup := by
  induction l generalizing s with
  | nil => exact h
  | cons n l ih =>
    refine ih ?_
    show (if n ∈ s then s else s ++ [n]).Nodup
    split
    · exact h
    · rename_i hn
      rw [List.nodup_append]
      refine ⟨h, by simp, fun a ha b hb e => hn ?_⟩
      have hb : b = n := by simpa using hb
      rw [← hb, ← e]; exact ha
theorem newN_mem {s l : List Nat} {n : Nat} : n ∈ newN s l ↔ n ∈ s ∨ n ∈ l := by
  induction l generalizing s with
  | nil => simp [newN]
  | cons m l ih =>
    show n ∈ newN (if m ∈ s then s else s ++ [m]) l ↔ _
    rw [ih]
    split
    · rename_i hm
      constructor
      · rintro (h | h)
        · exact .inl h
        · exact .inr (by simp [h])
      · rintro (h | h)
        · exact .inl h
        · rcases List.mem_cons.1 h with rfl | h
          · exact .inl hm
          · exact .inr h
    · simp [or_assoc]
theorem newN_le {s l : List Nat} : s.length ≤ (newN s l).length := by
  induction l generalizing s with
  | nil => exact Nat.le_refl _
  | cons m l ih =>
    refine Nat.le_trans ?_ ih
    show s.length ≤ (if m ∈ s then s else s ++ [m]).length
    split
    · exact Nat.le_refl _
    · simp
/-- Whether a group has room for pages besides. -/
def Ca.fits (C : Ca) (l : List Nat) : Bool := decide ((newN (srtN C.dirty) l).length ≤ C.G.cap)
theorem nodup_bound {l : List Nat} (h : l.Nodup) {n : Nat} (hl : ∀ x ∈ l, x < n) : l.length ≤ n := by
  have h1 : l ⊆ List.range n := fun x hx => List.mem_range.2 (hl x hx)
  have := h.length_le_of_subset h1
  simpa using this
theorem Ca.fits_of {C : Ca} {l : List Nat} (hok : C.Ok) (hnd : (C.dirty.map (·.1)).Nodup) (hc : C.G.pages ≤ C.G.cap) (hl : ∀ n ∈ l, n < C.G.pages) : C.fits l = true := by
  unfold Ca.fits
  simp only [decide_eq_true_eq]
  refine Nat.le_trans (nodup_bound (newN_nodup (srtN_nodup hnd)) fun x hx => ?_) hc
  rcases newN_mem.1 hx with h | h
  · obtain ⟨p, hp, rfl⟩ := List.mem_map.1 (srtN_mem.1 h)
    exact (hok.dirty p hp).1
  · exact hl x h
end Go.Proofs.YtfgkgoddjemnfaaGreatDoor

namespace Go.Proofs.YtfgkgoddjemnfaaGreatDoor
open Go.RowKit Go.Shelf Pa
/-- A page of zeros. -/
def pageZ : Str := List.replicate 512 0
theorem pageZ_length : pageZ.length = 512 := by unfold pageZ; exact List.length_replicate
/-- A page is written, if there is room. -/
def Ca.w (C : Ca) (n : Nat) (x : Str) : Option Ca := if C.may n = true then some (C.set n x) else none
/-- A page is taken: the first that is free. -/
def Ca.page (C : Ca) : Option (Nat × Ca) :=
  match firstB (C.rd 2) C.G.pages with
  | none => none
  | some n => if C.fits [2, n] = true then some (n, (C.set 2 (turnB (C.rd 2) n)).set n pageZ) else none
/-- An inode's number is taken. -/
def Ca.inode (C : Ca) (inodes : Nat) : Option (Nat × Ca) :=
  match firstB (C.rd 1) inodes with
  | none => none
  | some i => if C.fits [1] = true then some (i, C.set 1 (turnB (C.rd 1) i)) else none
/-- One is free again. -/
def Ca.give (C : Ca) (page n i least : Nat) : Nat × Ca :=
  if i < least ∨ n ≤ i then (2, C) else if bitAt (C.rd page) i = false then (4, C) else if C.fits [page] = false then (7, C) else (0, C.set page (turnB (C.rd page) i))
def Ca.giveP (C : Ca) (inodes n : Nat) : Option Ca := match C.give 2 C.G.pages n (alFirst inodes) with | (0, C') => some C' | _ => none
/-- An inode with its number and the pages that its indirect page names. -/
structure Opn where
  kind : Nat
  mode : Nat
  links : Nat
  size : Nat
  pages : List Nat
  i : Nat
  more : List Nat
/-- An inode of nothing. -/
def Opn.none : Opn := ⟨0, 0, 0, 0, List.replicate 11 0, 0, List.replicate 128 0⟩
structure Opn.Ok (o : Opn) (n : Nat) : Prop where
  pages : o.pages.length = 11
  more : o.more.length = 128
  size : o.size ≤ 70656
  pagesB : ∀ x ∈ o.pages, x < n
  moreB : ∀ x ∈ o.more, x < n
/-- Page k of a file. -/
def Opn.slot (o : Opn) (k : Nat) : Nat := if k < 10 then o.pages.getD k 0 else o.more.getD (k - 10) 0
def Opn.setSlot (o : Opn) (k n : Nat) : Opn := if k < 10 then { o with pages := o.pages.set k n } else { o with more := o.more.set (k - 10) n }
def Opn.ind (o : Opn) : Nat := o.pages.getD 10 0
def Opn.setInd (o : Opn) (n : Nat) : Opn := { o with pages := o.pages.set 10 n }
/-- An inode as bytes. -/
def encI (o : Opn) : Str := [UInt8.ofNat o.kind] ++ putN 2 o.mode ++ putN 2 o.links ++ putN 4 o.size ++ (o.pages.map (putN 4)).flatten ++ List.replicate 11 0
def encM (l : List Nat) : Str := (l.map (putN 4)).flatten
def numAt (b : Str) (at_ k : Nat) : Nat := getN ((b.drop at_).take k)
def decI (b : Str) (i : Nat) : Opn := ⟨(b.getD 0 0).toNat, numAt b 1 2, numAt b 3 2, numAt b 5 4, (List.range 11).map fun k => numAt b (9 + 4 * k) 4, i, List.replicate 128 0⟩
def decM (b : Str) : List Nat := (List.range 128).map fun k => numAt b (4 * k) 4
/-- An inode is read: the number of the error, or the inode. -/
def Ca.load (C : Ca) (inodes : Nat) (i : Int) : Except Nat Opn :=
  if i ≤ 0 ∨ (inodes : Int) ≤ i then .error 2
  else if bitAt (C.rd 1) i.toNat = false then .error 4
  else
    let o := decI (((C.rd (3 + i.toNat / 8)).drop (64 * (i.toNat % 8))).take 64) i.toNat
    if o.kind = 0 then .error 4
    else if o.ind = 0 then .ok o
    else .ok { o with more := decM (C.rd o.ind) }
/-- An inode is written. -/
def laidAt (b : Str) (at_ : Nat) (x : Str) : Str := b.take at_ ++ x ++ b.drop (at_ + x.length)
def Ca.save (C : Ca) (o : Opn) : Option Ca :=
  match C.w (3 + o.i / 8) (laidAt (C.rd (3 + o.i / 8)) (64 * (o.i % 8)) (encI o)) with
  | none => none
  | some C1 => if o.ind = 0 then some C1 else C1.w o.ind (encM o.more)
/-- How many pages a size has. -/
def npg (size : Nat) : Nat := (size + 511) / 512
abbrev OC := Opn × Ca
def grow1 (s : OC) (k : Nat) : Option OC :=
  match (if k = 10 then (match s.2.page with | none => none | some (n, C) => some (s.1.setInd n, C)) else some s) with
  | none => none
  | some s1 => match s1.2.page with | none => none | some (n, C) => some (s1.1.setSlot k n, C)
def shrink1 (inodes : Nat) (s : OC) (k : Nat) : Option OC :=
  match s.2.giveP inodes (s.1.slot k) with
  | none => none
  | some C1 =>
    if k = 10 then (match C1.giveP inodes (s.1.setSlot k 0).ind with | none => none | some C2 => some ((s.1.setSlot k 0).setInd 0, C2)) else some (s.1.setSlot k 0, C1)
/-- So many pages more, from page a on. -/
def growN (a : Nat) : Nat → OC → Option OC
  | 0, s => some s
  | n + 1, s => match grow1 s a with | none => none | some s1 => growN (a + 1) n s1
/-- So many pages less; page a - 1 goes first. -/
def shrinkN (inodes : Nat) : Nat → Nat → OC → Option OC
  | _, 0, s => some s
  | a, n + 1, s => match shrink1 inodes s (a - 1) with | none => none | some s1 => shrinkN inodes (a - 1) n s1
def tailZ (s : OC) (old size : Nat) : Option OC :=
  if size < old ∧ 0 < size % 512 then
    (match s.2.w (s.1.slot (npg size - 1)) ((s.2.rd (s.1.slot (npg size - 1))).take (size % 512) ++ List.replicate (512 - size % 512) 0) with | none => none | some C => some (s.1, C))
  else some s
def resizeP (inodes : Nat) (s : OC) (size : Nat) : Option OC :=
  match growN (npg s.1.size) (npg size - npg s.1.size) s with
  | none => none
  | some s1 => match shrinkN inodes (npg s.1.size) (npg s.1.size - npg size) s1 with
    | none => none
    | some s2 => match tailZ s2 s.1.size size with
      | none => none
      | some s3 => some ({ s3.1 with size := size }, s3.2)
/-- Bytes are written over a file's pages. -/
def over (b : Str) (at_ : Nat) (x : Str) : Str := laidAt b at_ (x.take (b.length - at_))
def layP (o : Opn) : Nat → Ca → Nat → Str → Option Ca
  | 0, C, _, _ => some C
  | f + 1, C, at_, b =>
    if b = [] then some C else
    match C.w (o.slot (at_ / 512)) (over (C.rd (o.slot (at_ / 512))) (at_ % 512) b) with
    | none => none
    | some C1 => layP o f C1 (at_ + min (512 - at_ % 512) b.length) (b.drop (min (512 - at_ % 512) b.length))
/-- All that was not committed is forgotten. -/
def Ca.aborted (C : Ca) : Ca := ⟨C.G, C.most, []⟩
/-- Something is done, or all is forgotten. -/
def tried (C : Ca) (r : Option Ca) : Nat × Ca := match r with | none => (7, C.aborted) | some C' => (0, C')
def Ca.write (C : Ca) (inodes : Nat) (i : Int) (at_ : Nat) (b : Str) : Nat × Ca :=
  match C.load inodes i with
  | .error e => (e, C)
  | .ok o =>
    if 70656 < at_ ∨ 70656 - at_ < b.length then (6, C)
    else if b = [] then (0, C)
    else tried C (match resizeP inodes (o, C) (max o.size (at_ + b.length)) with
      | none => none
      | some (o1, C1) => match layP o1 b.length C1 at_ b with
        | none => none
        | some C2 => C2.save o1)
def Ca.resize (C : Ca) (inodes : Nat) (i : Int) (size : Nat) : Nat × Ca :=
  match C.load inodes i with
  | .error e => (e, C)
  | .ok o =>
    if 70656 < size then (6, C)
    else if size = o.size then (0, C)
    else tried C (match resizeP inodes (o, C) size with | none => none | some (o1, C1) => C1.save o1)
/-- A file's bytes, as they are read off its pages. -/
def Ca.bytesOf (C : Ca) (o : Opn) : Str := (((List.range (npg o.size)).map fun k => C.rd (o.slot k)).flatten).take o.size
end Go.Proofs.YtfgkgoddjemnfaaGreatDoor

namespace Go.Proofs.YtfgkgoddjemnfaaGreatDoor
open Go.RowKit Go.Shelf Pa
theorem flat4_length (l : List Nat) : ((l.map (putN 4)).flatten).length = 4 * l.length := by
  induction l with
  | nil => rfl
  | cons n l ih => rw [List.map_cons, List.flatten_cons, List.length_append, ih, putN_length, List.length_cons]; omega
theorem flat4 (l : List Nat) (k : Nat) (h : k < l.length) : (((l.map (putN 4)).flatten).drop (4 * k)).take 4 = putN 4 (l.getD k 0) := by
  induction l generalizing k with
  | nil => simp at h
  | cons n l ih =>
    rw [List.map_cons, List.flatten_cons]
    cases k with
    | zero =>
      rw [Nat.mul_zero, List.drop_zero, List.take_append_of_le_length (by rw [putN_length]; exact Nat.le_refl _), List.take_of_length_le (by rw [putN_length]; exact Nat.le_refl _)]
      rfl
    | succ k =>
      rw [show 4 * (k + 1) = (putN 4 n).length + 4 * k from by rw [putN_length]; omega, List.drop_length_add_append, ih k (by simpa using h)]
      rfl
theorem numAt_mid (a b c : Str) : numAt (a ++ b ++ c) a.length b.length = getN b := by
  unfold numAt
  rw [List.append_assoc, List.drop_left, List.take_left]
theorem mod_of_lt32 {n : Nat} (h : n < 4294967296) : n % 256 ^ 4 = n := Nat.mod_eq_of_lt (by simpa using h)
theorem encI_length {o : Opn} (h : o.pages.length = 11) : (encI o).length = 64 := by
  unfold encI
  simp only [List.length_append, putN_length, List.length_cons, List.length_nil, flat4_length, h, List.length_replicate]
theorem encM_length (l : List Nat) : (encM l).length = 4 * l.length := flat4_length l
/-- What goes into an inode's bytes. -/
structure Opn.Fit (o : Opn) : Prop where
  kind : o.kind < 256
  mode : o.mode < 65536
  links : o.links < 65536
  size : o.size < 4294967296
  pages : o.pages.length = 11
  pagesB : ∀ x ∈ o.pages, x < 4294967296
theorem getD_lt {l : List Nat} {B : Nat} (h : ∀ x ∈ l, x < B) (k : Nat) (hB : 0 < B) : l.getD k 0 < B := by
  rw [List.getD_eq_getElem?_getD]
  cases hk : l[k]? with
  | none => exact hB
  | some x => exact h x (List.mem_of_getElem? hk)
theorem range_getD {l : List Nat} {n : Nat} (h : l.length = n) : (List.range n).map (fun k => l.getD k 0) = l := by
  refine List.ext_getElem? fun i => ?_
  rw [List.getElem?_map]
  by_cases hi : i < n
  · rw [List.getElem?_range hi, Option.map_some, List.getD_eq_getElem?_getD, List.getElem?_eq_getElem (by omega)]; rfl
  · rw [List.getElem?_eq_none (by simpa using hi), List.getElem?_eq_none (by omega)]; rfl
theorem decI_encI {o : Opn} (h : o.Fit) : decI (encI o) o.i = { o with more := List.replicate 128 0 } := by
  have hk : ((encI o).getD 0 0).toNat = o.kind := by
    show (UInt8.ofNat o.kind).toNat = o.kind
    rw [UInt8.toNat_ofNat']; exact Nat.mod_eq_of_lt h.kind
  have hm : numAt (encI o) 1 2 = o.mode := by
    have := numAt_mid [UInt8.ofNat o.kind] (putN 2 o.mode) (putN 2 o.links ++ putN 4 o.size ++ (o.pages.map (putN 4)).flatten ++ List.replicate 11 0)
    rw [putN_length, getN_putN, Nat.mod_eq_of_lt (by simpa using h.mode)] at this
    rw [← this]; unfold encI; simp only [List.append_assoc]; rfl
  have hl : numAt (encI o) 3 2 = o.links := by
    have := numAt_mid ([UInt8.ofNat o.kind] ++ putN 2 o.mode) (putN 2 o.links) (putN 4 o.size ++ (o.pages.map (putN 4)).flatten ++ List.replicate 11 0)
    rw [putN_length, getN_putN, Nat.mod_eq_of_lt (by simpa using h.links)] at this
    rw [← this]; unfold encI; simp only [List.append_assoc]; rfl
  have hs : numAt (encI o) 5 4 = o.size := by
    have := numAt_mid ([UInt8.ofNat o.kind] ++ putN 2 o.mode ++ putN 2 o.links) (putN 4 o.size) ((o.pages.map (putN 4)).flatten ++ List.replicate 11 0)
    rw [putN_length, getN_putN, mod_of_lt32 h.size] at this
    rw [← this]; unfold encI; simp only [List.append_assoc]; rfl
  have hp : (List.range 11).map (fun k => numAt (encI o) (9 + 4 * k) 4) = o.pages := by
    rw [← range_getD h.pages]
    refine List.map_congr_left fun k hk => ?_
    have hk : k < 11 := by simpa using hk
    unfold numAt encI
    rw [List.append_assoc, show 9 + 4 * k = ([UInt8.ofNat o.kind] ++ putN 2 o.mode ++ putN 2 o.links ++ putN 4 o.size).length + 4 * k from by simp only [List.length_append, putN_length, List.length_cons, List.length_nil], List.drop_length_add_append,
      List.drop_append_of_le_length (by rw [flat4_length, h.pages]; omega), List.take_append_of_le_length (by rw [List.length_drop, flat4_length, h.pages]; omega), flat4 _ _ (by rw [h.pages]; exact hk), getN_putN,
      mod_of_lt32 (getD_lt h.pagesB k (by decide))]
  unfold decI
  rw [hk, hm, hl, hs, hp]
theorem decM_encM {l : List Nat} (h : l.length = 128) (hB : ∀ x ∈ l, x < 4294967296) : decM (encM l) = l := by
  unfold decM
  rw [← range_getD h]
  refine List.map_congr_left fun k hk => ?_
  have hk : k < 128 := by simpa using hk
  unfold numAt encM
  rw [range_getD h, flat4 _ _ (by rw [h]; exact hk), getN_putN, mod_of_lt32 (getD_lt hB k (by decide))]
theorem laidAt_length {b x : Str} {a : Nat} (h : a + x.length ≤ b.length) : (laidAt b a x).length = b.length := by
  unfold laidAt
  simp only [List.length_append, List.length_take, List.length_drop]
  omega
theorem laidAt_on {b x : Str} {a : Nat} (h : a + x.length ≤ b.length) : ((laidAt b a x).drop a).take x.length = x := by
  unfold laidAt
  have h1 : (b.take a).length = a := by rw [List.length_take]; omega
  rw [List.append_assoc]
  conv => lhs; rw [show List.drop a = List.drop (b.take a).length from by rw [h1]]
  rw [List.drop_left, List.take_left]
theorem laidAt_getElem? (b x : Str) (a j : Nat) (h : a + x.length ≤ b.length) : (laidAt b a x)[j]? = if a ≤ j ∧ j < a + x.length then x[j - a]? else b[j]? := by
  unfold laidAt
  have h1 : (b.take a).length = a := by rw [List.length_take]; omega
  rw [List.append_assoc]
  by_cases hj : j < a
  · rw [List.getElem?_append_left (by omega), if_neg (by omega), List.getElem?_take_of_lt hj]
  · rw [List.getElem?_append_right (by omega), h1]
    by_cases hj2 : j < a + x.length
    · rw [List.getElem?_append_left (by omega), if_pos (by omega)]
    · rw [List.getElem?_append_right (by omega), if_neg (by omega), List.getElem?_drop]
      congr 1; omega
theorem laidAt_off {b x : Str} {a d n : Nat} (h : a + x.length ≤ b.length) (hd : d + n ≤ a ∨ a + x.length ≤ d) : ((laidAt b a x).drop d).take n = (b.drop d).take n := by
  refine List.ext_getElem? fun j => ?_
  rw [List.getElem?_take, List.getElem?_take]
  split
  · rw [List.getElem?_drop, List.getElem?_drop, laidAt_getElem? _ _ _ _ h, if_neg (by omega)]
  · rfl
/-- A cache in which every page has room. -/
structure Ca.Rm (C : Ca) : Prop where
  ok : C.Ok
  nd : (C.dirty.map (·.1)).Nodup
  cap : C.G.pages ≤ C.G.cap
theorem Ca.Rm.may {C : Ca} (h : C.Rm) {n : Nat} (hn : n < C.G.pages) : C.may n = true := by
  unfold Ca.may
  cases hp : phas C.dirty n with
  | true => rfl
  | false =>
    simp only [Bool.false_or, decide_eq_true_eq]
    unfold Ca.room
    have h1 : (C.dirty.map (·.1) ++ [n]).Nodup := by
      rw [List.nodup_append]
      refine ⟨h.nd, by simp, fun a ha b hb e => ?_⟩
      have hb : b = n := by simpa using hb
      rw [hb] at e
      rw [e] at ha
      rw [phas_iff.2 ha] at hp
      cases hp
    have h2 := nodup_bound h1 (n := C.G.pages) (fun x hx => by
      rcases List.mem_append.1 hx with hx | hx
      · obtain ⟨p, hp, rfl⟩ := List.mem_map.1 hx
        exact (h.ok.dirty p hp).1
      · have : x = n := by simpa using hx
        omega)
    rw [List.length_append, List.length_map, List.length_singleton] at h2
    have := h.cap
    omega
theorem Ca.Rm.set {C : Ca} (h : C.Rm) {n : Nat} {x : Str} (hn : n < C.G.pages) (hx : x.length = 512) : (C.set n x).Rm :=
  ⟨h.ok.set hn hx (h.may hn), pset_nodup h.nd, h.cap⟩
theorem Ca.Rm.w {C : Ca} (h : C.Rm) {n : Nat} (x : Str) (hn : n < C.G.pages) : C.w n x = some (C.set n x) := by
  unfold Ca.w; rw [if_pos (h.may hn)]
theorem Ca.Rm.fits {C : Ca} (h : C.Rm) {l : List Nat} (hl : ∀ n ∈ l, n < C.G.pages) : C.fits l = true := Ca.fits_of h.ok h.nd h.cap hl
theorem Ca.Rm.aborted {C : Ca} (h : C.Rm) : C.aborted.Rm := ⟨⟨h.ok.most, (fun p hp => by cases hp), Nat.zero_le _⟩, List.nodup_nil, h.cap⟩
end Go.Proofs.YtfgkgoddjemnfaaGreatDoor

namespace Go.Proofs.YtfgkgoddjemnfaaGreatDoor
open Go.RowKit Go.Shelf Pa
/-- A file as the document has it. -/
structure RF where
  kind : Nat
  mode : Nat
  links : Nat
  bytes : Str
  data : List Nat
  ind : Nat
def RF.none : RF := ⟨0, 0, 0, [], [], 0⟩
/-- What is taken, and the inodes. -/
structure RS where
  p : List Bool
  i : List Bool
  l : List RF
def RS.file (T : RS) (j : Nat) : RF := T.l.getD j RF.none
def RS.inodes (T : RS) : Nat := T.i.length
def RS.first (T : RS) : Nat := alFirst T.i.length
def RS.set (T : RS) (j : Nat) (f : RF) : RS := { T with l := T.l.set j f }
def RS.live (T : RS) (j : Nat) : Prop := 1 ≤ j ∧ T.i.getD j false = true
def RF.pgs (f : RF) : List Nat := if f.ind = 0 then f.data else f.data ++ [f.ind]
/-- The error of a look at an inode: 0: none. -/
def RS.look (T : RS) (i : Int) : Nat := if i < 1 ∨ (T.inodes : Int) ≤ i then 2 else if T.i.getD i.toNat false = false ∨ (T.file i.toNat).kind = 0 then 4 else 0
def padTo (n : Nat) (l : List Nat) : List Nat := l ++ List.replicate (n - l.length) 0
theorem padTo_length {n : Nat} {l : List Nat} (h : l.length ≤ n) : (padTo n l).length = n := by simp [padTo]; omega
theorem padTo_getD (n : Nat) (l : List Nat) (k : Nat) : (padTo n l).getD k 0 = l.getD k 0 := by
  unfold padTo
  rw [List.getD_eq_getElem?_getD, List.getD_eq_getElem?_getD]
  by_cases h : k < l.length
  · rw [List.getElem?_append_left h]
  · rw [List.getElem?_append_right (by omega), List.getElem?_eq_none (l := l) (by omega), List.getElem?_replicate]
    split <;> rfl
theorem padTo_mem {n : Nat} {l : List Nat} {x : Nat} (h : x ∈ padTo n l) : x ∈ l ∨ x = 0 := by
  rcases List.mem_append.1 h with h | h
  · exact .inl h
  · exact .inr (List.mem_replicate.1 h).2
/-- The inode that stands for a file. -/
def opnOf (f : RF) (i : Nat) : Opn := ⟨f.kind, f.mode, f.links, f.bytes.length, padTo 10 (f.data.take 10) ++ [f.ind], i, padTo 128 (f.data.drop 10)⟩
theorem opnOf_ind (f : RF) (i : Nat) : (opnOf f i).ind = f.ind := by
  have h : (padTo 10 (f.data.take 10)).length = 10 := padTo_length (by rw [List.length_take]; omega)
  unfold Opn.ind opnOf
  rw [List.getD_eq_getElem?_getD, List.getElem?_append_right (by omega), h]; rfl
theorem opnOf_slot (f : RF) (i k : Nat) : (opnOf f i).slot k = f.data.getD k 0 := by
  have h : (padTo 10 (f.data.take 10)).length = 10 := padTo_length (by rw [List.length_take]; omega)
  unfold Opn.slot opnOf
  split
  · rename_i hk
    rw [List.getD_eq_getElem?_getD, List.getElem?_append_left (by omega), ← List.getD_eq_getElem?_getD, padTo_getD, List.getD_eq_getElem?_getD, List.getElem?_take_of_lt hk, List.getD_eq_getElem?_getD]
  · rename_i hk
    simp only
    rw [padTo_getD, List.getD_eq_getElem?_getD, List.getElem?_drop, show 10 + (k - 10) = k from by omega, List.getD_eq_getElem?_getD]
/-- Page k of a file's bytes. -/
def pageOf (b : Str) (k : Nat) : Str := (b.drop (512 * k)).take 512 ++ List.replicate (512 - (b.length - 512 * k)) 0
theorem pageOf_length (b : Str) (k : Nat) : (pageOf b k).length = 512 := by
  unfold pageOf
  simp only [List.length_append, List.length_take, List.length_drop, List.length_replicate]
  omega
theorem pageOf_far {b : Str} {k : Nat} (h : b.length ≤ 512 * k) : pageOf b k = pageZ := by
  unfold pageOf pageZ
  rw [List.drop_eq_nil_of_le h, List.take_nil, show 512 - (b.length - 512 * k) = 512 from by omega]; rfl
theorem pageOf_getElem? (b : Str) (k j : Nat) (h : j < 512) : (pageOf b k)[j]? = some ((b.getD (512 * k + j) 0)) := by
  unfold pageOf
  rw [List.getD_eq_getElem?_getD]
  by_cases hj : 512 * k + j < b.length
  · rw [List.getElem?_append_left (by simp only [List.length_take, List.length_drop]; omega), List.getElem?_take_of_lt h, List.getElem?_drop, List.getElem?_eq_getElem hj]; rfl
  · rw [List.getElem?_append_right (by simp only [List.length_take, List.length_drop]; omega), List.getElem?_eq_none (l := b) (by omega), List.getElem?_replicate, if_pos (by simp only [List.length_take, List.length_drop]; omega)]; rfl
theorem pageOf_ext {x : Str} {b : Str} {k : Nat} (hx : x.length = 512) (h : ∀ j, j < 512 → x[j]? = some (b.getD (512 * k + j) 0)) : x = pageOf b k := by
  refine List.ext_getElem? fun j => ?_
  by_cases hj : j < 512
  · rw [h j hj, pageOf_getElem? _ _ _ hj]
  · rw [List.getElem?_eq_none (by omega), List.getElem?_eq_none (by rw [pageOf_length]; omega)]
/-- A file's pages are as they must be, and hold its bytes. -/
structure FOk (C : Ca) (T : RS) (f : RF) : Prop where
  kind : f.kind ≤ 3
  mode : f.mode ≤ 4095
  links : f.links ≤ 65535
  size : f.bytes.length ≤ 70656
  few : f.data.length ≤ 138
  len : f.bytes.length ≤ 512 * f.data.length
  ind : f.ind = 0 ↔ f.data.length ≤ 10
  own : ∀ n ∈ f.pgs, T.first ≤ n ∧ n < C.G.pages ∧ T.p.getD n false = true
  nodup : f.pgs.Nodup
  bytes : ∀ k, k < f.data.length → C.rd (f.data.getD k 0) = pageOf f.bytes k
/-- The pages stand for what the document says; the records of some inodes need not. -/
structure Rel (C : Ca) (T : RS) (ex : Nat → Prop) : Prop where
  rm : C.Rm
  np : T.p.length = C.G.pages
  npl : C.G.pages ≤ 4096
  ino : T.l.length = T.i.length
  ino8 : T.i.length % 8 = 0 ∧ 8 ≤ T.i.length ∧ T.i.length ≤ 512 ∧ alFirst T.i.length < C.G.pages
  len : ∀ n, n < C.G.pages → (C.rd n).length = 512
  pb : ∀ n, n < C.G.pages → bitAt (C.rd 2) n = T.p.getD n false
  ib : ∀ j, j < T.i.length → bitAt (C.rd 1) j = T.i.getD j false
  sys : ∀ n, n < T.first → T.p.getD n false = true
  zero : T.i.getD 0 false = true
  off : ∀ j, ¬ T.live j → T.file j = RF.none
  files : ∀ j, T.live j → 1 ≤ (T.file j).kind ∧ FOk C T (T.file j)
  apart : ∀ j k n, n ∈ (T.file j).pgs → n ∈ (T.file k).pgs → j = k
  rcd : ∀ j, T.live j → ¬ ex j → ((C.rd (3 + j / 8)).drop (64 * (j % 8))).take 64 = encI (opnOf (T.file j) j) ∧ ((T.file j).ind ≠ 0 → C.rd (T.file j).ind = encM (opnOf (T.file j) j).more)
theorem RS.live_lt {T : RS} {j : Nat} (h : T.live j) : j < T.i.length := by
  have h2 := h.2
  rw [List.getD_eq_getElem?_getD] at h2
  rcases Nat.lt_or_ge j T.i.length with h3 | h3
  · exact h3
  · rw [List.getElem?_eq_none h3] at h2; cases h2
theorem pgs_data {f : RF} {n : Nat} (h : n ∈ f.data) : n ∈ f.pgs := by
  unfold RF.pgs; split
  · exact h
  · exact List.mem_append_left _ h
theorem pgs_ind {f : RF} (h : f.ind ≠ 0) : f.ind ∈ f.pgs := by
  unfold RF.pgs; rw [if_neg h]; simp
theorem getD_mem {l : List Nat} {k : Nat} (h : k < l.length) : l.getD k 0 ∈ l := by
  rw [List.getD_eq_getElem?_getD, List.getElem?_eq_getElem h]; exact List.getElem_mem h
theorem FOk.fit {C : Ca} {T : RS} {f : RF} (h : FOk C T f) (hn : C.G.pages ≤ 4096) (i : Nat) : (opnOf f i).Fit := by
  have hB : ∀ x ∈ f.data, x < 4294967296 := fun x hx => by have := (h.own x (pgs_data hx)).2.1; omega
  have hi : f.ind < 4294967296 := by
    by_cases h0 : f.ind = 0
    · omega
    · have := (h.own _ (pgs_ind h0)).2.1; omega
  refine ⟨by show f.kind < 256; have := h.kind; omega, by show f.mode < _; have := h.mode; omega, by show f.links < _; have := h.links; omega, by show f.bytes.length < _; have := h.size; omega, ?_, fun x hx => ?_⟩
  · show (padTo 10 (f.data.take 10) ++ [f.ind]).length = 11
    rw [List.length_append, padTo_length (by rw [List.length_take]; omega)]; rfl
  · have hx : x ∈ padTo 10 (f.data.take 10) ++ [f.ind] := hx
    rcases List.mem_append.1 hx with hx | hx
    · rcases padTo_mem hx with hx | hx
      · exact hB x (List.mem_of_mem_take hx)
      · omega
    · have : x = f.ind := by simpa using hx
      omega
theorem FOk.more {C : Ca} {T : RS} {f : RF} (h : FOk C T f) (hn : C.G.pages ≤ 4096) (i : Nat) : (opnOf f i).more.length = 128 ∧ ∀ x ∈ (opnOf f i).more, x < 4096 := by
  refine ⟨padTo_length (by rw [List.length_drop]; have := h.few; omega), fun x hx => ?_⟩
  have hx : x ∈ padTo 128 (f.data.drop 10) := hx
  rcases padTo_mem hx with hx | hx
  · have := (h.own x (pgs_data (List.mem_of_mem_drop hx))).2.1; omega
  · omega
theorem FOk.more0 {C : Ca} {T : RS} {f : RF} (h : FOk C T f) (h0 : f.ind = 0) (i : Nat) : (opnOf f i).more = List.replicate 128 0 := by
  show padTo 128 (f.data.drop 10) = _
  rw [List.drop_eq_nil_of_le (h.ind.1 h0)]; rfl
/-- What is read of an inode. -/
theorem Rel.load {C : Ca} {T : RS} {ex : Nat → Prop} (h : Rel C T ex) (i : Int) (hx : ¬ ex i.toNat) : C.load T.inodes i = if T.look i = 0 then .ok (opnOf (T.file i.toNat) i.toNat) else .error (T.look i) := by
  unfold Ca.load RS.look
  by_cases h1 : i < 1 ∨ (T.inodes : Int) ≤ i
  · rw [if_pos (by omega), if_pos h1, if_neg (by omega)]
  · rw [if_neg (by omega), if_neg h1]
    have hlt : i.toNat < T.i.length := by unfold RS.inodes at h1; omega
    rw [h.ib _ hlt]
    by_cases h2 : T.i.getD i.toNat false = false
    · have hl : (if T.i.getD i.toNat false = false ∨ (T.file i.toNat).kind = 0 then 4 else 0) = 4 := if_pos (Or.inl h2)
      rw [if_pos h2, hl, if_neg (by omega)]
    · have hlive : T.live i.toNat := ⟨by omega, by simpa using h2⟩
      obtain ⟨hk, hf⟩ := h.files _ hlive
      obtain ⟨r1, r2⟩ := h.rcd _ hlive hx
      have hfit := hf.fit h.npl i.toNat
      have hd := decI_encI hfit
      have hl : (if T.i.getD i.toNat false = false ∨ (T.file i.toNat).kind = 0 then 4 else 0) = 0 := if_neg (fun h3 => by rcases h3 with h3 | h3; exact h2 h3; omega)
      rw [if_neg h2, hl, if_pos rfl, r1]
      show (if (decI (encI (opnOf (T.file i.toNat) i.toNat)) i.toNat).kind = 0 then _ else _) = _
      rw [show decI (encI (opnOf (T.file i.toNat) i.toNat)) i.toNat = { opnOf (T.file i.toNat) i.toNat with more := List.replicate 128 0 } from hd]
      rw [if_neg (by show (T.file i.toNat).kind ≠ 0; omega)]
      have hind : ({ opnOf (T.file i.toNat) i.toNat with more := List.replicate 128 0 } : Opn).ind = (T.file i.toNat).ind := opnOf_ind _ i.toNat
      rw [hind]
      by_cases h0 : (T.file i.toNat).ind = 0
      · rw [if_pos h0, ← hf.more0 h0 i.toNat]
      · rw [if_neg h0, r2 h0]
        have hm := hf.more h.npl i.toNat
        rw [decM_encM hm.1 (fun x hx => by have := hm.2 x hx; omega)]
end Go.Proofs.YtfgkgoddjemnfaaGreatDoor

namespace Go.Proofs.YtfgkgoddjemnfaaGreatDoor
open Go.RowKit Go.Shelf Pa
theorem Rel.mono {C : Ca} {T : RS} {ex ex' : Nat → Prop} (h : Rel C T ex) (hx : ∀ j, ex j → ex' j) : Rel C T ex' :=
  { h with rcd := fun j hl hn => h.rcd j hl (fun e => hn (hx j e)) }
theorem file_set (T : RS) (j k : Nat) (f : RF) (hj : j < T.l.length) : (T.set j f).file k = if k = j then f else T.file k := by
  unfold RS.file RS.set
  simp only
  rw [List.getD_eq_getElem?_getD, List.getD_eq_getElem?_getD, List.getElem?_set]
  by_cases h : j = k
  · subst h; rw [if_pos rfl, if_pos hj, if_pos rfl]; rfl
  · rw [if_neg h, if_neg (fun e => h e.symm)]
theorem FOk.setT {C C' : Ca} {T : RS} {f : RF} (h : FOk C T f) (hG : C'.G = C.G) (hr : ∀ n, n ∈ f.data → C'.rd n = C.rd n) : FOk C' T f :=
  { h with
    own := fun n hn => by rw [hG]; exact h.own n hn
    bytes := fun k hk => by rw [hr _ (getD_mem hk)]; exact h.bytes k hk }
/-- A page of the table is not a file's. -/
theorem Rel.table_free {C : Ca} {T : RS} {ex : Nat → Prop} (h : Rel C T ex) {j n : Nat} (hl : T.live j) (hn : n ∈ (T.file j).pgs) : T.first ≤ n ∧ n < C.G.pages := ⟨((h.files j hl).2.own n hn).1, ((h.files j hl).2.own n hn).2.1⟩
theorem Rel.owner {C : Ca} {T : RS} {ex : Nat → Prop} (h : Rel C T ex) {j n : Nat} (hn : n ∈ (T.file j).pgs) : T.live j := Classical.byContradiction fun hl => by
  rw [h.off j hl] at hn; cases hn
/-- A page below the first one that files may have, and above those of bits, is written: the records turn, nothing else. -/
theorem Rel.setTable {C : Ca} {T : RS} {ex : Nat → Prop} (h : Rel C T ex) {n : Nat} {x : Str} (h3 : 3 ≤ n) (hn : n < T.first) (hx : x.length = 512)
    (hr : ∀ j, T.live j → ¬ ex j → 3 + j / 8 = n → (x.drop (64 * (j % 8))).take 64 = encI (opnOf (T.file j) j)) : Rel (C.set n x) T ex := by
  have hnp : n < C.G.pages := Nat.lt_trans hn h.ino8.2.2.2
  have hrd : ∀ m, m ≠ n → (C.set n x).rd m = C.rd m := fun m hm => by rw [Ca.rd_set, if_neg hm]
  have hpg : ∀ j m, T.live j → m ∈ (T.file j).pgs → m ≠ n := fun j m hl hm e => by
    have := (h.table_free hl hm).1
    omega
  refine { h with rm := h.rm.set hnp hx, len := fun m hm => ?_, pb := fun m hm => ?_, ib := fun m hm => ?_, files := fun j hl => ⟨(h.files j hl).1, (h.files j hl).2.setT rfl fun m hm => hrd m (hpg j m hl (pgs_data hm))⟩, rcd := fun j hl he => ⟨?_, fun hi => ?_⟩ }
  · rw [Ca.rd_set]
    split
    · exact hx
    · exact h.len m hm
  · rw [hrd _ (by omega)]; exact h.pb m hm
  · rw [hrd _ (by omega)]; exact h.ib m hm
  · by_cases e : 3 + j / 8 = n
    · rw [e, Ca.rd_set, if_pos rfl]; exact hr j hl he e
    · rw [hrd _ e]; exact (h.rcd j hl he).1
  · rw [hrd _ (hpg j _ hl (pgs_ind hi))]; exact (h.rcd j hl he).2 hi
/-- An indirect page is written: its file's record turns, nothing else. -/
theorem Rel.setInd {C : Ca} {T : RS} {ex : Nat → Prop} (h : Rel C T ex) {j : Nat} {x : Str} (hl : T.live j) (hi : (T.file j).ind ≠ 0) (hx : x.length = 512) (hr : ¬ ex j → x = encM (opnOf (T.file j) j).more) : Rel (C.set (T.file j).ind x) T ex := by
  have hm := pgs_ind hi
  obtain ⟨hf, hnp⟩ := h.table_free hl hm
  have h3 : 3 ≤ T.first := by unfold RS.first alFirst; omega
  have hrd : ∀ m, m ≠ (T.file j).ind → (C.set (T.file j).ind x).rd m = C.rd m := fun m hm => by rw [Ca.rd_set, if_neg hm]
  refine { h with rm := h.rm.set hnp hx, len := fun m hm => ?_, pb := fun m hm => ?_, ib := fun m hm => ?_, files := fun k hk => ⟨(h.files k hk).1, (h.files k hk).2.setT rfl fun n hn => hrd n (fun e => ?_)⟩, rcd := fun k hk he => ⟨?_, fun hi => ?_⟩ }
  · rw [Ca.rd_set]
    split
    · exact hx
    · exact h.len m hm
  · rw [hrd _ (by omega)]; exact h.pb m hm
  · rw [hrd _ (by omega)]; exact h.ib m hm
  · have hjk : k = j := h.apart k j n (pgs_data hn) (by rw [e]; exact hm)
    subst hjk
    have hnd := (h.files k hk).2.nodup
    unfold RF.pgs at hnd
    rw [if_neg hi, List.nodup_append] at hnd
    exact hnd.2.2 n hn _ (by simp) e
  · have hlt := RS.live_lt hk
    have h8 := h.ino8.1
    have : 3 + k / 8 < T.first := by unfold RS.first alFirst; omega
    rw [hrd _ (by omega)]; exact (h.rcd k hk he).1
  · by_cases hjk : k = j
    · subst hjk
      rw [Ca.rd_set, if_pos rfl]; exact hr he
    · rw [hrd _ (fun e => hjk (h.apart k j _ (pgs_ind hi) (by rw [e]; exact hm)))]
      exact (h.rcd k hk he).2 hi
/-- A file's inode is saved: its record stands for it. -/
theorem Rel.save {C : Ca} {T : RS} {ex : Nat → Prop} (h : Rel C T ex) {j : Nat} (hl : T.live j) : ∃ C', C.save (opnOf (T.file j) j) = some C' ∧ Rel C' T (fun k => ex k ∧ k ≠ j) ∧ C'.G = C.G ∧ C'.most = C.most := by
  have hlt := RS.live_lt hl
  have h8 := h.ino8.1
  have hf := (h.files j hl).2
  have htab : 3 + j / 8 < T.first := by unfold RS.first alFirst; omega
  have hnp : 3 + j / 8 < C.G.pages := Nat.lt_trans htab h.ino8.2.2.2
  have hb := h.len _ hnp
  have hen : (encI (opnOf (T.file j) j)).length = 64 := encI_length (hf.fit h.npl j).pages
  have hle : 64 * (j % 8) + (encI (opnOf (T.file j) j)).length ≤ (C.rd (3 + j / 8)).length := by rw [hen, hb]; omega
  have h1 : Rel (C.set (3 + j / 8) (laidAt (C.rd (3 + j / 8)) (64 * (j % 8)) (encI (opnOf (T.file j) j)))) T ex := by
    refine h.setTable (by omega) htab (by rw [laidAt_length hle]; exact hb) fun k hk he e => ?_
    by_cases hkj : k = j
    · subst hkj
      have := laidAt_on hle
      rw [hen] at this; exact this
    · rw [laidAt_off hle (by rw [hen]; omega), ← e]
      exact (h.rcd k hk he).1
  have h1x : Rel (C.set (3 + j / 8) (laidAt (C.rd (3 + j / 8)) (64 * (j % 8)) (encI (opnOf (T.file j) j)))) T (fun k => ex k ∧ k ≠ j) ∨ (T.file j).ind ≠ 0 := by
    by_cases hi : (T.file j).ind = 0
    · left
      refine { h1 with rcd := fun k hk he => ?_ }
      by_cases hkj : k = j
      · subst hkj
        refine ⟨?_, fun e => absurd hi e⟩
        rw [Ca.rd_set, if_pos rfl]
        have := laidAt_on hle
        rw [hen] at this; exact this
      · exact h1.rcd k hk (fun e => he ⟨e, hkj⟩)
    · exact .inr hi
  unfold Ca.save
  rw [opnOf_ind]
  show ∃ C', (match C.w (3 + j / 8) (laidAt (C.rd (3 + j / 8)) (64 * (j % 8)) (encI (opnOf (T.file j) j))) with | none => none | some C1 => if (T.file j).ind = 0 then some C1 else C1.w (T.file j).ind (encM (opnOf (T.file j) j).more)) = some C' ∧ _
  rw [h.rm.w _ hnp]
  simp only
  by_cases hi : (T.file j).ind = 0
  · rw [if_pos hi]
    rcases h1x with h1x | h1x
    · exact ⟨_, rfl, h1x, rfl, rfl⟩
    · exact absurd hi h1x
  · rw [if_neg hi, h1.rm.w _ (h.table_free hl (pgs_ind hi)).2]
    have hml : (encM (opnOf (T.file j) j).more).length = 512 := by rw [encM_length, (hf.more h.npl j).1]
    have h2 := h1.setInd hl hi hml (fun _ => rfl)
    refine ⟨_, rfl, { h2 with rcd := fun k hk he => ?_ }, rfl, rfl⟩
    by_cases hkj : k = j
    · subst hkj
      refine ⟨?_, fun _ => by rw [Ca.rd_set, if_pos rfl]⟩
      have hne : 3 + k / 8 ≠ (T.file k).ind := by have := (h.table_free hl (pgs_ind hi)).1; omega
      rw [Ca.rd_set, if_neg hne, Ca.rd_set, if_pos rfl]
      have := laidAt_on hle
      rw [hen] at this; exact this
    · exact h2.rcd k hk (fun e => he ⟨e, hkj⟩)
/-- The first that is free. -/
def takeB (l : List Bool) : Option Nat := (List.range l.length).find? (fun n => !l.getD n false)
theorem takeB_some {l : List Bool} {n : Nat} (h : takeB l = some n) : n < l.length ∧ l.getD n false = false ∧ ∀ j, j < n → l.getD j false = true := by
  unfold takeB at h
  rw [List.find?_range_eq_some] at h
  obtain ⟨h1, h2, h3⟩ := h
  exact ⟨by simpa using h2, by simpa using h1, fun j hj => by simpa using h3 j hj⟩
theorem find_congr {α : Type} {p q : α → Bool} : ∀ {l : List α}, (∀ x ∈ l, p x = q x) → l.find? p = l.find? q
  | [], _ => rfl
  | x :: l, h => by
    rw [List.find?_cons, List.find?_cons, h x (by simp), find_congr (l := l) (fun y hy => h y (by simp [hy]))]
theorem Rel.bits {C : Ca} {T : RS} {ex : Nat → Prop} (h : Rel C T ex) : firstB (C.rd 2) C.G.pages = takeB T.p := by
  unfold firstB takeB
  rw [h.np]
  refine find_congr fun n hn => ?_
  rw [h.pb n (List.mem_range.1 hn)]
theorem Rel.ibits {C : Ca} {T : RS} {ex : Nat → Prop} (h : Rel C T ex) : firstB (C.rd 1) T.inodes = takeB T.i := by
  unfold firstB takeB RS.inodes
  refine find_congr fun n hn => ?_
  rw [h.ib n (List.mem_range.1 hn)]
theorem Rel.small {C : Ca} {T : RS} {ex : Nat → Prop} (h : Rel C T ex) : 4 ≤ T.first ∧ T.first < C.G.pages ∧ 4 < C.G.pages := by
  have := h.ino8
  unfold RS.first
  unfold alFirst at *
  omega
/-- A bit of the pages' page is turned: nothing else. -/
theorem Rel.turnP {C : Ca} {T : RS} {ex : Nat → Prop} (h : Rel C T ex) {n : Nat} {b : Bool} (hn : n < C.G.pages) (hf : T.first ≤ n) (hb : b = !T.p.getD n false) (hown : ∀ j, n ∉ (T.file j).pgs) :
    Rel (C.set 2 (turnB (C.rd 2) n)) { T with p := T.p.set n b } ex := by
  have hs := h.small
  have hnpl := h.npl
  have hl2 := h.len 2 (by omega)
  have hrd : ∀ m, m ≠ 2 → (C.set 2 (turnB (C.rd 2) n)).rd m = C.rd m := fun m hm => by rw [Ca.rd_set, if_neg hm]
  have hget : ∀ m, (T.p.set n b).getD m false = if m = n then b else T.p.getD m false := fun m => by
    rw [List.getD_eq_getElem?_getD, List.getElem?_set]
    by_cases e : n = m
    · subst e; rw [if_pos rfl, if_pos (by rw [h.np]; exact hn), if_pos rfl]; rfl
    · rw [if_neg e, if_neg (fun e2 => e e2.symm), List.getD_eq_getElem?_getD]
  have hpg : ∀ j m, T.live j → m ∈ (T.file j).pgs → m ≠ 2 := fun j m hl hm e => by
    have := (h.table_free hl hm).1
    omega
  refine { h with rm := h.rm.set (by omega) (by rw [turnB_length]; exact hl2), np := ?_, len := fun m hm => ?_, pb := fun m hm => ?_, ib := fun m hm => ?_, sys := fun m hm => ?_, files := fun j hl => ⟨(h.files j hl).1, ?_⟩, rcd := fun j hl he => ⟨?_, fun hi => ?_⟩ }
  · show (T.p.set n b).length = _; rw [List.length_set]; exact h.np
  · rw [Ca.rd_set]
    split
    · rw [turnB_length]; exact hl2
    · exact h.len m hm
  · show _ = (T.p.set n b).getD m false
    rw [Ca.rd_set, if_pos rfl, bitAt_turnB (by rw [hl2]; omega), hget, h.pb n hn, h.pb m hm, hb]
  · rw [hrd _ (by decide)]; exact h.ib m hm
  · have hm : m < T.first := hm
    show (T.p.set n b).getD m false = true
    rw [hget, if_neg (by omega)]; exact h.sys m hm
  · have hfo := (h.files j hl).2
    refine { hfo with own := fun m hm => ?_, bytes := fun k hk => ?_ }
    · have hmn : m ≠ n := fun e => hown j (by rw [← e]; exact hm)
      obtain ⟨o1, o2, o3⟩ := hfo.own m hm
      refine ⟨o1, o2, ?_⟩
      show (T.p.set n b).getD m false = true
      rw [hget, if_neg hmn]; exact o3
    · exact (hrd _ (hpg j _ hl (pgs_data (getD_mem hk)))).trans (hfo.bytes k hk)
  · rw [hrd _ (by omega)]; exact (h.rcd j hl he).1
  · exact (hrd _ (hpg j _ hl (pgs_ind hi))).trans ((h.rcd j hl he).2 hi)
/-- A page that nobody has is written: nothing turns. -/
theorem Rel.setFree {C : Ca} {T : RS} {ex : Nat → Prop} (h : Rel C T ex) {n : Nat} {x : Str} (hn : n < C.G.pages) (hf : T.first ≤ n) (hx : x.length = 512) (hown : ∀ j, n ∉ (T.file j).pgs) : Rel (C.set n x) T ex := by
  have hs := h.small
  have hrd : ∀ m, m ≠ n → (C.set n x).rd m = C.rd m := fun m hm => by rw [Ca.rd_set, if_neg hm]
  refine { h with rm := h.rm.set hn hx, len := fun m hm => ?_, pb := fun m hm => ?_, ib := fun m hm => ?_, files := fun j hl => ⟨(h.files j hl).1, (h.files j hl).2.setT rfl fun m hm => hrd m (fun e => hown j (e ▸ pgs_data hm))⟩, rcd := fun j hl he => ⟨?_, fun hi => ?_⟩ }
  · rw [Ca.rd_set]
    split
    · exact hx
    · exact h.len m hm
  · rw [hrd _ (by omega)]; exact h.pb m hm
  · rw [hrd _ (by omega)]; exact h.ib m hm
  · have hlt := RS.live_lt hl
    have h8 := h.ino8.1
    have : 3 + j / 8 < T.first := by unfold RS.first alFirst; omega
    rw [hrd _ (by omega)]; exact (h.rcd j hl he).1
  · rw [hrd _ (fun e => hown j (e ▸ pgs_ind hi))]; exact (h.rcd j hl he).2 hi
/-- A page is taken. -/
theorem Rel.page {C : Ca} {T : RS} {ex : Nat → Prop} (h : Rel C T ex) : match takeB T.p with
    | none => C.page = none
    | some n => ∃ C', C.page = some (n, C') ∧ Rel C' { T with p := T.p.set n true } ex ∧ C'.rd n = pageZ ∧ C'.G = C.G ∧ C'.most = C.most ∧ n < C.G.pages ∧ T.first ≤ n ∧ T.p.getD n false = false ∧ ∀ j, n ∉ (T.file j).pgs := by
  unfold Ca.page
  rw [h.bits]
  cases ht : takeB T.p with
  | none => rfl
  | some n =>
    obtain ⟨h1, h2, h3⟩ := takeB_some ht
    have hn : n < C.G.pages := by rw [← h.np]; exact h1
    have hs := h.small
    have hf : T.first ≤ n := Nat.le_of_not_lt fun e => by rw [h.sys n e] at h2; cases h2
    have hown : ∀ j, n ∉ (T.file j).pgs := fun j hm => by
      have := ((h.files j (h.owner hm)).2.own n hm).2.2
      rw [h2] at this; cases this
    simp only
    rw [h.rm.fits (l := [2, n]) (fun m hm => by
      rcases List.mem_cons.1 hm with rfl | hm
      · omega
      · have : m = n := by simpa using hm
        omega), if_pos rfl]
    refine ⟨_, rfl, (h.turnP hn hf (b := true) (by rw [h2]; rfl) hown).setFree hn hf pageZ_length hown, by rw [Ca.rd_set, if_pos rfl], rfl, rfl, hn, hf, h2, hown⟩
/-- A page that nobody has any more is given back. -/
theorem Rel.giveP {C : Ca} {T : RS} {ex : Nat → Prop} (h : Rel C T ex) {n : Nat} (hn : n < C.G.pages) (hf : T.first ≤ n) (hu : T.p.getD n false = true) (hown : ∀ j, n ∉ (T.file j).pgs) :
    C.giveP T.inodes n = some (C.set 2 (turnB (C.rd 2) n)) ∧ Rel (C.set 2 (turnB (C.rd 2) n)) { T with p := T.p.set n false } ex := by
  refine ⟨?_, h.turnP hn hf (by rw [hu]; rfl) hown⟩
  have hs := h.small
  have hlt : ¬ (n < alFirst T.inodes ∨ C.G.pages ≤ n) := by have : T.first = alFirst T.inodes := rfl; omega
  unfold Ca.giveP Ca.give
  rw [if_neg hlt, h.pb n hn, hu, if_neg (by decide), h.rm.fits (l := [2]) (fun m hm => by
    have : m = 2 := by simpa using hm
    omega), if_neg (by decide)]
  rfl
end Go.Proofs.YtfgkgoddjemnfaaGreatDoor

namespace Go.Proofs.YtfgkgoddjemnfaaGreatDoor
open Go.RowKit Go.Shelf Pa
open Go.MapKept
/-- The pages of a group, in a row of the call's own. -/
def PgRow (w0 w : World) (B : Nat) (I : Nat → Prop) (v : Value) (qs : List (Nat × Str)) : Prop :=
  ∃ us : List Value, us.length = qs.length ∧ w.ownsRow B 116 2 v qs.length ((List.zip qs us).flatMap fun p => [Value.int .i64 (p.1.1 : Nat), p.2]) ∧ ∀ (i : Nat) (u : Value) (q : Nat × Str), us[i]? = some u → qs[i]? = some q → BytesI w0 I u q.2
theorem flat2_getElem? {α : Type} (f g : α → Value) (l : List α) (i : Nat) (a : α) (h : l[i]? = some a) : (l.flatMap fun p => [f p, g p])[2 * i]? = some (f a) ∧ (l.flatMap fun p => [f p, g p])[2 * i + 1]? = some (g a) := by
  induction l generalizing i with
  | nil => simp at h
  | cons x l ih =>
    cases i with
    | zero => simp at h; subst h; simp
    | succ i =>
      have := ih i (by simpa using h)
      rw [List.flatMap_cons, show 2 * (i + 1) = 2 * i + 2 from by omega]
      exact ⟨this.1, this.2⟩
theorem PgRow.pgs {w0 w : World} {B : Nat} {I : Nat → Prop} {v : Value} {qs : List (Nat × Str)} (h : PgRow w0 w B I v qs) (hb : Below w0.heap.size w0 w) (hl : qs.length ≤ 1000000000) : PgsI w (fun k => B ≤ k ∨ I k) v qs := by
  obtain ⟨us, hu, ⟨h1, h⟩, hB⟩ := h
  rcases h with ⟨rfl, h0⟩ | ⟨g, cap, cur, rfl, hBg, hg, hc, hm, hs, ht⟩
  · have : qs = [] := List.length_eq_zero_iff.1 h0
    subst this
    exact ⟨none, 0, rfl, ⟨Nat.le_refl _, by simp⟩, fun h => absurd rfl h⟩
  · refine ⟨_, cap, rfl, ⟨hc, hl⟩, fun _ => ⟨g, 0, rfl, ⟨(Array.getElem?_eq_some_iff.1 hg).1, .inl hBg⟩, fun i n x hx => ?_⟩⟩
    have hi : i < qs.length := (List.getElem?_eq_some_iff.1 hx).1
    have hui : us[i]? = some us[i] := List.getElem?_eq_getElem (by omega)
    have hz : (List.zip qs us)[i]? = some ((n, x), us[i]) := by
      rw [List.getElem?_zip_eq_some]; exact ⟨hx, hui⟩
    obtain ⟨e1, e2⟩ := flat2_getElem? (fun p : (Nat × Str) × Value => Value.int .i64 (p.1.1 : Nat)) (fun p => p.2) _ i _ hz
    refine ⟨us[i], ?_, ?_, ((hB i _ _ hui hx).off (Off.of_below hb (fun _ => False)) (fun _ _ e => e)).mono fun k hk _ => .inr hk⟩
    · rw [cell_of_heap hg, ← Array.getElem?_toList, ← List.getElem?_take_of_lt (show 0 + i * 2 < qs.length * 2 by omega), ht, show 0 + i * 2 = 2 * i from by omega]
      exact e1
    · rw [cell_of_heap hg, ← Array.getElem?_toList, ← List.getElem?_take_of_lt (show 0 + i * 2 + 1 < qs.length * 2 by omega), ht, show 0 + i * 2 + 1 = 2 * i + 1 from by omega]
      exact e2
/-- What stands at a round of Commit's loop: the pages that have come. -/
structure CcInv (w : World) (R : Reg) (dm r : Nat) (es : Array MapEntry) (c : Nat) (dirty : List (Nat × Str)) (seen : Array Nat) (v : Value) (wx : World) : Prop where
  iter : wx.heap[r]? = some (.mapIter (some dm) c seen c)
  below : Below w.heap.size w wx
  rows : ∃ qs, PgRow w wx w.heap.size R.i v qs ∧ (∀ q ∈ qs, q ∈ dirty) ∧ (qs.map (·.1)).Nodup ∧ (∀ q ∈ qs, ∃ e ∈ es.toList, e.key = .int .i64 (q.1 : Nat) ∧ seen.contains e.born = true) ∧ (∀ e ∈ es.toList, seen.contains e.born = true → ∃ q ∈ qs, e.key = .int .i64 (q.1 : Nat))
/-- The log behind a Commit of the pages of the cache, in some order. -/
def Committed (C : Ca) (G' : Lg) : Prop := ∃ qs : List (Nat × Str), qs.Perm C.dirty ∧ (qs = [] ∧ G' = C.G ∨ qs ≠ [] ∧ G' = C.G.commit qs)
theorem Lg.commit_first (G : Lg) (ps : List (Nat × Str)) : (G.commit ps).D.first = G.D.first := by
  unfold Lg.commit
  show (homeD (headed G ps) G.size (srtN ps) (srtN ps).length).first = _
  have h1 : ∀ (D : Dk) (sz : Nat) (ns : List Nat) (k : Nat), (homeD D sz ns k).first = D.first := fun D sz ns k => by
    induction k with
    | zero => rfl
    | succ k ih => exact ih
  rw [h1]
  show (logD G.D ps (srtN ps) (srtN ps).length).first = _
  exact logD_first _ _ _ _
theorem Lg.commit_pages (G : Lg) (ps : List (Nat × Str)) : (G.commit ps).pages = G.pages := by unfold Lg.pages; rw [Lg.commit_first]; rfl
theorem Lg.commit_cap (G : Lg) (ps : List (Nat × Str)) : (G.commit ps).cap = G.cap := rfl
theorem Lg.commit_wait (G : Lg) (ps : List (Nat × Str)) : (G.commit ps).D.wait = [] := rfl
theorem Lg.commit_ops (G : Lg) (ps : List (Nat × Str)) : (G.commit ps).D.ops.length = G.D.ops.length + 2 * ps.length + 6 := by
  have h1 : ∀ (D : Dk) (sz : Nat) (ns : List Nat) (k : Nat), (homeD D sz ns k).ops.length = D.ops.length + k := fun D sz ns k => by
    induction k with
    | zero => rfl
    | succ k ih => show ((homeD D sz ns k).ops ++ [_]).length = _; rw [List.length_append, ih]; rfl
  unfold Lg.commit
  show ((((homeD (headed G ps) G.size (srtN ps) (srtN ps).length).ops ++ [_]) ++ [_]) ++ [_]).length = _
  simp only [List.length_append, List.length_singleton]
  rw [h1]
  show ((((logD G.D ps (srtN ps) (srtN ps).length).ops ++ [_]) ++ [_]) ++ [_]).length + _ + _ + _ + _ = _
  simp only [List.length_append, List.length_singleton]
  rw [logD_ops, srtN_length]
  omega
theorem pget_perm {ps qs : List (Nat × Str)} (h : qs.Perm ps) (hn : (ps.map (·.1)).Nodup) (n : Nat) : pget qs n = pget ps n := by
  have hq : (qs.map (·.1)).Nodup := (h.map _).nodup_iff.2 hn
  cases hp : pget ps n with
  | some x => exact pget_mem hq (h.mem_iff.2 (pget_some hp).1)
  | none =>
    cases hg : pget qs n with
    | none => rfl
    | some x =>
      have := pget_mem hn (h.mem_iff.1 (pget_some hg).1)
      rw [hp] at this; cases this
theorem Committed.rd {C : Ca} {G' : Lg} (h : Committed C G') (hok : C.Ok) (hn : (C.dirty.map (·.1)).Nodup) (hs : C.G.D.safe.length = C.G.D.first.length) {n : Nat} (hp : n < C.G.pages) : G'.rd n = C.rd n := by
  obtain ⟨qs, hq, ⟨h0, rfl⟩ | ⟨h0, rfl⟩⟩ := h
  · subst h0
    have hd : C.dirty = [] := List.nil_perm.1 hq
    unfold Ca.rd; rw [hd]; rfl
  · have hle : qs.length ≤ C.G.size := by have := hok.few; rw [hq.length_eq]; unfold Lg.cap at this; omega
    rw [Lg.commit_rd hp hs hle ((hq.map _).nodup_iff.2 hn), pget_perm hq hn]
    rfl
theorem Committed.pages {C : Ca} {G' : Lg} (h : Committed C G') : G'.pages = C.G.pages := by
  obtain ⟨qs, hq, ⟨h0, rfl⟩ | ⟨h0, rfl⟩⟩ := h
  · rfl
  · exact Lg.commit_pages _ _
theorem Committed.cap {C : Ca} {G' : Lg} (h : Committed C G') : G'.cap = C.G.cap := by
  obtain ⟨qs, hq, ⟨h0, rfl⟩ | ⟨h0, rfl⟩⟩ := h
  · rfl
  · exact Lg.commit_cap _ _
theorem Committed.wait {C : Ca} {G' : Lg} (h : Committed C G') (h0 : C.G.D.wait = []) : G'.D.wait = [] := by
  obtain ⟨qs, hq, ⟨_, rfl⟩ | ⟨_, rfl⟩⟩ := h
  · exact h0
  · exact Lg.commit_wait _ _
theorem Committed.ops {C : Ca} {G' : Lg} (h : Committed C G') (hok : C.Ok) : G'.D.ops.length ≤ C.G.D.ops.length + 206 := by
  obtain ⟨qs, hq, ⟨_, rfl⟩ | ⟨_, rfl⟩⟩ := h
  · omega
  · rw [Lg.commit_ops, hq.length_eq]
    have := hok.few
    unfold Lg.cap at this
    omega
/-- The cache behind the log's Commit and the clearing of what was written. -/
theorem CacheR.committed {w w3 w4 : World} {c : Nat} {C : Ca} {R RL' : Reg} {row : List Nat} {p : CaPl} {G' : Lg} (h : CacheR w c C R row p) (hex : ∀ k, ¬ p.ex k) (hl : LogAt w3 p.l G' RL') (ht : p.RL.To RL' w.heap.size) (ho : Off p.RL.m w w3)
    (hd : MapB (α := Str) (fun _ _ => True) w4 p.dm []) (hg : w3.grownBy w4 (some p.dm)) (hpg : G'.pages = C.G.pages) (hrd : ∀ n, n < C.G.pages → phas C.dirty n = false → G'.rd n = C.G.rd n) :
    CacheR w4 c ⟨G', C.most, []⟩ ⟨fun k => R.m k ∨ RL'.m k, fun k => R.i k ∨ RL'.i k⟩ row { p with RL := RL' } ∧ R.To ⟨fun k => R.m k ∨ RL'.m k, fun k => R.i k ∨ RL'.i k⟩ w.heap.size ∧ Off R.m w w4 := by
  have hm : ∀ k, RL'.m k → p.RL.m k ∨ w.heap.size ≤ k := ht.m
  have hi : ∀ k, RL'.i k → p.RL.i k ∨ w.heap.size ≤ k := ht.i
  have o4 : Off (fun k => k = p.dm) w3 w4 := (Off.refl _ w3).grown hg (fun k e => by cases e; exact .inl rfl)
  have hcl : c < w.heap.size := h.lt c (.inl h.mine.1)
  have hdl : p.dm < w.heap.size := h.lt _ (.inl h.mine.2.1)
  have hml : p.cm < w.heap.size := h.lt _ (.inl h.mine.2.2)
  have hs3 := ho.size
  have hs4 := o4.size
  have hnL : ∀ k, k = c ∨ k = p.dm ∨ k = p.cm ∨ p.rv.ownBlock = some k → ¬ p.RL.m k := fun k hk e => by
    obtain ⟨_, h1, h2, h3, h4⟩ := h.logM k e
    rcases hk with hk | hk | hk | hk
    · exact h1 hk
    · exact h2 hk
    · exact h3 hk
    · exact h4 hk
  have hblk : ∀ k, k < w.heap.size → ¬ p.RL.m k → k ≠ p.dm → w4.heap[k]? = w.heap[k]? := fun k hk h1 h2 => (o4.block k (by omega) h2).trans (ho.block k hk h1)
  have o34 : Off (fun k => p.RL.m k ∨ k = p.dm) w w4 := (ho.mono (fun k e => .inl (.inl e))).trans o4 (fun k e => .inl (.inr e))
  have hRi : ∀ k, R.i k → ¬ (p.RL.m k ∨ k = p.dm) := fun k hk e => by
    rcases e with e | e
    · exact h.apart k (h.logM k e).1 hk
    · exact h.apart k (e ▸ h.mine.2.1) hk
  refine ⟨⟨fun k h1 h2 => ?_, fun k hk => ?_, ⟨h.ok.most, (fun q hq => by cases hq), Nat.zero_le _⟩, (hblk c hcl (hnL c (.inl rfl)) h.unlike.1).trans h.cells, ⟨.inl h.mine.1, .inl h.mine.2.1, .inl h.mine.2.2⟩, h.unlike, ?_, fun k hk => ⟨.inl (h.rowB k hk).1, (h.rowB k hk).2⟩, hl.off o4 (fun k hk e => ?_), fun k hk => ?_, fun k hk => .inr hk, ?_, ?_⟩, ⟨fun k hk => ?_, fun k hk => ?_⟩, o34.mono fun k e => .inl ?_⟩
  · rcases h1 with h1 | h1
    · rcases h2 with h2 | h2
      · exact h.apart k h1 h2
      · rcases hi k h2 with e | e
        · exact h.apart k h1 (h.logI k e)
        · have := h.lt k (.inl h1); omega
    · rcases h2 with h2 | h2
      · rcases hm k h1 with e | e
        · exact h.apart k (h.logM k e).1 h2
        · have := h.lt k (.inr h2); omega
      · exact hl.apart k h1 h2
  · rcases hk with (hk | hk) | (hk | hk)
    · have := h.lt k (.inl hk); omega
    · have := hl.lt k (.inl hk); omega
    · have := h.lt k (.inr hk); omega
    · have := hl.lt k (.inr hk); omega
  · obtain ⟨h1, h2⟩ := h.row
    refine ⟨h1, ?_⟩
    rcases h2 with h2 | ⟨g, cap, cur, e, hB, hg', hr⟩
    · exact .inl h2
    · have hgo := h.rowB g (by rw [e]; rfl)
      exact .inr ⟨g, cap, cur, e, hB, (hblk g (h.lt g (.inl hgo.1)) (hnL g (.inr (.inr (.inr (by rw [e]; rfl))))) hgo.2.2.1).trans hg', hr⟩
  · rcases hk with hk | hk
    · rcases hm k hk with e2 | e2
      · exact (h.logM k e2).2.2.1 e
      · omega
    · rcases hi k hk with e2 | e2
      · exact h.apart k (e ▸ h.mine.2.1) (h.logI k e2)
      · omega
  · refine ⟨.inr hk, ?_⟩
    rcases hm k hk with e2 | e2
    · exact (h.logM k e2).2
    · exact ⟨by omega, by show k ≠ p.dm; omega, by show k ≠ p.cm; omega, fun e => by have := h.lt k (.inl (h.rowB k e).1); omega⟩
  · obtain ⟨L9, hL9, hl9, _⟩ := hd
    exact ⟨L9, hL9, hl9, fun i n x h => by simp at h⟩
  · obtain ⟨cl, h1, h2⟩ := h.clean
    refine ⟨cl, h1.mono (hblk _ hml (hnL _ (.inr (.inr (.inl rfl)))) (fun e => h.unlike.2.2 e.symm)) (fun _ _ hB => (hB.off o34 hRi).mono fun k hk _ => .inl hk), fun q hq => ?_⟩
    obtain ⟨q1, q2, q3⟩ := h2 q hq
    refine ⟨by show q.1 < G'.pages; rw [hpg]; exact q1, ?_, fun e => by cases e⟩
    show q.2 = G'.rd q.1
    rw [q2, hrd q.1 q1]
    cases hp : phas C.dirty q.1 with
    | false => rfl
    | true => exact absurd (q3 hp) (hex _)
  · rcases hk with hk | hk
    · exact .inl hk
    · rcases hm k hk with e | e
      · exact .inl (h.logM k e).1
      · exact .inr e
  · rcases hk with hk | hk
    · exact .inl hk
    · rcases hi k hk with e | e
      · exact .inl (h.logI k e)
      · exact .inr e
  · rcases e with e | e
    · exact (h.logM k e).1
    · exact e ▸ h.mine.2.1
end Go.Proofs.YtfgkgoddjemnfaaGreatDoor

namespace Go.Proofs.YtfgkgoddjemnfaaGreatDoor
open Go.RowKit Go.Shelf Pa Go.Maps
open Go.MapKept
attribute [local go_sem] bs_toList bs_size
theorem info_page : (Tryz.prog.info? 116).map (fun i => (i.zero, i.size, i.bytes)) = some (some (.agg #[.int .i64 0, .slice none 0 0]), 2, 32) := by kernel_rfl
set_option maxHeartbeats 1000000 in
/-- Commit of a log, of no pages. -/
theorem commit_none (A : Option Addr) (l cp : Nat) (w : World) : Calls Tryz.prog 59 #[.pointer (some ⟨l, 0, none⟩), .slice A 0 cp] w fun e w' => e = .returned (.int .i64 0) ∧ Below w.heap.size w w' := by
  go_enter Tryz.func59, Tryz.ntmps59
  go_wp2_with fail
  go_ret
  exact ⟨rfl, (Below.refl _ _).alloc (Nat.le_refl _) _⟩
theorem ownsRow_keep {w w' : World} {B n s : Nat} {e : TypeId} {v : Value} {xs : List Value} (h : w.ownsRow B e s v n xs) (hk : ∀ k, v.ownBlock = some k → w'.heap[k]? = w.heap[k]?) : w'.ownsRow B e s v n xs := by
  obtain ⟨h1, h2⟩ := h
  refine ⟨h1, ?_⟩
  rcases h2 with h2 | ⟨g, cap, cur, e, hB, hg, hr⟩
  · exact .inl h2
  · exact .inr ⟨g, cap, cur, e, hB, (hk g (by rw [e]; rfl)).trans hg, hr⟩
theorem nodup_of_map {α β : Type} {f : α → β} {l : List α} (h : (l.map f).Nodup) : l.Nodup := (List.pairwise_map.1 h).imp fun h e => h (by rw [e])
theorem CcInv.step {w w6 : World} {R : Reg} {dm r c n : Nat} {es : Array MapEntry} {dirty : List (Nat × Str)} {seen : Array Nat} {u v' : Value} {x : Str} {e : MapEntry} {qs : List (Nat × Str)} {us : List Value}
    (hq1 : ∀ q ∈ qs, q ∈ dirty) (hq2 : (qs.map (·.1)).Nodup) (hq3 : ∀ q ∈ qs, ∃ e ∈ es.toList, e.key = .int .i64 (q.1 : Nat) ∧ seen.contains e.born = true) (hq4 : ∀ e ∈ es.toList, seen.contains e.born = true → ∃ q ∈ qs, e.key = .int .i64 (q.1 : Nat))
    (hus : us.length = qs.length) (hub : ∀ (i : Nat) (u : Value) (q : Nat × Str), us[i]? = some u → qs[i]? = some q → BytesI w R.i u q.2)
    (hb : Below w.heap.size w w6) (hit : w6.heap[r]? = some (.mapIter (some dm) c (seen.push e.born) c)) (he : e ∈ es.toList) (hns : seen.contains e.born = false) (hst : (es.toList.map (·.born)).Nodup) (hkeys : ∀ a ∈ es.toList, ∀ b ∈ es.toList, a.key = b.key → a = b)
    (hek : e.key = .int .i64 (n : Nat)) (hd : (n, x) ∈ dirty) (hu : BytesI w R.i u x)
    (hrow : w6.ownsRow w.heap.size 116 2 v' (qs.length + 1) (((List.zip qs us).flatMap fun p => [Value.int .i64 (p.1.1 : Nat), p.2]) ++ [.int .i64 (n : Nat), u])) : CcInv w R dm r es c dirty (seen.push e.born) v' w6 := by
  refine ⟨hit, hb, qs ++ [(n, x)], ⟨us ++ [u], by simp [hus], ?_, fun i u' q h1 h2 => ?_⟩, fun q hq => ?_, ?_, fun q hq => ?_, fun e' he' hs => ?_⟩
  · rw [List.zip_append hus.symm, List.flatMap_append, List.length_append]
    simpa using hrow
  · by_cases hi : i < qs.length
    · rw [List.getElem?_append_left (by omega)] at h1
      rw [List.getElem?_append_left hi] at h2
      exact hub i u' q h1 h2
    · rw [List.getElem?_append_right (by omega)] at h1
      rw [List.getElem?_append_right (by omega)] at h2
      have hi2 : i - qs.length = 0 := by
        have := (List.getElem?_eq_some_iff.1 h2).1
        simp at this; omega
      rw [hus, hi2] at h1
      rw [hi2] at h2
      simp at h1 h2
      subst h1 h2
      exact hu
  · rcases List.mem_append.1 hq with hq | hq
    · exact hq1 q hq
    · have : q = (n, x) := by simpa using hq
      rw [this]; exact hd
  · rw [List.map_append, List.nodup_append]
    refine ⟨hq2, by simp, fun a ha b hb e2 => ?_⟩
    have hb : b = n := by simpa using hb
    subst hb
    obtain ⟨q, hq, rfl⟩ := List.mem_map.1 ha
    obtain ⟨e', he', hk', hs'⟩ := hq3 q hq
    have := hkeys e' he' e he (by rw [hk', hek, e2])
    subst this
    rw [hs'] at hns; cases hns
  · rcases List.mem_append.1 hq with hq | hq
    · obtain ⟨e', he', hk', hs'⟩ := hq3 q hq
      exact ⟨e', he', hk', by rw [Array.contains_push, hs']; rfl⟩
    · have : q = (n, x) := by simpa using hq
      subst this
      exact ⟨e, he, hek, by rw [Array.contains_push]; simp⟩
  · rw [Array.contains_push, Bool.or_eq_true] at hs
    rcases hs with hs | hs
    · obtain ⟨q, hq, hk⟩ := hq4 e' he' hs
      exact ⟨q, List.mem_append_left _ hq, hk⟩
    · have : e' = e := born_inj hst he' he (by simpa using hs)
      subst this
      exact ⟨(n, x), by simp, hek⟩
/-- What Commit of a cache hands back. -/
def CCommitPost (w : World) (c : Nat) (C : Ca) (R : Reg) (e : Ending) (w' : World) : Prop :=
  e = .returned (.int .i64 0) ∧ ∃ G' R', Committed C G' ∧ CacheAt w' c ⟨G', C.most, []⟩ R' ∧ R.To R' w.heap.size ∧ Off R.m w w'
set_option maxRecDepth 100000 in
set_option maxHeartbeats 4000000 in
theorem ccommit_any (c : Nat) (C : Ca) (R : Reg) (w : World) (h : CacheAt w c C R) (hw : C.G.D.wait = []) (hops : C.G.D.ops.length + 1000 < 1000000000) :
    Calls Tryz.prog 23 #[.pointer (some ⟨c, 0, none⟩)] w (CCommitPost w c C R) := by
  obtain ⟨i0, hi0, hz0, hz1, hz2⟩ := info_parts info_page
  obtain ⟨row, p, hrl, hex, h⟩ := h
  obtain ⟨L, ⟨es, ck, hb, hst, hp⟩, hll, hL⟩ := id h.dirty
  have hmn := h.dirty.nodup
  have hdl : p.dm < w.heap.size := h.lt _ (.inl h.mine.2.1)
  have hcl : c < w.heap.size := h.lt _ (.inl h.mine.1)
  have hcap : C.dirty.length ≤ 100 := by have := h.ok.few; unfold Lg.cap at this; omega
  have hesl : es.toList.length = C.dirty.length := by
    have h1 : es.toList.length = L.length := by simpa using congrArg List.length hp
    rw [h1, hll]
  have hent : ∀ e ∈ es.toList, ∃ (n : Nat) (x : Str) (A : Option Addr) (cp : Nat), e.key = .int .i64 n ∧ e.val = .slice A x.length cp ∧ (n, x) ∈ C.dirty ∧ BytesI w R.i (.slice A x.length cp) x := by
    intro e he
    obtain ⟨j, hj⟩ := List.getElem?_of_mem he
    obtain ⟨q, hpL, hk, hv⟩ := imap_at hp j e hj
    have hjl : j < C.dirty.length := by rw [← hll]; exact (List.getElem?_eq_some_iff.1 hpL).1
    obtain ⟨v, hv2, hB⟩ := hL j C.dirty[j].1 C.dirty[j].2 (List.getElem?_eq_getElem hjl)
    rw [hpL] at hv2
    have hpe := Option.some.inj hv2
    obtain ⟨A, cp, hve, _, _⟩ := id hB
    exact ⟨C.dirty[j].1, C.dirty[j].2, A, cp, by rw [hk, hpe], by rw [hv, hpe, hve], List.getElem_mem hjl, hve ▸ hB⟩
  have hkeys : ∀ a ∈ es.toList, ∀ b ∈ es.toList, a.key = b.key → a = b := by
    intro a ha b hb e
    have hk := ((stamped_iff es ck).1 hst).2.2
    obtain ⟨i, hi⟩ := List.getElem?_of_mem ha
    obtain ⟨j, hj⟩ := List.getElem?_of_mem hb
    obtain ⟨hi1, hi2⟩ := List.getElem?_eq_some_iff.1 hi
    obtain ⟨hj1, hj2⟩ := List.getElem?_eq_some_iff.1 hj
    rcases Nat.lt_trichotomy i j with hij | hij | hij
    · exact absurd (by rw [hi2, hj2]; exact e) (List.pairwise_iff_getElem.1 hk i j hi1 hj1 hij)
    · subst hij; exact hi2.symm.trans hj2
    · exact absurd (by rw [hi2, hj2]; exact e.symm) (List.pairwise_iff_getElem.1 hk j i hj1 hi1 hij)
  have hall : ∀ q ∈ C.dirty, ∃ e ∈ es.toList, e.key = .int .i64 (q.1 : Nat) := by
    intro q hq
    obtain ⟨i, hi⟩ := List.getElem?_of_mem hq
    obtain ⟨v, hv, _⟩ := hL i q.1 q.2 hi
    have hil : i < es.toList.length := by rw [hesl]; exact (List.getElem?_eq_some_iff.1 hi).1
    obtain ⟨q', hpL, hk, _⟩ := imap_at hp i _ (List.getElem?_eq_getElem hil)
    rw [hv] at hpL
    exact ⟨_, List.getElem_mem hil, by rw [hk, ← Option.some.inj hpL]⟩
  have hrange := run_range_map (P := Tryz.prog) w 111 3 53 p.dm es ck Tryz.underlying111 hb
  have hb2 : Below w.heap.size w (w.alloc (.mapIter (some p.dm) ck #[] ck)) := (Below.refl _ _).alloc (Nat.le_refl _) _
  have H0 : CcInv w R p.dm w.heap.size es ck C.dirty #[] (.slice none 0 0) (w.alloc (.mapIter (some p.dm) ck #[] ck)) :=
    ⟨heap_alloc_new _ _, hb2, [], ⟨[], rfl, World.ownsRow_nil _ _ _ _, fun i u q h => by simp at h⟩, (fun q hq => by cases hq), List.nodup_nil, (fun q hq => by cases hq), (fun e he hs => by simp at hs)⟩
  -- what follows the loop
  have hfin : ∀ wr v seen, CcInv w R p.dm w.heap.size es ck C.dirty seen v wr → (∀ x ∈ es.toList, seen.contains x.born = true) →
      wr.cell? ⟨c, 0, none⟩ = some (.pointer (some ⟨p.l, 0, none⟩)) ∧ Calls Tryz.prog 59 #[.pointer (some ⟨p.l, 0, none⟩), v] wr fun e w3 => e = .returned (.int .i64 0) ∧ w3.cell? ⟨c, 2, none⟩ = some (.map (some p.dm)) ∧ ∃ w4, (Builtin.clear_ #[111] 0 #[.map (some p.dm)]).run Tryz.prog w3 = .ok (.tuple #[]) w4 ∧ CCommitPost w c C R (.returned (.int .i64 0)) w4 := by
    intro wr v seen hI hseen
    obtain ⟨qs, hrow, q1, q2, q3, q4⟩ := hI.rows
    have hperm : qs.Perm C.dirty := by
      refine (List.perm_ext_iff_of_nodup (nodup_of_map q2) (nodup_of_map hmn)).2 fun q => ⟨q1 q, fun hq => ?_⟩
      obtain ⟨e, he, hk⟩ := hall q hq
      obtain ⟨q', hq', hk'⟩ := q4 e he (hseen e he)
      rw [hk] at hk'
      injection hk' with _ hk'
      have e1 := pget_mem hmn hq
      have e2 := pget_mem hmn (q1 q' hq')
      rw [show q'.1 = q.1 from by omega, e1] at e2
      have : q = q' := Prod.ext (by omega) (by simpa using e2)
      rw [this]; exact hq'
    have hr := h.below hI.below
    have hsz := hI.below.size
    refine ⟨cell_of_heap hr.cells 0, ?_⟩
    have htail : ∀ (G' : Lg) (RL' : Reg) (w3 : World), Committed C G' → LogAt w3 p.l G' RL' → p.RL.To RL' wr.heap.size → Off p.RL.m wr w3 → w3.cell? ⟨c, 2, none⟩ = some (.map (some p.dm)) ∧ ∃ w4, (Builtin.clear_ #[111] 0 #[.map (some p.dm)]).run Tryz.prog w3 = .ok (.tuple #[]) w4 ∧ CCommitPost w c C R (.returned (.int .i64 0)) w4 := by
      intro G' RL' w3 hC hl ht ho
      have hnc : ¬ p.RL.m c := fun e => (hr.logM c e).2.1 rfl
      have hnd : ¬ p.RL.m p.dm := fun e => (hr.logM _ e).2.2.1 rfl
      have hm3 : MapB (α := Str) (fun _ _ => True) w3 p.dm C.dirty := hr.dirty.mono (ho.block _ (by omega) hnd) (fun _ _ _ => trivial)
      obtain ⟨w4, hr4, hm4, hg4, hz4⟩ := hm3.clear (Pr := Tryz.prog) Tryz.underlying111 0
      have hs : C.G.D.safe.length = C.G.D.first.length := by
        obtain ⟨a, came, RD, _, hD, _, _⟩ := h.log.cells
        exact hD.ok.len
      obtain ⟨k1, k2, k3⟩ := hr.committed hex hl ht ho hm4 hg4 hC.pages (fun n hn hp => by rw [hC.rd h.ok hmn hs hn]; unfold Ca.rd; rw [pget_none hp])
      refine ⟨(ho.cell (p := ⟨c, 2, none⟩) (show c < _ by omega) hnc).trans (cell_of_heap hr.cells 2), w4, hr4, rfl, G', _, hC, ⟨row, { p with RL := RL' }, hrl, hex, k1⟩, ⟨fun k hk => ?_, fun k hk => ?_⟩, (Off.of_below hI.below _).then k3⟩
      · rcases k2.m k hk with e | e
        · exact .inl e
        · right; omega
      · rcases k2.i k hk with e | e
        · exact .inl e
        · right; omega
    by_cases hq0 : qs = []
    · subst hq0
      obtain ⟨us, _, hrow, _⟩ := hrow
      obtain ⟨A, cp, rfl⟩ := ownsRow_slice hrow
      refine (commit_none A p.l cp wr).mono ?_
      rintro e w3 ⟨rfl, hb3⟩
      exact ⟨rfl, htail C.G p.RL w3 ⟨[], hperm, .inl ⟨rfl, rfl⟩⟩ (hr.log.off (Off.of_below hb3 (fun _ => False)) (fun _ _ e => e)) (Reg.To.refl _ _) (Off.of_below hb3 _)⟩
    · have hlq := hperm.length_eq
      have hpg := (hrow.pgs hI.below (by omega))
      have hv : PgsI wr (fun k => ¬ p.RL.m k) v qs := by
        obtain ⟨A, cp, e, hc, hf⟩ := hpg
        refine ⟨A, cp, e, hc, fun hn => ?_⟩
        obtain ⟨b, o, e1, ⟨hb1, hbI⟩, hx⟩ := hf hn
        refine ⟨b, o, e1, ⟨hb1, fun e2 => ?_⟩, fun i n x hi => ?_⟩
        · have h9 := (h.logM b e2).1
          have h10 := h.lt b (.inl h9)
          rcases hbI with h8 | h8
          · omega
          · exact h.apart b h9 h8
        · obtain ⟨u, u1, u2, u3⟩ := hx i n x hi
          refine ⟨u, u1, u2, u3.mono fun k hk _ e2 => ?_⟩
          have h9 := (h.logM k e2).1
          have h10 := h.lt k (.inl h9)
          rcases hk with h8 | h8
          · omega
          · exact h.apart k h9 h8
      refine (commit_any p.l C.G p.RL qs v wr hr.log hv hq0 (by rw [hlq]; exact h.ok.few) (fun q hq => (h.ok.dirty q (q1 q hq)).1) (fun q hq => (h.ok.dirty q (q1 q hq)).2) q2 hw hops).mono ?_
      rintro e w3 ⟨rfl, ⟨RL', hl, ht⟩, ho⟩
      exact ⟨rfl, htail (C.G.commit qs) RL' w3 ⟨qs, hperm, .inr ⟨hq0, rfl⟩⟩ hl ht ho⟩
  have c2 : w.cell? ⟨c, 2, none⟩ = some (.map (some p.dm)) := cell_of_heap h.cells 2
  have HFin := Lib.hid hfin
  have HEnt := Lib.hid hent
  have HKeys := Lib.hid hkeys
  have HSt := Lib.hid hst
  have HB := Lib.hid hb
  have HH := Lib.hid h
  clear hfin hent hkeys hst hll hL hp hall hmn hb2 hb h hw hops hex hesl
  go_enter Tryz.func23, Tryz.ntmps23
  go_wp2_with fail
  go_loopg [3] (leftOf es #[]).size (fun g v wx => ∃ seen, (leftOf es seen).size = g ∧ CcInv w R p.dm w.heap.size es ck C.dirty seen v wx)
  case atStart => exact ⟨_, rfl, H0⟩
  case round =>
    obtain ⟨seen, hg, hI⟩ := hrel
    obtain ⟨wx, rfl⟩ : ∃ wx, wx = wr := ⟨_, rfl⟩
    have hstep := fun ty => iter_step (P := Tryz.prog) wx p.dm w.heap.size es ck seen hI.iter ((hI.below.block _ hdl).trans HB.out) HSt.out (by omega) ty
    have HI := Lib.hid hI
    clear hI H0 hrange
    rcases hstep 0 with ⟨hall, hnx⟩ | ⟨e, hm, hns, hsh, W2, hnx, hen, hr2, hz2, ho2, e1, e2, e3⟩
    · obtain ⟨k0, hf9⟩ := HFin.out wx _ seen HI.out hall
      have HF := Lib.hid hf9
      clear hf9 hstep
      go_wp2_with fail
      refine HF.out.mono ?_
      rintro e w3 ⟨rfl, k2, w4, hcl4, hf4⟩
      have HF4 := Lib.hid hf4
      clear hf4
      go_wp2_with fail
      go_ret
      exact HF4.out
    · obtain ⟨n, x, Ax, cx, hek, hev, hdm, hB⟩ := HEnt.out e hm
      rw [hek, hev] at hnx hen
      obtain ⟨qs, ⟨us, hus, hrow, hub⟩, q1, q2, q3, q4⟩ := HI.out.rows
      have hlq : qs.length ≤ 100 := Nat.le_trans ((nodup_of_map q2).length_le_of_subset (fun q hq => q1 q hq)) hcap
      have hrn : u3.ownBlock ≠ some w.heap.size := fun e9 => by
        rcases hrow.2 with ⟨e8, _⟩ | ⟨g, cap, cur, e8, _, hg8, _⟩
        · rw [e8] at e9; cases e9
        · rw [e8] at e9
          have : g = w.heap.size := by injection e9
          rw [this, HI.out.iter] at hg8; cases hg8
      have hown1 := (ownsRow_keep hrow (fun k hk => ho2 k (fun e9 => hrn (e9 ▸ hk)))).alloc (.cells #[.int .i64 n, .slice Ax x.length cx] 116)
      have hbW : Below w.heap.size w W2 := ⟨e1.trans HI.out.below.os, e2.trans HI.out.below.tape, e3.trans HI.out.below.output, by rw [hz2]; exact HI.out.below.size, fun k hk => (ho2 k (by omega)).trans (HI.out.below.block k hk)⟩
      have hbW3 : Below w.heap.size w (W2.alloc (.cells #[.int .i64 n, .slice Ax x.length cx] 116)) := hbW.alloc hbW.size _
      have hr3 : (W2.alloc (.cells #[.int .i64 n, .slice Ax x.length cx] 116)).heap[w.heap.size]? = some (.mapIter (some p.dm) ck (seen.push e.born) ck) := (Below.heap_alloc W2 _ _ (Array.getElem?_eq_some_iff.1 hr2).1).trans hr2
      have hrl3 : w.heap.size < (W2.alloc (.cells #[.int .i64 n, .slice Ax x.length cx] 116)).heap.size := (Array.getElem?_eq_some_iff.1 hr3).1
      have hkm : qs.length + 1 ≤ maxLen := by unfold maxLen; omega
      have hkb : (qs.length + 1) * 32 ≤ 140737488355328 := by omega
      have hbase : w.heap.size ≤ (W2.alloc (.cells #[.int .i64 n, .slice Ax x.length cx] 116)).heap.size := by omega
      have hnext : ∀ v' w6, w6.ownsRow w.heap.size 116 2 v' (qs.length + 1) (((List.zip qs us).flatMap fun p => [Value.int .i64 (p.1.1 : Nat), p.2]) ++ [.int .i64 (n : Nat), .slice Ax x.length cx]) → (W2.alloc (.cells #[.int .i64 n, .slice Ax x.length cx] 116)).grownBy w6 u3.ownBlock → CcInv w R p.dm w.heap.size es ck C.dirty (seen.push e.born) v' w6 := fun v' w6 h1 h2 =>
        CcInv.step q1 q2 q3 q4 hus hub (hbW3.grown h2 hbW3.size (fun k e9 => by
          rcases hrow.2 with ⟨e8, _⟩ | ⟨g, cap, cur, e8, hB8, _, _⟩
          · rw [e8] at e9; cases e9
          · rw [e8] at e9; have : g = k := by injection e9
            omega)) ((h2.block _ hrl3 (fun e9 => hrn (by rw [e9]))).trans hr3) hm hns HSt.out.2.1 HKeys.out hek hdm hB h1
      have HNext := Lib.hid hnext
      have HOwn := Lib.hid hown1
      have HSh := Lib.hid hsh
      clear hnext hown1 hrow hub q1 q2 q3 q4 hbW hbW3 hr3 hrl3 hr2 ho2 hz2 e1 e2 e3 hstep hek hev hB hdm hsh hrn
      go_wp2_with (at_builtin; refine wpList_append_own_at _ rfl _ _ 110 rfl w.heap.size 116 i0 (.agg #[.int .i64 0, .slice none 0 0]) 2 32 Tryz.underlying110 hi0 hz0 hz1 hz2 rfl (by decide) u3 _ _ rfl HOwn.out ⟨W2.heap.size, 0, none⟩ 1 1 [.int .i64 n, .slice Ax x.length cx] rfl rfl (World.news_of_block (heap_alloc_new _ _)) (by intro u hu; simp at hu; rcases hu with rfl | rfl <;> rfl) hkm hkb hbase ?_; intro v' w6 hown' hgrow hnil hloc; have hI6 := HNext.out v' w6 hown' hgrow; have HI6 := Lib.hid hI6; clear hown' hgrow hnil hloc hI6)
      go_roundg (leftOf es (seen.push e.born)).size
      case measure => rw [← hg]; exact HSh.out
      case rel => exact ⟨_, rfl, HI6.out⟩
end Go.Proofs.YtfgkgoddjemnfaaGreatDoor

namespace Go.Proofs.YtfgkgoddjemnfaaGreatDoor
open Go.RowKit Go.Shelf Pa
attribute [local go_sem] bs_toList bs_size
theorem CacheR.widen {w : World} {c : Nat} {C : Ca} {R R' : Reg} {row : List Nat} {p : CaPl} (h : CacheR w c C R row p) (hm : ∀ k, R.m k → R'.m k) (hi : ∀ k, R.i k → R'.i k) (ha : ∀ k, R'.m k → ¬ R'.i k) (hl : ∀ k, R'.has k → k < w.heap.size) : CacheR w c C R' row p := by
  refine { h with apart := ha, lt := hl, mine := ⟨hm _ h.mine.1, hm _ h.mine.2.1, hm _ h.mine.2.2⟩, rowB := fun k hk => ⟨hm _ (h.rowB k hk).1, (h.rowB k hk).2⟩, logM := fun k hk => ⟨hm _ (h.logM k hk).1, (h.logM k hk).2⟩, logI := fun k hk => hi _ (h.logI k hk), dirty := h.dirty.mono rfl (fun _ _ e => e.mono fun k hk _ => hi k hk), clean := ?_ }
  obtain ⟨cl, h1, h2⟩ := h.clean
  exact ⟨cl, h1.mono rfl (fun _ _ e => e.mono fun k hk _ => hi k hk), h2⟩
theorem CacheAt.widen {w : World} {c : Nat} {C : Ca} {R R' : Reg} (h : CacheAt w c C R) (hm : ∀ k, R.m k → R'.m k) (hi : ∀ k, R.i k → R'.i k) (ha : ∀ k, R'.m k → ¬ R'.i k) (hl : ∀ k, R'.has k → k < w.heap.size) : CacheAt w c C R' := by
  obtain ⟨row, p, h1, h2, h3⟩ := h
  exact ⟨row, p, h1, h2, h3.widen hm hi ha hl⟩
theorem CacheAt.apart {w : World} {c : Nat} {C : Ca} {R : Reg} (h : CacheAt w c C R) : ∀ k, R.m k → ¬ R.i k := by obtain ⟨_, _, _, _, h⟩ := h; exact h.apart
theorem CacheAt.lt {w : World} {c : Nat} {C : Ca} {R : Reg} (h : CacheAt w c C R) : ∀ k, R.has k → k < w.heap.size := by obtain ⟨_, _, _, _, h⟩ := h; exact h.lt
theorem CacheAt.ok {w : World} {c : Nat} {C : Ca} {R : Reg} (h : CacheAt w c C R) : C.Ok := by obtain ⟨_, _, _, _, h⟩ := h; exact h.ok
theorem CacheAt.nodup {w : World} {c : Nat} {C : Ca} {R : Reg} (h : CacheAt w c C R) : (C.dirty.map (·.1)).Nodup := by obtain ⟨_, _, _, _, h⟩ := h; exact h.dirty.nodup
theorem CacheAt.rdlen {w : World} {c : Nat} {C : Ca} {R : Reg} (h : CacheAt w c C R) {n : Nat} (hn : n < C.G.pages) : (C.rd n).length = 512 := by obtain ⟨_, _, _, _, h⟩ := h; exact h.cdlen hn
theorem CacheAt.pages {w : World} {c : Nat} {C : Ca} {R : Reg} (h : CacheAt w c C R) : 1 ≤ C.G.pages ∧ C.G.pages ≤ 4096 := by
  obtain ⟨_, p, _, _, h⟩ := h
  obtain ⟨a, came, RD, _, hD, _, _⟩ := h.log.cells
  have h1 := hD.ok.few
  have h2 := h.log.ok.size
  unfold Lg.pages
  omega
/-- A cache, and objects beside it that are never written. -/
structure Held (w : World) (F : List (Nat × Obj)) (c : Nat) (C : Ca) (R : Reg) : Prop where
  at_ : CacheAt w c C R
  fix : ∀ p ∈ F, w.heap[p.1]? = some p.2 ∧ R.i p.1
/-- What an act leaves. -/
def Step (w : World) (F : List (Nat × Obj)) (c : Nat) (C' : Ca) (R : Reg) (w' : World) : Prop := ∃ R', Held w' F c C' R' ∧ R.To R' w.heap.size ∧ Off R.m w w'
theorem Held.apart {w : World} {F : List (Nat × Obj)} {c : Nat} {C : Ca} {R : Reg} (h : Held w F c C R) : ∀ k, R.m k → ¬ R.i k := h.at_.apart
theorem Held.lt {w : World} {F : List (Nat × Obj)} {c : Nat} {C : Ca} {R : Reg} (h : Held w F c C R) : ∀ k, R.has k → k < w.heap.size := h.at_.lt
theorem Held.off {w w' : World} {F : List (Nat × Obj)} {c : Nat} {C : Ca} {R : Reg} {J : Nat → Prop} (h : Held w F c C R) (ho : Off J w w') (hd : ∀ k, R.has k → ¬ J k) : Held w' F c C R :=
  ⟨h.at_.off ho hd, fun p hp => ⟨(ho.block _ (h.lt _ (.inr (h.fix p hp).2)) (hd _ (.inr (h.fix p hp).2))).trans (h.fix p hp).1, (h.fix p hp).2⟩⟩
theorem Held.below {w w' : World} {F : List (Nat × Obj)} {c : Nat} {C : Ca} {R : Reg} (h : Held w F c C R) (hb : Below w.heap.size w w') : Held w' F c C R := h.off (Off.of_below hb (fun _ => False)) (fun _ _ e => e)
theorem Held.step0 {w w' : World} {F : List (Nat × Obj)} {c : Nat} {C : Ca} {R : Reg} (h : Held w F c C R) (hb : Below w.heap.size w w') : Step w F c C R w' := ⟨R, h.below hb, Reg.To.refl _ _, Off.of_below hb _⟩
theorem Held.step {w w' : World} {F : List (Nat × Obj)} {c : Nat} {C C' : Ca} {R R' : Reg} (h : Held w F c C R) (hc : CacheAt w' c C' R') (ht : R.To R' w.heap.size) (ho : Off R.m w w') : Step w F c C' R w' := by
  have hn : ∀ p ∈ F, ¬ R'.m p.1 := fun p hp e => by
    rcases ht.m _ e with e | e
    · exact h.apart _ e (h.fix p hp).2
    · have := h.lt _ (.inr (h.fix p hp).2); omega
  refine ⟨⟨R'.m, fun k => R'.i k ∨ ∃ p ∈ F, p.1 = k⟩, ⟨hc.widen (fun _ e => e) (fun _ e => .inl e) (fun k h1 h2 => ?_) (fun k hk => ?_), fun p hp => ⟨(ho.block _ (h.lt _ (.inr (h.fix p hp).2)) (fun e => h.apart _ e (h.fix p hp).2)).trans (h.fix p hp).1, .inr ⟨p, hp, rfl⟩⟩⟩, ⟨ht.m, fun k hk => ?_⟩, ho⟩
  · rcases h2 with h2 | ⟨p, hp, rfl⟩
    · exact hc.apart k h1 h2
    · exact hn p hp h1
  · rcases hk with hk | hk | ⟨p, hp, rfl⟩
    · exact hc.lt k (.inl hk)
    · exact hc.lt k (.inr hk)
    · exact Nat.lt_of_lt_of_le (h.lt _ (.inr (h.fix p hp).2)) ho.size
  · rcases hk with hk | ⟨p, hp, rfl⟩
    · exact ht.i k hk
    · exact .inl (h.fix p hp).2
/-- One object more beside it. -/
theorem Held.more {w : World} {F : List (Nat × Obj)} {c : Nat} {C : Ca} {R : Reg} (h : Held w F c C R) {b : Nat} {o : Obj} (hb : w.heap[b]? = some o) (hn : ¬ R.m b) : ∃ R', Held w ((b, o) :: F) c C R' ∧ (∀ k, R'.m k ↔ R.m k) ∧ (∀ k, R'.i k ↔ R.i k ∨ k = b) := by
  refine ⟨⟨R.m, fun k => R.i k ∨ k = b⟩, ⟨h.at_.widen (fun _ e => e) (fun _ e => .inl e) (fun k h1 h2 => ?_) (fun k hk => ?_), fun p hp => ?_⟩, fun _ => Iff.rfl, fun _ => Iff.rfl⟩
  · rcases h2 with h2 | rfl
    · exact h.apart k h1 h2
    · exact hn h1
  · rcases hk with hk | hk | rfl
    · exact h.lt k (.inl hk)
    · exact h.lt k (.inr hk)
    · exact (Array.getElem?_eq_some_iff.1 hb).1
  · rcases List.mem_cons.1 hp with rfl | hp
    · exact ⟨hb, .inr rfl⟩
    · exact ⟨(h.fix p hp).1, .inl (h.fix p hp).2⟩
theorem Step.trans {w w1 w2 : World} {F : List (Nat × Obj)} {c : Nat} {C2 : Ca} {R R1 : Reg} (ht : R.To R1 w.heap.size) (ho : Off R.m w w1) (h2 : Step w1 F c C2 R1 w2) : Step w F c C2 R w2 := by
  obtain ⟨R2, h3, t2, o2⟩ := h2
  exact ⟨R2, h3, ht.trans t2 ho.size, ho.trans o2 ht.m⟩
/-- A block of one's own is no part of it, and stays so. -/
theorem Reg.To.free {R R' : Reg} {n k : Nat} (h : R.To R' n) (hn : ¬ R.has k) (hk : k < n) : ¬ R'.has k := fun e => by
  rcases h.has e with e | e
  · exact hn e
  · omega
abbrev mapO (c ino : Nat) : Obj := .cells #[.pointer (some ⟨c, 0, none⟩), .int .i64 ino] 109 (0, 0)
theorem tdiv_nat (a b : Nat) : ((a : Int)).tdiv (b : Int) = ((a / b : Nat) : Int) := by rw [Int.tdiv_eq_ediv_of_nonneg (Int.natCast_nonneg _)]; rfl
theorem tmod_nat (a b : Nat) : ((a : Int)).tmod (b : Int) = ((a % b : Nat) : Int) := by rw [Int.tmod_eq_emod_of_nonneg (Int.natCast_nonneg _)]; rfl
theorem first_any (m c ino : Nat) (w : World) (h : w.heap[m]? = some (mapO c ino)) (hi : ino ≤ 512) :
    Calls Tryz.prog 79 #[.pointer (some ⟨m, 0, none⟩)] w fun e w' => e = .returned (.int .i64 (alFirst ino)) ∧ w = w' := by
  have c1 : w.cell? ⟨m, 1, none⟩ = some (.int .i64 ino) := cell_of_heap h 1
  have hq : ((ino : Int)).tdiv 8 = ((ino / 8 : Nat) : Int) := tdiv_nat ino 8
  go_enter Tryz.func79, Tryz.ntmps79
  go_wp2
  go_ret
  exact ⟨ret_int (by unfold alFirst; omega), rfl⟩
theorem mcache_any (m c ino : Nat) (w : World) (h : w.heap[m]? = some (mapO c ino)) :
    Calls Tryz.prog 22 #[.pointer (some ⟨m, 0, none⟩)] w fun e w' => e = .returned (.pointer (some ⟨c, 0, none⟩)) ∧ w = w' := by
  have c0 : w.cell? ⟨m, 0, none⟩ = some (.pointer (some ⟨c, 0, none⟩)) := cell_of_heap h 0
  go_enter Tryz.func22, Tryz.ntmps22
  go_wp2
  go_ret
  exact ⟨rfl, rfl⟩
end Go.Proofs.YtfgkgoddjemnfaaGreatDoor

namespace Go.Proofs.YtfgkgoddjemnfaaGreatDoor
open Go.RowKit Go.Shelf Pa
attribute [local go_sem] bs_toList bs_size
theorem div_cast (x k : Nat) : ((x : Nat) : Int) / 2 ^ k = ((x / 2 ^ k : Nat) : Int) := by rw [Int.natCast_ediv]; simp
theorem and1_nat (x k : Nat) (h : x < 256) : bits .and .u8 (((x : Nat) : Int) / 2 ^ k) 1 = ((x / 2 ^ k % 2 : Nat) : Int) := by
  have h1 : x / 2 ^ k < 256 := Nat.lt_of_le_of_lt (Nat.div_le_self _ _) h
  rw [div_cast, show (1 : Int) = ((1 : Nat) : Int) from rfl, u8_and_nat _ 1 h1 (by decide), Nat.and_one_is_mod]
theorem and1_bit (x : UInt8) (k : Nat) : (bits .and .u8 (((x.toNat : Nat) : Int) / 2 ^ k) 1 == 1) = x.toNat.testBit k := by
  rw [and1_nat _ _ (UInt8.toNat_lt x), Nat.testBit_eq_decide_div_mod_eq]
  rw [Bool.eq_iff_iff]
  simp only [beq_iff_eq, decide_eq_true_eq]
  omega
theorem and1_bit0 (x : UInt8) (k : Nat) : (bits .and .u8 (((x.toNat : Nat) : Int) / 2 ^ k) 1 == 0) = !x.toNat.testBit k := by
  rw [and1_nat _ _ (UInt8.toNat_lt x), Nat.testBit_eq_decide_div_mod_eq]
  rw [Bool.eq_iff_iff]
  simp only [beq_iff_eq, Bool.not_eq_true', decide_eq_false_iff_not]
  omega
theorem bitAt_at {b : Str} {i : Nat} (hi : i / 8 < b.length) : bitAt b i = b[i / 8].toNat.testBit (i % 8) := by
  unfold bitAt
  rw [List.getD_eq_getElem?_getD, List.getElem?_eq_getElem hi]; rfl
theorem table_ok (m c ino j : Nat) (w : World) (h : w.heap[m]? = some (mapO c ino)) (hi : ino ≤ 512) (hj : j < ino) :
    Calls Tryz.prog 115 #[.pointer (some ⟨m, 0, none⟩), .int .i64 j] w fun e w' => e = .returned (.tuple #[.int .i64 (3 + j / 8 : Nat), .int .i64 (64 * (j % 8) : Nat), .int .i64 0]) ∧ w = w' := by
  have c1 : w.cell? ⟨m, 1, none⟩ = some (.int .i64 ino) := cell_of_heap h 1
  have h1 : decide ((j : Int) < 0) = false := by simp
  have h2 : decide ((ino : Int) ≤ (j : Int)) = false := by simp; omega
  go_enter Tryz.func115, Tryz.ntmps115
  go_wp2
  go_ret3
  have e1 : ((3 : Int) + (j : Int) / 8) = ((3 + j / 8 : Nat) : Int) := by omega
  have e2 : (((j : Int) % 8 * 512) / 8) = ((64 * (j % 8) : Nat) : Int) := by omega
  exact ⟨by show Ending.returned (.tuple #[.int .i64 (3 + (j : Int) / 8), .int .i64 ((j : Int) % 8 * 512 / 8), .int .i64 0]) = _; rw [e1, e2], rfl⟩
theorem table_bad (m c ino : Nat) (i : Int) (w : World) (h : w.heap[m]? = some (mapO c ino)) (hi : i < 0 ∨ (ino : Int) ≤ i) :
    Calls Tryz.prog 115 #[.pointer (some ⟨m, 0, none⟩), .int .i64 i] w fun e w' => e = .returned (.tuple #[.int .i64 0, .int .i64 0, .int .i64 2]) ∧ w = w' := by
  have c1 : w.cell? ⟨m, 1, none⟩ = some (.int .i64 ino) := cell_of_heap h 1
  by_cases h1 : i < 0
  · have h1' : decide (i < 0) = true := by simpa using h1
    go_enter Tryz.func115, Tryz.ntmps115
    go_wp2
    go_ret3
    exact ⟨rfl, rfl⟩
  · have h1' : decide (i < 0) = false := by simpa using h1
    have h2' : decide ((ino : Int) ≤ i) = true := by simp; omega
    go_enter Tryz.func115, Tryz.ntmps115
    go_wp2
    go_ret3
    exact ⟨rfl, rfl⟩
theorem at_any (i n : Nat) (v : Value) (b : Str) (w : World) (h : BytesAt w w.heap.size v b) (hi : i / 8 < b.length) :
    Calls Tryz.prog 124 #[.agg #[v, .int .i64 n], .int .i64 i] w fun e w' => e = .returned (.bool (bitAt b i)) ∧ Below w.heap.size w w' := by
  obtain ⟨A, c, rfl, ⟨hc, hl⟩, hf⟩ := h
  obtain ⟨g, o, rfl, hg, hx⟩ := hf (by rintro rfl; simp at hi)
  have hx1 := hx (i / 8) _ (List.getElem?_eq_getElem hi)
  have hb1 : Below w.heap.size w (w.alloc (.cells #[.slice (some ⟨g, o, none⟩) b.length c, .int .i64 n] 195)) := (Below.refl _ _).alloc (Nat.le_refl _) _
  have hx2 := (hb1.cell (p := ⟨g, o + i / 8, none⟩) hg).trans hx1
  rw [bitAt_at hi]
  go_enter Tryz.func124, Tryz.ntmps124
  go_wp2
  go_ret
  exact ⟨ret_bool (and1_bit _ _), hb1⟩
/-- The first bit that is not set, as first hands it back. -/
def firstI (b : Str) (n : Nat) : Int := match firstB b n with | some i => i | none => -1
theorem firstI_at {b : Str} {n i : Nat} (h1 : i < n) (h2 : bitAt b i = false) (h3 : ∀ j, j < i → bitAt b j = true) : firstI b n = i := by unfold firstI; rw [firstB_intro h1 h2 h3]
theorem firstI_none {b : Str} {n : Nat} (h : ∀ j, j < n → bitAt b j = true) : firstI b n = -1 := by unfold firstI; rw [firstB_intro0 h]
set_option maxHeartbeats 1000000 in
theorem firstb_any (n : Nat) (v : Value) (b : Str) (w : World) (h : BytesAt w w.heap.size v b) (hn : n ≤ 8 * b.length) (hb : b.length ≤ 512) :
    Calls Tryz.prog 139 #[.agg #[v, .int .i64 n]] w fun e w' => e = .returned (.int .i64 (firstI b n)) ∧ Below w.heap.size w w' := by
  obtain ⟨A, c, rfl, ⟨hc, hl⟩, hf⟩ := h
  have hb1 : Below w.heap.size w (w.alloc (.cells #[.slice A b.length c, .int .i64 n] 195)) := (Below.refl _ _).alloc (Nat.le_refl _) _
  have HF := Lib.hid hf
  have HB := Lib.hid hb1
  clear hf hb1
  go_enter Tryz.func139, Tryz.ntmps139
  go_wp2_with fail
  go_step3
  go_wp2_with fail
  go_step3
  go_wp2_with fail
  go_loopg [3, 11] b.length (fun g s3 i wx => ∃ k : Nat, s3 = .int .i64 (-1) ∧ i = .int .i64 k ∧ g = b.length - k ∧ k ≤ b.length ∧ wx = w.alloc (.cells #[.slice A b.length c, .int .i64 n] 195) ∧ (∀ j, j < n → j < 8 * k → bitAt b j = true))
  case atStart => exact ⟨0, rfl, rfl, rfl, Nat.zero_le _, rfl, fun j _ h => absurd h (by omega)⟩
  case round =>
    obtain ⟨k, rfl, rfl, rfl, hk, rfl, hall⟩ := hrel
    by_cases hlt : k < b.length
    · have hlt' : decide ((k : Int) < (b.length : Int)) = true := by simp; omega
      obtain ⟨x, o, rfl, hg, hx⟩ := HF.out (by rintro rfl; simp at hlt)
      have hx1 := (HB.out.cell (p := ⟨x, o + k, none⟩) hg).trans (hx k _ (List.getElem?_eq_getElem hlt))
      have hx8 : ∀ q, q < 8 → bitAt b (8 * k + q) = b[k].toNat.testBit q := fun q hq => by
        have h8 : (8 * k + q) / 8 = k := by omega
        unfold bitAt
        rw [h8, show (8 * k + q) % 8 = q from by omega, List.getD_eq_getElem?_getD, List.getElem?_eq_getElem hlt]; rfl
      generalize b[k] = y at hx1 hx8
      have HX8 := Lib.hid hx8
      have HAll := Lib.hid hall
      clear hx8 hall hx
      go_wp2_with fail
      go_loopg [3, 16] 8 (fun g s3 i wx => ∃ q : Nat, s3 = .int .i64 (-1) ∧ i = .int .i64 q ∧ g = 8 - q ∧ q ≤ 8 ∧ wx = w.alloc (.cells #[.slice (some ⟨x, o, none⟩) b.length c, .int .i64 n] 195) ∧ (∀ j, j < n → j < 8 * k + q → bitAt b j = true))
      case atStart => exact ⟨0, rfl, rfl, rfl, Nat.zero_le _, rfl, fun j h1 h2 => HAll.out j h1 (by omega)⟩
      case round =>
        obtain ⟨q, rfl, rfl, rfl, hq, rfl, hall⟩ := hrel
        by_cases hq8 : q < 8
        · have hq8' : decide ((q : Int) < 8) = true := by simp; omega
          by_cases hn8 : n ≤ 8 * k + q
          · have hn8' : decide ((n : Int) ≤ 8 * (k : Int) + (q : Int)) = true := by simp; omega
            have hr := firstI_none (b := b) (n := n) (fun j hj => hall j hj (by omega))
            have HR := Lib.hid hr
            clear hall hr
            go_wp2_with fail
            rw [Exit.noGoto_ret]
            go_ret
            exact ⟨ret_int HR.out.symm, HB.out⟩
          · have hn8' : decide ((n : Int) ≤ 8 * (k : Int) + (q : Int)) = false := by simp; omega
            have h8 := HX8.out q hq8
            cases hbt : y.toNat.testBit q with
            | false =>
              have hb0 : (bits .and .u8 (((y.toNat : Nat) : Int) / 2 ^ q) 1 == 0) = true := by rw [and1_bit0, hbt]; rfl
              have hr := firstI_at (b := b) (n := n) (i := 8 * k + q) (by omega) (by rw [h8, hbt]) (fun j hj => hall j (by omega) hj)
              have HR := Lib.hid hr
              clear hall hr h8
              go_wp2_with fail
              rw [Exit.noGoto_ret]
              go_ret
              exact ⟨ret_int (by rw [HR.out]; omega), HB.out⟩
            | true =>
              have hb0 : (bits .and .u8 (((y.toNat : Nat) : Int) / 2 ^ q) 1 == 0) = false := by rw [and1_bit0, hbt]; rfl
              have hnext : ∀ j, j < n → j < 8 * k + (q + 1) → bitAt b j = true := fun j h1 h2 => by
                by_cases e : j = 8 * k + q
                · rw [e, h8, hbt]
                · exact hall j h1 (by omega)
              have HN := Lib.hid hnext
              clear hall hnext h8
              go_wp2_with fail
              go_roundg (8 - (q + 1))
              case measure => omega
              case rel => exact ⟨q + 1, rfl, by go_num, rfl, hq8, rfl, HN.out⟩
        · have hq8' : decide ((q : Int) < 8) = false := by simp; omega
          have hnext : ∀ j, j < n → j < 8 * (k + 1) → bitAt b j = true := fun j h1 h2 => hall j h1 (by omega)
          have HN := Lib.hid hnext
          clear hall hnext
          go_wp2_with fail
          go_roundg (b.length - (k + 1))
          case measure => omega
          case rel => exact ⟨k + 1, rfl, by go_num, rfl, hlt, rfl, HN.out⟩
    · have hlt' : decide ((k : Int) < (b.length : Int)) = false := by simp; omega
      have hr := firstI_none (b := b) (n := n) (fun j hj => hall j hj (by omega))
      have HR := Lib.hid hr
      clear hall hr
      go_wp2_with fail
      rw [Exit.noGoto_ret]
      go_ret
      exact ⟨ret_int HR.out.symm, HB.out⟩
end Go.Proofs.YtfgkgoddjemnfaaGreatDoor

namespace Go.Proofs.YtfgkgoddjemnfaaGreatDoor
open Go.RowKit Go.Shelf Pa
attribute [local go_sem] bs_toList bs_size
theorem Held.step' {w w' : World} {F : List (Nat × Obj)} {c : Nat} {C C' : Ca} {R R' : Reg} (h : Held w F c C R) (hc : CacheAt w' c C' R') (ht : R.To R' w.heap.size) (ho : Off R.m w w') :
    ∃ R'', Held w' F c C' R'' ∧ R.To R'' w.heap.size ∧ Off R.m w w' ∧ ∀ k, R''.has k → R'.has k ∨ k < w.heap.size := by
  have hn : ∀ p ∈ F, ¬ R'.m p.1 := fun p hp e => by
    rcases ht.m _ e with e | e
    · exact h.apart _ e (h.fix p hp).2
    · have := h.lt _ (.inr (h.fix p hp).2); omega
  refine ⟨⟨R'.m, fun k => R'.i k ∨ ∃ p ∈ F, p.1 = k⟩, ⟨hc.widen (fun _ e => e) (fun _ e => .inl e) (fun k h1 h2 => ?_) (fun k hk => ?_), fun p hp => ⟨(ho.block _ (h.lt _ (.inr (h.fix p hp).2)) (fun e => h.apart _ e (h.fix p hp).2)).trans (h.fix p hp).1, .inr ⟨p, hp, rfl⟩⟩⟩, ⟨ht.m, fun k hk => ?_⟩, ho, fun k hk => ?_⟩
  · rcases h2 with h2 | ⟨p, hp, rfl⟩
    · exact hc.apart k h1 h2
    · exact hn p hp h1
  · rcases hk with hk | hk | ⟨p, hp, rfl⟩
    · exact hc.lt k (.inl hk)
    · exact hc.lt k (.inr hk)
    · exact Nat.lt_of_lt_of_le (h.lt _ (.inr (h.fix p hp).2)) ho.size
  · rcases hk with hk | ⟨p, hp, rfl⟩
    · exact ht.i k hk
    · exact .inl (h.fix p hp).2
  · rcases hk with hk | hk | ⟨p, hp, rfl⟩
    · exact .inl (.inl hk)
    · exact .inl (.inr hk)
    · exact .inr (h.lt _ (.inr (h.fix p hp).2))
/-- Bytes of one's own are handed back; nothing turns. -/
def HRd (w : World) (F : List (Nat × Obj)) (c : Nat) (C : Ca) (R : Reg) (x : Str) (v : Value) (w' : World) : Prop :=
  ∃ R', OwnB w' w.heap.size v x ∧ Held w' F c C R' ∧ R.To R' w.heap.size ∧ Off R.m w w' ∧ ∀ k, v.ownBlock = some k → ¬ R'.has k
theorem hread_any (n c : Nat) (C : Ca) (R : Reg) (F : List (Nat × Obj)) (w : World) (h : Held w F c C R) (hn : n < C.G.pages) :
    Calls Tryz.prog 61 #[.pointer (some ⟨c, 0, none⟩), .int .i64 n] w fun e w' => ∃ v, e = .returned (.tuple #[v, .int .i64 0]) ∧ HRd w F c C R (C.rd n) v w' := by
  refine (cread_any n c C R w h.at_ hn).mono ?_
  rintro e w' ⟨v, R', rfl, h1, h2, h3, h4, h5⟩
  obtain ⟨R2, k1, k2, k3, k4⟩ := h.step' h2 h3 h4
  refine ⟨v, rfl, R2, h1, k1, k2, k3, fun k hk e => ?_⟩
  rcases k4 k e with e | e
  · exact h5 k hk e
  · have := (h1.block hk).1; omega
theorem hwrite_any (n c : Nat) (C : Ca) (R : Reg) (F : List (Nat × Obj)) (v : Value) (x : Str) (w : World) (h : Held w F c C R) (hn : n < C.G.pages) (hv : BytesAt w w.heap.size v x) (hx : x.length = 512) :
    Calls Tryz.prog 82 #[.pointer (some ⟨c, 0, none⟩), .int .i64 n, v] w fun e w' => e = .returned (.int .i64 (if C.may n = true then 0 else 7)) ∧ Step w F c (if C.may n = true then C.set n x else C) R w' := by
  refine (cwrite_any n c C R v x w h.at_ hn hv hx).mono ?_
  rintro e w' ⟨R', rfl, h2, h3, h4⟩
  exact ⟨rfl, h.step h2 h3 h4⟩
theorem hcommit_any (c : Nat) (C : Ca) (R : Reg) (F : List (Nat × Obj)) (w : World) (h : Held w F c C R) (hw : C.G.D.wait = []) (hops : C.G.D.ops.length + 1000 < 1000000000) :
    Calls Tryz.prog 23 #[.pointer (some ⟨c, 0, none⟩)] w fun e w' => e = .returned (.int .i64 0) ∧ ∃ G', Committed C G' ∧ Step w F c ⟨G', C.most, []⟩ R w' := by
  refine (ccommit_any c C R w h.at_ hw hops).mono ?_
  rintro e w' ⟨rfl, G', R', h1, h2, h3, h4⟩
  exact ⟨rfl, G', h1, h.step h2 h3 h4⟩
theorem HRd.bytes {w w' : World} {F : List (Nat × Obj)} {c : Nat} {C : Ca} {R : Reg} {x : Str} {v : Value} (h : HRd w F c C R x v w') (hl : x.length ≤ 512) : BytesAt w' w'.heap.size v x := by
  obtain ⟨R', h1, _⟩ := h
  exact (h1.bytes (by omega)).at
/-- How many bits of a page count. -/
def cntB (C : Ca) (ino page : Nat) : Nat := if page = 2 then C.G.pages else ino
theorem HRd.store {w w2 w3 : World} {F : List (Nat × Obj)} {c : Nat} {C : Ca} {R : Reg} {x : Str} {v : Value} {o : Obj} (hR : ∀ k, R.has k → k < w.heap.size) (h : HRd (w.alloc o) F c C R x v w2) (ho : Off (fun k => k = w.heap.size) w2 w3) : HRd w F c C R x v w3 := by
  obtain ⟨R', h1, h2, h3, h4, h5⟩ := h
  rw [World.size_alloc] at h1 h3
  have hb : Below w.heap.size w (w.alloc o) := (Below.refl _ _).alloc (Nat.le_refl _) _
  have hn : ∀ k, R'.has k → ¬ k = w.heap.size := fun k hk e => by
    rcases h3.has hk with e2 | e2
    · have := hR k e2; omega
    · omega
  refine ⟨R', ?_, h2.off ho hn, ⟨fun k hk => ?_, fun k hk => ?_⟩, ((Off.of_below hb _).trans h4 (fun k e => .inl e)).trans ho (fun k e => .inr (Nat.le_of_eq e.symm)), h5⟩
  · obtain ⟨q1, q2⟩ := h1
    refine ⟨q1, q2.imp id fun ⟨g, cap, cur, e1, e2, e3, e4⟩ => ⟨g, cap, cur, e1, by omega, ?_, e4⟩⟩
    rw [ho.block g (Array.getElem?_eq_some_iff.1 e3).1 (by omega)]; exact e3
  · rcases h3.m k hk with e | e
    · exact .inl e
    · right; omega
  · rcases h3.i k hk with e | e
    · exact .inl e
    · right; omega
set_option maxHeartbeats 1000000 in
theorem mread_any (page m c ino : Nat) (C : Ca) (R : Reg) (F : List (Nat × Obj)) (w : World) (h : Held w F c C R) (hm : (m, mapO c ino) ∈ F) (hp : page < C.G.pages) :
    Calls Tryz.prog 123 #[.pointer (some ⟨m, 0, none⟩), .int .i64 page] w fun e w' => ∃ v, e = .returned (.agg #[v, .int .i64 (cntB C ino page)]) ∧ HRd w F c C R (C.rd page) v w' := by
  have hlt := h.lt
  have hap := h.apart
  obtain ⟨hm0, hmi⟩ := h.fix _ hm
  have hml : m < w.heap.size := hlt m (.inr hmi)
  have hb : Below w.heap.size w (w.alloc (.cells #[.slice none 0 0, .int .i64 0] 195)) := (Below.refl _ _).alloc (Nat.le_refl _) _
  have h1 := h.below hb
  have hrd := hread_any page c C R F _ h1 hp
  have c0 : (w.alloc (.cells #[.slice none 0 0, .int .i64 0] 195)).cell? ⟨m, 0, none⟩ = some (.pointer (some ⟨c, 0, none⟩)) := (hb.cell (p := ⟨m, 0, none⟩) hml).trans (cell_of_heap hm0 0)
  have hnew : (w.alloc (.cells #[.slice none 0 0, .int .i64 0] 195)).heap[w.heap.size]? = some (.cells #[.slice none 0 0, .int .i64 0] 195 (0, 0)) := heap_alloc_new w _
  have hafter : ∀ v w2, HRd (w.alloc (.cells #[.slice none 0 0, .int .i64 0] 195)) F c C R (C.rd page) v w2 → w2.heap[w.heap.size]? = some (.cells #[.slice none 0 0, .int .i64 0] 195 (0, 0)) ∧ w2.heap[m]? = some (mapO c ino) ∧ ∃ R2, Held w2 F c C R2 := fun v w2 hr => by
    obtain ⟨R', k1, k2, k3, k4, k5⟩ := hr
    refine ⟨(k4.block _ (by simp) (fun e => by have := hlt _ (.inl e); omega)).trans hnew, (k2.fix _ hm).1, R', k2⟩
  have HRd0 := Lib.hid hrd
  have HAf := Lib.hid hafter
  have HLt := Lib.hid hlt
  have HM := Lib.hid hm
  clear hrd hafter hlt hap h1 hb hnew h hm0 hmi hm
  by_cases hp2 : page = 2
  · subst hp2
    have hcnt : cntB C ino 2 = C.G.pages := rfl
    go_enter Tryz.func123, Tryz.ntmps123
    go_wp2_with fail
    refine HRd0.out.mono ?_
    rintro e w2 ⟨v, rfl, hr⟩
    obtain ⟨a1, a2, R2, a3⟩ := HAf.out v w2 hr
    obtain ⟨row, p, _, _, hcr⟩ := a3.at_
    have hlog := clog_any c C R2 row p w2 hcr
    have hpg := pages_any p.l C.G p.RL w2 hcr.log
    have d0 : w2.cell? ⟨m, 0, none⟩ = some (.pointer (some ⟨c, 0, none⟩)) := cell_of_heap a2 0
    have b0 : w2.cell? ⟨w.heap.size, 0, none⟩ = some (.slice none 0 0) := cell_of_heap a1 0
    have b1 : w2.cell? ⟨w.heap.size, 1, none⟩ = some (.int .i64 0) := cell_of_heap a1 1
    have f0 : w2.frozen? ⟨w.heap.size, 0, none⟩ = false := free_of_heap a1 0
    have f1 : w2.frozen? ⟨w.heap.size, 1, none⟩ = false := free_of_heap a1 1
    obtain ⟨A, cv, rfl⟩ : ∃ A cv, v = .slice A (C.rd 2).length cv := by obtain ⟨_, k1, _⟩ := id hr; exact ownsRow_slice k1
    have HR2 := Lib.hid hr
    have HLog := Lib.hid hlog
    have HPg := Lib.hid hpg
    have HA1 := Lib.hid a1
    clear hr hlog hpg a1 a2 a3 hcr
    go_wp2_with fail
    refine HLog.out.mono ?_
    rintro e w3 ⟨rfl, rfl⟩
    go_wp2_with fail
    refine HPg.out.mono ?_
    rintro e w3 ⟨rfl, nq, hw3⟩
    have hfin : ∀ u1 u2, HRd w F c C R (C.rd 2) (.slice A (C.rd 2).length cv) ((w3.setCell ⟨w.heap.size, 0, none⟩ u1).setCell ⟨w.heap.size, 1, none⟩ u2) := fun u1 u2 => HRd.store HLt.out HR2.out (by rw [hw3]; exact (((Off.refl (fun k => k = w.heap.size) w2).drewN nq).setCell (p := ⟨w.heap.size, 0, none⟩) (.inl rfl) u1).setCell (p := ⟨w.heap.size, 1, none⟩) (.inl rfl) u2)
    have b0' : w3.cell? ⟨w.heap.size, 0, none⟩ = some (.slice none 0 0) := by rw [hw3]; exact b0
    have b1' : w3.cell? ⟨w.heap.size, 1, none⟩ = some (.int .i64 0) := by rw [hw3]; exact b1
    have f0' : w3.frozen? ⟨w.heap.size, 0, none⟩ = false := by rw [hw3]; exact f0
    have f1' : w3.frozen? ⟨w.heap.size, 1, none⟩ = false := by rw [hw3]; exact f1
    have HFin := Lib.hid hfin
    clear hfin hw3 b0 b1 f0 f1
    go_wp2_with fail
    refine bodyPost_ret (v := .agg #[.slice A (C.rd 2).length cv, .int .i64 C.G.pages]) (by simp [results, Tryz.results123, go_sem, b0', b1', f0', f1']) rfl ?_
    exact ⟨_, by rw [hcnt], HFin.out _ _⟩
  · have hcnt : cntB C ino page = ino := if_neg hp2
    have hne : ((page : Int) == 2) = false := by simp; omega
    go_enter Tryz.func123, Tryz.ntmps123
    go_wp2_with fail
    refine HRd0.out.mono ?_
    rintro e w2 ⟨v, rfl, hr⟩
    obtain ⟨a1, a2, R2, a3⟩ := HAf.out v w2 hr
    have d1 : w2.cell? ⟨m, 1, none⟩ = some (.int .i64 ino) := cell_of_heap a2 1
    have b0 : w2.cell? ⟨w.heap.size, 0, none⟩ = some (.slice none 0 0) := cell_of_heap a1 0
    have b1 : w2.cell? ⟨w.heap.size, 1, none⟩ = some (.int .i64 0) := cell_of_heap a1 1
    have f0 : w2.frozen? ⟨w.heap.size, 0, none⟩ = false := free_of_heap a1 0
    have f1 : w2.frozen? ⟨w.heap.size, 1, none⟩ = false := free_of_heap a1 1
    obtain ⟨A, cv, rfl⟩ : ∃ A cv, v = .slice A (C.rd page).length cv := by obtain ⟨_, k1, _⟩ := id hr; exact ownsRow_slice k1
    have hfin : ∀ u1 u2, HRd w F c C R (C.rd page) (.slice A (C.rd page).length cv) ((w2.setCell ⟨w.heap.size, 0, none⟩ u1).setCell ⟨w.heap.size, 1, none⟩ u2) := fun u1 u2 => HRd.store HLt.out hr (((Off.refl (fun k => k = w.heap.size) w2).setCell (p := ⟨w.heap.size, 0, none⟩) (.inl rfl) u1).setCell (p := ⟨w.heap.size, 1, none⟩) (.inl rfl) u2)
    have HFin := Lib.hid hfin
    clear hfin hr a1 a2 a3
    go_wp2_with fail
    refine bodyPost_ret (v := .agg #[.slice A (C.rd page).length cv, .int .i64 ino]) (by simp [results, Tryz.results123, go_sem, b0, b1, f0, f1]) rfl ?_
    exact ⟨_, by rw [hcnt], HFin.out _ _⟩
/-- Whether a bit is set, of those that count. -/
def isB (C : Ca) (ino page : Nat) (i : Int) : Bool := decide (0 ≤ i) && decide (i < (cntB C ino page : Int)) && bitAt (C.rd page) i.toNat
set_option maxHeartbeats 1000000 in
theorem is_any (page m c ino : Nat) (i : Int) (C : Ca) (R : Reg) (F : List (Nat × Obj)) (w : World) (h : Held w F c C R) (hm : (m, mapO c ino) ∈ F) (hp : page < C.G.pages) (hi : ino ≤ 512) :
    Calls Tryz.prog 166 #[.pointer (some ⟨m, 0, none⟩), .int .i64 page, .int .i64 i] w fun e w' => e = .returned (.bool (isB C ino page i)) ∧ Step w F c C R w' := by
  have hlen := h.at_.rdlen hp
  have hpgs := h.at_.pages
  by_cases h0 : i < 0
  · have h0' : decide (i < 0) = true := by simpa using h0
    have hr : isB C ino page i = false := by unfold isB; rw [decide_eq_false (by omega : ¬ 0 ≤ i)]; rfl
    have HS := Lib.hid (h.step0 (Below.refl w.heap.size w))
    clear h
    go_enter Tryz.func166, Tryz.ntmps166
    go_wp2_with fail
    go_ret
    exact ⟨ret_bool hr.symm, HS.out⟩
  · have h0' : decide (i < 0) = false := by simpa using h0
    have hrd := mread_any page m c ino C R F w h hm hp
    obtain ⟨j, rfl⟩ : ∃ j : Nat, i = j := ⟨i.toNat, by omega⟩
    have hcn : cntB C ino page ≤ 4096 := by unfold cntB; split <;> omega
    have HRd1 := Lib.hid hrd
    have HLen := Lib.hid hlen
    clear hrd h hlen
    go_enter Tryz.func166, Tryz.ntmps166
    go_wp2_with fail
    refine HRd1.out.mono ?_
    rintro e w2 ⟨v, rfl, hr⟩
    obtain ⟨A, cv, rfl⟩ : ∃ A cv, v = .slice A (C.rd page).length cv := by obtain ⟨_, k1, _⟩ := id hr; exact ownsRow_slice k1
    have hba : Below w2.heap.size w2 (w2.alloc (.cells #[.slice A (C.rd page).length cv, .int .i64 (cntB C ino page)] 195)) := (Below.refl _ _).alloc (Nat.le_refl _) _
    have hfin : ∀ w3, Below w2.heap.size w2 w3 → Step w F c C R w3 := fun w3 hb => by
      obtain ⟨R', _, k2, k3, k4, _⟩ := hr
      exact Step.trans k3 k4 (k2.step0 hb)
    have hby := (hr.bytes (by have := HLen.out; omega)).below hba
    have HBa := Lib.hid hba
    have HFin := Lib.hid hfin
    by_cases hj : j < cntB C ino page
    · have hj' : decide ((j : Int) < (cntB C ino page : Int)) = true := by simp; omega
      have hat := at_any j (cntB C ino page) _ (C.rd page) _ (hby.more (by simp)) (by have := HLen.out; omega)
      have hres : isB C ino page j = bitAt (C.rd page) j := by unfold isB; rw [hj', decide_eq_true (by omega)]; rfl
      have HAt := Lib.hid hat
      have HRes := Lib.hid hres
      clear hat hby hba hfin hr hres
      go_wp2_with fail
      refine HAt.out.mono ?_
      rintro e w3 ⟨rfl, hb3⟩
      rw [World.size_alloc] at hb3
      have HF2 := Lib.hid (HFin.out w3 (HBa.out.trans (hb3.mono (Nat.le_succ _))))
      clear hb3
      go_wp2_with fail
      go_ret
      exact ⟨ret_bool HRes.out.symm, HF2.out⟩
    · have hj' : decide ((j : Int) < (cntB C ino page : Int)) = false := by simp; omega
      have hres : isB C ino page j = false := by unfold isB; rw [hj']; simp
      clear hby hba hfin hr
      have HRes := Lib.hid hres
      clear hres
      go_wp2_with fail
      go_ret
      exact ⟨ret_bool HRes.out.symm, HFin.out _ HBa.out⟩
theorem usedInode_any (m c ino : Nat) (i : Int) (C : Ca) (R : Reg) (F : List (Nat × Obj)) (w : World) (h : Held w F c C R) (hm : (m, mapO c ino) ∈ F) (hp : 1 < C.G.pages) (hi : ino ≤ 512) :
    Calls Tryz.prog 116 #[.pointer (some ⟨m, 0, none⟩), .int .i64 i] w fun e w' => e = .returned (.bool (isB C ino 1 i)) ∧ Step w F c C R w' := by
  have hs := is_any 1 m c ino i C R F w h hm hp hi
  have HS := Lib.hid hs
  clear hs h
  go_enter Tryz.func116, Tryz.ntmps116
  go_wp2_with fail
  refine HS.out.mono ?_
  rintro e w2 ⟨rfl, hst⟩
  have HSt := Lib.hid hst
  clear hst
  go_wp2_with fail
  go_ret
  exact ⟨rfl, HSt.out⟩
end Go.Proofs.YtfgkgoddjemnfaaGreatDoor

namespace Go.Proofs.YtfgkgoddjemnfaaGreatDoor
open Go.RowKit Go.Shelf Pa
attribute [local go_sem] bs_toList bs_size
theorem newN_snoc (s l : List Nat) (n : Nat) : newN s (l ++ [n]) = if n ∈ newN s l then newN s l else newN s l ++ [n] := by unfold newN; rw [List.foldl_append]; rfl
theorem newN_self {l : List Nat} (h : l.Nodup) : newN [] l = l := by
  have key : ∀ (l s : List Nat), (s ++ l).Nodup → newN s l = s ++ l := by
    intro l
    induction l with
    | nil => intro s _; simp [newN]
    | cons n l ih =>
      intro s h
      have h1 : n ∉ s := fun e => by
        rw [List.nodup_append] at h
        exact h.2.2 n e n (by simp) rfl
      show newN (if n ∈ s then s else s ++ [n]) l = _
      rw [if_neg h1, ih (s ++ [n]) (by simpa using h)]
      simp
  simpa using key l [] (by simpa using h)
theorem take_succ_at {α : Type} (l : List α) (k : Nat) (x : α) (h : l[k]? = some x) : l.take (k + 1) = l.take k ++ [x] := by rw [List.take_add_one, h]; rfl
/-- Block mb is a map that has just these numbers. -/
def SeenB (w : World) (mb : Nat) (s : List Nat) : Prop := ∃ L : List (Nat × Bool), MapB (fun v x => v = .bool x) w mb L ∧ L.map (·.1) = s
theorem SeenB.lt {w : World} {mb : Nat} {s : List Nat} (h : SeenB w mb s) : mb < w.heap.size := by obtain ⟨L, h, _⟩ := h; exact h.lt
theorem SeenB.keep {w w' : World} {mb : Nat} {s : List Nat} (h : SeenB w mb s) (hb : w'.heap[mb]? = w.heap[mb]?) : SeenB w' mb s := by
  obtain ⟨L, h1, h2⟩ := h
  exact ⟨L, h1.mono hb (fun _ _ e => e), h2⟩
theorem SeenB.len {w : World} {mb : Nat} {s : List Nat} (h : SeenB w mb s) (ty : TypeId) : (Builtin.len_ #[215] ty #[.map (some mb)]).run Tryz.prog w = .ok (.int .i64 (s.length : Nat)) w := by
  obtain ⟨L, h1, h2⟩ := h
  have := h1.len Tryz.underlying215 Tryz.underlying3 ty
  rw [← h2, List.length_map]; exact this
theorem SeenB.put {w : World} {mb : Nat} {s : List Nat} (h : SeenB w mb s) (n : Nat) : ∃ w', (Instr.mapUpdate 215 (.map (some mb)) (.int .i64 n) (.bool true)).run Tryz.prog w = .ok () w' ∧ SeenB w' mb (if n ∈ s then s else s ++ [n]) ∧ w.grownBy w' (some mb) ∧ w'.heap.size = w.heap.size := by
  obtain ⟨L, h1, h2⟩ := h
  obtain ⟨w', e1, e2, e3, e4⟩ := h1.update Tryz.underlying215 Tryz.underlying3 n (.bool true) true rfl
  refine ⟨w', e1, ⟨_, e2, ?_⟩, e3, e4⟩
  rw [pset_keys, h2]
  by_cases hn : n ∈ s
  · rw [if_pos hn, if_pos (phas_iff.2 (by rw [h2]; exact hn))]
  · rw [if_neg hn, if_neg (fun e => hn (by rw [← h2]; exact phas_iff.1 e))]
set_option maxRecDepth 100000 in
set_option maxHeartbeats 2000000 in
theorem fits_any (m c ino : Nat) (v : Value) (l : List Nat) (C : Ca) (R : Reg) (F : List (Nat × Obj)) (w : World) (h : Held w F c C R) (hm : (m, mapO c ino) ∈ F) (hv : NatsI w (fun _ => True) v l) (hl : l.length ≤ 1000) :
    Calls Tryz.prog 80 #[.pointer (some ⟨m, 0, none⟩), v] w fun e w' => e = .returned (.bool (C.fits l)) ∧ Below w.heap.size w w' := by
  have hcap : C.dirty.length ≤ 100 := by have := h.at_.ok.few; unfold Lg.cap at this; omega
  have hcapG : C.G.cap ≤ 100 := by unfold Lg.cap; omega
  have hnd := srtN_nodup h.at_.nodup
  have hsl := srtN_length C.dirty
  have hpg := h.at_.pages
  have hb0 : Below w.heap.size w (w.alloc (.map #[] 0)) := (Below.refl _ _).alloc (Nat.le_refl _) _
  have hmk : ∀ w, (Instr.makeMap 215 none).run Tryz.prog w = .ok (.map (some w.heap.size)) (w.alloc (.map #[] 0)) := fun _ => rfl
  have h1 := h.below hb0
  obtain ⟨hm0, hmi⟩ := h.fix _ hm
  have hml : m < w.heap.size := h.lt m (.inr hmi)
  have c0 : (w.alloc (.map #[] 0)).cell? ⟨m, 0, none⟩ = some (.pointer (some ⟨c, 0, none⟩)) := cell_of_heap (h1.fix _ hm).1 0
  obtain ⟨row, p, _, _, hcr⟩ := h1.at_
  have hdi := cdirty_any c C R row p _ hcr hpg.2
  have hroom : ∀ w', Below w.heap.size w w' → w'.cell? ⟨m, 0, none⟩ = some (.pointer (some ⟨c, 0, none⟩)) ∧ ∀ q, Calls Tryz.prog 136 #[.pointer (some ⟨c, 0, none⟩)] (w'.drewN q) fun e w2 => e = .returned (.int .i64 C.room) ∧ ∃ q, w2 = w'.drewN q := fun w' hb => by
    have h2 := h.below hb
    refine ⟨cell_of_heap (h2.fix _ hm).1 0, fun q => ?_⟩
    obtain ⟨row, p, _, _, hcr⟩ := (h2.below (below_drewN (Below.refl _ _) q)).at_
    refine (room_any c C R row p _ hcr).mono ?_
    rintro e w2 ⟨he, q2, hw⟩
    exact ⟨he, q + q2, by rw [hw, World.drewN_drewN]⟩
  obtain ⟨A, cp, rfl, hc, hx⟩ := hv
  have HX := Lib.hid hx
  have HDi := Lib.hid hdi
  have HRoom := Lib.hid hroom
  have HB0 := Lib.hid hb0
  have HSl := Lib.hid hsl
  have HNd := Lib.hid hnd
  clear hx hdi hroom hb0 hsl hnd h h1 hm0 hmi hcr
  go_enter Tryz.func80, Tryz.ntmps80
  go_wp2_with fail
  refine HDi.out.mono ?_
  rintro e w2 ⟨dv, rfl, hnt, hb2⟩
  rw [World.size_alloc] at hb2
  have hb02 : Below w.heap.size w w2 := HB0.out.trans (hb2.mono (Nat.le_succ _))
  have hs0 : SeenB w2 w.heap.size [] := ⟨[], ((MapB.new (P := fun v (x : Bool) => v = .bool x) w).mono (hb2.block _ (Nat.lt_succ_self _)) (fun _ _ e => e)), rfl⟩
  obtain ⟨Ad, cd, rfl, hcd, hnx⟩ := hnt
  have HNx := Lib.hid hnx
  have HS0 := Lib.hid hs0
  have HB02 := Lib.hid hb02
  have hdl : (srtN C.dirty).length ≤ 100 := by rw [HSl.out]; exact hcap
  clear hnx hs0 hb02 hb2
  go_wp2_with fail
  go_loopg [18] (srtN C.dirty).length (fun g i wx => ∃ k : Nat, i = .int .i64 k ∧ g = (srtN C.dirty).length - k ∧ k ≤ (srtN C.dirty).length ∧ SeenB wx w.heap.size (newN [] ((srtN C.dirty).take k)) ∧ Off (fun k => k = w.heap.size) w2 wx)
  case atStart => exact ⟨0, rfl, rfl, Nat.zero_le _, HS0.out, Off.refl _ _⟩
  case round =>
    obtain ⟨k, rfl, rfl, hk, hs, ho⟩ := hrel
    by_cases hlt : k < (srtN C.dirty).length
    · have hltI : decide ((k : Int) < ((srtN C.dirty).length : Int)) = true := by simp; omega
      obtain ⟨n, hkn⟩ : ∃ n, (srtN C.dirty)[k]? = some n := ⟨_, List.getElem?_eq_getElem hlt⟩
      obtain ⟨b, o, rfl, ⟨hbl, hbB⟩, hcx⟩ := HNx.out (by intro e; rw [e] at hkn; simp at hkn)
      have hcell := (ho.cell (p := ⟨b, o + k, none⟩) hbl (fun e => by rw [World.size_alloc] at hbB; have : b = w.heap.size := e; omega)).trans (hcx k n hkn)
      obtain ⟨w8, hup, hs8, hg8, hz8⟩ := hs.put n
      have hnext : SeenB w8 w.heap.size (newN [] ((srtN C.dirty).take (k + 1))) ∧ Off (fun k => k = w.heap.size) w2 w8 := ⟨by rw [take_succ_at _ _ _ hkn, newN_snoc]; exact hs8, ho.grown hg8 (fun j e => by cases e; exact .inl rfl)⟩
      have HN := Lib.hid hnext
      clear hnext hs8 hg8 hz8 hs ho hkn hcx
      go_wp2_with fail
      go_roundg ((srtN C.dirty).length - (k + 1))
      case measure => omega
      case rel => exact ⟨k + 1, by go_num, rfl, hlt, HN.out.1, HN.out.2⟩
    · have hltI : decide ((k : Int) < ((srtN C.dirty).length : Int)) = false := by simp; omega
      obtain rfl : k = (srtN C.dirty).length := by omega
      rw [List.take_length, newN_self HNd.out] at hs
      have hlen := fun ty => hs.len ty
      have hbr : Below w.heap.size w wr := ((Off.of_below HB02.out (fun k => k = w.heap.size)).then ho).below (Nat.le_refl _) (fun k e => Nat.le_of_eq e.symm)
      have HS := Lib.hid hs
      have HBr := Lib.hid hbr
      have hlen3 := hlen 3
      clear hs hbr ho hlen
      go_wp2_with fail
      go_loopg [29] l.length (fun g i wx => ∃ k : Nat, i = .int .i64 k ∧ g = l.length - k ∧ k ≤ l.length ∧ SeenB wx w.heap.size (newN (srtN C.dirty) (l.take k)) ∧ Below w.heap.size w wx)
      case atStart => exact ⟨0, rfl, rfl, Nat.zero_le _, HS.out, HBr.out⟩
      case round =>
        obtain ⟨j, rfl, rfl, hj, hs, hb⟩ := hrel
        by_cases hlt2 : j < l.length
        · have hltI2 : decide ((j : Int) < (l.length : Int)) = true := by simp; omega
          obtain ⟨n, hjn⟩ : ∃ n, l[j]? = some n := ⟨_, List.getElem?_eq_getElem hlt2⟩
          obtain ⟨b, o, rfl, ⟨hbl, _⟩, hcx⟩ := HX.out (by intro e; rw [e] at hjn; simp at hjn)
          have hcell := (hb.cell (p := ⟨b, o + j, none⟩) hbl).trans (hcx j n hjn)
          obtain ⟨w8, hup, hs8, hg8, hz8⟩ := hs.put n
          have hnext : SeenB w8 w.heap.size (newN (srtN C.dirty) (l.take (j + 1))) ∧ Below w.heap.size w w8 := ⟨by rw [take_succ_at _ _ _ hjn, newN_snoc]; exact hs8, hb.grown hg8 hb.size (fun j e => by cases e; exact Nat.le_refl _)⟩
          have HN := Lib.hid hnext
          clear hnext hs8 hg8 hz8 hs hb hjn hcx
          go_wp2_with fail
          go_roundg (l.length - (j + 1))
          case measure => omega
          case rel => exact ⟨j + 1, by go_num, rfl, hlt2, HN.out.1, HN.out.2⟩
        · have hltI2 : decide ((j : Int) < (l.length : Int)) = false := by simp; omega
          obtain rfl : j = l.length := by omega
          rw [List.take_length] at hs
          have hlenq : ∀ (ty : TypeId) (q : Nat), (Builtin.len_ #[215] ty #[.map (some w.heap.size)]).run Tryz.prog (wr.drewN q) = .ok (.int .i64 ((newN (srtN C.dirty) l).length : Nat)) (wr.drewN q) := fun ty q => (hs.keep (w' := wr.drewN q) rfl).len ty
          have hlen0 : (Builtin.len_ #[215] 3 #[.map (some w.heap.size)]).run Tryz.prog wr = .ok (.int .i64 ((newN (srtN C.dirty) l).length : Nat)) wr := hs.len _
          obtain ⟨d0, hrm⟩ := HRoom.out wr hb
          have hnl : (newN (srtN C.dirty) l).length ≤ 1100 := by
            have : ∀ (l s : List Nat), (newN s l).length ≤ s.length + l.length := by
              intro l
              induction l with
              | nil => intro s; exact Nat.le_refl _
              | cons n l ih =>
                intro s
                have h8 := ih (if n ∈ s then s else s ++ [n])
                have h9 : (if n ∈ s then s else s ++ [n]).length ≤ s.length + 1 := by split <;> simp
                show (newN (if n ∈ s then s else s ++ [n]) l).length ≤ s.length + (l.length + 1)
                omega
            have h7 := this l (srtN C.dirty)
            omega
          have hnge : (srtN C.dirty).length ≤ (newN (srtN C.dirty) l).length := newN_le
          have hw1 : IntKind.i64.wrap (((newN (srtN C.dirty) l).length : Int) - ((srtN C.dirty).length : Int)) = ((newN (srtN C.dirty) l).length : Int) - ((srtN C.dirty).length : Int) := IntWalk.i64_in _ (by omega)
          have hres : C.fits l = decide (((newN (srtN C.dirty) l).length : Int) - ((srtN C.dirty).length : Int) ≤ C.room) := by
            unfold Ca.fits Ca.room
            rw [HSl.out]
            exact decide_eq_decide.2 (by omega)
          have HRm := Lib.hid hrm
          have HRes := Lib.hid hres
          have HB2 := Lib.hid hb
          clear hs hb hrm hres hnl hnge
          go_wp2_with fail
          go_quiet ((go_at_call 136; exact HRm.out _))
          go_wp2_with fail
          go_ret
          exact ⟨ret_bool HRes.out.symm, below_drewN HB2.out _⟩
end Go.Proofs.YtfgkgoddjemnfaaGreatDoor

namespace Go.Proofs.YtfgkgoddjemnfaaGreatDoor
open Go.RowKit Go.Shelf Pa
attribute [local go_sem] bs_toList bs_size
/-- Where bytes of one's own lie. -/
theorem OwnB.where_ {w : World} {B : Nat} {v : Value} {x : Str} (h : OwnB w B v x) (hx : x ≠ []) : ∃ g c, v = .slice (some ⟨g, 0, none⟩) x.length c ∧ B ≤ g ∧ g < w.heap.size ∧ (∀ (i : Nat) (y : UInt8), x[i]? = some y → w.cell? ⟨g, i, none⟩ = some (.int .u8 y.toNat)) ∧ (∀ i, w.frozen? ⟨g, i, none⟩ = false) ∧ x.length ≤ c := by
  obtain ⟨h1, h2⟩ := h
  rcases h2 with ⟨rfl, h0⟩ | ⟨g, cap, cur, rfl, hB, hg, hc, hm, hs, ht⟩
  · exact absurd (List.length_eq_zero_iff.1 h0) hx
  · refine ⟨g, cap, rfl, hB, (Array.getElem?_eq_some_iff.1 hg).1, fun i y hy => ?_, fun i => free_of_heap hg i, hc⟩
    have hi : i < x.length := (List.getElem?_eq_some_iff.1 hy).1
    rw [cell_of_heap hg, ← Array.getElem?_toList, ← List.getElem?_take_of_lt (show i < x.length * 1 by omega), ht, List.getElem?_map, hy]
    rfl
theorem OwnB.set {w : World} {B g c : Nat} {x : Str} (h : OwnB w B (.slice (some ⟨g, 0, none⟩) x.length c) x) (i : Nat) (y : UInt8) (hi : i < x.length) : OwnB (w.setCell ⟨g, i, none⟩ (.int .u8 y.toNat)) B (.slice (some ⟨g, 0, none⟩) x.length c) (x.set i y) := by
  obtain ⟨h1, h2⟩ := h
  rcases h2 with ⟨h0, _⟩ | ⟨g', cap, cur, e, hB, hg, hc, hm, hs, ht⟩
  · cases h0
  · injection e with e1 e2 e3
    injection e1 with e1
    injection e1 with e1
    subst e1 e3
    refine ⟨by simp, .inr ⟨g, c, cur.setIfInBounds i (.int .u8 y.toNat), by simp, hB, heap_setCell_at w g i _ hg, by simpa using hc, hm, by simpa using hs, ?_⟩⟩
    have hs' : cur.toList.length = c * 1 := by rw [Array.length_toList]; exact hs
    refine List.ext_getElem? fun j => ?_
    have hj := congrArg (fun l => l[j]?) ht
    rw [List.length_set, Array.toList_setIfInBounds, List.take_set, List.map_set, List.getElem?_set, List.getElem?_set, hj, List.length_take, List.length_map, hs']
    by_cases e2 : i = j
    · rw [if_pos e2, if_pos e2, if_pos (by omega), if_pos hi]
    · rw [if_neg e2, if_neg e2]
theorem HRd.where_ {w w' : World} {F : List (Nat × Obj)} {c : Nat} {C : Ca} {R : Reg} {x : Str} {v : Value} (h : HRd w F c C R x v w') (hx : x ≠ []) : ∃ g cv, v = .slice (some ⟨g, 0, none⟩) x.length cv ∧ w.heap.size ≤ g ∧ g < w'.heap.size ∧ (∀ (i : Nat) (y : UInt8), x[i]? = some y → w'.cell? ⟨g, i, none⟩ = some (.int .u8 y.toNat)) ∧ (∀ i, w'.frozen? ⟨g, i, none⟩ = false) ∧ x.length ≤ cv := by
  obtain ⟨R', h1, _⟩ := h
  exact h1.where_ hx
theorem HRd.set {w w' : World} {F : List (Nat × Obj)} {c g cv : Nat} {C : Ca} {R : Reg} {x : Str} (h : HRd w F c C R x (.slice (some ⟨g, 0, none⟩) x.length cv) w') (i : Nat) (y : UInt8) (hi : i < x.length) : HRd w F c C R (x.set i y) (.slice (some ⟨g, 0, none⟩) x.length cv) (w'.setCell ⟨g, i, none⟩ (.int .u8 y.toNat)) := by
  obtain ⟨R', h1, h2, h3, h4, h5⟩ := h
  have hg : w.heap.size ≤ g := (h1.block rfl).1
  have ho : Off (fun k => k = g) w' (w'.setCell ⟨g, i, none⟩ (.int .u8 y.toNat)) := (Off.refl (fun k => k = g) w').setCell (p := ⟨g, i, none⟩) (.inl rfl) _
  exact ⟨R', h1.set i y hi, h2.off ho (fun k hk e => h5 g rfl (e ▸ hk)), h3, h4.trans ho (fun k e => .inr (by rw [e]; exact hg)), h5⟩
theorem HRd.below {w w' w2 : World} {F : List (Nat × Obj)} {c : Nat} {C : Ca} {R : Reg} {x : Str} {v : Value} (h : HRd w F c C R x v w') (hb : Below w'.heap.size w' w2) : HRd w F c C R x v w2 := by
  obtain ⟨R', h1, h2, h3, h4, h5⟩ := h
  exact ⟨R', h1.off (Off.of_below hb (fun _ => False)) (fun _ _ e => e), h2.below hb, h3, h4.step hb, h5⟩
/-- What was read is written to the cache. -/
theorem HRd.write {w w' : World} {F : List (Nat × Obj)} {c : Nat} {C : Ca} {R : Reg} {x : Str} {v : Value} (h : HRd w F c C R x v w') (n : Nat) (hn : n < C.G.pages) (hx : x.length = 512) :
    Calls Tryz.prog 82 #[.pointer (some ⟨c, 0, none⟩), .int .i64 n, v] w' fun e w2 => e = .returned (.int .i64 (if C.may n = true then 0 else 7)) ∧ Step w F c (if C.may n = true then C.set n x else C) R w2 := by
  have hb := h.bytes (by omega)
  obtain ⟨R', h1, h2, h3, h4, h5⟩ := h
  refine (hwrite_any n c C R' F v x w' h2 hn hb hx).mono ?_
  rintro e w2 ⟨rfl, hs⟩
  exact ⟨rfl, Step.trans h3 h4 hs⟩
theorem xor_byte (x : UInt8) (k : Nat) (hk : k < 8) : bits .xor .u8 ((x.toNat : Nat) : Int) ((2 ^ k : Nat) : Int) = (((UInt8.ofNat (x.toNat ^^^ 2 ^ k)).toNat : Nat) : Int) := by
  have h1 : (2 : Nat) ^ k < 2 ^ 8 := Nat.pow_lt_pow_right (by decide) hk
  rw [u8_xor_nat _ _ (UInt8.toNat_lt x) h1, UInt8.toNat_ofNat', Nat.mod_eq_of_lt (xor_lt256 (UInt8.toNat_lt x) hk)]
set_option maxRecDepth 100000 in
set_option maxHeartbeats 2000000 in
theorem turn_any (page i m c ino : Nat) (C : Ca) (R : Reg) (F : List (Nat × Obj)) (w : World) (h : Held w F c C R) (hm : (m, mapO c ino) ∈ F) (hp : page < C.G.pages) (hi : i < 4096) :
    Calls Tryz.prog 140 #[.pointer (some ⟨m, 0, none⟩), .int .i64 page, .int .i64 i] w fun e w' => e = .returned (.tuple #[]) ∧ Step w F c (if C.may page = true then C.set page (turnB (C.rd page) i) else C) R w' := by
  have hrd := mread_any page m c ino C R F w h hm hp
  have HLen := Lib.hid (h.at_.rdlen hp)
  have HRd1 := Lib.hid hrd
  have hml : m < w.heap.size := h.lt m (.inr (h.fix _ hm).2)
  clear hrd h
  go_enter Tryz.func140, Tryz.ntmps140
  go_wp2_with fail
  refine HRd1.out.mono ?_
  rintro e w2 ⟨v, rfl, hr⟩
  obtain ⟨g, cv, rfl, hg1, hg2, hcx, hfz, hcc⟩ := hr.where_ (by intro e; have := HLen.out; rw [e] at this; cases this)
  have hi8 : i / 8 < (C.rd page).length := by have := HLen.out; omega
  have hby := hcx (i / 8) _ (List.getElem?_eq_getElem hi8)
  obtain ⟨y, hy⟩ : ∃ y, y = (C.rd page)[i / 8] := ⟨_, rfl⟩
  rw [← hy] at hby
  have hba : Below w2.heap.size w2 (w2.alloc (.cells #[.slice (some ⟨g, 0, none⟩) (C.rd page).length cv, .int .i64 (cntB C ino page)] 195)) := (Below.refl _ _).alloc (Nat.le_refl _) _
  have hby2 := (hba.cell (p := ⟨g, i / 8, none⟩) hg2).trans hby
  have hfz2 := (hba.frozen (p := ⟨g, i / 8, none⟩) hg2).trans (hfz (i / 8))
  have HR := Lib.hid hr
  have HBa := Lib.hid hba
  have HY := Lib.hid hy
  clear hr hcx hfz hby hba hy
  go_wp2_with fail
  go_region
  have e1 : bits .xor .u8 ((y.toNat : Nat) : Int) (2 ^ (i % 8) % 256) = (((UInt8.ofNat (y.toNat ^^^ 2 ^ (i % 8))).toNat : Nat) : Int) := by
    have hk : i % 8 < 8 := Nat.mod_lt _ (by decide)
    have h2 : (2 : Nat) ^ (i % 8) < 2 ^ 8 := Nat.pow_lt_pow_right (by decide) hk
    have h3 : ((2 : Int) ^ (i % 8) % 256) = ((2 ^ (i % 8) : Nat) : Int) := by
      have : ((2 : Int) ^ (i % 8)) = ((2 ^ (i % 8) : Nat) : Int) := by simp
      have h2' : (2 : Nat) ^ (i % 8) < 256 := h2
      rw [this]
      generalize (2 : Nat) ^ (i % 8) = z at h2'
      omega
    rw [h3]; exact xor_byte y _ hk
  have e2 : (C.rd page).set (i / 8) (UInt8.ofNat (y.toNat ^^^ 2 ^ (i % 8))) = turnB (C.rd page) i := by
    unfold turnB
    rw [List.getD_eq_getElem?_getD, List.getElem?_eq_getElem hi8, HY.out]; rfl
  rw [e1]
  obtain ⟨W3, hW3⟩ : ∃ W3, W3 = ((w2.setCell ⟨g, i / 8, none⟩ (.int .u8 (UInt8.ofNat (y.toNat ^^^ 2 ^ (i % 8))).toNat)).alloc (.cells #[.slice (some ⟨g, 0, none⟩) (C.rd page).length cv, .int .i64 (cntB C ino page)] 195)).drew := ⟨_, rfl⟩
  rw [← hW3]
  have hr3 : HRd w F c C R (turnB (C.rd page) i) (.slice (some ⟨g, 0, none⟩) (C.rd page).length cv) W3 := by
    rw [← e2, hW3]
    exact (HR.out.set _ _ hi8).below (((Below.refl _ _).alloc (Nat.le_refl _) _).drew)
  have hz : (w2.setCell ⟨g, i / 8, none⟩ (.int .u8 (UInt8.ofNat (y.toNat ^^^ 2 ^ (i % 8))).toNat)).heap.size = w2.heap.size := by simp [World.setCell]
  have hnew : W3.heap[w2.heap.size]? = some (.cells #[.slice (some ⟨g, 0, none⟩) (C.rd page).length cv, .int .i64 (cntB C ino page)] 195 (0, 0)) := by
    rw [hW3, ← hz]; exact heap_alloc_new _ _
  have k0 : W3.cell? ⟨w2.heap.size, 0, none⟩ = some (.slice (some ⟨g, 0, none⟩) (C.rd page).length cv) := cell_of_heap hnew 0
  have k1 : W3.cell? ⟨m, 0, none⟩ = some (.pointer (some ⟨c, 0, none⟩)) := by
    obtain ⟨R', _, q2, _⟩ := id hr3
    exact cell_of_heap (q2.fix _ hm).1 0
  have hq : ∀ q, Calls Tryz.prog 82 #[.pointer (some ⟨c, 0, none⟩), .int .i64 page, .slice (some ⟨g, 0, none⟩) (C.rd page).length cv] (W3.drewN q) fun e w2 => ∃ z, e = .returned (.int .i64 z) ∧ Step w F c (if C.may page = true then C.set page (turnB (C.rd page) i) else C) R w2 := fun q =>
    ((hr3.below (below_drewN (Below.refl _ _) q)).write page hp (by rw [turnB_length]; exact HLen.out)).mono fun e w2 hh => ⟨_, hh⟩
  have HQ := Lib.hid hq
  clear hq hr3 hnew hz hW3 e1 e2 hby2 hfz2 HR HBa HY
  go_wp2_with fail
  go_region_with (go_at_call 82; refine (HQ.out 1).mono ?_; rintro e w9 ⟨z9, rfl, hs9⟩)
  all_goals (have HS9 := Lib.hid hs9; clear hs9; go_end0; exact ⟨rfl, HS9.out⟩)
end Go.Proofs.YtfgkgoddjemnfaaGreatDoor

namespace Go.Proofs.YtfgkgoddjemnfaaGreatDoor
open Go.RowKit Go.Shelf Pa
attribute [local go_sem] bs_toList bs_size
theorem newN_more {s l : List Nat} {n : Nat} (h1 : n ∉ s) (h2 : n ∈ l) : s.length + 1 ≤ (newN s l).length := by
  induction l generalizing s with
  | nil => cases h2
  | cons x l ih =>
    show s.length + 1 ≤ (newN (if x ∈ s then s else s ++ [x]) l).length
    by_cases hx : x = n
    · subst hx
      rw [if_neg h1]
      have := newN_le (s := s ++ [x]) (l := l)
      simpa using this
    · have h3 : n ∈ l := by
        rcases List.mem_cons.1 h2 with e | e
        · exact absurd e.symm hx
        · exact e
      split
      · exact ih h1 h3
      · have := ih (s := s ++ [x]) (by simp [h1]; exact fun e => hx e.symm) h3
        rw [List.length_append, List.length_singleton] at this
        omega
theorem Ca.fits_may {C : Ca} {l : List Nat} (h : C.fits l = true) {n : Nat} (hn : n ∈ l) : C.may n = true := by
  unfold Ca.may
  cases hp : phas C.dirty n with
  | true => rfl
  | false =>
    simp only [Bool.false_or, decide_eq_true_eq]
    unfold Ca.fits at h
    simp only [decide_eq_true_eq] at h
    have h1 : n ∉ srtN C.dirty := fun e => by rw [phas_iff.2 (srtN_mem.1 e)] at hp; cases hp
    have := newN_more h1 hn
    rw [srtN_length] at this
    unfold Ca.room; omega
theorem Ca.fits_may2 {C : Ca} {a n : Nat} {x : Str} (h : C.fits [a, n] = true) : (C.set a x).may n = true := by
  unfold Ca.may
  show (phas (pset C.dirty a x) n || decide (0 < (C.set a x).room)) = true
  rw [phas_put]
  cases hp : phas C.dirty n with
  | true => simp
  | false =>
    by_cases hna : n = a
    · simp [hna]
    · simp only [hna, decide_false, Bool.false_or, decide_eq_true_eq, Bool.or_false]
      unfold Ca.fits at h
      simp only [decide_eq_true_eq] at h
      have h1 : n ∉ srtN C.dirty := fun e => by rw [phas_iff.2 (srtN_mem.1 e)] at hp; cases hp
      unfold Ca.room
      show 0 < (C.G.cap : Int) - ((pset C.dirty a x).length : Int)
      rw [pset_length]
      have h2 : newN (srtN C.dirty) [a, n] = newN (if a ∈ srtN C.dirty then srtN C.dirty else srtN C.dirty ++ [a]) [n] := rfl
      rw [h2] at h
      by_cases ha : phas C.dirty a = true
      · rw [if_pos ha]
        rw [if_pos (srtN_mem.2 (phas_iff.1 ha))] at h
        have := newN_more h1 (l := [n]) (by simp)
        rw [srtN_length] at this
        omega
      · have ha2 : a ∉ srtN C.dirty := fun e => ha (phas_iff.2 (srtN_mem.1 e))
        rw [if_neg ha]
        rw [if_neg ha2] at h
        have := newN_more (s := srtN C.dirty ++ [a]) (n := n) (l := [n]) (by simp [h1, hna]) (by simp)
        rw [List.length_append, srtN_length, List.length_singleton] at this
        omega
/-- What Inode and Page hand back: the number, the error, the cache. -/
def Ca.inodeR (C : Ca) (ino : Nat) : Nat × Nat × Ca := match C.inode ino with | none => (0, 7, C) | some (i, C') => (i, 0, C')
def Ca.pageR (C : Ca) : Nat × Nat × Ca := match C.page with | none => (0, 7, C) | some (i, C') => (i, 0, C')
theorem inodeR_none {C : Ca} {ino : Nat} (h : firstB (C.rd 1) ino = none) : C.inodeR ino = (0, 7, C) := by unfold Ca.inodeR Ca.inode; rw [h]
theorem inodeR_full {C : Ca} {ino i : Nat} (h : firstB (C.rd 1) ino = some i) (hf : C.fits [1] = false) : C.inodeR ino = (0, 7, C) := by unfold Ca.inodeR Ca.inode; rw [h]; simp only; rw [if_neg (by rw [hf]; decide)]
theorem inodeR_some {C : Ca} {ino i : Nat} (h : firstB (C.rd 1) ino = some i) (hf : C.fits [1] = true) : C.inodeR ino = (i, 0, C.set 1 (turnB (C.rd 1) i)) := by unfold Ca.inodeR Ca.inode; rw [h]; simp only; rw [if_pos hf]
theorem pageR_none {C : Ca} (h : firstB (C.rd 2) C.G.pages = none) : C.pageR = (0, 7, C) := by unfold Ca.pageR Ca.page; rw [h]
theorem pageR_full {C : Ca} {i : Nat} (h : firstB (C.rd 2) C.G.pages = some i) (hf : C.fits [2, i] = false) : C.pageR = (0, 7, C) := by unfold Ca.pageR Ca.page; rw [h]; simp only; rw [if_neg (by rw [hf]; decide)]
theorem pageR_some {C : Ca} {i : Nat} (h : firstB (C.rd 2) C.G.pages = some i) (hf : C.fits [2, i] = true) : C.pageR = (i, 0, (C.set 2 (turnB (C.rd 2) i)).set i pageZ) := by unfold Ca.pageR Ca.page; rw [h]; simp only; rw [if_pos hf]
theorem HRd.held {w w' : World} {F : List (Nat × Obj)} {c : Nat} {C : Ca} {R : Reg} {x : Str} {v : Value} (h : HRd w F c C R x v w') : Step w F c C R w' := by
  obtain ⟨R', _, h2, h3, h4, _⟩ := h
  exact ⟨R', h2, h3, h4⟩
theorem Step.below {w w' w2 : World} {F : List (Nat × Obj)} {c : Nat} {C : Ca} {R : Reg} (h : Step w F c C R w') (hb : Below w'.heap.size w' w2) : Step w F c C R w2 := by
  obtain ⟨R', h2, h3, h4⟩ := h
  exact ⟨R', h2.below hb, h3, h4.step hb⟩
theorem Step.then {w w' w2 : World} {F : List (Nat × Obj)} {c : Nat} {C C2 : Ca} {R : Reg} (h : Step w F c C R w') (hk : ∀ R', Held w' F c C R' → Step w' F c C2 R' w2) : Step w F c C2 R w2 := by
  obtain ⟨R', h2, h3, h4⟩ := h
  exact Step.trans h3 h4 (hk R' h2)
theorem nats_new {w : World} {l : List Nat} {cs : Array Value} (h : cs.toList = l.map fun n => Value.int .i64 (n : Nat)) : NatsI (w.alloc (.cells cs 3)) (fun _ => True) (.slice (some ⟨w.heap.size, 0, none⟩) l.length l.length) l := by
  refine ⟨_, _, rfl, Nat.le_refl _, fun _ => ⟨_, _, rfl, ⟨by simp, trivial⟩, fun i x hx => ?_⟩⟩
  rw [Nat.zero_add, cell_of_heap (heap_alloc_new w _), ← Array.getElem?_toList, h, List.getElem?_map, hx]; rfl
set_option maxRecDepth 100000 in
set_option maxHeartbeats 2000000 in
theorem inode_any (m c ino : Nat) (C : Ca) (R : Reg) (F : List (Nat × Obj)) (w : World) (h : Held w F c C R) (hm : (m, mapO c ino) ∈ F) (hp : 1 < C.G.pages) (hi : ino ≤ 512) :
    Calls Tryz.prog 88 #[.pointer (some ⟨m, 0, none⟩)] w fun e w' => e = .returned (.tuple #[.int .i64 (C.inodeR ino).1, .int .i64 (C.inodeR ino).2.1]) ∧ Step w F c (C.inodeR ino).2.2 R w' := by
  have hlen := h.at_.rdlen hp
  have hrd := mread_any 1 m c ino C R F w h hm hp
  have hcnt : cntB C ino 1 = ino := rfl
  rw [hcnt] at hrd
  have HLen := Lib.hid hlen
  have HRd1 := Lib.hid hrd
  clear hrd h hlen hcnt
  go_enter Tryz.func88, Tryz.ntmps88
  go_wp2_with fail
  refine HRd1.out.mono ?_
  rintro e w2 ⟨v, rfl, hr⟩
  have hfi := firstb_any ino v (C.rd 1) w2 (hr.bytes (by have := HLen.out; omega)) (by have := HLen.out; omega) (by have := HLen.out; omega)
  obtain ⟨A, cv, rfl⟩ : ∃ A cv, v = .slice A (C.rd 1).length cv := by obtain ⟨_, k1, _⟩ := id hr; exact ownsRow_slice k1
  have HFi := Lib.hid hfi
  have HR := Lib.hid hr.held
  clear hfi hr
  go_wp2_with fail
  refine HFi.out.mono ?_
  rintro e w3 ⟨rfl, hb3⟩
  have hs3 := HR.out.below hb3
  cases hfb : firstB (C.rd 1) ino with
  | none =>
    have hfI : firstI (C.rd 1) ino = -1 := by unfold firstI; rw [hfb]
    rw [hfI]
    have HE := Lib.hid (inodeR_none hfb)
    have HS := Lib.hid hs3
    clear hs3 hb3 hfI hfb
    go_wp2_with fail
    go_ret2
    exact ⟨by rw [HE.out]; rfl, by rw [HE.out]; exact HS.out⟩
  | some i =>
    have hfI : firstI (C.rd 1) ino = (i : Int) := by unfold firstI; rw [hfb]
    have hil := (firstB_some hfb).1
    rw [hfI]
    have h0 : decide ((i : Int) < 0) = false := by simp
    obtain ⟨R3, g1, g2, g3⟩ := id hs3
    have hba : Below w3.heap.size w3 (w3.alloc (.cells #[.int .i64 1] 3)) := (Below.refl _ _).alloc (Nat.le_refl _) _
    have hft := fits_any m c ino _ [1] C R3 F _ (g1.below hba) hm (nats_new (w := w3) (l := [1]) (cs := #[.int .i64 1]) rfl) (by decide)
    have HFt := Lib.hid hft
    have HG := Lib.hid g1
    have HS := Lib.hid hs3
    have HBa := Lib.hid hba
    clear hft g1 hs3 hb3 hba
    go_wp2_with fail
    refine HFt.out.mono ?_
    rintro e w4 ⟨rfl, hb4⟩
    have hb34 : Below w3.heap.size w3 w4 := HBa.out.trans (hb4.mono HBa.out.size)
    cases hff : C.fits [1] with
    | false =>
      have HE := Lib.hid (inodeR_full hfb hff)
      have HS4 := Lib.hid (HS.out.below hb34)
      clear hb34 hb4 hfb hfI hff
      go_wp2_with fail
      go_ret2
      exact ⟨by rw [HE.out]; rfl, by rw [HE.out]; exact HS4.out⟩
    | true =>
      have HE := Lib.hid (inodeR_some hfb hff)
      have htu := turn_any 1 i m c ino C R3 F w4 (HG.out.below hb34) hm hp (by omega)
      rw [if_pos (Ca.fits_may hff (by simp))] at htu
      have HTu := Lib.hid htu
      have HB34 := Lib.hid hb34
      clear htu hb34 hb4 hfb hfI hff
      go_wp2_with fail
      refine HTu.out.mono ?_
      rintro e w5 ⟨rfl, hs5⟩
      have hfin := Step.trans g2 g3 (Step.trans (Reg.To.refl R3 w3.heap.size) (Off.of_below HB34.out R3.m) hs5)
      have HFin := Lib.hid hfin
      clear hfin hs5
      go_wp2_with fail
      go_ret2
      exact ⟨by rw [HE.out]; rfl, by rw [HE.out]; exact HFin.out⟩
set_option maxRecDepth 100000 in
set_option maxHeartbeats 2000000 in
theorem page_any (m c ino : Nat) (C : Ca) (R : Reg) (F : List (Nat × Obj)) (w : World) (h : Held w F c C R) (hm : (m, mapO c ino) ∈ F) (hp : 2 < C.G.pages) :
    Calls Tryz.prog 181 #[.pointer (some ⟨m, 0, none⟩)] w fun e w' => e = .returned (.tuple #[.int .i64 (C.pageR).1, .int .i64 (C.pageR).2.1]) ∧ Step w F c (C.pageR).2.2 R w' := by
  have hlen := h.at_.rdlen hp
  have hpgs := h.at_.pages
  have hrd := mread_any 2 m c ino C R F w h hm hp
  have hcnt : cntB C ino 2 = C.G.pages := rfl
  rw [hcnt] at hrd
  have HLen := Lib.hid hlen
  have HRd1 := Lib.hid hrd
  clear hrd h hlen hcnt
  go_enter Tryz.func181, Tryz.ntmps181
  go_wp2_with fail
  refine HRd1.out.mono ?_
  rintro e w2 ⟨v, rfl, hr⟩
  have hfi := firstb_any C.G.pages v (C.rd 2) w2 (hr.bytes (by have := HLen.out; omega)) (by have := HLen.out; omega) (by have := HLen.out; omega)
  obtain ⟨A, cv, rfl⟩ : ∃ A cv, v = .slice A (C.rd 2).length cv := by obtain ⟨_, k1, _⟩ := id hr; exact ownsRow_slice k1
  have HFi := Lib.hid hfi
  have HR := Lib.hid hr.held
  clear hfi hr
  go_wp2_with fail
  refine HFi.out.mono ?_
  rintro e w3 ⟨rfl, hb3⟩
  have hs3 := HR.out.below hb3
  cases hfb : firstB (C.rd 2) C.G.pages with
  | none =>
    have hfI : firstI (C.rd 2) C.G.pages = -1 := by unfold firstI; rw [hfb]
    rw [hfI]
    have HE := Lib.hid (pageR_none hfb)
    have HS := Lib.hid hs3
    clear hs3 hb3 hfI hfb
    go_wp2_with fail
    go_ret2
    exact ⟨by rw [HE.out]; rfl, by rw [HE.out]; exact HS.out⟩
  | some i =>
    have hfI : firstI (C.rd 2) C.G.pages = (i : Int) := by unfold firstI; rw [hfb]
    have hil := (firstB_some hfb).1
    rw [hfI]
    have h0 : decide ((i : Int) < 0) = false := by simp
    obtain ⟨R3, g1, g2, g3⟩ := id hs3
    have hba : Below w3.heap.size w3 (w3.alloc (.cells #[.int .i64 2, .int .i64 i] 3)) := (Below.refl _ _).alloc (Nat.le_refl _) _
    have hft := fits_any m c ino _ [2, i] C R3 F _ (g1.below hba) hm (nats_new (w := w3) (l := [2, i]) (cs := #[.int .i64 2, .int .i64 i]) rfl) (show 2 ≤ 1000 by decide)
    have HFt := Lib.hid hft
    have HG := Lib.hid g1
    have HS := Lib.hid hs3
    have HBa := Lib.hid hba
    clear hft g1 hs3 hb3 hba
    go_wp2_with fail
    refine HFt.out.mono ?_
    rintro e w4 ⟨rfl, hb4⟩
    have hb34 : Below w3.heap.size w3 w4 := HBa.out.trans (hb4.mono HBa.out.size)
    cases hff : C.fits [2, i] with
    | false =>
      have HE := Lib.hid (pageR_full hfb hff)
      have HS4 := Lib.hid (HS.out.below hb34)
      clear hb34 hb4 hfb hfI hff
      go_wp2_with fail
      go_ret2
      exact ⟨by rw [HE.out]; rfl, by rw [HE.out]; exact HS4.out⟩
    | true =>
      have HE := Lib.hid (pageR_some hfb hff)
      have htu := turn_any 2 i m c ino C R3 F w4 (HG.out.below hb34) hm hp (by omega)
      rw [if_pos (Ca.fits_may hff (by simp))] at htu
      have HTu := Lib.hid htu
      have HMay2 := Lib.hid (Ca.fits_may2 (x := turnB (C.rd 2) i) hff)
      have HB34 := Lib.hid hb34
      clear htu hb34 hb4 hfb hfI hff
      go_wp2_with fail
      refine HTu.out.mono ?_
      rintro e w5 ⟨rfl, hs5⟩
      obtain ⟨R5, g5, t5, o5⟩ := hs5
      have hms : ∀ w1, (Instr.makeSlice 53 (.int .i64 512) (.int .i64 512)).run Tryz.prog w1 = .ok (.slice (some ⟨w1.heap.size, 0, none⟩) 512 512) (w1.alloc (.cells (madeCells #[.int .u8 0] 512) 5)) := run_make_row' (P := Tryz.prog) 53 5 (.int .u8 0) 1 Tryz.underlying53 info_u8 rfl .i64 .i64 512 (by omega) (by omega)
      have k0 : w5.cell? ⟨m, 0, none⟩ = some (.pointer (some ⟨c, 0, none⟩)) := cell_of_heap (g5.fix _ hm).1 0
      have hmlt : m < w5.heap.size := g5.lt m (.inr (g5.fix _ hm).2)
      have hS : ∀ W, Below w5.heap.size w5 W → W.cell? ⟨m, 0, none⟩ = some (.pointer (some ⟨c, 0, none⟩)) := fun W hb => (hb.cell (p := ⟨m, 0, none⟩) hmlt).trans k0
      have hq : ∀ W, Below w5.heap.size w5 W → Below (w5.heap.size + 1) (w5.alloc (.cells (madeCells #[.int .u8 0] 512) 5)) W → Calls Tryz.prog 82 #[.pointer (some ⟨c, 0, none⟩), .int .i64 i, .slice (some ⟨w5.heap.size, 0, none⟩) 512 512] W fun e w9 => ∃ z, e = .returned (.int .i64 z) ∧ w9.cell? ⟨m, 0, none⟩ = some (.pointer (some ⟨c, 0, none⟩)) ∧ Step w F c ((C.set 2 (turnB (C.rd 2) i)).set i pageZ) R w9 := fun W hb hb1 => by
        have hz := zSec_new w5 (fun _ => True) 512 trivial (by decide)
        have hz2 : BytesAt W W.heap.size (.slice (some ⟨w5.heap.size, 0, none⟩) 512 512) pageZ := ((hz.at.more (B' := w5.heap.size + 1) (by simp)).below hb1).more (by have := hb1.size; rw [World.size_alloc] at this; exact this)
        have hwr := hwrite_any i c _ R5 F _ pageZ W (g5.below hb) hil hz2 pageZ_length
        rw [if_pos HMay2.out, if_pos HMay2.out] at hwr
        refine hwr.mono ?_
        rintro e w9 ⟨rfl, hs9⟩
        obtain ⟨R9, g9, t9, o9⟩ := id hs9
        exact ⟨_, rfl, cell_of_heap (g9.fix _ hm).1 0, Step.trans g2 g3 (Step.trans (Reg.To.refl R3 w3.heap.size) (Off.of_below HB34.out R3.m) (Step.trans t5 o5 (Step.trans (Reg.To.refl R5 w5.heap.size) (Off.of_below hb R5.m) hs9)))⟩
      have HQ := Lib.hid hq
      have HS := Lib.hid hS
      have hb0 := Below.refl w5.heap.size w5
      have hb1 := Below.refl (w5.heap.size + 1) (w5.alloc (.cells (madeCells #[.int .u8 0] 512) 5))
      have hb2 : Below (w5.heap.size + 1) (w5.alloc (.cells (madeCells #[.int .u8 0] 512) 5)) (w5.drew.alloc (.cells (madeCells #[.int .u8 0] 512) 5)) := hb1.drew
      clear hq hS g5 t5 o5 k0
      go_wp2_with fail
      go_region_held3 (fun w' => w'.cell? ⟨m, 0, none⟩ = some (.pointer (some ⟨c, 0, none⟩)))
        ((first | assumption | (refine HS.out _ ?_; with_reducible (repeat' first | assumption | refine Below.drew ?_ | refine Below.alloc ?_ ?_ _ | exact Below.size (by assumption)))))
        ((go_at_call 82; go_split_ands; refine (HQ.out _ (by with_reducible (repeat' first | assumption | refine Below.drew ?_ | refine Below.alloc ?_ ?_ _ | exact Below.size (by assumption))) (by with_reducible (repeat' first | assumption | refine Below.drew ?_))).mono ?_; rintro e w9 ⟨z9, rfl, hc9, hs9⟩))
      all_goals (have HS9 := Lib.hid hs9; clear hs9; go_wp2; go_ret2; exact ⟨by rw [HE.out]; rfl, by rw [HE.out]; exact HS9.out⟩)
end Go.Proofs.YtfgkgoddjemnfaaGreatDoor
