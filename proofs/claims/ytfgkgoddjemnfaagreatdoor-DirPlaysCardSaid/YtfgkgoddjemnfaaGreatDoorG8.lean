/-
  The document's store of inodes in memory: words; a row cloned by append; the walks over take and give.
  The document's map in memory; the walks over its calls.
  The document's store of inodes in memory; the walks over set, Commit and Make.
  The walks over the document's store: Commit, Make.
  The walks over the making of the document's map and store.
  The walks over the making of the document's store, and of an inode in it.
  The entries of a directory as a list of names with their inodes, as bytes and back, in plain Lean.
  A store with the directories 1 and 3 and a file 2, in plain Lean: adding, dropping, finding as on lists of names with their inodes.
  A store with the directories 1 and 3 and a file 2 as lists of names with their inodes, in plain Lean.
  Both stores side by side: the given one and the document's; a store that was just made; Commit at a store's cache.
  The walk over opened of the law package: both stores with two directories and a file.
  The walks over the document's store of inodes: look, Get, Bytes and what they call.
  The walks over the document's store of inodes: Get, Bytes.
-/
import Derived.Test.YtfgkgoddjemnfaaGreatDoorG7
import Derived.Deep.MidRow
import Derived.Deep.Cut
import Derived.Deep.CutBlock
set_option linter.unusedVariables false
set_option linter.unusedSimpArgs false
set_option linter.deprecated false
namespace Go.Proofs.YtfgkgoddjemnfaaGreatDoor
open Go.RowKit Go.Shelf Pa
attribute [local go_sem] bs_toList bs_size
/-- append to nil of a row: a row of one's own with the same. -/
theorem run_append_clone {P : Program} (w : World) (t ty e : TypeId) (i : TypeInfo) (z : Value) (size bytes : Nat) (ht : P.underlying t = some (.slice e)) (hi : P.info? e = some i) (hz : i.zero = some z)
    (hsize : i.size = size) (hby : i.bytes = bytes) (hzs : z.cells.size = size) (hsz : 0 < size)
    (v : Value) (n B : Nat) (xs : List Value) (hown : w.ownsRow B e size v n xs) (h1 : ∀ u ∈ xs, u.oneCell' = true) (h63 : n ≤ maxLen) (hbytes : n * bytes ≤ 140737488355328) :
    ∃ v' w', (Builtin.append_ #[t, t] ty #[.slice none 0 0, v]).run P w = .ok v' w' ∧ w'.ownsRow w.heap.size e size v' n xs ∧ Below w.heap.size w w' := by
  rcases hown.2 with ⟨rfl, rfl⟩ | ⟨g, cap, cur, rfl, hbg, hg, hnc, hcm, hcs, htake⟩
  · have hx : xs = [] := List.eq_nil_of_length_eq_zero (by simpa using hown.1)
    subst hx
    refine ⟨.slice none 0 0, w, ?_, World.ownsRow_nil w _ e size, Below.refl _ _⟩
    simp [Builtin.append_, run_underlying ht, sizeOf, typeInfo, hi, Builtin.lenOf, Builtin.firstCells, loadCells, loadCellsFrom]
  · obtain ⟨v', w', hr, h2, h3, _⟩ := run_append_own (P := P) w w.heap.size t ty e i z size bytes ht hi hz hsize hby hzs hsz (.slice none 0 0) 0 [] (World.ownsRow_nil w _ e size) ⟨g, 0, none⟩ n cap xs hown.1 (hown.cells (g := g) rfl) h1 (by omega) (by simpa using hbytes) (Nat.le_refl _)
    rw [Nat.zero_add, List.nil_append] at h2
    exact ⟨v', w', hr, h2, (Below.refl _ _).grown h3 (Nat.le_refl _) (fun k e => by cases e)⟩
theorem wpList_append_clone {P : Program} {ops : Array Oper} {rest : List Oper} {o : Oper} {a : Act} {w : World} {Q : Exit → Act → World → Prop} (hgd : o.guard = none) (s x : Operand) (t : TypeId)
    (ho : o.op = .call { callee := .builtin .append, args := #[s, x], argTypes := #[t, t] })
    (e : TypeId) (i : TypeInfo) (z : Value) (size bytes : Nat) (ht : P.underlying t = some (.slice e)) (hi : P.info? e = some i) (hz : i.zero = some z)
    (hsize : i.size = size) (hby : i.bytes = bytes) (hzs : z.cells.size = size) (hsz : 0 < size)
    (v : Value) (n B : Nat) (xs : List Value) (hs : a.eval s = .slice none 0 0) (hx : a.eval x = v) (hown : w.ownsRow B e size v n xs) (h1 : ∀ u ∈ xs, u.oneCell' = true) (h63 : n ≤ maxLen) (hbytes : n * bytes ≤ 140737488355328)
    (h : ∀ v' w', w'.ownsRow w.heap.size e size v' n xs → Below w.heap.size w w' → wpList P ops Q rest (a.put o.dst v') w') :
    wpList P ops Q (o :: rest) a w := by
  refine wpList_plain hgd fun K hK => ?_
  obtain ⟨v', w', hr, h2, h3⟩ := run_append_clone (P := P) w t o.type e i z size bytes ht hi hz hsize hby hzs hsz v n B xs hown h1 h63 hbytes
  unfold Oper.wp execOp
  simp only [ho, resolve, invoke, builtin, Sem.run_bind, Sem.run_pure, Result.andThen_ok, List.map_toArray, List.map_cons, List.map_nil, hs, hx, hr]
  exact hK _ _ (h v' w' h2 h3)
theorem OwnL.set {w : World} {B g c : Nat} {e : TypeId} {vs : List Value} (h : OwnL w B e (.slice (some ⟨g, 0, none⟩) vs.length c) vs) (i : Nat) (x : Value) (hi : i < vs.length) : OwnL (w.setCell ⟨g, i, none⟩ x) B e (.slice (some ⟨g, 0, none⟩) vs.length c) (vs.set i x) := by
  obtain ⟨h1, h2⟩ := h
  rcases h2 with ⟨h0, _⟩ | ⟨g', cap, cur, e', hB, hg, hc, hm, hs, ht⟩
  · cases h0
  · injection e' with e1 e2 e3
    injection e1 with e1
    injection e1 with e1
    subst e1 e3
    refine ⟨by simp, .inr ⟨g, c, cur.setIfInBounds i x, by simp, hB, heap_setCell_at w g i _ hg, by simpa using hc, hm, by simpa using hs, ?_⟩⟩
    have hs' : cur.toList.length = c * 1 := by rw [Array.length_toList]; exact hs
    refine List.ext_getElem? fun j => ?_
    have hj := congrArg (fun l => l[j]?) ht
    rw [List.length_set, Array.toList_setIfInBounds, List.take_set, List.getElem?_set, List.getElem?_set, hj, List.length_take, hs']
    by_cases e2 : i = j
    · rw [if_pos e2, if_pos e2, if_pos (by omega), if_pos hi]
    · rw [if_neg e2, if_neg e2]
theorem rowB_base {w : World} {B B' : Nat} {e : TypeId} {k n : Nat} {v : Value} {xs : List Value} (h : w.ownsRow B e k v n xs) (hB : B' ≤ B) : w.ownsRow B' e k v n xs := by
  obtain ⟨h1, h⟩ := h
  exact ⟨h1, h.imp id fun ⟨g, cap, cur, e1, e2, e3⟩ => ⟨g, cap, cur, e1, by omega, e3⟩⟩
theorem OwnL.base {w : World} {B B' : Nat} {e : TypeId} {v : Value} {vs : List Value} (h : OwnL w B e v vs) (hB : B' ≤ B) : OwnL w B' e v vs := rowB_base h hB
theorem OwnL.shape {w : World} {B : Nat} {e : TypeId} {v : Value} {vs : List Value} (h : OwnL w B e v vs) : ∃ A c, v = .slice A vs.length c := ownsRow_slice h
/-- A row of one-celled values in a block of a set. -/
def SlI (w : World) (I : Nat → Prop) (e : TypeId) (v : Value) (vs : List Value) : Prop := OwnL w 0 e v vs ∧ ∀ k, v.ownBlock = some k → I k
theorem SlI.off {w w' : World} {I M : Nat → Prop} {e : TypeId} {v : Value} {vs : List Value} (h : SlI w I e v vs) (ho : Off M w w') (hd : ∀ k, I k → ¬ M k) : SlI w' I e v vs := ⟨h.1.off ho fun k hk => hd k (h.2 k hk), h.2⟩
theorem SlI.mono {w : World} {I J : Nat → Prop} {e : TypeId} {v : Value} {vs : List Value} (h : SlI w I e v vs) (hI : ∀ k, I k → k < w.heap.size → J k) : SlI w J e v vs := ⟨h.1, fun k hk => hI k (h.2 k hk) (h.1.block hk).2⟩
def boolV (l : List Bool) : List Value := l.map Value.bool
def natV (l : List Nat) : List Value := l.map fun n => Value.int .i64 (n : Nat)
def bytV (l : Str) : List Value := l.map fun x => Value.int .u8 (UInt8.toNat x)
theorem boolV_length (l : List Bool) : (boolV l).length = l.length := List.length_map ..
theorem natV_length (l : List Nat) : (natV l).length = l.length := List.length_map ..
theorem bytV_length (l : Str) : (bytV l).length = l.length := List.length_map ..
theorem boolV_one (l : List Bool) : ∀ u ∈ boolV l, u.oneCell' = true := fun u hu => by obtain ⟨_, _, rfl⟩ := List.mem_map.1 hu; rfl
theorem natV_one (l : List Nat) : ∀ u ∈ natV l, u.oneCell' = true := fun u hu => by obtain ⟨_, _, rfl⟩ := List.mem_map.1 hu; rfl
theorem bytV_one (l : Str) : ∀ u ∈ bytV l, u.oneCell' = true := fun u hu => by obtain ⟨_, _, rfl⟩ := List.mem_map.1 hu; rfl
theorem boolV_at (l : List Bool) (k : Nat) (h : k < l.length) : (boolV l)[k]? = some (.bool (l.getD k false)) := by
  unfold boolV; rw [List.getElem?_map, List.getD_eq_getElem?_getD, List.getElem?_eq_getElem h]; rfl
theorem boolV_set (l : List Bool) (k : Nat) (b : Bool) : boolV (l.set k b) = (boolV l).set k (.bool b) := List.map_set ..
theorem natV_at (l : List Nat) (k : Nat) (h : k < l.length) : (natV l)[k]? = some (.int .i64 (l.getD k 0 : Nat)) := by
  unfold natV; rw [List.getElem?_map, List.getD_eq_getElem?_getD, List.getElem?_eq_getElem h]; rfl
theorem bytV_at (l : Str) (k : Nat) (h : k < l.length) : (bytV l)[k]? = some (.int .u8 (UInt8.toNat (l.getD k 0))) := by
  unfold bytV; rw [List.getElem?_map, List.getD_eq_getElem?_getD, List.getElem?_eq_getElem h]; rfl
theorem info_bool : (Tryz.prog.info? 4).map (fun i => (i.zero, i.size, i.bytes)) = some (some (.bool false), 1, 1) := by kernel_rfl
theorem ent_of {w : World} {B : Nat} {e : TypeId} {A : Option Addr} {n c : Nat} {vs : List Value} (h : OwnL w B e (.slice A n c) vs) (hn : n = vs.length) (k : Nat) (hk : k < vs.length) : ∃ g, A = some ⟨g, 0, none⟩ ∧ B ≤ g ∧ g < w.heap.size ∧ ∀ i x, vs[i]? = some x → w.cell? ⟨g, i, none⟩ = some x := by
  subst hn
  obtain ⟨g, c', e1, h1, h2, h3, h4, _⟩ := h.at (fun e => by rw [e] at hk; cases hk)
  injection e1 with e1 _ _
  exact ⟨g, e1, h1, h2, h4⟩
theorem takeB_at {l : List Bool} {n : Nat} (hn : n < l.length) (h0 : l.getD n false = false) (h : ∀ j, j < n → l.getD j false = true) : takeB l = some n := by
  cases ht : takeB l with
  | none =>
    unfold takeB at ht
    rw [List.find?_eq_none] at ht
    exact absurd (by simpa using h0) (ht n (List.mem_range.2 hn))
  | some m =>
    obtain ⟨_, h2, h3⟩ := takeB_some ht
    rcases Nat.lt_trichotomy m n with e | e | e
    · rw [h m e] at h2; cases h2
    · rw [e]
    · have := h3 n e; rw [h0] at this; cases this
theorem takeB_all {l : List Bool} (h : ∀ j, j < l.length → l.getD j false = true) : takeB l = none := by
  unfold takeB
  rw [List.find?_eq_none]
  intro n hn
  rw [h n (List.mem_range.1 hn)]; decide
/-- What take hands back. -/
def TakePost (w : World) (v : Value) (l : List Bool) (e : Ending) (w' : World) : Prop :=
  match takeB l with
  | some n => ∃ v', e = .returned (.tuple #[v', .int .i64 n, .int .i64 0]) ∧ OwnL w' w.heap.size 4 v' (boolV (l.set n true)) ∧ Below w.heap.size w w'
  | none => e = .returned (.tuple #[v, .int .i64 0, .int .i64 7]) ∧ w' = w
theorem TakePost.some {w w' : World} {v : Value} {l : List Bool} {e : Ending} {n : Nat} (h : TakePost w v l e w') (ht : takeB l = some n) : ∃ v', e = .returned (.tuple #[v', .int .i64 n, .int .i64 0]) ∧ OwnL w' w.heap.size 4 v' (boolV (l.set n true)) ∧ Below w.heap.size w w' := by
  unfold TakePost at h; rw [ht] at h; exact h
theorem TakePost.none {w w' : World} {v : Value} {l : List Bool} {e : Ending} (h : TakePost w v l e w') (ht : takeB l = none) : e = .returned (.tuple #[v, .int .i64 0, .int .i64 7]) ∧ w' = w := by
  unfold TakePost at h; rw [ht] at h; exact h
/-- A cloned row whose k-th element is turned. -/
theorem clone_set {w w1 : World} {e : TypeId} {v' x : Value} {vs : List Value} {k n : Nat} (hn : n = vs.length) (h : w1.ownsRow w.heap.size e 1 v' n vs) (hb : Below w.heap.size w w1) (hk : k < vs.length) :
    ∃ g c u, v' = .slice (some ⟨g, 0, none⟩) n c ∧ w1.cell? ⟨g, k, none⟩ = some u ∧ w1.frozen? ⟨g, k, none⟩ = false ∧ OwnL (w1.setCell ⟨g, k, none⟩ x) w.heap.size e (.slice (some ⟨g, 0, none⟩) n c) (vs.set k x) ∧ Below w.heap.size w (w1.setCell ⟨g, k, none⟩ x) := by
  subst hn
  have h : OwnL w1 w.heap.size e v' vs := h
  obtain ⟨g, c, rfl, h1, h2, h3, h4, h5⟩ := h.at (fun e => by rw [e] at hk; cases hk)
  exact ⟨g, c, _, rfl, h4 k _ (List.getElem?_eq_getElem hk), h5 k, h.set k x hk, hb.setCell h1 _⟩
theorem bool_row {w : World} {B : Nat} {A : Option Addr} {n c : Nat} {l : List Bool} (h : OwnL w B 4 (.slice A n c) (boolV l)) (hn : n = l.length) : w.ownsRow B 4 1 (.slice A l.length c) l.length (boolV l) := by
  unfold OwnL at h
  rw [boolV_length, hn] at h; exact h
theorem results_tmp3 {fn : Func} {t u v : Tmp} (h : fn.results = #[.tmp t, .tmp u, .tmp v]) (tmps : Array Value) (P : Program) (w : World) :
    (results fn tmps).run P w = .ok (.tuple #[tmps.getD t undef, tmps.getD u undef, tmps.getD v undef]) w := by
  simp [results, h]
set_option maxRecDepth 100000 in
set_option maxHeartbeats 1000000 in
theorem rtake_any (l : List Bool) (v : Value) (B : Nat) (w : World) (h : OwnL w B 4 v (boolV l)) (hl : l.length ≤ 10000) :
    Calls Tryz.prog 142 #[v] w fun e w' => TakePost w v l e w' := by
  obtain ⟨i0, hi0, hz0, hz1, hz2⟩ := info_parts info_bool
  obtain ⟨A, c, rfl⟩ := h.shape
  rw [boolV_length] at h ⊢
  have HO := Lib.hid h
  have HOr := Lib.hid (bool_row h rfl)
  clear h
  go_enter Tryz.func142, Tryz.ntmps142
  go_wp2_with fail
  go_loopg [5] l.length (fun gg i wx => ∃ k : Nat, i = .int .i64 k ∧ gg = l.length - k ∧ k ≤ l.length ∧ (∀ j, j < k → l.getD j false = true) ∧ wx = w)
  case atStart => exact ⟨0, rfl, rfl, Nat.zero_le _, fun j hj => absurd hj (Nat.not_lt_zero _), rfl⟩
  case round =>
    obtain ⟨k, rfl, rfl, hk, hall, hwr⟩ := hrel
    subst hwr
    by_cases hlt : k < l.length
    · have hlt' : decide ((k : Int) < (l.length : Int)) = true := by simp; omega
      obtain ⟨g, rfl, _, _, hcs⟩ := ent_of HO.out (boolV_length l).symm k (by rw [boolV_length]; exact hlt)
      have hc := hcs k _ (boolV_at l k hlt)
      have HAll := Lib.hid hall
      clear hcs hall
      by_cases hb : l.getD k false = true
      · rw [hb] at hc
        have HB := Lib.hid hb
        clear hb
        go_wp2_with fail
        go_roundg (l.length - (k + 1))
        case measure => omega
        case rel =>
          refine ⟨k + 1, by go_num, rfl, hlt, fun j hj => ?_, rfl⟩
          rcases Nat.lt_succ_iff_lt_or_eq.1 hj with hj | rfl
          · exact HAll.out j hj
          · exact HB.out
      · have hb : l.getD k false = false := by simpa using hb
        rw [hb] at hc
        have ht := takeB_at hlt hb HAll.out
        have HB := Lib.hid ht
        have hcl := fun v' w1 (h1 : w1.ownsRow wr.heap.size 4 1 v' l.length (boolV l)) (h2 : Below wr.heap.size wr w1) => clone_set (x := .bool true) (k := k) (boolV_length l).symm h1 h2 (by rw [boolV_length]; exact hlt)
        have HCl := Lib.hid hcl
        clear hb ht hcl
        go_wp2_with (at_builtin; refine wpList_append_clone rfl _ _ 158 rfl 4 i0 (.bool false) 1 1 Tryz.underlying158 hi0 hz0 hz1 hz2 rfl (by decide) (.slice (some ⟨g, 0, none⟩) l.length c) l.length B _ rfl rfl HOr.out (boolV_one l) (by unfold maxLen; omega) (by omega) ?_; intro v' w1 hown1 hb1; obtain ⟨g', c', u', rfl, hc', hf', hset', hbl'⟩ := HCl.out v' w1 hown1 hb1; have HS := Lib.hid (⟨hset', hbl'⟩ : _ ∧ _); clear hown1 hb1 hset' hbl')
        refine bodyPost_ret (results_tmp3 rfl _ _ _) rfl ?_
        unfold TakePost
        rw [HB.out]
        exact ⟨_, rfl, by rw [boolV_set]; exact HS.out.1, HS.out.2⟩
    · have hlt' : decide ((k : Int) < (l.length : Int)) = false := by simp; omega
      have ht := takeB_all (l := l) (fun j hj => hall j (by omega))
      have HT := Lib.hid ht
      clear ht hall
      go_wp2_with fail
      refine bodyPost_ret (results_tmp3 rfl _ _ _) rfl ?_
      unfold TakePost
      rw [HT.out]
      exact ⟨rfl, rfl⟩
set_option maxRecDepth 100000 in
set_option maxHeartbeats 1000000 in
theorem rgive_any (l : List Bool) (n least : Nat) (v : Value) (B : Nat) (w : World) (h : OwnL w B 4 v (boolV l)) (hl : l.length ≤ 10000) (h1 : least ≤ n) (h2 : n < l.length) (h3 : l.getD n false = true) :
    Calls Tryz.prog 189 #[v, .int .i64 n, .int .i64 least] w fun e w' => ∃ v', e = .returned (.tuple #[v', .int .i64 0]) ∧ OwnL w' w.heap.size 4 v' (boolV (l.set n false)) ∧ Below w.heap.size w w' := by
  obtain ⟨i0, hi0, hz0, hz1, hz2⟩ := info_parts info_bool
  obtain ⟨A, c, rfl⟩ := h.shape
  rw [boolV_length] at h ⊢
  have hlt1 : decide (n < least) = false := by simp; omega
  have hlt2 : decide (l.length ≤ n) = false := by simp; omega
  obtain ⟨g, rfl, _, _, hcs⟩ := ent_of h (boolV_length l).symm n (by rw [boolV_length]; exact h2)
  have hc := hcs n _ (boolV_at l n h2)
  rw [h3] at hc
  have hcl := fun v' w1 (h1 : w1.ownsRow w.heap.size 4 1 v' l.length (boolV l)) (h2' : Below w.heap.size w w1) => clone_set (x := .bool false) (k := n) (boolV_length l).symm h1 h2' (by rw [boolV_length]; exact h2)
  have HCl := Lib.hid hcl
  have HOr := Lib.hid (bool_row h rfl)
  have hn : n < l.length := h2
  clear hcs h hcl h2 h3
  go_enter Tryz.func189, Tryz.ntmps189
  go_wp2_with (at_builtin; refine wpList_append_clone rfl _ _ 158 rfl 4 i0 (.bool false) 1 1 Tryz.underlying158 hi0 hz0 hz1 hz2 rfl (by decide) (.slice (some ⟨g, 0, none⟩) l.length c) l.length B _ rfl rfl HOr.out (boolV_one l) (by unfold maxLen; omega) (by omega) ?_; intro v' w1 hown1 hb1; obtain ⟨g', c', u', rfl, hc', hf', hset', hbl'⟩ := HCl.out v' w1 hown1 hb1; have HS := Lib.hid (⟨hset', hbl'⟩ : _ ∧ _); clear hown1 hb1 hset' hbl')
  go_ret2
  exact ⟨_, rfl, by rw [boolV_set]; exact HS.out.1, HS.out.2⟩
end Go.Proofs.YtfgkgoddjemnfaaGreatDoor

namespace Go.Proofs.YtfgkgoddjemnfaaGreatDoor
open Go.RowKit Go.Shelf Pa
attribute [local go_sem] bs_toList bs_size
abbrev rmapO (P ino : Nat) (pv iv : Value) : Obj := .cells #[.int .i64 P, .int .i64 ino, pv, iv] 160 (0, 0)
/-- A map lies at block m, its rows in blocks of I. -/
structure RMap (w : World) (I : Nat → Prop) (m : Nat) (p i : List Bool) (pv iv : Value) : Prop where
  at_ : w.heap[m]? = some (rmapO p.length i.length pv iv)
  rp : SlI w I 4 pv (boolV p)
  ri : SlI w I 4 iv (boolV i)
  few : p.length ≤ 4096 ∧ i.length ≤ 512
theorem RMap.lt {w : World} {I : Nat → Prop} {m : Nat} {p i : List Bool} {pv iv : Value} (h : RMap w I m p i pv iv) : m < w.heap.size := (Array.getElem?_eq_some_iff.1 h.at_).1
theorem RMap.off {w w' : World} {I J : Nat → Prop} {m : Nat} {p i : List Bool} {pv iv : Value} (h : RMap w I m p i pv iv) (ho : Off J w w') (hI : ∀ k, I k → ¬ J k) (hm : ¬ J m) : RMap w' I m p i pv iv :=
  ⟨(ho.block m h.lt hm).trans h.at_, h.rp.off ho hI, h.ri.off ho hI, h.few⟩
theorem RMap.below {w w' : World} {I : Nat → Prop} {m : Nat} {p i : List Bool} {pv iv : Value} (h : RMap w I m p i pv iv) (hb : Below w.heap.size w w') : RMap w' I m p i pv iv := h.off (Off.of_below hb (fun _ => False)) (fun _ _ e => e) (fun e => e)
theorem RMap.mono {w : World} {I J : Nat → Prop} {m : Nat} {p i : List Bool} {pv iv : Value} (h : RMap w I m p i pv iv) (hI : ∀ k, I k → k < w.heap.size → J k) : RMap w J m p i pv iv := ⟨h.at_, h.rp.mono hI, h.ri.mono hI, h.few⟩
theorem RMap.setP {w : World} {I : Nat → Prop} {m : Nat} {p i p' : List Bool} {pv iv pv' : Value} (h : RMap w I m p i pv iv) (ha : ¬ I m) (hp : SlI w I 4 pv' (boolV p')) (hl : p'.length = p.length) : RMap (w.setCell ⟨m, 2, none⟩ pv') I m p' i pv' iv ∧ Off (fun k => k = m) w (w.setCell ⟨m, 2, none⟩ pv') := by
  have ho : Off (fun k => k = m) w (w.setCell ⟨m, 2, none⟩ pv') := (Off.refl (fun k => k = m) w).setCell (p := ⟨m, 2, none⟩) (.inl rfl) _
  have hI : ∀ k, I k → ¬ k = m := fun k hk e => ha (e ▸ hk)
  exact ⟨⟨by rw [hl]; have := heap_setCell_at w m 2 pv' h.at_; simpa using this, hp.off ho hI, h.ri.off ho hI, by rw [hl]; exact h.few⟩, ho⟩
theorem RMap.setI {w : World} {I : Nat → Prop} {m : Nat} {p i i' : List Bool} {pv iv iv' : Value} (h : RMap w I m p i pv iv) (ha : ¬ I m) (hp : SlI w I 4 iv' (boolV i')) (hl : i'.length = i.length) : RMap (w.setCell ⟨m, 3, none⟩ iv') I m p i' pv iv' ∧ Off (fun k => k = m) w (w.setCell ⟨m, 3, none⟩ iv') := by
  have ho : Off (fun k => k = m) w (w.setCell ⟨m, 3, none⟩ iv') := (Off.refl (fun k => k = m) w).setCell (p := ⟨m, 3, none⟩) (.inl rfl) _
  have hI : ∀ k, I k → ¬ k = m := fun k hk e => ha (e ▸ hk)
  exact ⟨⟨by rw [hl]; have := heap_setCell_at w m 3 iv' h.at_; simpa using this, h.rp.off ho hI, hp.off ho hI, by rw [hl]; exact h.few⟩, ho⟩
/-- With new rows. -/
def wid (I : Nat → Prop) (w w' : World) (k : Nat) : Prop := I k ∨ (w.heap.size ≤ k ∧ k < w'.heap.size)
theorem rfirst_any (I : Nat → Prop) (m : Nat) (p i : List Bool) (pv iv : Value) (w : World) (h : RMap w I m p i pv iv) :
    Calls Tryz.prog 83 #[.pointer (some ⟨m, 0, none⟩)] w fun e w' => e = .returned (.int .i64 (alFirst i.length)) ∧ w' = w := by
  have c1 : w.cell? ⟨m, 1, none⟩ = some (.int .i64 i.length) := cell_of_heap h.at_ 1
  have hq : ((i.length : Int)).tdiv 8 = ((i.length / 8 : Nat) : Int) := tdiv_nat i.length 8
  have hf := h.few.2
  go_enter Tryz.func83, Tryz.ntmps83
  go_wp2
  go_ret
  exact ⟨ret_int (by unfold alFirst; omega), rfl⟩
theorem rinodes_any (I : Nat → Prop) (m : Nat) (p i : List Bool) (pv iv : Value) (w : World) (h : RMap w I m p i pv iv) :
    Calls Tryz.prog 84 #[.pointer (some ⟨m, 0, none⟩)] w fun e w' => e = .returned (.int .i64 i.length) ∧ w' = w := by
  have c1 : w.cell? ⟨m, 1, none⟩ = some (.int .i64 i.length) := cell_of_heap h.at_ 1
  go_enter Tryz.func84, Tryz.ntmps84
  go_wp2
  go_ret
  exact ⟨rfl, rfl⟩
/-- What Page and Inode hand back. -/
def TakenP (w : World) (I : Nat → Prop) (m : Nat) (p i : List Bool) (e : Ending) (w' : World) : Prop :=
  match takeB p with
  | some n => e = .returned (.tuple #[.int .i64 n, .int .i64 0]) ∧ ∃ pv iv, RMap w' (wid I w w') m (p.set n true) i pv iv ∧ Off (fun k => k = m) w w'
  | none => e = .returned (.tuple #[.int .i64 0, .int .i64 7]) ∧ ∃ pv iv, RMap w' (wid I w w') m p i pv iv ∧ Off (fun k => k = m) w w'
def TakenI (w : World) (I : Nat → Prop) (m : Nat) (p i : List Bool) (e : Ending) (w' : World) : Prop :=
  match takeB i with
  | some n => e = .returned (.tuple #[.int .i64 n, .int .i64 0]) ∧ ∃ pv iv, RMap w' (wid I w w') m p (i.set n true) pv iv ∧ Off (fun k => k = m) w w'
  | none => e = .returned (.tuple #[.int .i64 0, .int .i64 7]) ∧ ∃ pv iv, RMap w' (wid I w w') m p i pv iv ∧ Off (fun k => k = m) w w'
theorem wid_not {I : Nat → Prop} {w w' : World} {m : Nat} (h : ¬ I m) (hm : m < w.heap.size) : ¬ wid I w w' m := fun e => by
  rcases e with e | e
  · exact h e
  · omega
theorem OwnL.wid {w w' : World} {I : Nat → Prop} {e : TypeId} {v : Value} {vs : List Value} (h : OwnL w' w.heap.size e v vs) : SlI w' (wid I w w') e v vs := ⟨h.base (Nat.zero_le _), fun _ hk => .inr (h.block hk)⟩
set_option maxRecDepth 100000 in
set_option maxHeartbeats 1000000 in
theorem rpage_any (I : Nat → Prop) (m : Nat) (p i : List Bool) (pv iv : Value) (w : World) (h : RMap w I m p i pv iv) (ha : ¬ I m) :
    Calls Tryz.prog 159 #[.pointer (some ⟨m, 0, none⟩)] w fun e w' => TakenP w I m p i e w' := by
  obtain ⟨A, cA, rfl⟩ := h.rp.1.shape
  have c2 : w.cell? ⟨m, 2, none⟩ = some (.slice A (boolV p).length cA) := cell_of_heap h.at_ 2
  have htk := rtake_any p _ 0 w h.rp.1 (by have := h.few; omega)
  have hml := h.lt
  have HTk := Lib.hid htk
  have H := Lib.hid h
  clear htk h
  cases ht : takeB p with
  | some n =>
    have hfin : ∀ v' w1, OwnL w1 w.heap.size 4 v' (boolV (p.set n true)) → Below w.heap.size w w1 → RMap (w1.setCell ⟨m, 2, none⟩ v') (wid I w (w1.setCell ⟨m, 2, none⟩ v')) m (p.set n true) i v' iv ∧ Off (fun k => k = m) w (w1.setCell ⟨m, 2, none⟩ v') ∧ w1.cell? ⟨m, 2, none⟩ = some (.slice A (boolV p).length cA) ∧ w1.frozen? ⟨m, 2, none⟩ = false := fun v' w1 ho hb => by
      have h1 := (H.out.below hb).mono (J := wid I w w1) (fun k hk _ => .inl hk)
      obtain ⟨a, b⟩ := h1.setP (p' := p.set n true) (wid_not ha hml) ho.wid (List.length_set ..)
      refine ⟨?_, (Off.of_below hb _).then b, cell_of_heap h1.at_ 2, free_of_heap h1.at_ 2⟩
      exact a.mono (fun k hk _ => by
        rcases hk with hk | hk
        · exact .inl hk
        · exact .inr ⟨hk.1, Nat.lt_of_lt_of_le hk.2 b.size⟩)
    have HFin := Lib.hid hfin
    have HT := Lib.hid ht
    clear hfin ht
    go_enter Tryz.func159, Tryz.ntmps159
    go_wp2_with fail
    refine HTk.out.mono ?_
    rintro e w1 hp
    obtain ⟨v', rfl, ho, hb⟩ := hp.some HT.out
    obtain ⟨A', cc', rfl⟩ := ho.shape
    obtain ⟨q1, q2, q3, q4⟩ := HFin.out _ w1 ho hb
    have HQ := Lib.hid (⟨q1, q2⟩ : _ ∧ _)
    clear q1 q2 ho hb hp
    go_wp2_with fail
    go_ret2
    unfold TakenP
    rw [HT.out]
    exact ⟨rfl, _, _, HQ.out.1, HQ.out.2⟩
  | none =>
    have hfin : RMap (w.setCell ⟨m, 2, none⟩ (.slice A (boolV p).length cA)) (wid I w (w.setCell ⟨m, 2, none⟩ (.slice A (boolV p).length cA))) m p i (.slice A (boolV p).length cA) iv ∧ Off (fun k => k = m) w (w.setCell ⟨m, 2, none⟩ (.slice A (boolV p).length cA)) ∧ w.frozen? ⟨m, 2, none⟩ = false := by
      obtain ⟨a, b⟩ := H.out.setP ha H.out.rp rfl
      exact ⟨a.mono (fun k hk _ => .inl hk), b, free_of_heap H.out.at_ 2⟩
    have HFin := Lib.hid (⟨hfin.1, hfin.2.1⟩ : _ ∧ _)
    have hfz := hfin.2.2
    have HT := Lib.hid ht
    clear hfin ht
    go_enter Tryz.func159, Tryz.ntmps159
    go_wp2_with fail
    refine HTk.out.mono ?_
    rintro e w1 hp
    obtain ⟨rfl, rfl⟩ := hp.none HT.out
    clear hp
    go_wp2_with fail
    go_ret2
    unfold TakenP
    rw [HT.out]
    exact ⟨rfl, _, _, HFin.out.1, HFin.out.2⟩
set_option maxRecDepth 100000 in
set_option maxHeartbeats 1000000 in
theorem rinode_any (I : Nat → Prop) (m : Nat) (p i : List Bool) (pv iv : Value) (w : World) (h : RMap w I m p i pv iv) (ha : ¬ I m) :
    Calls Tryz.prog 90 #[.pointer (some ⟨m, 0, none⟩)] w fun e w' => TakenI w I m p i e w' := by
  obtain ⟨A, cA, rfl⟩ := h.ri.1.shape
  have c2 : w.cell? ⟨m, 3, none⟩ = some (.slice A (boolV i).length cA) := cell_of_heap h.at_ 3
  have htk := rtake_any i _ 0 w h.ri.1 (by have := h.few; omega)
  have hml := h.lt
  have HTk := Lib.hid htk
  have H := Lib.hid h
  clear htk h
  cases ht : takeB i with
  | some n =>
    have hfin : ∀ v' w1, OwnL w1 w.heap.size 4 v' (boolV (i.set n true)) → Below w.heap.size w w1 → RMap (w1.setCell ⟨m, 3, none⟩ v') (wid I w (w1.setCell ⟨m, 3, none⟩ v')) m p (i.set n true) pv v' ∧ Off (fun k => k = m) w (w1.setCell ⟨m, 3, none⟩ v') ∧ w1.cell? ⟨m, 3, none⟩ = some (.slice A (boolV i).length cA) ∧ w1.frozen? ⟨m, 3, none⟩ = false := fun v' w1 ho hb => by
      have h1 := (H.out.below hb).mono (J := wid I w w1) (fun k hk _ => .inl hk)
      obtain ⟨a, b⟩ := h1.setI (i' := i.set n true) (wid_not ha hml) ho.wid (List.length_set ..)
      refine ⟨?_, (Off.of_below hb _).then b, cell_of_heap h1.at_ 3, free_of_heap h1.at_ 3⟩
      exact a.mono (fun k hk _ => by
        rcases hk with hk | hk
        · exact .inl hk
        · exact .inr ⟨hk.1, Nat.lt_of_lt_of_le hk.2 b.size⟩)
    have HFin := Lib.hid hfin
    have HT := Lib.hid ht
    clear hfin ht
    go_enter Tryz.func90, Tryz.ntmps90
    go_wp2_with fail
    refine HTk.out.mono ?_
    rintro e w1 hp
    obtain ⟨v', rfl, ho, hb⟩ := hp.some HT.out
    obtain ⟨A', cc', rfl⟩ := ho.shape
    obtain ⟨q1, q2, q3, q4⟩ := HFin.out _ w1 ho hb
    have HQ := Lib.hid (⟨q1, q2⟩ : _ ∧ _)
    clear q1 q2 ho hb hp
    go_wp2_with fail
    go_ret2
    unfold TakenI
    rw [HT.out]
    exact ⟨rfl, _, _, HQ.out.1, HQ.out.2⟩
  | none =>
    have hfin : RMap (w.setCell ⟨m, 3, none⟩ (.slice A (boolV i).length cA)) (wid I w (w.setCell ⟨m, 3, none⟩ (.slice A (boolV i).length cA))) m p i pv (.slice A (boolV i).length cA) ∧ Off (fun k => k = m) w (w.setCell ⟨m, 3, none⟩ (.slice A (boolV i).length cA)) ∧ w.frozen? ⟨m, 3, none⟩ = false := by
      obtain ⟨a, b⟩ := H.out.setI ha H.out.ri rfl
      exact ⟨a.mono (fun k hk _ => .inl hk), b, free_of_heap H.out.at_ 3⟩
    have HFin := Lib.hid (⟨hfin.1, hfin.2.1⟩ : _ ∧ _)
    have hfz := hfin.2.2
    have HT := Lib.hid ht
    clear hfin ht
    go_enter Tryz.func90, Tryz.ntmps90
    go_wp2_with fail
    refine HTk.out.mono ?_
    rintro e w1 hp
    obtain ⟨rfl, rfl⟩ := hp.none HT.out
    clear hp
    go_wp2_with fail
    go_ret2
    unfold TakenI
    rw [HT.out]
    exact ⟨rfl, _, _, HFin.out.1, HFin.out.2⟩
set_option maxRecDepth 100000 in
set_option maxHeartbeats 1000000 in
/-- A map of one's own that is alike. -/
theorem rfork_any (I : Nat → Prop) (m : Nat) (p i : List Bool) (pv iv : Value) (w : World) (h : RMap w I m p i pv iv) :
    Calls Tryz.prog 93 #[.pointer (some ⟨m, 0, none⟩)] w fun e w' => e = .returned (.pointer (some ⟨w.heap.size, 0, none⟩)) ∧ w' = w.alloc (.cells #[.int .i64 p.length, .int .i64 i.length, pv, iv] 160) := by
  have c0 : w.cell? ⟨m, 0, none⟩ = some (.int .i64 p.length) := cell_of_heap h.at_ 0
  have c1 : w.cell? ⟨m, 1, none⟩ = some (.int .i64 i.length) := cell_of_heap h.at_ 1
  have c2 : w.cell? ⟨m, 2, none⟩ = some pv := cell_of_heap h.at_ 2
  have c3 : w.cell? ⟨m, 3, none⟩ = some iv := cell_of_heap h.at_ 3
  obtain ⟨A, c, rfl⟩ := h.rp.1.shape
  obtain ⟨A', c', rfl⟩ := h.ri.1.shape
  have hml := h.lt
  clear h
  go_enter Tryz.func93, Tryz.ntmps93
  go_wp2_with fail
  go_ret
  exact ⟨rfl, rfl⟩
end Go.Proofs.YtfgkgoddjemnfaaGreatDoor

namespace Go.Proofs.YtfgkgoddjemnfaaGreatDoor
open Go.RowKit Go.Shelf Pa
attribute [local go_sem] bs_toList bs_size
def fileV (f : RF) (bv dv : Value) : List Value := [.int .i64 f.kind, .int .i64 f.mode, .int .i64 f.links, bv, dv, .int .i64 f.ind]
abbrev RFX := RF × Value × Value
def filesC (X : List RFX) : List Value := X.flatMap fun x => fileV x.1 x.2.1 x.2.2
theorem filesC_cons (x : RFX) (X : List RFX) : filesC (x :: X) = fileV x.1 x.2.1 x.2.2 ++ filesC X := List.flatMap_cons
theorem filesC_append (X Y : List RFX) : filesC (X ++ Y) = filesC X ++ filesC Y := List.flatMap_append
theorem filesC_length : ∀ X : List RFX, (filesC X).length = X.length * 6
  | [] => rfl
  | x :: X => by rw [filesC_cons, List.length_append, filesC_length X, List.length_cons]; show 6 + _ = _; omega
theorem filesC_at {X : List RFX} {i : Nat} {x : RFX} (h : X[i]? = some x) {j : Nat} {u : Value} (hu : (fileV x.1 x.2.1 x.2.2)[j]? = some u) : (filesC X)[i * 6 + j]? = some u := by
  obtain ⟨hi, e⟩ := List.getElem?_eq_some_iff.1 h
  have hj : j < 6 := (List.getElem?_eq_some_iff.1 hu).1
  have h1 : X = X.take i ++ x :: X.drop (i + 1) := by rw [← e, ← List.drop_eq_getElem_cons hi, List.take_append_drop]
  have h2 : (filesC (X.take i)).length = i * 6 := by rw [filesC_length, List.length_take]; congr 1; omega
  rw [h1, filesC_append, filesC_cons, List.getElem?_append_right (by omega), h2, Nat.add_sub_cancel_left, List.getElem?_append_left (by show j < 6; omega)]
  exact hu
theorem filesC_set {X : List RFX} {i : Nat} (x : RFX) (h : i < X.length) : filesC (X.set i x) = (filesC X).take (i * 6) ++ fileV x.1 x.2.1 x.2.2 ++ (filesC X).drop (i * 6 + 6) := by
  have h1 : filesC X = filesC (X.take i) ++ (fileV (X[i]).1 (X[i]).2.1 (X[i]).2.2 ++ filesC (X.drop (i + 1))) := by
    rw [← filesC_cons, ← filesC_append, ← List.drop_eq_getElem_cons h, List.take_append_drop]
  have h2 : (filesC (X.take i)).length = i * 6 := by rw [filesC_length, List.length_take]; congr 1; omega
  have t1 : (filesC X).take (i * 6) = filesC (X.take i) := by rw [h1, ← h2, List.take_left]
  have h3 : (filesC (X.take i) ++ fileV (X[i]).1 (X[i]).2.1 (X[i]).2.2).length = i * 6 + 6 := by rw [List.length_append, h2]; rfl
  have t2 : (filesC X).drop (i * 6 + 6) = filesC (X.drop (i + 1)) := by rw [h1, ← List.append_assoc, ← h3, List.drop_left]
  rw [t1, t2, List.set_eq_take_append_cons_drop, if_pos h, filesC_append, filesC_cons, ← List.append_assoc]
theorem filesC_one {X : List RFX} (h : ∀ x ∈ X, x.2.1.oneCell' = true ∧ x.2.2.oneCell' = true) : ∀ u ∈ filesC X, u.oneCell' = true := fun u hu => by
  obtain ⟨x, hx, hu⟩ := List.mem_flatMap.1 hu
  obtain ⟨h1, h2⟩ := h x hx
  simp only [fileV, List.mem_cons, List.not_mem_nil, or_false] at hu
  rcases hu with rfl | rfl | rfl | rfl | rfl | rfl
  · rfl
  · rfl
  · rfl
  · exact h1
  · exact h2
  · rfl
/-- Files in memory: their row, and the rows of their bytes and pages, lie in blocks of I. -/
structure FilesI (w : World) (I : Nat → Prop) (v : Value) (X : List RFX) : Prop where
  own : w.ownsRow 0 131 6 v X.length (filesC X)
  blk : ∀ k, v.ownBlock = some k → I k
  nest : ∀ x ∈ X, SlI w I 5 x.2.1 (bytV x.1.bytes) ∧ SlI w I 3 x.2.2 (natV x.1.data)
theorem row_off {w w' : World} {B k n : Nat} {e : TypeId} {v : Value} {xs : List Value} {M : Nat → Prop} (h : w.ownsRow B e k v n xs) (ho : Off M w w') (hm : ∀ k, v.ownBlock = some k → ¬ M k) : w'.ownsRow B e k v n xs := by
  obtain ⟨h1, h⟩ := id h
  refine ⟨h1, ?_⟩
  rcases h with hn | ⟨g, cap, cur, rfl, hB, hg, hr⟩
  · exact .inl hn
  · refine .inr ⟨g, cap, cur, rfl, hB, ?_, hr⟩
    rw [ho.block g (Array.getElem?_eq_some_iff.1 hg).1 (hm g rfl)]
    exact hg
theorem FilesI.off {w w' : World} {I J : Nat → Prop} {v : Value} {X : List RFX} (h : FilesI w I v X) (ho : Off J w w') (hI : ∀ k, I k → ¬ J k) : FilesI w' I v X :=
  ⟨row_off h.own ho fun k hk => hI k (h.blk k hk), h.blk, fun x hx => ⟨(h.nest x hx).1.off ho hI, (h.nest x hx).2.off ho hI⟩⟩
theorem FilesI.mono {w : World} {I J : Nat → Prop} {v : Value} {X : List RFX} (h : FilesI w I v X) (hI : ∀ k, I k → k < w.heap.size → J k) : FilesI w J v X :=
  ⟨h.own, fun k hk => hI k (h.blk k hk) (World.ownsRow.lt h.own k hk).2, fun x hx => ⟨(h.nest x hx).1.mono hI, (h.nest x hx).2.mono hI⟩⟩
theorem sl_one {w : World} {I : Nat → Prop} {e : TypeId} {v : Value} {vs : List Value} (h : SlI w I e v vs) : v.oneCell' = true := by
  obtain ⟨A, c, rfl⟩ := h.1.shape; rfl
theorem FilesI.one {w : World} {I : Nat → Prop} {v : Value} {X : List RFX} (h : FilesI w I v X) : ∀ u ∈ filesC X, u.oneCell' = true := filesC_one fun x hx => ⟨sl_one (h.nest x hx).1, sl_one (h.nest x hx).2⟩
theorem info_file : (Tryz.prog.info? 131).map (fun i => (i.zero, i.size, i.bytes)) = some (some (.agg #[.int .i64 0, .int .i64 0, .int .i64 0, .slice none 0 0, .slice none 0 0, .int .i64 0]), 6, 80) := by kernel_rfl
theorem setCells_row (g : Nat) (t : TypeId) : ∀ (vs : List Value) (o : Nat) (cur : Array Value) (w : World), w.heap[g]? = some (.cells cur t (0, 0)) → o + vs.length ≤ cur.size → w.setCells g o vs = w.setRow g (cur.toList.take o ++ vs ++ cur.toList.drop (o + vs.length)).toArray
  | [], o, cur, w, hg, _ => by
    simp only [World.setCells, List.append_nil, List.length_nil, Nat.add_zero, List.take_append_drop, Array.toArray_toList]
    exact (setRow_self w g cur hg).symm
  | v :: rest, o, cur, w, hg, hl => by
    have ih := setCells_row g t rest (o + 1) (cur.setIfInBounds o v) (w.setRow g (cur.setIfInBounds o v)) (setRow_heap w g cur _ t _ hg) (by simp at hl ⊢; omega)
    unfold World.setCells
    rw [setCell_eq_setRow w g o cur t (0, 0) v hg, ih, setRow_setRow]
    congr 2
    have e := list_seg_step cur.toList o v rest (by simp at hl ⊢; omega)
    simpa [Array.toList_setIfInBounds, Nat.add_assoc] using e
/-- The six stores of a file. -/
abbrev putF (w : World) (g o : Nat) (f : RF) (bv dv : Value) : World := (((((w.setCell ⟨g, o, none⟩ (.int .i64 f.kind)).setCell ⟨g, o + 1, none⟩ (.int .i64 f.mode)).setCell ⟨g, o + 2, none⟩ (.int .i64 f.links)).setCell ⟨g, o + 3, none⟩ bv).setCell ⟨g, o + 4, none⟩ dv).setCell ⟨g, o + 5, none⟩ (.int .i64 f.ind)
/-- A file is laid into a cloned row. -/
theorem clone_file {w w1 : World} {v' : Value} {X : List RFX} {i : Nat} (f : RF) {bv dv : Value} (h : w1.ownsRow w.heap.size 131 6 v' X.length (filesC X)) (hb : Below w.heap.size w w1) (hi : i < X.length) :
    ∃ g c, v' = .slice (some ⟨g, 0, none⟩) X.length c ∧ w.heap.size ≤ g ∧ (∀ j, j < 6 → ∃ u, w1.cell? ⟨g, i * 6 + j, none⟩ = some u) ∧ (∀ j, w1.frozen? ⟨g, j, none⟩ = false) ∧ (putF w1 g (i * 6) f bv dv).ownsRow w.heap.size 131 6 (.slice (some ⟨g, 0, none⟩) X.length c) (X.set i (f, bv, dv)).length (filesC (X.set i (f, bv, dv))) ∧ Below w.heap.size w (putF w1 g (i * 6) f bv dv) := by
  obtain ⟨hl, h⟩ := h
  rcases h with ⟨_, h0⟩ | ⟨g, cap, cur, rfl, hB, hg, hc, hm, hs, ht⟩
  · omega
  · have hst : putF w1 g (i * 6) f bv dv = _ := setCells_row g 131 [.int .i64 f.kind, .int .i64 f.mode, .int .i64 f.links, bv, dv, .int .i64 f.ind] (i * 6) cur w1 hg (by simp only [List.length_cons, List.length_nil]; omega)
    refine ⟨g, cap, rfl, hB, fun j hj => ?_, fun j => free_of_heap hg j, ?_, ?_⟩
    · exact ⟨_, by rw [cell_of_heap hg]; exact Array.getElem?_eq_getElem (by omega)⟩
    · rw [hst]
      refine ⟨by rw [filesC_length], .inr ⟨g, cap, _, by rw [List.length_set], hB, setRow_heap w1 g cur _ _ _ hg, by rw [List.length_set]; exact hc, hm, ?_, ?_⟩⟩
      · simp only [List.size_toArray, List.length_append, List.length_take, List.length_drop, Array.length_toList, List.length_cons, List.length_nil]; omega
      · have hcl : cur.toList.length = cap * 6 := by rw [Array.length_toList]; exact hs
        rw [List.length_set, filesC_set _ hi]
        show (cur.toList.take (i * 6) ++ fileV f bv dv ++ cur.toList.drop (i * 6 + 6)).take (X.length * 6) = (filesC X).take (i * 6) ++ fileV f bv dv ++ (filesC X).drop (i * 6 + 6)
        rw [← ht, List.take_take, List.drop_take, Nat.min_eq_left (by omega)]
        have hlen : (cur.toList.take (i * 6) ++ fileV f bv dv).length = i * 6 + 6 := by rw [List.length_append, List.length_take, Nat.min_eq_left (by omega)]; rfl
        rw [show X.length * 6 = (i * 6 + 6) + (X.length * 6 - (i * 6 + 6)) from by omega, ← hlen, List.take_length_add_append, hlen, Nat.add_sub_cancel_left]
    · refine hb.trans ?_
      rw [hst]
      exact ⟨rfl, rfl, rfl, by simp [World.setRow], fun k hk => setRow_other w1 g k _ (by omega)⟩
abbrev rstoO (m : Nat) (lv u2 u3 : Value) : Obj := .cells #[.pointer (some ⟨m, 0, none⟩), lv, u2, u3] 134 (0, 0)
def RS.Small (T : RS) : Prop := T.l.length = T.i.length ∧ ∀ f ∈ T.l, f.bytes.length ≤ 70656 ∧ f.data.length ≤ 138
/-- The store as it is now. -/
structure RNow (w : World) (R : Reg) (r m : Nat) (T : RS) (lv u2 u3 pv iv : Value) (X : List RFX) : Prop where
  at_ : w.heap[r]? = some (rstoO m lv u2 u3)
  mr : R.m r
  mm : R.m m
  map : RMap w R.i m T.p T.i pv iv
  files : FilesI w R.i lv X
  eq : X.map (·.1) = T.l
  small : T.Small
  apart : ∀ k, R.m k → ¬ R.i k
  lt : ∀ k, R.has k → k < w.heap.size
/-- The store as it was kept. -/
structure RKept (w : World) (R : Reg) (K : RS) (u2 u3 : Value) (mk : Nat) (pk ik : Value) (Y : List RFX) : Prop where
  e2 : u2 = .pointer (some ⟨mk, 0, none⟩)
  im : R.i mk
  map : RMap w R.i mk K.p K.i pk ik
  files : FilesI w R.i u3 Y
  eq : Y.map (·.1) = K.l
  small : K.Small
/-- The document's store at r stands for T, and keeps K. -/
def RefI (w : World) (r : Nat) (T K : RS) (R : Reg) : Prop := ∃ m lv u2 u3 pv iv X mk pk ik Y, RNow w R r m T lv u2 u3 pv iv X ∧ RKept w R K u2 u3 mk pk ik Y
def RefStep (w : World) (r : Nat) (T K : RS) (R : Reg) (w' : World) : Prop := ∃ R', RefI w' r T K R' ∧ R.To R' w.heap.size ∧ Off R.m w w'
theorem RNow.ne {w : World} {R : Reg} {r m : Nat} {T : RS} {lv u2 u3 pv iv : Value} {X : List RFX} (h : RNow w R r m T lv u2 u3 pv iv X) : r ≠ m := fun e => by
  have h1 := h.at_
  rw [e, h.map.at_] at h1
  cases h1
theorem RNow.off {w w' : World} {R : Reg} {r m : Nat} {T : RS} {lv u2 u3 pv iv : Value} {X : List RFX} {J : Nat → Prop} (h : RNow w R r m T lv u2 u3 pv iv X) (ho : Off J w w') (hd : ∀ k, R.has k → ¬ J k) : RNow w' R r m T lv u2 u3 pv iv X :=
  { h with at_ := (ho.block r (h.lt r (.inl h.mr)) (hd r (.inl h.mr))).trans h.at_, map := h.map.off ho (fun k hk => hd k (.inr hk)) (hd m (.inl h.mm)), files := h.files.off ho (fun k hk => hd k (.inr hk)), lt := fun k hk => Nat.lt_of_lt_of_le (h.lt k hk) ho.size }
theorem RKept.off {w w' : World} {R : Reg} {K : RS} {u2 u3 pk ik : Value} {mk : Nat} {Y : List RFX} {J : Nat → Prop} (h : RKept w R K u2 u3 mk pk ik Y) (ho : Off J w w') (hd : ∀ k, R.i k → ¬ J k) : RKept w' R K u2 u3 mk pk ik Y :=
  { h with map := h.map.off ho hd (hd mk h.im), files := h.files.off ho hd }
theorem RKept.mono {w : World} {R R' : Reg} {K : RS} {u2 u3 pk ik : Value} {mk : Nat} {Y : List RFX} (h : RKept w R K u2 u3 mk pk ik Y) (hi : ∀ k, R.i k → k < w.heap.size → R'.i k) : RKept w R' K u2 u3 mk pk ik Y :=
  { h with im := hi mk h.im h.map.lt, map := h.map.mono hi, files := h.files.mono hi }
theorem RefI.off {w w' : World} {r : Nat} {T K : RS} {R : Reg} {J : Nat → Prop} (h : RefI w r T K R) (ho : Off J w w') (hd : ∀ k, R.has k → ¬ J k) : RefI w' r T K R := by
  obtain ⟨m, lv, u2, u3, pv, iv, X, mk, pk, ik, Y, h1, h2⟩ := h
  exact ⟨m, lv, u2, u3, pv, iv, X, mk, pk, ik, Y, h1.off ho hd, h2.off ho (fun k hk => hd k (.inr hk))⟩
theorem RefI.lt {w : World} {r : Nat} {T K : RS} {R : Reg} (h : RefI w r T K R) : ∀ k, R.has k → k < w.heap.size := by obtain ⟨m, lv, u2, u3, pv, iv, X, mk, pk, ik, Y, h1, h2⟩ := h; exact h1.lt
theorem RefI.below {w w' : World} {r : Nat} {T K : RS} {R : Reg} (h : RefI w r T K R) (hb : Below w.heap.size w w') : RefI w' r T K R := h.off (Off.of_below hb (fun _ => False)) (fun _ _ e => e)
theorem RefI.step0 {w w' : World} {r : Nat} {T K : RS} {R : Reg} (h : RefI w r T K R) (hb : Below w.heap.size w w') : RefStep w r T K R w' := ⟨R, h.below hb, Reg.To.refl _ _, Off.of_below hb _⟩
theorem RefStep.trans {w w1 w2 : World} {r : Nat} {T2 K2 : RS} {R R1 : Reg} (ht : R.To R1 w.heap.size) (ho : Off R.m w w1) (h2 : RefStep w1 r T2 K2 R1 w2) : RefStep w r T2 K2 R w2 := by
  obtain ⟨R2, h3, t2, o2⟩ := h2
  exact ⟨R2, h3, ht.trans t2 ho.size, ho.trans o2 ht.m⟩
theorem RefStep.step {w w1 w2 : World} {r : Nat} {T1 K1 : RS} {R : Reg} (h : RefStep w r T1 K1 R w1) (hb : Below w1.heap.size w1 w2) : RefStep w r T1 K1 R w2 := by
  obtain ⟨R1, h1, t1, o1⟩ := h
  exact ⟨R1, h1.below hb, t1, o1.step hb⟩
/-- A region with new blocks to read. -/
def Reg.plus (R : Reg) (a b : Nat) : Reg := ⟨R.m, fun k => R.i k ∨ (a ≤ k ∧ k < b)⟩
theorem Reg.plus_to (R : Reg) (a b : Nat) : R.To (R.plus a b) a := ⟨fun _ h => .inl h, fun k h => h.imp id fun h => h.1⟩
theorem RNow.file {w : World} {R : Reg} {r m : Nat} {T : RS} {lv u2 u3 pv iv : Value} {X : List RFX} (h : RNow w R r m T lv u2 u3 pv iv X) {j : Nat} (hj : j < T.l.length) : ∃ bv dv, X[j]? = some (T.file j, bv, dv) := by
  have hx : j < X.length := by rw [← h.eq, List.length_map] at hj; exact hj
  have h1 : (X.map (·.1))[j]? = some (X[j]).1 := by rw [List.getElem?_map, List.getElem?_eq_getElem hx]; rfl
  rw [h.eq] at h1
  have h2 : T.file j = (X[j]).1 := by unfold RS.file; rw [List.getD_eq_getElem?_getD, h1]; rfl
  exact ⟨_, _, by rw [h2]; exact List.getElem?_eq_getElem hx⟩
theorem RNow.len {w : World} {R : Reg} {r m : Nat} {T : RS} {lv u2 u3 pv iv : Value} {X : List RFX} (h : RNow w R r m T lv u2 u3 pv iv X) : X.length = T.i.length ∧ X.length ≤ 512 := by
  have h1 : X.length = T.l.length := by rw [← h.eq, List.length_map]
  have h2 := h.small.1
  have h3 := h.map.few.2
  omega
/-- What set leaves: the row of files is a new one. -/
theorem RNow.set {w w1 : World} {R : Reg} {r m j : Nat} {T : RS} {lv u2 u3 pv iv lv' bv dv : Value} {X : List RFX} {f : RF} (h : RNow w R r m T lv u2 u3 pv iv X) (hb : Below w.heap.size w w1) (hrow : w1.ownsRow w.heap.size 131 6 lv' (X.set j (f, bv, dv)).length (filesC (X.set j (f, bv, dv))))
    (hbv : SlI w R.i 5 bv (bytV f.bytes)) (hdv : SlI w R.i 3 dv (natV f.data)) (hs : f.bytes.length ≤ 70656 ∧ f.data.length ≤ 138) :
    RNow (w1.setCell ⟨r, 1, none⟩ lv') (R.plus w.heap.size w1.heap.size) r m (T.set j f) lv' u2 u3 pv iv (X.set j (f, bv, dv)) ∧ Off (fun k => k = r) w (w1.setCell ⟨r, 1, none⟩ lv') ∧ (w1.setCell ⟨r, 1, none⟩ lv').heap.size = w1.heap.size := by
  have hz := hb.size
  have h1 := h.off (Off.of_below hb (fun _ => False)) (fun _ _ e => e)
  have ho : Off (fun k => k = r) w1 (w1.setCell ⟨r, 1, none⟩ lv') := (Off.refl (fun k => k = r) w1).setCell (p := ⟨r, 1, none⟩) (.inl rfl) _
  have hrl := h.lt r (.inl h.mr)
  have hnr : ∀ k, (R.plus w.heap.size w1.heap.size).i k → ¬ k = r := fun k hk e => by
    subst e
    rcases hk with hk | hk
    · exact h.apart k h.mr hk
    · omega
  have hbv' := (hbv.off (Off.of_below hb (fun _ => False)) (fun _ _ e => e)).mono (J := (R.plus w.heap.size w1.heap.size).i) (fun k hk _ => .inl hk)
  have hdv' := (hdv.off (Off.of_below hb (fun _ => False)) (fun _ _ e => e)).mono (J := (R.plus w.heap.size w1.heap.size).i) (fun k hk _ => .inl hk)
  have hF : FilesI w1 (R.plus w.heap.size w1.heap.size).i lv' (X.set j (f, bv, dv)) := ⟨rowB_base hrow (Nat.zero_le _), fun k hk => .inr (World.ownsRow.lt hrow k hk), fun x hx => by
    rcases List.mem_or_eq_of_mem_set hx with hx | rfl
    · exact ⟨(h1.files.nest x hx).1.mono (fun k hk _ => .inl hk), (h1.files.nest x hx).2.mono (fun k hk _ => .inl hk)⟩
    · exact ⟨hbv', hdv'⟩⟩
  refine ⟨⟨?_, h.mr, h.mm, (h1.map.mono (fun k hk _ => .inl hk)).off ho hnr (fun e => h.ne e.symm), hF.off ho hnr, ?_, ?_, ?_, ?_⟩, (Off.of_below hb _).then ho, by simp [World.setCell]⟩
  · have := heap_setCell_at w1 r 1 lv' h1.at_; simpa using this
  · show (X.set j (f, bv, dv)).map (·.1) = T.l.set j f
    rw [List.map_set, h.eq]
  · refine ⟨by show (T.l.set j f).length = T.i.length; rw [List.length_set]; exact h.small.1, fun g hg => ?_⟩
    have hg : g ∈ T.l.set j f := hg
    rcases List.mem_or_eq_of_mem_set hg with hg | rfl
    · exact h.small.2 g hg
    · exact hs
  · intro k hk e
    rcases e with e | e
    · exact h.apart k hk e
    · have := h.lt k (.inl hk); omega
  · intro k hk
    have : (w1.setCell ⟨r, 1, none⟩ lv').heap.size = w1.heap.size := by simp [World.setCell]
    rw [this]
    rcases hk with hk | hk | hk
    · have := h.lt k (.inl hk); omega
    · have := h.lt k (.inr hk); omega
    · exact hk.2
set_option maxRecDepth 100000 in
set_option maxHeartbeats 1000000 in
theorem rset_any (r m j : Nat) (T : RS) (R : Reg) (lv u2 u3 pv iv bv dv : Value) (X : List RFX) (f : RF) (w : World) (h : RNow w R r m T lv u2 u3 pv iv X) (hj : j < T.l.length)
    (hbv : SlI w R.i 5 bv (bytV f.bytes)) (hdv : SlI w R.i 3 dv (natV f.data)) (hs : f.bytes.length ≤ 70656 ∧ f.data.length ≤ 138) :
    Calls Tryz.prog 92 #[.pointer (some ⟨r, 0, none⟩), .int .i64 j, .agg #[.int .i64 f.kind, .int .i64 f.mode, .int .i64 f.links, bv, dv, .int .i64 f.ind]] w fun e w' => e = .returned (.tuple #[]) ∧ ∃ lv', RNow w' (R.plus w.heap.size w'.heap.size) r m (T.set j f) lv' u2 u3 pv iv (X.set j (f, bv, dv)) ∧ Off (fun k => k = r) w w' := by
  obtain ⟨i0, hi0, hz0, hz1, hz2⟩ := info_parts info_file
  obtain ⟨Ab, cb, rfl⟩ := hbv.1.shape
  obtain ⟨Ad, cd, rfl⟩ := hdv.1.shape
  obtain ⟨lb, hlb⟩ : ∃ l, l = (bytV f.bytes).length := ⟨_, rfl⟩
  obtain ⟨ld, hld⟩ : ∃ l, l = (natV f.data).length := ⟨_, rfl⟩
  rw [← hlb] at hbv ⊢
  rw [← hld] at hdv ⊢
  clear hlb hld
  have hjx : j < X.length := by have := h.eq; rw [← this, List.length_map] at hj; exact hj
  have hxl := h.len.2
  have h1b := sl_one hbv
  have h1d := sl_one hdv
  obtain ⟨W1, hW1⟩ : ∃ W1, W1 = w.alloc (.cells #[.int .i64 f.kind, .int .i64 f.mode, .int .i64 f.links, .slice Ab lb cb, .slice Ad ld cd, .int .i64 f.ind] 131) := ⟨_, rfl⟩
  have hb1 : Below w.heap.size w W1 := by rw [hW1]; exact (Below.refl _ _).alloc (Nat.le_refl _) _
  have hnew : W1.heap[w.heap.size]? = some (.cells #[.int .i64 f.kind, .int .i64 f.mode, .int .i64 f.links, .slice Ab lb cb, .slice Ad ld cd, .int .i64 f.ind] 131 (0, 0)) := by rw [hW1]; exact heap_alloc_new _ _
  have c1 : W1.cell? ⟨r, 1, none⟩ = some lv := by
    have h1 := h.off (Off.of_below hb1 (fun _ => False)) (fun _ _ e => e)
    exact cell_of_heap h1.at_ 1
  have hrow : W1.ownsRow 0 131 6 lv X.length (filesC X) := row_off h.files.own (Off.of_below hb1 (fun _ => False)) (fun _ _ e => e)
  have hone := h.files.one
  have hfin : ∀ v' w1, w1.ownsRow W1.heap.size 131 6 v' X.length (filesC X) → Below W1.heap.size W1 w1 → ∃ g c, v' = .slice (some ⟨g, 0, none⟩) X.length c ∧ (w1.cell? ⟨w.heap.size, 0, none⟩ = some (.int .i64 f.kind) ∧ w1.cell? ⟨w.heap.size, 1, none⟩ = some (.int .i64 f.mode) ∧ w1.cell? ⟨w.heap.size, 2, none⟩ = some (.int .i64 f.links) ∧ w1.cell? ⟨w.heap.size, 3, none⟩ = some (.slice Ab lb cb) ∧ w1.cell? ⟨w.heap.size, 4, none⟩ = some (.slice Ad ld cd) ∧ w1.cell? ⟨w.heap.size, 5, none⟩ = some (.int .i64 f.ind)) ∧
      ((∃ u, w1.cell? ⟨g, j * 6, none⟩ = some u) ∧ (∃ u, w1.cell? ⟨g, j * 6 + 1, none⟩ = some u) ∧ (∃ u, w1.cell? ⟨g, j * 6 + 2, none⟩ = some u) ∧ (∃ u, w1.cell? ⟨g, j * 6 + 3, none⟩ = some u) ∧ (∃ u, w1.cell? ⟨g, j * 6 + 4, none⟩ = some u) ∧ (∃ u, w1.cell? ⟨g, j * 6 + 5, none⟩ = some u)) ∧ (∀ k, w1.frozen? ⟨g, k, none⟩ = false) ∧ (w1.cell? ⟨r, 1, none⟩ = some lv ∧ w1.frozen? ⟨r, 1, none⟩ = false ∧ r ≠ g) ∧
      RNow ((putF w1 g (j * 6) f (.slice Ab lb cb) (.slice Ad ld cd)).setCell ⟨r, 1, none⟩ (.slice (some ⟨g, 0, none⟩) X.length c)) (R.plus w.heap.size ((putF w1 g (j * 6) f (.slice Ab lb cb) (.slice Ad ld cd)).setCell ⟨r, 1, none⟩ (.slice (some ⟨g, 0, none⟩) X.length c)).heap.size) r m (T.set j f) (.slice (some ⟨g, 0, none⟩) X.length c) u2 u3 pv iv (X.set j (f, .slice Ab lb cb, .slice Ad ld cd)) ∧ Off (fun k => k = r) w ((putF w1 g (j * 6) f (.slice Ab lb cb) (.slice Ad ld cd)).setCell ⟨r, 1, none⟩ (.slice (some ⟨g, 0, none⟩) X.length c)) := fun v' w1 ho hb => by
    have hz1 := hb1.size
    obtain ⟨g, c, rfl, e0, e1, e2, e3, e4⟩ := clone_file (bv := .slice Ab lb cb) (dv := .slice Ad ld cd) f ho hb hjx
    have hbb : Below w.heap.size w (putF w1 g (j * 6) f (.slice Ab lb cb) (.slice Ad ld cd)) := hb1.trans (e4.mono hz1)
    obtain ⟨a, b, z⟩ := h.set (j := j) hbb (rowB_base e3 hz1) hbv hdv hs
    have h1 := h.off (Off.of_below (hb1.trans (hb.mono hz1)) (fun _ => False)) (fun _ _ e => e)
    have hbx := (hb.block _ (by have := (Array.getElem?_eq_some_iff.1 hnew).1; exact this)).trans hnew
    refine ⟨g, c, rfl, ⟨cell_of_heap hbx 0, cell_of_heap hbx 1, cell_of_heap hbx 2, cell_of_heap hbx 3, cell_of_heap hbx 4, cell_of_heap hbx 5⟩, ⟨e1 0 (by omega), e1 1 (by omega), e1 2 (by omega), e1 3 (by omega), e1 4 (by omega), e1 5 (by omega)⟩, e2, ⟨cell_of_heap h1.at_ 1, free_of_heap h1.at_ 1, fun e => ?_⟩, by rw [z]; exact a, b⟩
    have := h.lt r (.inl h.mr)
    omega
  have HFin := Lib.hid hfin
  have HRow := Lib.hid hrow
  have HOne := Lib.hid hone
  have HLen : (X.length : Int) > (j : Int) := by omega
  clear hfin hrow hone h hbv hdv hb1 hnew
  subst hW1
  go_enter Tryz.func92, Tryz.ntmps92
  go_wp2_with (at_builtin; refine wpList_append_clone rfl _ _ 132 rfl 131 i0 _ 6 80 Tryz.underlying132 hi0 hz0 hz1 hz2 rfl (by decide) _ X.length 0 _ rfl rfl HRow.out HOne.out (by unfold maxLen; omega) (by omega) ?_; intro v' w1 hown1 hb1; obtain ⟨g, c, rfl, ⟨b0, b1, b2, b3, b4, b5⟩, ⟨⟨y0, s0⟩, ⟨y1, s1⟩, ⟨y2, s2⟩, ⟨y3, s3⟩, ⟨y4, s4⟩, ⟨y5, s5⟩⟩, hfz, ⟨hc1, hf1, hrg⟩, hN, hO⟩ := HFin.out v' w1 hown1 hb1; have HS := Lib.hid (⟨hN, hO⟩ : _ ∧ _); have hgr : g ≠ r := fun e => hrg e.symm; have z0 := hfz (j * 6); have z1 := hfz (j * 6 + 1); have z2 := hfz (j * 6 + 2); have z3 := hfz (j * 6 + 3); have z4 := hfz (j * 6 + 4); have z5 := hfz (j * 6 + 5); clear hown1 hb1 hN hO hfz)
  go_end0
  exact ⟨rfl, _, HS.out.1, HS.out.2⟩
end Go.Proofs.YtfgkgoddjemnfaaGreatDoor

namespace Go.Proofs.YtfgkgoddjemnfaaGreatDoor
open Go.RowKit Go.Shelf Pa
attribute [local go_sem] bs_toList bs_size
/-- What Commit leaves: the map has a copy, the files are kept. -/
theorem RNow.keep {w w' : World} {R : Reg} {r m mk : Nat} {T : RS} {lv u2 u3 pv iv : Value} {X : List RFX} (h : RNow w R r m T lv u2 u3 pv iv X) (h1 : w'.heap[r]? = some (rstoO m lv (.pointer (some ⟨mk, 0, none⟩)) lv)) (h2 : w'.heap[mk]? = some (rmapO T.p.length T.i.length pv iv)) (h3 : w.heap.size ≤ mk) (ho : Off (fun k => k = r) w w') : RefStep w r T T R w' := by
  have hz := ho.size
  have hr := h.lt r (.inl h.mr)
  have hmk : mk < w'.heap.size := (Array.getElem?_eq_some_iff.1 h2).1
  have hnr : ∀ k, R.i k → ¬ k = r := fun k hk e => h.apart k (e ▸ h.mr) hk
  have hi : ∀ k, R.i k → k < w'.heap.size → (R.plus w.heap.size w'.heap.size).i k := fun k hk _ => .inl hk
  have hM := (h.map.off ho hnr (fun e => h.ne e.symm)).mono hi
  have hF := (h.files.off ho hnr).mono hi
  refine ⟨R.plus w.heap.size w'.heap.size, ⟨m, lv, _, _, pv, iv, X, mk, pv, iv, X, ⟨h1, h.mr, h.mm, hM, hF, h.eq, h.small, ?_, ?_⟩, ⟨rfl, .inr ⟨h3, hmk⟩, ⟨h2, hM.rp, hM.ri, hM.few⟩, hF, h.eq, h.small⟩⟩, R.plus_to _ _, ho.mono fun k e => .inl (e ▸ h.mr)⟩
  · intro k hk e
    rcases e with e | e
    · exact h.apart k hk e
    · have := h.lt k (.inl hk); omega
  · intro k hk
    rcases hk with hk | hk | hk
    · have := h.lt k (.inl hk); omega
    · have := h.lt k (.inr hk); omega
    · exact hk.2
theorem RNow.kept_end {w w9 : World} {R : Reg} {r m : Nat} {T : RS} {lv u2 u3 pv iv : Value} {X : List RFX} (h : RNow w R r m T lv u2 u3 pv iv X) (h9 : w9 = w.alloc (rmapO T.p.length T.i.length pv iv) ∨ w9 = w.drew.alloc (rmapO T.p.length T.i.length pv iv)) : RefStep w r T T R ((w9.setCell ⟨r, 2, none⟩ (.pointer (some ⟨w.heap.size, 0, none⟩))).setCell ⟨r, 3, none⟩ lv) := by
  have hrl := h.lt r (.inl h.mr)
  have h9' : Below w.heap.size w w9 ∧ w9.heap[w.heap.size]? = some (rmapO T.p.length T.i.length pv iv) := by
    rcases h9 with rfl | rfl
    · exact ⟨(Below.refl _ _).alloc (Nat.le_refl _) _, heap_alloc_new _ _⟩
    · exact ⟨((Below.refl w.heap.size w).drew).alloc (Nat.le_refl _) _, heap_alloc_new w.drew _⟩
  have h1 := (h9'.1.block r hrl).trans h.at_
  have h2 := heap_setCell_at w9 r 2 (.pointer (some ⟨w.heap.size, 0, none⟩)) h1
  have h3 := heap_setCell_at _ r 3 lv h2
  have ho : Off (fun k => k = r) w9 ((w9.setCell ⟨r, 2, none⟩ (.pointer (some ⟨w.heap.size, 0, none⟩))).setCell ⟨r, 3, none⟩ lv) := ((Off.refl (fun k => k = r) w9).setCell (p := ⟨r, 2, none⟩) (.inl rfl) _).setCell (p := ⟨r, 3, none⟩) (.inl rfl) _
  refine h.keep (mk := w.heap.size) (by simpa using h3) ?_ (Nat.le_refl _) ((Off.of_below h9'.1 _).then ho)
  exact (ho.block _ (Array.getElem?_eq_some_iff.1 h9'.2).1 (by omega)).trans h9'.2
set_option maxRecDepth 100000 in
set_option maxHeartbeats 1000000 in
theorem rcommit_any (r m : Nat) (T : RS) (R : Reg) (lv u2 u3 pv iv : Value) (X : List RFX) (w : World) (h : RNow w R r m T lv u2 u3 pv iv X) :
    Calls Tryz.prog 45 #[.pointer (some ⟨r, 0, none⟩)] w fun e w' => e = .returned (.tuple #[]) ∧ RefStep w r T T R w' := by
  obtain ⟨Al, cl, rfl⟩ : ∃ A c, lv = .slice A X.length c := ownsRow_slice h.files.own
  have hkeep := fun w9 h9 => h.kept_end (w9 := w9) h9
  have c0 : w.cell? ⟨r, 0, none⟩ = some (.pointer (some ⟨m, 0, none⟩)) := cell_of_heap h.at_ 0
  have c1 : w.cell? ⟨r, 1, none⟩ = some (.slice Al X.length cl) := cell_of_heap h.at_ 1
  have c2 : w.cell? ⟨r, 2, none⟩ = some u2 := cell_of_heap h.at_ 2
  have c3 : w.cell? ⟨r, 3, none⟩ = some u3 := cell_of_heap h.at_ 3
  have f2 : w.frozen? ⟨r, 2, none⟩ = false := free_of_heap h.at_ 2
  have f3 : w.frozen? ⟨r, 3, none⟩ = false := free_of_heap h.at_ 3
  have hfk : ∀ W, Off (fun k => k = r) w W → W.cell? ⟨r, 2, none⟩ = some u2 → W.frozen? ⟨r, 2, none⟩ = false → Calls Tryz.prog 93 #[.pointer (some ⟨m, 0, none⟩)] W fun e w9 => e = .returned (.pointer (some ⟨W.heap.size, 0, none⟩)) ∧ (w9.cell? ⟨r, 2, none⟩ = some u2 ∧ w9.frozen? ⟨r, 2, none⟩ = false) ∧ (w9.cell? ⟨r, 1, none⟩ = W.cell? ⟨r, 1, none⟩ ∧ w9.cell? ⟨r, 3, none⟩ = W.cell? ⟨r, 3, none⟩ ∧ w9.frozen? ⟨r, 3, none⟩ = W.frozen? ⟨r, 3, none⟩) ∧ Hid (w9 = W.alloc (rmapO T.p.length T.i.length pv iv)) := fun W ho h2 h3 => by
    have hrw : r < W.heap.size := Nat.lt_of_lt_of_le (h.lt r (.inl h.mr)) ho.size
    refine (rfork_any R.i m T.p T.i pv iv W (h.map.off ho (fun k hk e => h.apart k (e ▸ h.mr) hk) (fun e => h.ne e.symm))).mono ?_
    rintro e w9 ⟨rfl, rfl⟩
    have hb := (Below.refl W.heap.size W).alloc (Nat.le_refl _) (rmapO T.p.length T.i.length pv iv)
    exact ⟨rfl, ⟨(hb.cell (p := ⟨r, 2, none⟩) hrw).trans h2, (hb.frozen (p := ⟨r, 2, none⟩) hrw).trans h3⟩, ⟨hb.cell (p := ⟨r, 1, none⟩) hrw, hb.cell (p := ⟨r, 3, none⟩) hrw, hb.frozen (p := ⟨r, 3, none⟩) hrw⟩, Lib.hid rfl⟩
  have HFk := Lib.hid hfk
  have HK := Lib.hid hkeep
  clear hkeep hfk h
  go_enter Tryz.func45, Tryz.ntmps45
  go_wp2_with fail
  go_region_with (go_at_call 93; refine (HFk.out _ (by repeat' (first | exact Off.refl _ _ | refine Off.drew ?_ | refine Off.drewN ?_ _ | refine Off.setCell ?_ (Or.inl rfl) _)) (by simp [c2]) (by simp [f2])).mono ?_; rintro e w9 ⟨rfl, ⟨d2, g2⟩, ⟨d1, d3, g3⟩, HW⟩; simp [c1, c3, f3] at d1 d3 g3)
  all_goals (go_end0; exact ⟨rfl, HK.out _ (by first | exact Or.inl HW.out | exact Or.inr HW.out)⟩)
end Go.Proofs.YtfgkgoddjemnfaaGreatDoor

namespace Go.Proofs.YtfgkgoddjemnfaaGreatDoor
open Go.RowKit Go.Shelf Pa
attribute [local go_sem] bs_toList bs_size
/-- A map midway: both rows are one's own. -/
structure MapO (wx : World) (B m bp bi P ino : Nat) (p i : List Bool) : Prop where
  at_ : wx.heap[m]? = some (rmapO P ino (.slice (some ⟨bp, 0, none⟩) P P) (.slice (some ⟨bi, 0, none⟩) ino ino))
  rp : OwnL wx B 4 (.slice (some ⟨bp, 0, none⟩) P P) (boolV p)
  ri : OwnL wx B 4 (.slice (some ⟨bi, 0, none⟩) ino ino) (boolV i)
  lp : p.length = P
  li : i.length = ino
  ne : bp ≠ bi ∧ bp ≠ m ∧ bi ≠ m ∧ B ≤ m
theorem MapO.setP {wx : World} {B m bp bi P ino : Nat} {p i : List Bool} (h : MapO wx B m bp bi P ino p i) (k : Nat) (b : Bool) (hk : k < P) : MapO (wx.setCell ⟨bp, k, none⟩ (.bool b)) B m bp bi P ino (p.set k b) i := by
  have ho : Off (fun j => j = bp) wx (wx.setCell ⟨bp, k, none⟩ (.bool b)) := (Off.refl (fun j => j = bp) wx).setCell (p := ⟨bp, k, none⟩) (.inl rfl) _
  have hm : m < wx.heap.size := (Array.getElem?_eq_some_iff.1 h.at_).1
  refine ⟨(ho.block m hm (fun e => h.ne.2.1 e.symm)).trans h.at_, ?_, h.ri.off ho (fun j hj e => h.ne.1 (by cases hj; exact e.symm)), by rw [List.length_set]; exact h.lp, h.li, h.ne⟩
  have hbl : (boolV p).length = P := by rw [boolV_length]; exact h.lp
  have h1 : OwnL wx B 4 (.slice (some ⟨bp, 0, none⟩) (boolV p).length P) (boolV p) := by rw [hbl]; exact h.rp
  have := h1.set k (.bool b) (by rw [hbl]; exact hk)
  rw [hbl] at this
  rw [boolV_set]; exact this
theorem MapO.setI {wx : World} {B m bp bi P ino : Nat} {p i : List Bool} (h : MapO wx B m bp bi P ino p i) (k : Nat) (b : Bool) (hk : k < ino) : MapO (wx.setCell ⟨bi, k, none⟩ (.bool b)) B m bp bi P ino p (i.set k b) := by
  have ho : Off (fun j => j = bi) wx (wx.setCell ⟨bi, k, none⟩ (.bool b)) := (Off.refl (fun j => j = bi) wx).setCell (p := ⟨bi, k, none⟩) (.inl rfl) _
  have hm : m < wx.heap.size := (Array.getElem?_eq_some_iff.1 h.at_).1
  refine ⟨(ho.block m hm (fun e => h.ne.2.2.1 e.symm)).trans h.at_, h.rp.off ho (fun j hj e => h.ne.1 (by cases hj; exact e)), ?_, h.lp, by rw [List.length_set]; exact h.li, h.ne⟩
  have hbl : (boolV i).length = ino := by rw [boolV_length]; exact h.li
  have h1 : OwnL wx B 4 (.slice (some ⟨bi, 0, none⟩) (boolV i).length ino) (boolV i) := by rw [hbl]; exact h.ri
  have := h1.set k (.bool b) (by rw [hbl]; exact hk)
  rw [hbl] at this
  rw [boolV_set]; exact this
theorem MapO.map {wx : World} {B m bp bi P ino : Nat} {p i : List Bool} (h : MapO wx B m bp bi P ino p i) (hf : P ≤ 4096 ∧ ino ≤ 512) : RMap wx (fun k => B ≤ k ∧ k < wx.heap.size ∧ k ≠ m) m p i (.slice (some ⟨bp, 0, none⟩) P P) (.slice (some ⟨bi, 0, none⟩) ino ino) :=
  ⟨by rw [h.lp, h.li]; exact h.at_, ⟨h.rp.base (Nat.zero_le _), fun k hk => ⟨(h.rp.block hk).1, (h.rp.block hk).2, fun e => by cases hk; exact h.ne.2.1 e⟩⟩, ⟨h.ri.base (Nat.zero_le _), fun k hk => ⟨(h.ri.block hk).1, (h.ri.block hk).2, fun e => by cases hk; exact h.ne.2.2.1 e⟩⟩, by rw [h.lp, h.li]; exact hf⟩
theorem MapO.cellP {wx : World} {B m bp bi P ino : Nat} {p i : List Bool} (h : MapO wx B m bp bi P ino p i) (k : Nat) (hk : k < P) : wx.cell? ⟨m, 2, none⟩ = some (.slice (some ⟨bp, 0, none⟩) P P) ∧ wx.cell? ⟨bp, k, none⟩ = some (.bool (p.getD k false)) ∧ wx.frozen? ⟨bp, k, none⟩ = false := by
  have hbl : (boolV p).length = P := by rw [boolV_length]; exact h.lp
  have h1 : OwnL wx B 4 (.slice (some ⟨bp, 0, none⟩) (boolV p).length P) (boolV p) := by rw [hbl]; exact h.rp
  obtain ⟨g, c, e, _, _, _, h2, h3⟩ := h1.at (fun e => by rw [e] at hbl; simp at hbl; omega)
  injection e with e _ _
  injection e with e
  injection e with e
  subst e
  exact ⟨cell_of_heap h.at_ 2, h2 k _ (boolV_at p k (by rw [h.lp]; exact hk)), h3 k⟩
theorem MapO.cellI {wx : World} {B m bp bi P ino : Nat} {p i : List Bool} (h : MapO wx B m bp bi P ino p i) (k : Nat) (hk : k < ino) : wx.cell? ⟨m, 3, none⟩ = some (.slice (some ⟨bi, 0, none⟩) ino ino) ∧ wx.cell? ⟨bi, k, none⟩ = some (.bool (i.getD k false)) ∧ wx.frozen? ⟨bi, k, none⟩ = false := by
  have hbl : (boolV i).length = ino := by rw [boolV_length]; exact h.li
  have h1 : OwnL wx B 4 (.slice (some ⟨bi, 0, none⟩) (boolV i).length ino) (boolV i) := by rw [hbl]; exact h.ri
  obtain ⟨g, c, e, _, _, _, h2, h3⟩ := h1.at (fun e => by rw [e] at hbl; simp at hbl; omega)
  injection e with e _ _
  injection e with e
  injection e with e
  subst e
  exact ⟨cell_of_heap h.at_ 3, h2 k _ (boolV_at i k (by rw [h.li]; exact hk)), h3 k⟩
theorem three_drew (w : World) (a b c : Obj) : (((w.alloc a).alloc b).alloc c).drew.heap[w.heap.size]? = some a ∧ (((w.alloc a).alloc b).alloc c).drew.heap[w.heap.size + 1]? = some b ∧ (((w.alloc a).alloc b).alloc c).drew.heap[w.heap.size + 1 + 1]? = some c ∧ Below w.heap.size w (((w.alloc a).alloc b).alloc c).drew := by
  refine ⟨?_, ?_, ?_, ((((Below.refl _ _).alloc (Nat.le_refl _) _).alloc (by simp) _).alloc (by simp; omega) _).drew⟩
  · show (((w.alloc a).alloc b).alloc c).heap[w.heap.size]? = some a
    rw [Below.heap_alloc _ _ _ (by simp; omega), Below.heap_alloc _ _ _ (by simp)]; exact heap_alloc_new _ _
  · show (((w.alloc a).alloc b).alloc c).heap[w.heap.size + 1]? = some b
    rw [Below.heap_alloc _ _ _ (by simp)]
    have := heap_alloc_new (w.alloc a) b
    simpa using this
  · show (((w.alloc a).alloc b).alloc c).heap[w.heap.size + 1 + 1]? = some c
    have := heap_alloc_new ((w.alloc a).alloc b) c
    simpa using this
theorem made_bools (n : Nat) : (madeCells #[.bool false] n).toList = boolV (List.replicate n false) := by
  refine List.ext_getElem? fun k => ?_
  unfold boolV
  rw [Array.getElem?_toList, List.getElem?_map, List.getElem?_replicate]
  by_cases hk : k < n
  · simp [madeCells, hk, Nat.mod_one]
  · simp [madeCells, hk]
theorem own_made {w : World} {B b n : Nat} (h : w.heap[b]? = some (.cells (madeCells #[.bool false] n) 4 (0, 0))) (hB : B ≤ b) (hn : n ≤ 10000) : OwnL w B 4 (.slice (some ⟨b, 0, none⟩) n n) (boolV (List.replicate n false)) := by
  have hl : (boolV (List.replicate n false)).length = n := by rw [boolV_length, List.length_replicate]
  refine ⟨by simp, .inr ⟨b, n, _, by rw [hl], hB, h, by rw [hl]; exact Nat.le_refl _, by unfold maxLen; omega, by simp [madeCells], ?_⟩⟩
  rw [made_bools, Nat.mul_one, List.take_length]
theorem set_first (n P : Nat) (h : n < P) : (List.replicate n true ++ List.replicate (P - n) false).set n true = List.replicate (n + 1) true ++ List.replicate (P - (n + 1)) false := by
  rw [List.set_append_right _ _ (by rw [List.length_replicate]; exact Nat.le_refl _), List.length_replicate, Nat.sub_self, show P - n = (P - (n + 1)) + 1 from by omega, List.replicate_succ, List.set_cons_zero, List.replicate_succ', List.append_assoc]; rfl
set_option maxRecDepth 100000 in
set_option maxHeartbeats 2000000 in
theorem rmap_any (P ino : Nat) (w : World) (hm : 8 ≤ ino ∧ ino ≤ 512 ∧ ino % 8 = 0 ∧ P ≤ 4096 ∧ alFirst ino < P) :
    Calls Tryz.prog 41 #[.int .i64 P, .int .i64 ino] w fun e w' => ∃ m pv iv, e = .returned (.tuple #[.pointer (some ⟨m, 0, none⟩), .int .i64 0]) ∧ RMap w' (fun k => w.heap.size ≤ k ∧ k < w'.heap.size ∧ k ≠ m) m (RS.fresh P ino).p (RS.fresh P ino).i pv iv ∧ w.heap.size ≤ m ∧ Below w.heap.size w w' := by
  have h1 : decide ((ino : Int) < 8) = false := by simp; omega
  have h2 : decide (512 < (ino : Int)) = false := by simp; omega
  have h3 : (((ino : Int)).tmod 8 != 0) = false := by rw [show (8 : Int) = ((8 : Nat) : Int) from rfl, tmod_nat, hm.2.2.1]; rfl
  have h4 : decide (4096 < (P : Int)) = false := by simp; omega
  have hq : ((ino : Int)).tdiv 8 = ((ino / 8 : Nat) : Int) := tdiv_nat ino 8
  have h5 : decide ((P : Int) ≤ 3 + ((ino / 8 : Nat) : Int)) = false := by have := hm.2.2.2.2; unfold alFirst at this; simp; omega
  have hw5 : IntKind.i64.wrap (3 + ((ino / 8 : Nat) : Int)) = 3 + ((ino / 8 : Nat) : Int) := IntWalk.i64_in _ (by omega)
  have hmP := run_make_row' (P := Tryz.prog) 158 4 (.bool false) 1 Tryz.underlying158 info_bool rfl .i64 .i64 P (by omega) (by omega)
  have hmI := run_make_row' (P := Tryz.prog) 158 4 (.bool false) 1 Tryz.underlying158 info_bool rfl .i64 .i64 ino (by omega) (by omega)
  have hini : ∀ (wx : World) (m bp bi : Nat), wx.heap[m]? = some (rmapO P ino (.slice (some ⟨bp, 0, none⟩) P P) (.slice (some ⟨bi, 0, none⟩) ino ino)) → wx.heap[bp]? = some (.cells (madeCells #[.bool false] P) 4 (0, 0)) → wx.heap[bi]? = some (.cells (madeCells #[.bool false] ino) 4 (0, 0)) → w.heap.size ≤ bp ∧ w.heap.size ≤ bi ∧ w.heap.size ≤ m ∧ bp ≠ bi ∧ bp ≠ m ∧ bi ≠ m → MapO wx w.heap.size m bp bi P ino (List.replicate 0 true ++ List.replicate (P - 0) false) (List.replicate ino false) := fun wx m bp bi a b c d => by
    rw [List.replicate_zero, List.nil_append, Nat.sub_zero]
    exact ⟨a, own_made b d.1 (by omega), own_made c d.2.1 (by omega), List.length_replicate .., List.length_replicate .., d.2.2.2.1, d.2.2.2.2.1, d.2.2.2.2.2, d.2.2.1⟩
  generalize madeCells #[.bool false] P = Z at hmP hini
  generalize madeCells #[.bool false] ino = Z2 at hmI hini
  have HIni := Lib.hid hini
  clear hini
  have HM := Lib.hid hm
  obtain ⟨m1, m2, m3, m4, m5⟩ := hm
  unfold alFirst at m5
  have hb0 := Below.refl w.heap.size w
  go_enter Tryz.func41, Tryz.ntmps41
  go_wp2_with fail
  go_cut [6] (fun s6 wx => ∃ m bp bi, s6 = .pointer (some ⟨m, 0, none⟩) ∧ MapO wx w.heap.size m bp bi P ino (List.replicate 0 true ++ List.replicate (P - 0) false) (List.replicate ino false) ∧ Below w.heap.size w wx)
  · go_region_held3 (fun w' => Below w.heap.size w w') (first | assumption | exact Below.refl _ _ | exact (Below.refl _ _).drew | (refine Below.drew ?_; assumption) | (refine Below.alloc ?_ (Below.size (by assumption)) _; assumption) | (refine Below.drew (Below.alloc ?_ (Below.size (by assumption)) _); assumption)) (fail)
    · obtain ⟨q0, q1, q2, hb⟩ := three_drew w (.cells Z 4) (.cells Z2 4) (rmapO P ino (.slice (some ⟨w.heap.size, 0, none⟩) P P) (.slice (some ⟨w.heap.size + 1, 0, none⟩) ino ino))
      have hI := HIni.out _ _ _ _ q2 q0 q1 (by omega)
      have HX := Lib.hid (⟨hI, hb⟩ : _ ∧ _)
      clear q0 q1 q2 hI hb
      go_wp2
      go_meet
      exact ⟨_, _, _, rfl, HX.out.1, HX.out.2⟩
    · obtain ⟨q0, q1, q2, hb⟩ := three_drew w (.cells Z2 4) (.cells Z 4) (rmapO P ino (.slice (some ⟨w.heap.size + 1, 0, none⟩) P P) (.slice (some ⟨w.heap.size, 0, none⟩) ino ino))
      have hI := HIni.out _ _ _ _ q2 q1 q0 (by omega)
      have HX := Lib.hid (⟨hI, hb⟩ : _ ∧ _)
      clear q0 q1 q2 hI hb
      go_wp2
      go_meet
      exact ⟨_, _, _, rfl, HX.out.1, HX.out.2⟩
  · obtain ⟨m, bp, bi, rfl, hM, hb⟩ := hcut
    have HB0 := Lib.hid (⟨hM, hb⟩ : _ ∧ _)
    clear hM hb HIni hmP hmI
    obtain ⟨fi, hfi0⟩ : ∃ f, f = alFirst ino := ⟨_, rfl⟩
    have hfl : fi < P := by rw [hfi0]; exact HM.out.2.2.2.2
    have HF0 := Lib.hid hfi0
    clear hfi0
    go_wp2_with fail
    go_loopg [7] fi (fun gg i wx => ∃ k : Nat, i = .int .i64 k ∧ gg = fi - k ∧ k ≤ fi ∧ MapO wx w.heap.size m bp bi P ino (List.replicate k true ++ List.replicate (P - k) false) (List.replicate ino false) ∧ Below w.heap.size w wx)
    case atStart => exact ⟨0, rfl, rfl, Nat.zero_le _, HB0.out.1, HB0.out.2⟩
    case round =>
      obtain ⟨k, rfl, rfl, hk, hM, hb⟩ := hrel
      have hfi := rfirst_any _ m _ _ _ _ wr (hM.map ⟨m4, m2⟩)
      rw [List.length_replicate, ← HF0.out] at hfi
      have hf1 : 1 ≤ ino := by omega
      have HFi := Lib.hid hfi
      clear hfi
      by_cases hlt : k < fi
      · have hlt' : decide ((k : Int) < (fi : Int)) = true := by simp; omega
        obtain ⟨c2, ck, fk⟩ := hM.cellP k (by omega)
        have hset := hM.setP k true (by omega)
        rw [set_first k P (by omega)] at hset
        have hbs : Below w.heap.size w (wr.setCell ⟨bp, k, none⟩ (.bool true)) := hb.setCell (by have := (hM.rp.block (k := bp) rfl).1; exact this) _
        have hkP : k < P := by omega
        have HS := Lib.hid (⟨hset, hbs⟩ : _ ∧ _)
        clear hM hb hset hbs
        go_wp2_with (go_at_call 83; refine HFi.out.mono ?_; rintro e w9 ⟨rfl, rfl⟩)
        go_roundg (fi - (k + 1))
        case measure => omega
        case rel => exact ⟨k + 1, by go_num, rfl, hlt, HS.out.1, HS.out.2⟩
      · have hlt' : decide ((k : Int) < (fi : Int)) = false := by simp; omega
        obtain rfl : k = fi := by omega
        obtain ⟨c3, ck, fk⟩ := hM.cellI 0 (by omega)
        have hset := hM.setI 0 true (by omega)
        have hbs : Below w.heap.size w (wr.setCell ⟨bi, 0, none⟩ (.bool true)) := hb.setCell (by have := (hM.ri.block (k := bi) rfl).1; exact this) _
        have hfin := hset.map ⟨m4, m2⟩
        have hml := hset.ne.2.2.2
        have HS := Lib.hid (⟨hfin, hml, hbs⟩ : _ ∧ _ ∧ _)
        clear hM hb hset hbs hfin hml
        go_wp2_with (go_at_call 83; refine HFi.out.mono ?_; rintro e w9 ⟨rfl, rfl⟩)
        go_ret2
        obtain ⟨a1, a2, a3⟩ := HS.out
        refine ⟨m, .slice (some ⟨bp, 0, none⟩) P P, .slice (some ⟨bi, 0, none⟩) ino ino, rfl, ?_, a2, a3⟩
        have e1 : (RS.fresh P ino).p = List.replicate k true ++ List.replicate (P - k) false := by rw [HF0.out]; rfl
        have e2 : (RS.fresh P ino).i = (List.replicate ino false).set 0 true := by
          show true :: List.replicate (ino - 1) false = _
          rw [show ino = (ino - 1) + 1 from by omega, List.replicate_succ]; rfl
        rw [e1, e2]; exact a1
theorem files_new (n : Nat) : (madeCells #[.int .i64 0, .int .i64 0, .int .i64 0, .slice none 0 0, .slice none 0 0, .int .i64 0] (n * 6)).toList = filesC (List.replicate n (RF.none, .slice none 0 0, .slice none 0 0)) := by
  refine List.ext_getElem? fun k => ?_
  by_cases hk : k < n * 6
  · have h1 : (List.replicate n ((RF.none, .slice none 0 0, .slice none 0 0) : RFX))[k / 6]? = some (RF.none, .slice none 0 0, .slice none 0 0) := by rw [List.getElem?_replicate, if_pos (by omega)]
    have hz : ∀ j, j < 6 → (fileV RF.none (.slice none 0 0) (.slice none 0 0))[j]? = some ((#[.int .i64 0, .int .i64 0, .int .i64 0, .slice none 0 0, .slice none 0 0, .int .i64 0] : Array Value)[j]!) := by
      intro j hj
      match j with
      | 0 => rfl
      | 1 => rfl
      | 2 => rfl
      | 3 => rfl
      | 4 => rfl
      | 5 => rfl
      | j + 6 => omega
    have h2 := filesC_at h1 (hz (k % 6) (by omega))
    rw [show k / 6 * 6 + k % 6 = k from by omega] at h2
    rw [h2, Array.getElem?_toList]
    simp [madeCells, hk]
  · rw [List.getElem?_eq_none (by rw [Array.length_toList, size_madeCells]; omega), List.getElem?_eq_none (by rw [filesC_length, List.length_replicate]; omega)]
theorem own_files {w : World} {B b n : Nat} (h : w.heap[b]? = some (.cells (madeCells #[.int .i64 0, .int .i64 0, .int .i64 0, .slice none 0 0, .slice none 0 0, .int .i64 0] (n * 6)) 131 (0, 0))) (hB : B ≤ b) (hn : n ≤ 512) : w.ownsRow B 131 6 (.slice (some ⟨b, 0, none⟩) n n) n (filesC (List.replicate n (RF.none, .slice none 0 0, .slice none 0 0))) := by
  refine ⟨by rw [filesC_length, List.length_replicate], .inr ⟨b, n, _, rfl, hB, h, Nat.le_refl _, by unfold maxLen; omega, by rw [size_madeCells], ?_⟩⟩
  rw [files_new]
  exact List.take_of_length_le (by rw [filesC_length, List.length_replicate]; exact Nat.le_refl _)
end Go.Proofs.YtfgkgoddjemnfaaGreatDoor

namespace Go.Proofs.YtfgkgoddjemnfaaGreatDoor
open Go.RowKit Go.Shelf Pa
attribute [local go_sem] bs_toList bs_size
/-- The map turns. -/
theorem RNow.turn {w w1 : World} {R : Reg} {r m : Nat} {T : RS} {lv u2 u3 pv iv pv' iv' : Value} {X : List RFX} {p' i' : List Bool} (h : RNow w R r m T lv u2 u3 pv iv X) (hm : RMap w1 (wid R.i w w1) m p' i' pv' iv') (ho : Off (fun k => k = m) w w1) (hl : i'.length = T.i.length) :
    RNow w1 (R.plus w.heap.size w1.heap.size) r m { T with p := p', i := i' } lv u2 u3 pv' iv' X := by
  have hz := ho.size
  have hnm : ∀ k, R.i k → ¬ k = m := fun k hk e => h.apart k (e ▸ h.mm) hk
  refine ⟨(ho.block r (h.lt r (.inl h.mr)) h.ne).trans h.at_, h.mr, h.mm, hm, (h.files.off ho hnm).mono (fun k hk _ => .inl hk), h.eq, ⟨by show T.l.length = i'.length; rw [hl]; exact h.small.1, h.small.2⟩, ?_, ?_⟩
  · intro k hk e
    rcases e with e | e
    · exact h.apart k hk e
    · have := h.lt k (.inl hk); omega
  · intro k hk
    rcases hk with hk | hk | hk
    · have := h.lt k (.inl hk); omega
    · have := h.lt k (.inr hk); omega
    · exact hk.2
/-- What an act leaves, put together. -/
theorem RKept.step {w w1 : World} {R : Reg} {r m a b : Nat} {T T1 K : RS} {lv lv1 u2 u3 pv iv pv1 iv1 pk ik : Value} {X X1 : List RFX} {mk : Nat} {Y : List RFX} (hN : RNow w R r m T lv u2 u3 pv iv X) (h : RKept w R K u2 u3 mk pk ik Y) (h1 : RNow w1 (R.plus a b) r m T1 lv1 u2 u3 pv1 iv1 X1) (ho : Off R.m w w1) (ha : w.heap.size ≤ a) : RefStep w r T1 K R w1 :=
  ⟨R.plus a b, ⟨m, lv1, u2, u3, pv1, iv1, X1, mk, pk, ik, Y, h1, (h.off ho (fun k hk e => hN.apart k e hk)).mono (fun k hk _ => .inl hk)⟩, ⟨fun _ h => .inl h, fun k h => h.imp id fun h => Nat.le_trans ha h.1⟩, ho⟩
set_option maxRecDepth 100000 in
set_option maxHeartbeats 1000000 in
theorem rmk_any (r j k md : Nat) (T K : RS) (R : Reg) (w : World) (h : RefI w r T K R) (ht : takeB T.i = some j) (hk : 1 ≤ k ∧ k ≤ 3) (hmd : md ≤ 4095) :
    Calls Tryz.prog 44 #[.pointer (some ⟨r, 0, none⟩), .int .i64 k, .int .i64 md] w fun e w' => e = .returned (.tuple #[.int .i64 j, .int .i64 0]) ∧ RefStep w r (T.mkI j k md) K R w' := by
  obtain ⟨m, lv, u2, u3, pv, iv, X, mk, pk, ik, Y, h1, h2⟩ := h
  have c0 : w.cell? ⟨r, 0, none⟩ = some (.pointer (some ⟨m, 0, none⟩)) := cell_of_heap h1.at_ 0
  have hin := rinode_any R.i m T.p T.i pv iv w h1.map (fun e => h1.apart m h1.mm e)
  have hjl : j < T.l.length := by rw [h1.small.1]; exact (takeB_some ht).1
  have hset : ∀ w1 pv' iv', RMap w1 (wid R.i w w1) m T.p (T.i.set j true) pv' iv' → Off (fun k => k = m) w w1 → Calls Tryz.prog 92 #[.pointer (some ⟨r, 0, none⟩), .int .i64 j, .agg #[.int .i64 k, .int .i64 md, .int .i64 1, .slice none 0 0, .slice none 0 0, .int .i64 0]] w1 fun e w' => e = .returned (.tuple #[]) ∧ RefStep w r (T.mkI j k md) K R w' := by
    intro w1 pv' iv' hm ho
    have hz := ho.size
    have ht1 := h1.turn hm ho (List.length_set ..)
    refine (rset_any r m j _ _ lv u2 u3 pv' iv' (.slice none 0 0) (.slice none 0 0) X (RF.new k md) w1 ht1 hjl ⟨OwnL.nil _ _ _, fun k hk => by cases hk⟩ ⟨OwnL.nil _ _ _, fun k hk => by cases hk⟩ ⟨Nat.zero_le _, Nat.zero_le _⟩).mono ?_
    rintro e w' ⟨rfl, lv', hN, ho'⟩
    refine ⟨rfl, ?_⟩
    have hoR : Off R.m w w1 := ho.mono fun k e => .inl (by rw [e]; exact h1.mm)
    have hoR' : Off R.m w w' := hoR.trans ho' fun k e => .inl (by rw [e]; exact h1.mr)
    have hK := (h2.off hoR' (fun k hk e => h1.apart k e hk)).mono (R' := (R.plus w.heap.size w1.heap.size).plus w1.heap.size w'.heap.size) (fun k hk _ => .inl (.inl hk))
    refine ⟨(R.plus w.heap.size w1.heap.size).plus w1.heap.size w'.heap.size, ⟨m, lv', u2, u3, pv', iv', _, mk, pk, ik, Y, hN, hK⟩, ⟨fun _ h => .inl h, fun k h => ?_⟩, hoR'⟩
    rcases h with (h | h) | h
    · exact .inl h
    · exact .inr h.1
    · exact .inr (by omega)
  have hk1 : ((k : Int) != 1 && (k : Int) != 2 && (k : Int) != 3) = false := by
    have : k = 1 ∨ k = 2 ∨ k = 3 := by omega
    rcases this with rfl | rfl | rfl <;> rfl
  have HIn := Lib.hid hin
  have HSet := Lib.hid hset
  have HT := Lib.hid ht
  clear hin hset ht h1 h2 hjl
  have h3 : k = 1 ∨ k = 2 ∨ k = 3 := by omega
  go_enter Tryz.func44, Tryz.ntmps44
  have hm1 : decide ((md : Int) < 0) = false := by simp
  have hm2 : decide (4095 < md) = false := by simp; omega
  rcases h3 with rfl | rfl | rfl
  all_goals (
    go_wp2_with fail
    refine HIn.out.mono ?_
    rintro e w1 hp
    unfold TakenI at hp
    rw [HT.out] at hp
    obtain ⟨rfl, pv', iv', hm, ho⟩ := hp
    have HS := Lib.hid (HSet.out w1 pv' iv' hm ho)
    clear hm ho
    go_wp2_with (go_at_call 92; refine HS.out.mono ?_; rintro e w2 ⟨rfl, hst⟩)
    go_ret2
    exact ⟨rfl, hst⟩)
set_option maxRecDepth 100000 in
set_option maxHeartbeats 1000000 in
theorem rnew_any (I : Nat → Prop) (m : Nat) (p i : List Bool) (pv iv : Value) (w : World) (h : RMap w I m p i pv iv) (ha : ¬ I m) (hI : ∀ k, I k → k < w.heap.size) :
    Calls Tryz.prog 42 #[.pointer (some ⟨m, 0, none⟩)] w fun e w' => ∃ r, e = .returned (.pointer (some ⟨r, 0, none⟩)) ∧ (∃ R, RefI w' r ⟨p, i, List.replicate i.length RF.none⟩ ⟨p, i, List.replicate i.length RF.none⟩ R ∧ ∀ k, R.has k → I k ∨ k = m ∨ w.heap.size ≤ k) ∧ Off (fun k => k = m) w w' := by
  obtain ⟨i0, hi0, hz0, hz1, hz2⟩ := info_parts info_file
  have hf := h.few
  obtain ⟨n, hn⟩ : ∃ n, n = i.length := ⟨_, rfl⟩
  have hin := rinodes_any I m p i pv iv w h
  have hml := h.lt
  have hmk := fun w => run_make (P := Tryz.prog) w 132 131 i0 _ Tryz.underlying132 hi0 hz0 .i64 .i64 n n (by omega) (by omega) (by rw [hz2]; omega) (by omega)
  simp only [hz1, Int.toNat_natCast] at hmk
  have hnow : ∀ W, W = (w.alloc (.cells (madeCells #[.int .i64 0, .int .i64 0, .int .i64 0, .slice none 0 0, .slice none 0 0, .int .i64 0] (n * 6)) 131)).alloc (rstoO m (.slice (some ⟨w.heap.size, 0, none⟩) n n) (.pointer none) (.slice none 0 0)) →
      RNow W ⟨fun k => k = m ∨ k = w.heap.size + 1, fun k => I k ∨ k = w.heap.size⟩ (w.heap.size + 1) m ⟨p, i, List.replicate i.length RF.none⟩ (.slice (some ⟨w.heap.size, 0, none⟩) n n) (.pointer none) (.slice none 0 0) pv iv (List.replicate n (RF.none, .slice none 0 0, .slice none 0 0)) ∧ Below w.heap.size w W := by
    intro W hW
    have hb : Below w.heap.size w W := by rw [hW]; exact ((Below.refl _ _).alloc (Nat.le_refl _) _).alloc (by simp) _
    have hsz : W.heap.size = w.heap.size + 2 := by rw [hW]; simp
    have h0 : W.heap[w.heap.size]? = some (.cells (madeCells #[.int .i64 0, .int .i64 0, .int .i64 0, .slice none 0 0, .slice none 0 0, .int .i64 0] (n * 6)) 131 (0, 0)) := by
      rw [hW, Below.heap_alloc _ _ _ (by simp)]; exact heap_alloc_new _ _
    have h1 : W.heap[w.heap.size + 1]? = some (rstoO m (.slice (some ⟨w.heap.size, 0, none⟩) n n) (.pointer none) (.slice none 0 0)) := by
      rw [hW]
      have := heap_alloc_new (w.alloc (.cells (madeCells #[.int .i64 0, .int .i64 0, .int .i64 0, .slice none 0 0, .slice none 0 0, .int .i64 0] (n * 6)) 131)) (rstoO m (.slice (some ⟨w.heap.size, 0, none⟩) n n) (.pointer none) (.slice none 0 0))
      simpa using this
    refine ⟨⟨h1, .inr rfl, .inl rfl, (h.below hb).mono (fun k hk _ => .inl hk), ⟨?_, fun k hk => by cases hk; exact .inr rfl, fun x hx => ?_⟩, ?_, ⟨?_, fun f hf => ?_⟩, ?_, ?_⟩, hb⟩
    · rw [List.length_replicate]
      exact own_files h0 (Nat.zero_le _) (by omega)
    · rw [List.eq_of_mem_replicate hx]
      exact ⟨⟨OwnL.nil _ _ _, fun k hk => by cases hk⟩, ⟨OwnL.nil _ _ _, fun k hk => by cases hk⟩⟩
    · rw [List.map_replicate, hn]
    · exact List.length_replicate ..
    · rw [List.eq_of_mem_replicate hf]
      exact ⟨Nat.zero_le _, Nat.zero_le _⟩
    · rintro k (rfl | rfl) (e | e)
      · exact ha e
      · omega
      · have := hI _ e; omega
      · omega
    · rintro k ((rfl | rfl) | (e | rfl))
      · omega
      · omega
      · have := hI k e; omega
      · omega
  rw [← hn] at hin hnow
  have hnn : n ≤ 512 := by omega
  generalize hT : (⟨p, i, List.replicate n RF.none⟩ : RS) = T at hnow
  rw [← hn, hT]
  have HNow := Lib.hid hnow
  have HIn := Lib.hid hin
  clear hnow hin h hn hT hf ha hI
  go_enter Tryz.func42, Tryz.ntmps42
  go_wp2_with (go_at_call 84; refine HIn.out.mono ?_; rintro e w1 ⟨rfl, rfl⟩)
  obtain ⟨hN, hb⟩ := HNow.out _ rfl
  have hcm := rcommit_any _ _ _ _ _ _ _ _ _ _ _ hN
  have hz := hb.size
  have HB := Lib.hid hb
  clear hN hb
  refine hcm.mono ?_
  rintro e w2 ⟨rfl, R2, g2, t2, o2⟩
  have hfin : (∃ R, RefI w2 (w1.heap.size + 1) T T R ∧ ∀ k, R.has k → I k ∨ k = m ∨ w1.heap.size ≤ k) ∧ Off (fun k => k = m) w1 w2 := by
    refine ⟨⟨R2, g2, fun k hk => ?_⟩, (Off.of_below HB.out _).trans o2 fun k e => ?_⟩
    · rcases t2.has hk with hk | hk
      · rcases hk with (hk | hk) | (hk | hk)
        · exact .inr (.inl hk)
        · exact .inr (.inr (by omega))
        · exact .inl hk
        · exact .inr (.inr (by omega))
      · exact .inr (.inr (by omega))
    · rcases e with e | e
      · exact .inl e
      · exact .inr (by omega)
  have HFin := Lib.hid hfin
  clear hfin g2 t2 o2 hcm HB HNow
  go_wp2_with fail
  go_ret
  exact ⟨_, rfl, HFin.out⟩
end Go.Proofs.YtfgkgoddjemnfaaGreatDoor

namespace Go.Proofs.YtfgkgoddjemnfaaGreatDoor
open Go.RowKit Go.Shelf Pa
abbrev Ent := Str × Nat
def EntOk (e : Ent) : Prop := e.1.length ≤ 59 ∧ e.2 < 512 ∧ (e.2 = 0 → e.1 = [])
def EntsOk (es : List Ent) : Prop := ∀ e ∈ es, EntOk e
def encE (es : List Ent) : Str := es.flatMap fun e => encS e.1 e.2
theorem encE_append (a b : List Ent) : encE (a ++ b) = encE a ++ encE b := List.flatMap_append
theorem encE_cons (e : Ent) (b : List Ent) : encE (e :: b) = encS e.1 e.2 ++ encE b := List.flatMap_cons
theorem EntsOk.cons {e : Ent} {es : List Ent} : EntsOk (e :: es) ↔ EntOk e ∧ EntsOk es := by unfold EntsOk; simp
theorem EntsOk.append {a b : List Ent} : EntsOk (a ++ b) ↔ EntsOk a ∧ EntsOk b := by
  unfold EntsOk
  constructor
  · exact fun h => ⟨fun e he => h e (List.mem_append_left _ he), fun e he => h e (List.mem_append_right _ he)⟩
  · rintro ⟨h1, h2⟩ e he
    rcases List.mem_append.1 he with he | he
    · exact h1 e he
    · exact h2 e he
theorem encE_length : ∀ {es : List Ent}, EntsOk es → (encE es).length = 64 * es.length
  | [], _ => rfl
  | e :: es, h => by
    have ih := encE_length (EntsOk.cons.1 h).2
    rw [encE_cons, List.length_append, ih, encS_length _ _ (EntsOk.cons.1 h).1.1, List.length_cons]; omega
/-- A list about its k-th entry. -/
theorem ent_split {es : List Ent} {k : Nat} {e : Ent} (h : es[k]? = some e) : es = es.take k ++ e :: es.drop (k + 1) ∧ (es.take k).length = k ∧ k < es.length := by
  obtain ⟨hk, he⟩ := List.getElem?_eq_some_iff.1 h
  refine ⟨?_, by rw [List.length_take]; omega, hk⟩
  rw [← he, ← List.drop_eq_getElem_cons hk, List.take_append_drop]
theorem encS_dec {nm : Str} {i : Nat} (h : EntOk (nm, i)) : ((encS nm i).drop 5).take (min ((encS nm i).getD 4 0).toNat 59) = nm ∧ getN ((encS nm i).take 4) = i := by
  obtain ⟨h1, h2, h3⟩ := h
  simp only at h1 h2 h3
  unfold encS
  by_cases h0 : i = 0
  · subst h0
    rw [if_pos rfl, h3 rfl]
    exact ⟨rfl, rfl⟩
  · rw [if_neg h0]
    have hb : ∀ a b c : UInt8, ((((List.replicate 64 (0 : UInt8)).set 2 a).set 3 b).set 4 c).take 5 = [0, 0, a, b, c] := fun a b c => rfl
    unfold laidAt
    rw [hb]
    have h4 : (UInt8.ofNat nm.length).toNat = nm.length := by
      have : (UInt8.ofNat nm.length).toNat = nm.length % 256 := UInt8.toNat_ofNat' ..
      omega
    have h5 : (UInt8.ofNat (i / 256)).toNat = i / 256 := by
      have : (UInt8.ofNat (i / 256)).toNat = i / 256 % 256 := UInt8.toNat_ofNat' ..
      omega
    have h6 : (UInt8.ofNat i).toNat = i % 256 := UInt8.toNat_ofNat' ..
    refine ⟨?_, ?_⟩
    · simp only [List.cons_append, List.nil_append, List.getD_cons_succ, List.getD_cons_zero, List.drop_succ_cons, List.drop_zero, h4]
      rw [Nat.min_eq_left h1, List.take_left']
      rfl
    · simp only [List.cons_append, List.nil_append, List.take_succ_cons, List.take_zero, getN, List.foldl_cons, List.foldl_nil, h5, h6]
      show (((0 * 256 + 0) * 256 + 0) * 256 + i / 256) * 256 + i % 256 = i
      omega
theorem decS_at {p x q : Str} {k : Nat} (hp : p.length = 64 * k) (hx : x.length = 64) : decS (p ++ (x ++ q)) k = ⟨64 * k, (x.drop 5).take (min (x.getD 4 0).toNat 59), getN (x.take 4)⟩ := by
  unfold decS
  have h1 : (p ++ (x ++ q)).drop (64 * k) = x ++ q := by rw [← hp, List.drop_left]
  have h2 : (p ++ (x ++ q)).drop (64 * k + 5) = (x ++ q).drop 5 := by rw [← List.drop_drop, h1]
  have h3 : (p ++ (x ++ q)).getD (64 * k + 4) 0 = x.getD 4 0 := by
    rw [List.getD_eq_getElem?_getD, List.getElem?_append_right (by omega), List.getElem?_append_left (by omega), List.getD_eq_getElem?_getD]
    congr 2; omega
  rw [h1, h2, h3, List.drop_append_of_le_length (by omega), List.take_append_of_le_length (by rw [List.length_drop]; omega), List.take_append_of_le_length (by omega)]
theorem decS_encE {es : List Ent} {k : Nat} {e : Ent} (h : EntsOk es) (he : es[k]? = some e) : decS (encE es) k = ⟨64 * k, e.1, e.2⟩ := by
  obtain ⟨h1, h2, h3⟩ := ent_split he
  have hok := h
  rw [h1] at hok
  obtain ⟨ha, hb⟩ := EntsOk.append.1 hok
  have he := (EntsOk.cons.1 hb).1
  rw [h1, encE_append, encE_cons, decS_at (by rw [encE_length ha, h2]) (encS_length _ _ he.1), (encS_dec he).1, (encS_dec he).2]
/-- Entries with their places from the n-th on. -/
def slE : Nat → List Ent → List Sl
  | _, [] => []
  | n, e :: es => ⟨64 * n, e.1, e.2⟩ :: slE (n + 1) es
theorem slE_at : ∀ (n : Nat) (es : List Ent) (k : Nat), (slE n es)[k]? = es[k]?.map fun e => ⟨64 * (n + k), e.1, e.2⟩
  | _, [], k => by simp [slE]
  | n, e :: es, 0 => rfl
  | n, e :: es, k + 1 => by
    rw [slE, List.getElem?_cons_succ, List.getElem?_cons_succ, slE_at (n + 1) es k, show n + 1 + k = n + (k + 1) from by omega]
theorem slotsP_encE {es : List Ent} (h : EntsOk es) : slotsP (encE es) = slE 0 es := by
  refine List.ext_getElem? fun k => ?_
  have hl : (encE es).length / 64 = es.length := by rw [encE_length h]; omega
  rw [slE_at]
  unfold slotsP
  rw [List.getElem?_map, hl, Nat.zero_add]
  by_cases hk : k < es.length
  · rw [List.getElem?_range hk, List.getElem?_eq_getElem hk]
    exact congrArg some (decS_encE h (List.getElem?_eq_getElem hk))
  · rw [List.getElem?_eq_none (by rw [List.length_range]; omega), List.getElem?_eq_none (by omega)]; rfl
/-- The used entries. -/
def usedE (es : List Ent) : List Ent := es.filter fun e => decide (e.2 ≠ 0)
theorem namesP_slE : ∀ (n : Nat) (es : List Ent), namesP (slE n es) = (usedE es).map (·.1)
  | _, [] => rfl
  | n, e :: es => by
    have ih := namesP_slE (n + 1) es
    unfold namesP usedE at ih ⊢
    rw [slE, List.filter_cons, List.filter_cons]
    by_cases h : e.2 = 0 <;> simp [h] <;> simpa using ih
theorem usedP_slE : ∀ (n : Nat) (es : List Ent), usedP (slE n es) = (usedE es).length
  | _, [] => rfl
  | n, e :: es => by
    have ih := usedP_slE (n + 1) es
    unfold usedP usedE at ih ⊢
    rw [slE, List.filter_cons, List.filter_cons]
    by_cases h : e.2 = 0 <;> simp [h] <;> simpa using ih
theorem mem_used {es : List Ent} {e : Ent} : e ∈ usedE es ↔ e ∈ es ∧ e.2 ≠ 0 := by unfold usedE; simp
theorem usedE_append (a b : List Ent) : usedE (a ++ b) = usedE a ++ usedE b := List.filter_append ..
theorem usedE_hit {e : Ent} (es : List Ent) (h : e.2 ≠ 0) : usedE (e :: es) = e :: usedE es := by unfold usedE; rw [List.filter_cons_of_pos (by simpa using h)]
theorem usedE_miss {e : Ent} (es : List Ent) (h : e.2 = 0) : usedE (e :: es) = usedE es := by unfold usedE; rw [List.filter_cons_of_neg (by simpa using h)]
theorem findP_encE {es : List Ent} (h : EntsOk es) (nm : Str) : match findP (encE es) nm with
    | some x => ∃ k i, es[k]? = some (nm, i) ∧ i ≠ 0 ∧ x = ⟨64 * k, nm, i⟩
    | none => ∀ i, (nm, i) ∉ usedE es := by
  unfold findP
  rw [slotsP_encE h]
  cases hf : (slE 0 es).find? fun x => decide (x.i ≠ 0) && decide (x.name = nm) with
  | some x =>
    have h1 := List.find?_some hf
    obtain ⟨k, hk⟩ := List.getElem?_of_mem (List.mem_of_find?_eq_some hf)
    rw [slE_at, Nat.zero_add] at hk
    cases he : es[k]? with
    | none => rw [he] at hk; cases hk
    | some e =>
      rw [he] at hk
      have hk := Option.some.inj hk
      subst hk
      simp only [Bool.and_eq_true, decide_eq_true_eq] at h1
      obtain ⟨h1, h2⟩ := h1
      obtain ⟨e1, e2⟩ := e
      simp only at h1 h2
      subst h2
      exact ⟨k, e2, he, h1, rfl⟩
  | none =>
    intro i hi
    obtain ⟨hm, h0⟩ := mem_used.1 hi
    obtain ⟨k, hk⟩ := List.getElem?_of_mem hm
    rw [List.find?_eq_none] at hf
    have : (⟨64 * (0 + k), nm, i⟩ : Sl) ∈ slE 0 es := List.mem_of_getElem? (i := k) (by rw [slE_at, hk]; rfl)
    have := hf _ this
    simp at this
    exact h0 this
theorem addAt_encE {es : List Ent} (h : EntsOk es) : ∃ k, addAt (encE es) = 64 * k ∧ (k = es.length ∨ ∃ nm, es[k]? = some (nm, 0)) := by
  unfold addAt freeP
  rw [slotsP_encE h]
  cases hf : (slE 0 es).find? fun x => decide (x.i = 0) with
  | some x =>
    have h1 := List.find?_some hf
    obtain ⟨k, hk⟩ := List.getElem?_of_mem (List.mem_of_find?_eq_some hf)
    rw [slE_at, Nat.zero_add] at hk
    cases he : es[k]? with
    | none => rw [he] at hk; cases hk
    | some e =>
      rw [he] at hk
      have hk := Option.some.inj hk
      subst hk
      obtain ⟨e1, e2⟩ := e
      simp only [decide_eq_true_eq] at h1
      subst h1
      exact ⟨k, rfl, .inr ⟨e1, he⟩⟩
  | none => exact ⟨es.length, encE_length h, .inl rfl⟩
/-- An entry is laid, at its place or behind all. -/
def putE (es : List Ent) (k : Nat) (e : Ent) : List Ent := es.take k ++ e :: es.drop (k + 1)
theorem putE_ok {es : List Ent} {k : Nat} {e : Ent} (h : EntsOk es) (he : EntOk e) : EntsOk (putE es k e) :=
  EntsOk.append.2 ⟨fun x hx => h x (List.mem_of_mem_take hx), EntsOk.cons.2 ⟨he, fun x hx => h x (List.mem_of_mem_drop hx)⟩⟩
theorem putE_length {es : List Ent} {k : Nat} (e : Ent) (hk : k ≤ es.length) : (putE es k e).length = max es.length (k + 1) := by
  unfold putE
  rw [List.length_append, List.length_cons, List.length_take, List.length_drop]; omega
theorem laid_putE {es : List Ent} {k : Nat} {e : Ent} (h : EntsOk es) (he : EntOk e) (hk : k ≤ es.length) : laidAt (fitTo (encE es) (max (encE es).length (64 * k + (encS e.1 e.2).length))) (64 * k) (encS e.1 e.2) = encE (putE es k e) := by
  have hl := encE_length h
  have hx := encS_length e.1 e.2 he.1
  have hsp : encE es = encE (es.take k) ++ encE (es.drop k) := by rw [← encE_append, List.take_append_drop]
  have hlt : (encE (es.take k)).length = 64 * k := by rw [encE_length (fun x hx => h x (List.mem_of_mem_take hx)), List.length_take]; omega
  have hsp2 : encE es = encE (es.take (k + 1)) ++ encE (es.drop (k + 1)) := by rw [← encE_append, List.take_append_drop]
  unfold putE
  rw [encE_append, encE_cons]
  unfold laidAt
  rw [hx]
  by_cases hlast : k = es.length
  · have hd : es.drop (k + 1) = [] := List.drop_eq_nil_of_le (by omega)
    have ht : es.take k = es := List.take_of_length_le (by omega)
    rw [hd, ht, hl, show max (64 * es.length) (64 * k + 64) = 64 * es.length + 64 from by omega]
    unfold fitTo
    rw [hl, show 64 * es.length + 64 - 64 * es.length = 64 from by omega, List.take_of_length_le (l := encE es) (by omega), hlast, List.drop_eq_nil_of_le (by rw [List.length_append, hl, List.length_replicate]; exact Nat.le_refl _), List.take_append_of_le_length (by omega), List.take_of_length_le (l := encE es) (by omega), List.append_assoc]
    rfl
  · have hmx : max (encE es).length (64 * k + 64) = (encE es).length := by omega
    have hft : fitTo (encE es) (encE es).length = encE es := by unfold fitTo; rw [List.take_length, Nat.sub_self]; simp
    have hlt2 : (encE (es.take (k + 1))).length = 64 * k + 64 := by rw [encE_length (fun x hx => h x (List.mem_of_mem_take hx)), List.length_take]; omega
    rw [hmx, hft, List.append_assoc]
    congr 1
    · rw [hsp, ← hlt, List.take_left]
    · congr 1
      conv => lhs; rw [hsp2, ← hlt2, List.drop_left]
theorem usedE_put {es : List Ent} {k i : Nat} {nm : Str} (hk : k = es.length ∨ ∃ nm', es[k]? = some (nm', 0)) (hi : i ≠ 0) : (usedE (putE es k (nm, i))).Perm ((nm, i) :: usedE es) := by
  unfold putE
  rcases hk with hk | ⟨nm', hk⟩
  · rw [List.drop_eq_nil_of_le (by omega), List.take_of_length_le (by omega), usedE_append, usedE_hit _ (by exact hi)]
    exact List.perm_append_comm
  · have h1 := (ent_split hk).1
    conv => rhs; rw [h1, usedE_append, usedE_miss _ (by rfl)]
    rw [usedE_append, usedE_hit _ (by exact hi)]
    exact List.perm_middle
theorem usedE_del {es : List Ent} {k : Nat} {e : Ent} (hk : es[k]? = some e) (he : e.2 ≠ 0) : (e :: usedE (putE es k ([], 0))).Perm (usedE es) := by
  have h1 := (ent_split hk).1
  conv => rhs; rw [h1, usedE_append, usedE_hit _ he]
  unfold putE
  rw [usedE_append, usedE_miss _ (by rfl)]
  exact List.perm_middle.symm
end Go.Proofs.YtfgkgoddjemnfaaGreatDoor

namespace Go.Proofs.YtfgkgoddjemnfaaGreatDoor
open Go.RowKit Go.Shelf Pa
/-- What is found of a name among used entries: its inode, the error. -/
def fnd (u : List Ent) (nm : Str) : Nat × Nat := match u.find? (fun e => decide (e.1 = nm)) with | some e => (e.2, 0) | none => (0, 4)
theorem fnd_cons (e : Ent) (u : List Ent) (nm : Str) : fnd (e :: u) nm = if e.1 = nm then (e.2, 0) else fnd u nm := by
  unfold fnd
  rw [List.find?_cons]
  by_cases h : e.1 = nm <;> simp [h]
theorem fnd_mem : ∀ {u : List Ent} {nm : Str} {i : Nat}, (u.map (·.1)).Nodup → (nm, i) ∈ u → fnd u nm = (i, 0)
  | [], _, _, _, h => by cases h
  | e :: u, nm, i, hn, h => by
    rw [fnd_cons]
    rw [List.map_cons, List.nodup_cons] at hn
    rcases List.mem_cons.1 h with h | h
    · rw [← h, if_pos rfl]
    · rw [if_neg (fun e2 => hn.1 (by rw [e2]; exact List.mem_map.2 ⟨_, h, rfl⟩))]
      exact fnd_mem hn.2 h
theorem fnd_not {u : List Ent} {nm : Str} (h : ∀ i, (nm, i) ∉ u) : fnd u nm = (0, 4) := by
  unfold fnd
  have : u.find? (fun e => decide (e.1 = nm)) = none := by
    rw [List.find?_eq_none]
    rintro ⟨a, b⟩ he e
    simp only [decide_eq_true_eq] at e
    subst e
    exact h b he
  rw [this]
theorem fnd_perm {u v : List Ent} {nm : Str} (h : u.Perm v) (hn : (u.map (·.1)).Nodup) : fnd u nm = fnd v nm := by
  by_cases he : ∃ i, (nm, i) ∈ u
  · obtain ⟨i, hi⟩ := he
    rw [fnd_mem hn hi, fnd_mem ((h.map _).nodup_iff.1 hn) (h.mem_iff.1 hi)]
  · rw [fnd_not fun i hi => he ⟨i, hi⟩, fnd_not fun i hi => he ⟨i, h.mem_iff.2 hi⟩]
theorem fnd_two (u : List Ent) (nm : Str) : (∃ i, (nm, i) ∈ u ∧ fnd u nm = (i, 0)) ∨ ((∀ i, (nm, i) ∉ u) ∧ fnd u nm = (0, 4)) := by
  induction u with
  | nil => exact .inr ⟨fun i hi => (by cases hi), rfl⟩
  | cons e u ih =>
    rw [fnd_cons]
    by_cases h : e.1 = nm
    · rw [if_pos h]
      exact .inl ⟨e.2, by rw [← h]; simp, rfl⟩
    · rw [if_neg h]
      rcases ih with ⟨i, h1, h2⟩ | ⟨h1, h2⟩
      · exact .inl ⟨i, List.mem_cons_of_mem _ h1, h2⟩
      · exact .inr ⟨fun i hi => by
          rcases List.mem_cons.1 hi with hi | hi
          · exact h (by rw [← hi])
          · exact h1 i hi, h2⟩
structure DirT (T : RS) (es : Nat → List Ent) : Prop where
  ino : T.i = [true, true, true, true] ++ List.replicate 12 false
  plen : T.p.length = 100
  k1 : (T.file 1).kind = 2
  k2 : (T.file 2).kind = 1
  k3 : (T.file 3).kind = 2
  b : ∀ j, (T.file j).bytes = encE (es j)
  ok : ∀ j, EntsOk (es j)
  nm : ∀ j, ∀ e ∈ usedE (es j), nameOk e.1 = true
  nodup : ∀ j, ((usedE (es j)).map (·.1)).Nodup
  rest : ∀ j, j ≠ 1 → j ≠ 3 → es j = []
  free : nfree T.p + npg (64 * (es 1).length) + npg (64 * (es 3).length) = 95
theorem DirT.get {T : RS} {es : Nat → List Ent} (h : DirT T es) (j : Nat) : T.i.getD j false = decide (j < 4) := by
  rw [h.ino]
  match j with
  | 0 => rfl
  | 1 => rfl
  | 2 => rfl
  | 3 => rfl
  | j + 4 =>
    rw [List.getD_eq_getElem?_getD, List.getElem?_append_right (by simp), List.getElem?_replicate]
    split <;> simp
theorem DirT.inodes {T : RS} {es : Nat → List Ent} (h : DirT T es) : T.inodes = 16 := by unfold RS.inodes; rw [h.ino]; rfl
theorem DirT.live {T : RS} {es : Nat → List Ent} (h : DirT T es) (j : Nat) : T.live j ↔ j = 1 ∨ j = 2 ∨ j = 3 := by
  unfold RS.live
  rw [h.get]
  simp only [decide_eq_true_eq]
  omega
theorem DirT.look0 {T : RS} {es : Nat → List Ent} (h : DirT T es) (d : Int) : lookE T d = 0 ↔ d = 1 ∨ d = 3 := by
  constructor
  · intro h0
    obtain ⟨h1, h2⟩ := lookE_ok h0
    obtain ⟨l1, l2, _, _⟩ := look_live h1
    rcases (h.live _).1 l1 with e | e | e
    · left; omega
    · rw [e, h.k2] at h2; cases h2
    · right; omega
  · have hE : ∀ j : Nat, (j = 1 ∨ j = 3) → lookE T (j : Int) = 0 := by
      intro j hj
      have hk : (T.file j).kind = 2 := by
        rcases hj with rfl | rfl
        · exact h.k1
        · exact h.k3
      have hl : T.look (j : Int) = 0 := by
        unfold RS.look
        rw [if_neg (by rw [h.inodes]; omega), if_neg]
        rintro (e | e)
        · rw [Int.toNat_natCast, h.get] at e
          simp at e; omega
        · rw [Int.toNat_natCast, hk] at e; cases e
      unfold lookE
      rw [if_neg (fun e => e hl), if_neg (fun e => e (by rw [Int.toNat_natCast]; exact hk))]
    rintro (rfl | rfl)
    · exact hE 1 (.inl rfl)
    · exact hE 3 (.inr rfl)
theorem DirT.lookB {T : RS} {es : Nat → List Ent} (h : DirT T es) {d : Int} (h0 : lookE T d = 0) : lookB T d = encE (es d.toNat) := by
  unfold Go.Proofs.YtfgkgoddjemnfaaGreatDoor.lookB
  rw [if_pos h0, h.b]
theorem DirT.findR {T : RS} {es : Nat → List Ent} (h : DirT T es) (d : Int) (nm : Str) : ((findR T d nm).1.i, (findR T d nm).2.2) = if lookE T d ≠ 0 then (0, lookE T d) else if nameOk nm = false then (0, 8) else fnd (usedE (es d.toNat)) nm := by
  unfold Go.Proofs.YtfgkgoddjemnfaaGreatDoor.findR
  by_cases h0 : lookE T d = 0
  · have e0 : ¬ (lookE T d ≠ 0) := fun e => e h0
    simp only [if_neg e0]
    by_cases h1 : nameOk nm = false
    · simp only [if_pos h1]
    · simp only [if_neg h1]
      rw [h.lookB h0]
      have hf := findP_encE (h.ok d.toNat) nm
      cases hp : findP (encE (es d.toNat)) nm with
      | some x =>
        rw [hp] at hf
        obtain ⟨k, i, e1, e2, e3⟩ := hf
        rw [fnd_mem (h.nodup _) (mem_used.2 ⟨List.mem_of_getElem? e1, e2⟩), e3]
      | none =>
        rw [hp] at hf
        rw [fnd_not hf]
  · have e0 : lookE T d ≠ 0 := h0
    simp only [if_pos e0]
theorem DirT.findE {T : RS} {es : Nat → List Ent} (h : DirT T es) (d : Int) (nm : Str) : (Go.Proofs.YtfgkgoddjemnfaaGreatDoor.findR T d nm).2.2 = if lookE T d ≠ 0 then lookE T d else if nameOk nm = false then 8 else (fnd (usedE (es d.toNat)) nm).2 := by
  have := congrArg Prod.snd (h.findR d nm)
  simp only at this
  rw [this]
  split
  · rfl
  · split <;> rfl
theorem DirT.addE {T : RS} {es : Nat → List Ent} (h : DirT T es) (d i : Int) (nm : Str) : addE T d nm i = if lookE T d ≠ 0 then lookE T d else if nameOk nm = false then 8 else if i < 1 ∨ 512 ≤ i then 2 else if (fnd (usedE (es d.toNat)) nm).2 = 0 then 5 else 0 := by
  unfold Go.Proofs.YtfgkgoddjemnfaaGreatDoor.addE
  rw [h.findE]
  by_cases h0 : lookE T d = 0
  · have e0 : ¬ (lookE T d ≠ 0) := fun e => e h0
    simp only [if_neg e0]
    by_cases h1 : nameOk nm = false
    · simp only [if_pos h1]; rfl
    · simp only [if_neg h1]
      rcases fnd_two (usedE (es d.toNat)) nm with ⟨i, _, e⟩ | ⟨_, e⟩ <;> rw [e] <;> rfl
  · have e0 : lookE T d ≠ 0 := h0
    simp only [if_pos e0]
theorem EntsOk.npg {es : List Ent} (h : es.length ≤ 61) : nd (npg (64 * es.length)) = npg (64 * es.length) := by
  unfold nd
  rw [if_neg (by unfold Go.Proofs.YtfgkgoddjemnfaaGreatDoor.npg; omega)]
theorem DirT.put {C : Ca} {T : RS} {es : Nat → List Ent} (h : DirT T es) (hr : Rel C T (fun _ => False)) (ht : T.Tight) {j k : Nat} (hj : j = 1 ∨ j = 3) (hc : ∀ j, (es j).length ≤ 60) {e : Ent} (he : EntOk e) (hk : k ≤ (es j).length)
    (hnm : ∀ x ∈ usedE (putE (es j) k e), nameOk x.1 = true) (hnd : ((usedE (putE (es j) k e)).map (·.1)).Nodup) :
    64 * k + 64 ≤ 70656 ∧ ∃ T', T.write j (64 * k) (encS e.1 e.2) = some T' ∧ DirT T' (fun m => if m = j then putE (es j) k e else es m) := by
  have hl : T.live j := (h.live j).2 (by omega)
  have hcj := hc j
  have hel := encS_length e.1 e.2 he.1
  have hbl : (T.file j).bytes.length = 64 * (es j).length := by rw [h.b, encE_length (h.ok j)]
  have hpl := putE_length (k := k) e hk
  have hmx : max (64 * (es j).length) (64 * k + 64) = 64 * (putE (es j) k e).length := by omega
  have hfr := h.free
  have h1 := hc 1
  have h3 := hc 3
  have n0 : nd (npg (64 * (es j).length)) = npg (64 * (es j).length) := EntsOk.npg (by omega)
  have n1 : nd (npg (64 * (putE (es j) k e).length)) = npg (64 * (putE (es j) k e).length) := EntsOk.npg (by omega)
  have b1 : npg (64 * (es 1).length) ≤ 8 := by unfold npg; omega
  have b3 : npg (64 * (es 3).length) ≤ 8 := by unfold npg; omega
  have b4 : npg (64 * (putE (es j) k e).length) ≤ 8 := by unfold npg; omega
  refine ⟨by omega, ?_⟩
  obtain ⟨T', hw, w⟩ := hr.writeN (j := j) (at_ := 64 * k) (b := encS e.1 e.2) ht hl (by rw [hel]; omega) (by rw [hbl, hel, hmx, n0, n1]; omega)
  refine ⟨T', hw, ?_⟩
  have hfree := w.free
  rw [hbl, hel, hmx, n0, n1] at hfree
  have hkd : ∀ m, (T'.file m).kind = (T.file m).kind := fun m => by
    by_cases e : m = j
    · rw [e]; exact w.like.kind
    · rw [w.rest m e]
  refine ⟨by rw [w.i]; exact h.ino, by rw [w.plen]; exact h.plen, by rw [hkd]; exact h.k1, by rw [hkd]; exact h.k2, by rw [hkd]; exact h.k3, fun m => ?_, fun m => ?_, fun m => ?_, fun m => ?_, fun m m1 m3 => ?_, ?_⟩
  · by_cases e : m = j
    · rw [if_pos e, e, w.bytes, h.b]; exact laid_putE (h.ok j) he hk
    · rw [if_neg e, w.rest m e]; exact h.b m
  · by_cases e : m = j
    · rw [if_pos e]; exact putE_ok (h.ok j) he
    · rw [if_neg e]; exact h.ok m
  · by_cases e : m = j
    · rw [if_pos e]; exact hnm
    · rw [if_neg e]; exact h.nm m
  · by_cases e : m = j
    · rw [if_pos e]; exact hnd
    · rw [if_neg e]; exact h.nodup m
  · rw [if_neg (by omega)]; exact h.rest m m1 m3
  · rcases hj with rfl | rfl
    · show nfree T'.p + npg (64 * (putE (es 1) k e).length) + npg (64 * (es 3).length) = 95; omega
    · show nfree T'.p + npg (64 * (es 1).length) + npg (64 * (putE (es 3) k e).length) = 95; omega
theorem DirT.add {C : Ca} {T : RS} {es : Nat → List Ent} (h : DirT T es) (hr : Rel C T (fun _ => False)) (ht : T.Tight) {d i : Int} {nm : Str} (hc : ∀ j, (es j).length ≤ 60) (he : Go.Proofs.YtfgkgoddjemnfaaGreatDoor.addE T d nm i = 0) :
    addAt (Go.Proofs.YtfgkgoddjemnfaaGreatDoor.lookB T d) + 64 ≤ 70656 ∧ ∃ T' es', T.write d.toNat (addAt (Go.Proofs.YtfgkgoddjemnfaaGreatDoor.lookB T d)) (encS nm i.toNat) = some T' ∧ DirT T' es' ∧ (∀ j, j ≠ d.toNat → es' j = es j) ∧ (usedE (es' d.toNat)).Perm ((nm, i.toNat) :: usedE (es d.toNat)) ∧ ∀ j, (es' j).length ≤ (es j).length + 1 := by
  have ha := h.addE d i nm
  rw [he] at ha
  by_cases h0 : lookE T d = 0
  case neg => rw [if_pos h0] at ha; exact absurd ha.symm h0
  rw [if_neg (fun e => e h0)] at ha
  by_cases h1 : nameOk nm = false
  case pos => rw [if_pos h1] at ha; cases ha
  rw [if_neg h1] at ha
  by_cases h2 : i < 1 ∨ 512 ≤ i
  case pos => rw [if_pos h2] at ha; cases ha
  rw [if_neg h2] at ha
  have h1 : nameOk nm = true := by simpa using h1
  have hf : ∀ i, (nm, i) ∉ usedE (es d.toNat) := by
    rcases fnd_two (usedE (es d.toNat)) nm with ⟨i, _, e⟩ | ⟨e, _⟩
    · rw [e, if_pos rfl] at ha; cases ha
    · exact e
  have hj : d.toNat = 1 ∨ d.toNat = 3 := by
    rcases (h.look0 d).1 h0 with rfl | rfl
    · exact .inl rfl
    · exact .inr rfl
  obtain ⟨k, e1, hk⟩ := addAt_encE (h.ok d.toNat)
  have hkl : k ≤ (es d.toNat).length := by
    rcases hk with hk | ⟨_, hk⟩
    · omega
    · exact Nat.le_of_lt (List.getElem?_eq_some_iff.1 hk).1
  have hok : EntOk (nm, i.toNat) := by
    refine ⟨?_, by show i.toNat < 512; omega, fun e => by have : i.toNat = 0 := e; omega⟩
    unfold nameOk at h1
    simp at h1
    show nm.length ≤ 59; omega
  have hp := usedE_put (nm := nm) (i := i.toNat) hk (by omega)
  rw [h.lookB h0, e1]
  obtain ⟨a1, T', a2, a3⟩ := h.put hr ht hj hc hok hkl (fun x hx => by
    rcases List.mem_cons.1 (hp.mem_iff.1 hx) with hx | hx
    · rw [hx]; exact h1
    · exact h.nm _ x hx) (by
    rw [(hp.map _).nodup_iff, List.map_cons, List.nodup_cons]
    refine ⟨fun hm => ?_, h.nodup _⟩
    obtain ⟨⟨a, b⟩, h3, h4⟩ := List.mem_map.1 hm
    simp only at h4
    subst h4
    exact hf b h3)
  refine ⟨a1, T', _, a2, a3, fun j hj => if_neg hj, by simpa using hp, fun j => ?_⟩
  by_cases e : j = d.toNat
  · simp only [e, if_true]; rw [putE_length _ hkl]; omega
  · simp only [e, if_false]; omega
theorem DirT.drop {C : Ca} {T : RS} {es : Nat → List Ent} (h : DirT T es) (hr : Rel C T (fun _ => False)) (ht : T.Tight) {d : Int} {nm : Str} (hc : ∀ j, (es j).length ≤ 60) (he : (Go.Proofs.YtfgkgoddjemnfaaGreatDoor.findR T d nm).2.2 = 0) :
    ∃ T' es', (dropT T d nm = some T' ∧ (Go.Proofs.YtfgkgoddjemnfaaGreatDoor.findR T d nm).1.at_ + 64 ≤ 70656 ∧ Go.Proofs.YtfgkgoddjemnfaaGreatDoor.lookB T d ≠ []) ∧ DirT T' es' ∧ (∀ j, j ≠ d.toNat → es' j = es j) ∧ ((nm, (Go.Proofs.YtfgkgoddjemnfaaGreatDoor.findR T d nm).1.i) :: usedE (es' d.toNat)).Perm (usedE (es d.toNat)) ∧ ∀ j, (es' j).length ≤ (es j).length := by
  have ha := h.findE d nm
  rw [he] at ha
  by_cases h0 : lookE T d = 0
  case neg => rw [if_pos h0] at ha; exact absurd ha.symm h0
  rw [if_neg (fun e => e h0)] at ha
  by_cases h1 : nameOk nm = false
  case pos => rw [if_pos h1] at ha; cases ha
  have hj : d.toNat = 1 ∨ d.toNat = 3 := by
    rcases (h.look0 d).1 h0 with rfl | rfl
    · exact .inl rfl
    · exact .inr rfl
  have hf := findP_encE (h.ok d.toNat) nm
  have hB := h.lookB h0
  have hfr : ∃ k i, (es d.toNat)[k]? = some (nm, i) ∧ i ≠ 0 ∧ (Go.Proofs.YtfgkgoddjemnfaaGreatDoor.findR T d nm).1 = ⟨64 * k, nm, i⟩ := by
    unfold Go.Proofs.YtfgkgoddjemnfaaGreatDoor.findR at he ⊢
    rw [if_neg (fun e => e h0), if_neg h1, hB] at he ⊢
    cases hp : findP (encE (es d.toNat)) nm with
    | some x =>
      rw [hp] at hf
      obtain ⟨k, i, e1, e2, e3⟩ := hf
      exact ⟨k, i, e1, e2, e3⟩
    | none => rw [hp] at he; cases he
  obtain ⟨k, i, e1, e2, e3⟩ := hfr
  have hkl : k < (es d.toNat).length := (List.getElem?_eq_some_iff.1 e1).1
  have hcj := hc d.toNat
  have hl : T.live d.toNat := (h.live _).2 (by omega)
  have hbl : (T.file d.toNat).bytes.length = 64 * (es d.toNat).length := by rw [h.b, encE_length (h.ok _)]
  have hne : Go.Proofs.YtfgkgoddjemnfaaGreatDoor.lookB T d ≠ [] := fun e => by
    rw [hB] at e
    have := encE_length (h.ok d.toNat)
    rw [e] at this
    simp at this; omega
  have hu : usedP (slotsP (Go.Proofs.YtfgkgoddjemnfaaGreatDoor.lookB T d)) = (usedE (es d.toNat)).length := by rw [hB, slotsP_encE (h.ok _), usedP_slE]
  unfold dropT
  rw [hu, e3]
  by_cases h1 : (usedE (es d.toNat)).length = 1
  · rw [if_pos h1]
    have n0 : nd (npg (64 * (es d.toNat).length)) = npg (64 * (es d.toNat).length) := EntsOk.npg (by omega)
    have hz : nd (npg 0) = 0 := by decide
    obtain ⟨T', a1, a2, a3, a4⟩ := hr.resizeN (j := d.toNat) (size := 0) (fun _ e => e.elim) ht hl (by omega) (by rw [hz]; omega)
    rw [hbl, n0, hz] at a3
    have hfree := h.free
    have hkd : ∀ m, (T'.file m).kind = (T.file m).kind := fun m => by
      by_cases e : m = d.toNat
      · rw [e]; exact a2.like.kind
      · rw [a2.rest m e]
    refine ⟨T', fun m => if m = d.toNat then [] else es m, ⟨a1, by show 64 * k + 64 ≤ 70656; omega, hne⟩, ?_, fun j hj => if_neg hj, ?_, fun m => ?_⟩
    · refine ⟨by rw [a2.i]; exact h.ino, by rw [a4]; exact h.plen, by rw [hkd]; exact h.k1, by rw [hkd]; exact h.k2, by rw [hkd]; exact h.k3, fun m => ?_, fun m => ?_, fun m => ?_, fun m => ?_, fun m m1 m3 => ?_, ?_⟩
      · by_cases e : m = d.toNat
        · rw [if_pos e, e, a2.bytes]; unfold fitTo; simp [encE]
        · rw [if_neg e, a2.rest m e]; exact h.b m
      · by_cases e : m = d.toNat
        · rw [if_pos e]; intro x hx; cases hx
        · rw [if_neg e]; exact h.ok m
      · by_cases e : m = d.toNat
        · rw [if_pos e]; intro x hx; cases hx
        · rw [if_neg e]; exact h.nm m
      · by_cases e : m = d.toNat
        · rw [if_pos e]; exact List.nodup_nil
        · rw [if_neg e]; exact h.nodup m
      · rw [if_neg (by omega)]; exact h.rest m m1 m3
      · rcases hj with hj | hj
        · rw [hj] at a3
          rw [hj]
          show nfree T'.p + npg (64 * 0) + npg (64 * (es 3).length) = 95; rw [show npg (64 * 0) = 0 from by decide]; omega
        · rw [hj] at a3
          rw [hj]
          show nfree T'.p + npg (64 * (es 1).length) + npg (64 * 0) = 95; rw [show npg (64 * 0) = 0 from by decide]; omega
    · simp only [if_true]
      have hm : (nm, i) ∈ usedE (es d.toNat) := mem_used.2 ⟨List.mem_of_getElem? e1, e2⟩
      obtain ⟨x, hx⟩ := List.length_eq_one_iff.1 h1
      rw [hx] at hm ⊢
      have : (nm, i) = x := by simpa using hm
      rw [← this]; exact List.Perm.refl _
    · by_cases e : m = d.toNat
      · simp only [e, if_true]; exact Nat.zero_le _
      · simp only [e, if_false]; exact Nat.le_refl _
  · rw [if_neg h1]
    have hp := usedE_del e1 e2
    have hp2 := hp.map (·.1)
    have hnd := hp2.nodup_iff.2 (h.nodup d.toNat)
    rw [List.map_cons, List.nodup_cons] at hnd
    obtain ⟨a1, T', a2, a3⟩ := h.put hr ht hj hc (e := ([], 0)) ⟨by simp, by decide, fun _ => rfl⟩ (Nat.le_of_lt hkl) (fun x hx => h.nm _ x (hp.mem_iff.1 (List.mem_cons_of_mem _ hx))) hnd.2
    refine ⟨T', _, ⟨a2, a1, hne⟩, a3, fun j hj => if_neg hj, by simpa using hp, fun m => ?_⟩
    by_cases e : m = d.toNat
    · simp only [e, if_true]; rw [putE_length _ (Nat.le_of_lt hkl)]; omega
    · simp only [e, if_false]; exact Nat.le_refl _
/-- The store that the laws open. -/
def T0 : RS := (((RS.fresh 100 16).mkI 1 2 420).mkI 2 1 420).mkI 3 2 420
theorem T0_file (j : Nat) : T0.file j = if j = 3 then RF.new 2 420 else if j = 2 then RF.new 1 420 else if j = 1 then RF.new 2 420 else RF.none := by
  show ((((RS.fresh 100 16).set 1 (RF.new 2 420)).set 2 (RF.new 1 420)).set 3 (RF.new 2 420)).file j = _
  rw [file_set _ _ _ _ (by decide), file_set _ _ _ _ (by decide), file_set _ _ _ _ (by decide), fresh_file]
theorem T0_dir : DirT T0 (fun _ => []) := by
  refine ⟨rfl, rfl, by rw [T0_file]; rfl, by rw [T0_file]; rfl, by rw [T0_file]; rfl, fun j => ?_, fun j e he => (by cases he), fun j e he => (by cases he), fun j => List.nodup_nil, fun j _ _ => rfl, (by decide)⟩
  rw [T0_file]
  split
  · rfl
  · split
    · rfl
    · split <;> rfl
end Go.Proofs.YtfgkgoddjemnfaaGreatDoor

namespace Go.Proofs.YtfgkgoddjemnfaaGreatDoor
open Go.RowKit Go.Shelf Pa
/-- What Add and Drop leave. -/
def addT (T : RS) (d : Int) (nm : Str) (i : Int) : RS := if addE T d nm i = 0 then (T.write d.toNat (addAt (lookB T d)) (encS nm i.toNat)).getD T else T
def drpT (T : RS) (d : Int) (nm : Str) : RS := if (findR T d nm).2.2 = 0 then (dropT T d nm).getD T else T
theorem StI.rel {w : World} {s : Nat} {T : RS} {R : Reg} {N : Nat} (h : StI w s T R N) : ∃ C, Rel C T (fun _ => False) ∧ T.Tight := by
  obtain ⟨m, c, C, F, _, _, _, h4, h5, _⟩ := h
  exact ⟨C, h4, h5⟩
/-- The used entries of each directory are those of u; each has at most L entries. -/
def DirU (T : RS) (u : Nat → List Ent) (L : Nat) : Prop := ∃ es, DirT T es ∧ (∀ j, (usedE (es j)).Perm (u j)) ∧ ∀ j, (es j).length ≤ L
theorem DirU.zero : DirU T0 (fun _ => []) 0 := ⟨fun _ => [], T0_dir, fun _ => List.Perm.refl _, fun _ => Nat.le_refl _⟩
theorem DirU.more {T : RS} {u : Nat → List Ent} {L L' : Nat} (h : DirU T u L) (hL : L ≤ L') : DirU T u L' := by
  obtain ⟨es, h1, h2, h3⟩ := h
  exact ⟨es, h1, h2, fun j => Nat.le_trans (h3 j) hL⟩
theorem DirU.look0 {T : RS} {u : Nat → List Ent} {L : Nat} (h : DirU T u L) (d : Int) : lookE T d = 0 ↔ d = 1 ∨ d = 3 := by obtain ⟨es, h1, _⟩ := h; exact h1.look0 d
theorem DirU.nodup {T : RS} {u : Nat → List Ent} {L : Nat} (h : DirU T u L) (j : Nat) : ((u j).map (·.1)).Nodup := by
  obtain ⟨es, h1, h2, _⟩ := h
  exact ((h2 j).map _).nodup_iff.1 (h1.nodup j)
theorem DirU.nm {T : RS} {u : Nat → List Ent} {L : Nat} (h : DirU T u L) (j : Nat) : ∀ e ∈ u j, nameOk e.1 = true := by
  obtain ⟨es, h1, h2, _⟩ := h
  exact fun e he => h1.nm j e ((h2 j).mem_iff.2 he)
theorem DirU.pos {T : RS} {u : Nat → List Ent} {L : Nat} (h : DirU T u L) (j : Nat) : ∀ e ∈ u j, e.2 ≠ 0 := by
  obtain ⟨es, h1, h2, _⟩ := h
  exact fun e he => (mem_used.1 ((h2 j).mem_iff.2 he)).2
theorem DirU.len {T : RS} {u : Nat → List Ent} {L : Nat} (h : DirU T u L) (j : Nat) : (u j).length ≤ L := by
  obtain ⟨es, h1, h2, h3⟩ := h
  rw [← (h2 j).length_eq]
  exact Nat.le_trans (List.length_filter_le _ _) (h3 j)
theorem DirU.findR {T : RS} {u : Nat → List Ent} {L : Nat} (h : DirU T u L) (d : Int) (nm : Str) : ((findR T d nm).1.i, (findR T d nm).2.2) = if lookE T d ≠ 0 then (0, lookE T d) else if nameOk nm = false then (0, 8) else fnd (u d.toNat) nm := by
  obtain ⟨es, h1, h2, _⟩ := h
  rw [h1.findR, fnd_perm (h2 _) (h1.nodup _)]
theorem DirU.addE {T : RS} {u : Nat → List Ent} {L : Nat} (h : DirU T u L) (d i : Int) (nm : Str) : addE T d nm i = if lookE T d ≠ 0 then lookE T d else if nameOk nm = false then 8 else if i < 1 ∨ 512 ≤ i then 2 else if (fnd (u d.toNat) nm).2 = 0 then 5 else 0 := by
  obtain ⟨es, h1, h2, _⟩ := h
  rw [h1.addE, fnd_perm (h2 _) (h1.nodup _)]
theorem DirU.mod {T : RS} {u : Nat → List Ent} {L : Nat} (h : DirU T u L) (d : Int) : (lookB T d).length % 64 = 0 := by
  obtain ⟨es, h1, h2, _⟩ := h
  by_cases h0 : lookE T d = 0
  · rw [h1.lookB h0, encE_length (h1.ok _)]; omega
  · unfold lookB; rw [if_neg h0]; rfl
theorem bless_lt : ∀ a b : Str, Op.bytesLess a b = true ↔ a < b
  | [], [] => by simp [Op.bytesLess]
  | [], y :: b => by simp [Op.bytesLess]
  | x :: a, [] => by simp [Op.bytesLess]
  | x :: a, y :: b => by
    have ih := bless_lt a b
    rw [List.cons_lt_cons_iff]
    simp only [Op.bytesLess, Bool.or_eq_true, Bool.and_eq_true, decide_eq_true_eq, beq_iff_eq, ih]
theorem sort_perm {a b : List Str} (h : a.Perm b) : (a.mergeSort fun x y => decide (x ≤ y)) = b.mergeSort fun x y => decide (x ≤ y) := by
  have ht : ∀ x y z : Str, decide (x ≤ y) = true → decide (y ≤ z) = true → decide (x ≤ z) = true := fun x y z h1 h2 => by
    simp only [decide_eq_true_eq] at *; exact List.le_trans h1 h2
  have htot : ∀ x y : Str, (decide (x ≤ y) || decide (y ≤ x)) = true := fun x y => by
    rcases List.le_total x y with h | h <;> simp [h]
  have h1 := List.pairwise_mergeSort ht htot a
  have h2 := List.pairwise_mergeSort ht htot b
  refine List.Perm.eq_of_pairwise (le := fun x y => decide (x ≤ y) = true) ?_ h1 h2 (((List.mergeSort_perm a _).trans h).trans (List.mergeSort_perm b _).symm)
  intro x y _ _ h3 h4
  simp only [decide_eq_true_eq] at h3 h4
  exact List.le_antisymm h3 h4
theorem DirU.list {T : RS} {u : Nat → List Ent} {L : Nat} (h : DirU T u L) {d : Int} (h0 : lookE T d = 0) : listP (lookB T d) = ((u d.toNat).map (·.1)).mergeSort fun x y => decide (x ≤ y) := by
  obtain ⟨es, h1, h2, _⟩ := h
  unfold listP
  rw [h1.lookB h0, slotsP_encE (h1.ok _), namesP_slE]
  exact sort_perm ((h2 _).map _)
theorem DirU.add {C : Ca} {T : RS} {u : Nat → List Ent} {L : Nat} (h : DirU T u L) (hr : Rel C T (fun _ => False)) (ht : T.Tight) (hL : L ≤ 60) {d i : Int} {nm : Str} (he : Go.Proofs.YtfgkgoddjemnfaaGreatDoor.addE T d nm i = 0) :
    (addAt (lookB T d) + 64 ≤ 70656 ∧ T.write d.toNat (addAt (lookB T d)) (encS nm i.toNat) = some (addT T d nm i)) ∧ DirU (addT T d nm i) (fun j => if j = d.toNat then (nm, i.toNat) :: u j else u j) (L + 1) := by
  obtain ⟨es, h1, h2, h3⟩ := h
  obtain ⟨a1, T', es', a2, a3, a4, a5, a6⟩ := h1.add hr ht (fun j => Nat.le_trans (h3 j) hL) he
  have e : addT T d nm i = T' := by unfold addT; rw [if_pos he, a2]; rfl
  rw [e]
  refine ⟨⟨a1, a2⟩, es', a3, fun j => ?_, fun j => Nat.le_trans (a6 j) (Nat.succ_le_succ (h3 j))⟩
  show (usedE (es' j)).Perm (if j = d.toNat then (nm, i.toNat) :: u j else u j)
  by_cases hj : j = d.toNat
  · subst hj
    rw [if_pos rfl]
    exact a5.trans ((h2 _).cons _)
  · rw [if_neg hj, a4 j hj]; exact h2 j
theorem DirU.drop {C : Ca} {T : RS} {u : Nat → List Ent} {L : Nat} (h : DirU T u L) (hr : Rel C T (fun _ => False)) (ht : T.Tight) (hL : L ≤ 60) {d : Int} {nm : Str} (he : (Go.Proofs.YtfgkgoddjemnfaaGreatDoor.findR T d nm).2.2 = 0) :
    (dropT T d nm = some (drpT T d nm) ∧ (Go.Proofs.YtfgkgoddjemnfaaGreatDoor.findR T d nm).1.at_ + 64 ≤ 70656 ∧ lookB T d ≠ []) ∧ DirU (drpT T d nm) (fun j => if j = d.toNat then (u j).erase (nm, (Go.Proofs.YtfgkgoddjemnfaaGreatDoor.findR T d nm).1.i) else u j) L ∧ (nm, (Go.Proofs.YtfgkgoddjemnfaaGreatDoor.findR T d nm).1.i) ∈ u d.toNat := by
  obtain ⟨es, h1, h2, h3⟩ := h
  obtain ⟨T', es', ⟨a1, a2, a3⟩, a4, a5, a6, a7⟩ := h1.drop hr ht (fun j => Nat.le_trans (h3 j) hL) he
  have e : drpT T d nm = T' := by unfold drpT; rw [if_pos he, a1]; rfl
  have hm : (nm, (Go.Proofs.YtfgkgoddjemnfaaGreatDoor.findR T d nm).1.i) ∈ u d.toNat := (h2 _).mem_iff.1 (a6.mem_iff.1 (by simp))
  rw [e]
  refine ⟨⟨a1, a2, a3⟩, ⟨es', a4, fun j => ?_, fun j => Nat.le_trans (a7 j) (h3 j)⟩, hm⟩
  show (usedE (es' j)).Perm (if j = d.toNat then (u j).erase (nm, (Go.Proofs.YtfgkgoddjemnfaaGreatDoor.findR T d nm).1.i) else u j)
  by_cases hj : j = d.toNat
  · subst hj
    rw [if_pos rfl]
    exact List.Perm.cons_inv (a6.trans ((h2 _).trans (List.perm_cons_erase hm)))
  · rw [if_neg hj, a5 j hj]; exact h2 j
end Go.Proofs.YtfgkgoddjemnfaaGreatDoor

namespace Go.Proofs.YtfgkgoddjemnfaaGreatDoor
open Go.RowKit Go.Shelf Pa
attribute [local go_sem] bs_toList bs_size
/-- The given store at s stands for T, the document's at r for U and keeps K; they share no block, and all lie at or above B. -/
def Pair (B : Nat) (w : World) (s r : Nat) (T U K : RS) (N : Nat) : Prop := ∃ R Q, StI w s T R N ∧ RefI w r U K Q ∧ (∀ k, R.has k → ¬ Q.has k) ∧ (∀ k, R.has k → B ≤ k) ∧ (∀ k, Q.has k → B ≤ k) ∧ B ≤ w.heap.size
theorem Pair.left {B : Nat} {w : World} {s r : Nat} {T U K : RS} {N : Nat} (h : Pair B w s r T U K N) : ∃ R, StI w s T R N ∧ ∀ w' T' N', StStep w s T' R N' w' → Pair B w' s r T' U K N' ∧ Below B w w' := by
  obtain ⟨R, Q, h1, h2, hd, hR, hQ, hB⟩ := h
  refine ⟨R, h1, fun w' T' N' ⟨R', g, t, o⟩ => ⟨⟨R', Q, g, h2.off o (fun k hk e => hd k (.inl e) hk), fun k hk e => ?_, fun k hk => ?_, hQ, Nat.le_trans hB o.size⟩, o.below hB (fun k hk => hR k (.inl hk))⟩⟩
  · rcases t.has hk with hk | hk
    · exact hd k hk e
    · have := h2.lt k e; omega
  · rcases t.has hk with hk | hk
    · exact hR k hk
    · omega
theorem Pair.right {B : Nat} {w : World} {s r : Nat} {T U K : RS} {N : Nat} (h : Pair B w s r T U K N) : ∃ Q, RefI w r U K Q ∧ ∀ w' U' K', RefStep w r U' K' Q w' → Pair B w' s r T U' K' N ∧ Below B w w' := by
  obtain ⟨R, Q, h1, h2, hd, hR, hQ, hB⟩ := h
  refine ⟨Q, h2, fun w' U' K' ⟨Q', g, t, o⟩ => ⟨⟨R, Q', h1.off o (fun k hk e => hd k hk (.inl e)), g, fun k hk e => ?_, hR, fun k hk => ?_, Nat.le_trans hB o.size⟩, o.below hB (fun k hk => hQ k (.inl hk))⟩⟩
  · rcases t.has e with e | e
    · exact hd k hk e
    · have := h1.lt k hk; omega
  · rcases t.has hk with hk | hk
    · exact hQ k hk
    · omega
theorem Pair.below {B : Nat} {w w' : World} {s r : Nat} {T U K : RS} {N : Nat} (h : Pair B w s r T U K N) (hb : Below w.heap.size w w') : Pair B w' s r T U K N := by
  obtain ⟨R, Q, h1, h2, hd, hR, hQ, hB⟩ := h
  exact ⟨R, Q, h1.below hb, h2.below hb, hd, hR, hQ, Nat.le_trans hB hb.size⟩
theorem Pair.base {B B' : Nat} {w : World} {s r : Nat} {T U K : RS} {N : Nat} (h : Pair B w s r T U K N) (hB' : B' ≤ B) : Pair B' w s r T U K N := by
  obtain ⟨R, Q, h1, h2, hd, hR, hQ, hB⟩ := h
  exact ⟨R, Q, h1, h2, hd, fun k hk => Nat.le_trans hB' (hR k hk), fun k hk => Nat.le_trans hB' (hQ k hk), Nat.le_trans hB' hB⟩
/-- The cache of a disk of zeros. -/
def C0 : Ca := ⟨⟨Dk.begun (List.replicate 201 zSec), 100⟩, 16, []⟩
theorem lg_pages (n : Nat) : (⟨Dk.begun (List.replicate n zSec), 100⟩ : Lg).pages = n - 100 - 1 := by
  unfold Lg.pages Dk.begun
  simp only [List.length_replicate]
theorem C0_pages : C0.G.pages = 100 := (lg_pages 201).trans (by decide)
theorem C0_zero : ((Dk.begun (List.replicate 201 zSec)).rd 0).any (fun b => b != 0) = false := by
  show ((List.replicate 201 zSec).getD 0 []).any (fun b => b != 0) = false
  rw [List.getD_eq_getElem?_getD, List.getElem?_replicate, if_pos (by omega)]
  show zSec.any (fun b => b != 0) = false
  rw [List.any_eq_false]
  intro x hx
  rw [List.eq_of_mem_replicate hx]; decide
theorem C0_rm : C0.Rm := ⟨⟨⟨(by show 1 ≤ 16; decide), (by show 16 ≤ 64; decide)⟩, fun p hp => (by cases hp), Nat.zero_le _⟩, List.nodup_nil, by rw [C0_pages]; show 100 ≤ min 100 100; decide⟩
theorem C0_all : ∀ n, n < C0.G.pages → (C0.rd n).length = 512 := fun n hn => by
  rw [C0_pages] at hn
  show ((List.replicate 201 zSec).getD (100 + 1 + n) []).length = 512
  rw [List.getD_eq_getElem?_getD, List.getElem?_replicate, if_pos (by omega)]
  exact List.length_replicate ..
/-- What Make and New leave. -/
theorem fresh_store {w : World} {m c : Nat} {R : Reg} (h : Held w ((m, mapO c 16) :: []) c (C0.laid 100 16 (alFirst 16)) R) :
    ∃ R', StI (w.alloc (.cells #[.pointer (some ⟨m, 0, none⟩)] 107)) w.heap.size (RS.fresh 100 16) R' 0 ∧ (∀ k, R'.has k → R.has k ∨ k = w.heap.size) ∧ R'.i w.heap.size ∧ R'.i m := by
  have h1 := h.below (w' := w.alloc (.cells #[.pointer (some ⟨m, 0, none⟩)] 107)) ((Below.refl _ _).alloc (Nat.le_refl _) _)
  obtain ⟨R', h2, h3, h4⟩ := h1.more (b := w.heap.size) (o := storeO m) (heap_alloc_new _ _) (fun e => by have := h.lt _ (.inl e); omega)
  have hrf := rel_fresh (ino := 16) C0_rm C0_all (by rw [C0_pages]; decide)
  rw [C0_pages] at hrf
  refine ⟨R', ⟨m, c, _, _, h2, by simp [RS.inodes, fresh_i], by simp, hrf, fresh_tight _ _, by rw [Ca.laid_G]; rfl, by rw [Ca.laid_G]; exact Nat.le_refl _⟩, fun k hk => ?_, (h4 _).2 (.inr rfl), (h4 _).2 (.inl (h.fix (m, mapO c 16) (by simp)).2)⟩
  rcases hk with hk | hk
  · exact .inl (.inl ((h3 k).1 hk))
  · rcases (h4 k).1 hk with hk | hk
    · exact .inl (.inr hk)
    · exact .inr hk
theorem scommit_at (s m c N : Nat) (T : RS) (R : Reg) (w : World) (h : StI w s T R N) (hs : w.heap[s]? = some (storeO m)) (hm : w.heap[m]? = some (mapO c T.inodes)) (hN : N + 1000 < 1000000000) :
    Calls Tryz.prog 23 #[.pointer (some ⟨c, 0, none⟩)] w fun e w' => e = .returned (.int .i64 0) ∧ StStep w s T R (N + 206) w' := by
  obtain ⟨m', c', C, F, h1, h2, h3, h4, h5, h6, h7⟩ := h
  obtain rfl : m = m' := by
    have := (h1.fix _ h3).1
    rw [hs] at this
    simpa using this
  obtain rfl : c = c' := by
    have := (h1.fix _ h2).1
    rw [hm] at this
    simpa using this
  refine (hcommit_any c C R F w h1 h6 (by omega)).mono ?_
  rintro e w' ⟨rfl, G', hG, R', k1, k2, k3⟩
  have hrd : ∀ n, n < C.G.pages → (⟨G', C.most, []⟩ : Ca).rd n = C.rd n := fun n hn => hG.rd h1.at_.ok h1.at_.nodup h1.at_.safe hn
  have hpg : (⟨G', C.most, []⟩ : Ca).G.pages = C.G.pages := hG.pages
  have hs := h4.small
  have hrel : Rel ⟨G', C.most, []⟩ T (fun _ => False) := by
    have hok : (⟨G', C.most, []⟩ : Ca).Ok := k1.at_.ok
    refine { h4 with rm := ⟨hok, List.nodup_nil, by show G'.pages ≤ G'.cap; rw [hG.pages, hG.cap]; exact h4.rm.cap⟩, np := by rw [hpg]; exact h4.np, npl := by rw [hpg]; exact h4.npl, ino8 := by rw [hpg]; exact h4.ino8, len := fun n hn => ?_, pb := fun n hn => ?_, ib := fun j hj => ?_, files := fun j hl => ⟨(h4.files j hl).1, { (h4.files j hl).2 with own := fun n hn => by rw [hpg]; exact (h4.files j hl).2.own n hn, bytes := fun k hk => ?_ }⟩, rcd := fun j hl he => ⟨?_, fun h0 => ?_⟩ }
    · rw [hpg] at hn; rw [hrd n hn]; exact h4.len n hn
    · rw [hpg] at hn; rw [hrd 2 (by omega)]; exact h4.pb n hn
    · rw [hrd 1 (by omega)]; exact h4.ib j hj
    · rw [hrd _ (h4.table_free hl (pgs_data (getD_mem hk))).2]; exact (h4.files j hl).2.bytes k hk
    · have hlt := RS.live_lt hl
      have h8 := h4.ino8.1
      have : 3 + j / 8 < T.first := by unfold RS.first alFirst; omega
      rw [hrd _ (by omega)]; exact (h4.rcd j hl he).1
    · rw [hrd _ (h4.table_free hl (pgs_ind h0)).2]; exact (h4.rcd j hl he).2 h0
  exact ⟨rfl, R', ⟨m, c, _, F, k1, h2, h3, hrel, h5, hG.wait h6, by have := hG.ops h1.at_.ok; show G'.D.ops.length ≤ _; omega⟩, k2, k3⟩
end Go.Proofs.YtfgkgoddjemnfaaGreatDoor

namespace Go.Proofs.YtfgkgoddjemnfaaGreatDoor
open Go.RowKit Go.Shelf Pa
attribute [local go_sem] bs_toList bs_size
/-- As Pair, and where the map and the cache lie. -/
def PairC (B : Nat) (w : World) (s r m c : Nat) (T U K : RS) (N : Nat) : Prop := ∃ R Q, StI w s T R N ∧ RefI w r U K Q ∧ (∀ k, R.has k → ¬ Q.has k) ∧ (∀ k, R.has k → B ≤ k) ∧ (∀ k, Q.has k → B ≤ k) ∧ B ≤ w.heap.size ∧ w.heap[s]? = some (storeO m) ∧ w.heap[m]? = some (mapO c 16)
theorem StI.held {w : World} {s m c : Nat} {T : RS} {R : Reg} {N : Nat} (h : StI w s T R N) (hs : w.heap[s]? = some (storeO m)) : R.i s ∧ R.i m := by
  obtain ⟨m', c', C, F, h1, h2, h3, _⟩ := h
  obtain rfl : m = m' := by
    have := (h1.fix _ h3).1
    rw [hs] at this
    simpa using this
  exact ⟨(h1.fix _ h3).2, (h1.fix _ h2).2⟩
theorem PairC.left {B : Nat} {w : World} {s r m c : Nat} {T U K : RS} {N : Nat} (h : PairC B w s r m c T U K N) : ∃ R, StI w s T R N ∧ ∀ w' T' N', StStep w s T' R N' w' → PairC B w' s r m c T' U K N' ∧ Below B w w' := by
  obtain ⟨R, Q, h1, h2, hd, hR, hQ, hB, hs, hm⟩ := h
  obtain ⟨is, im⟩ := h1.held (c := c) hs
  refine ⟨R, h1, fun w' T' N' ⟨R', g, t, o⟩ => ⟨⟨R', Q, g, h2.off o (fun k hk e => hd k (.inl e) hk), fun k hk e => ?_, fun k hk => ?_, hQ, Nat.le_trans hB o.size, (o.block s (h1.lt s (.inr is)) (fun e => h1.apart s e is)).trans hs, (o.block m (h1.lt m (.inr im)) (fun e => h1.apart m e im)).trans hm⟩, o.below hB (fun k hk => hR k (.inl hk))⟩⟩
  · rcases t.has hk with hk | hk
    · exact hd k hk e
    · have := h2.lt k e; omega
  · rcases t.has hk with hk | hk
    · exact hR k hk
    · omega
theorem PairC.right {B : Nat} {w : World} {s r m c : Nat} {T U K : RS} {N : Nat} (h : PairC B w s r m c T U K N) : ∃ Q, RefI w r U K Q ∧ ∀ w' U' K', RefStep w r U' K' Q w' → PairC B w' s r m c T U' K' N ∧ Below B w w' := by
  obtain ⟨R, Q, h1, h2, hd, hR, hQ, hB, hs, hm⟩ := h
  obtain ⟨is, im⟩ := h1.held (c := c) hs
  refine ⟨Q, h2, fun w' U' K' ⟨Q', g, t, o⟩ => ⟨⟨R, Q', h1.off o (fun k hk e => hd k hk (.inl e)), g, fun k hk e => ?_, hR, fun k hk => ?_, Nat.le_trans hB o.size, (o.block s (h1.lt s (.inr is)) (fun e => hd s (.inr is) (.inl e))).trans hs, (o.block m (h1.lt m (.inr im)) (fun e => hd m (.inr im) (.inl e))).trans hm⟩, o.below hB (fun k hk => hQ k (.inl hk))⟩⟩
  · rcases t.has e with e | e
    · exact hd k hk e
    · have := h1.lt k hk; omega
  · rcases t.has hk with hk | hk
    · exact hQ k hk
    · omega
theorem PairC.pair {B : Nat} {w : World} {s r m c : Nat} {T U K : RS} {N : Nat} (h : PairC B w s r m c T U K N) : Pair B w s r T U K N := by
  obtain ⟨R, Q, h1, h2, hd, hR, hQ, hB, hs, hm⟩ := h
  exact ⟨R, Q, h1, h2, hd, hR, hQ, hB⟩
theorem PairC.below {B : Nat} {w w' : World} {s r m c : Nat} {T U K : RS} {N : Nat} (h : PairC B w s r m c T U K N) (hb : Below w.heap.size w w') : PairC B w' s r m c T U K N := by
  obtain ⟨R, Q, h1, h2, hd, hR, hQ, hB, hs, hm⟩ := h
  exact ⟨R, Q, h1.below hb, h2.below hb, hd, hR, hQ, Nat.le_trans hB hb.size, (hb.block s (Array.getElem?_eq_some_iff.1 hs).1).trans hs, (hb.block m (Array.getElem?_eq_some_iff.1 hm).1).trans hm⟩
/-- The stores while the inodes are made. -/
def Tn : Nat → RS
  | 0 => RS.fresh 100 16
  | k + 1 => (Tn k).mkI (k + 1) (if k = 1 then 1 else 2) 420
theorem Tn_take (k : Nat) (h : k < 3) : takeB (Tn k).i = some (k + 1) := by
  match k with
  | 0 => decide
  | 1 => decide
  | 2 => decide
  | k + 3 => omega
theorem Tn_ino : ∀ k, (Tn k).inodes = 16
  | 0 => rfl
  | k + 1 => (List.length_set ..).trans (Tn_ino k)
/-- The stores with k inodes. -/
def OpenI (w wx : World) (s r m c k : Nat) : Prop := PairC w.heap.size wx s r m c (Tn k) (Tn k) (Tn 0) 0 ∧ Below w.heap.size w wx
theorem open_step {w wr W : World} {s r m c k : Nat} (hk : k < 3) (h : OpenI w wr s r m c k) (hW : Below wr.heap.size wr W) (z : Int) (hz : z = if k = 1 then 1 else 2) :
    Calls Tryz.prog 43 #[.pointer (some ⟨s, 0, none⟩), .int .i64 z, .int .i64 420] W fun e w1 => (∃ v, e = .returned v) ∧ Calls Tryz.prog 44 #[.pointer (some ⟨r, 0, none⟩), .int .i64 z, .int .i64 420] w1 fun e w2 => (∃ v, e = .returned v) ∧ OpenI w w2 s r m c (k + 1) := by
  obtain ⟨hP, hb⟩ := h
  obtain ⟨kd, hkd⟩ : ∃ kd : Nat, kd = if k = 1 then 1 else 2 := ⟨_, rfl⟩
  have hzk : z = (kd : Int) := by rw [hz, hkd]; split <;> rfl
  subst hzk
  have hkd3 : 1 ≤ kd ∧ kd ≤ 3 := by rw [hkd]; split <;> omega
  have hTn : (Tn k).mkI (k + 1) kd 420 = Tn (k + 1) := by rw [hkd]; rfl
  have hz := hb.size
  obtain ⟨R, g, hl⟩ := (hP.below hW).left
  refine (smake_any s 0 (k + 1) kd 420 (Tn k) R W g (Tn_take k hk) hkd3 (by omega)).mono ?_
  rintro e w1 ⟨rfl, hst⟩
  rw [hTn] at hst
  obtain ⟨hP1, hb1⟩ := hl w1 _ _ hst
  obtain ⟨Q, g2, hr⟩ := hP1.right
  refine ⟨⟨_, rfl⟩, (rmk_any r (k + 1) kd 420 (Tn k) (Tn 0) Q w1 g2 (Tn_take k hk) hkd3 (by omega)).mono ?_⟩
  rintro e w2 ⟨rfl, hst2⟩
  rw [hTn] at hst2
  obtain ⟨hP2, hb2⟩ := hr w2 _ _ hst2
  exact ⟨⟨_, rfl⟩, hP2, ((hb.trans (hW.mono hz)).trans hb1).trans hb2⟩
set_option maxRecDepth 100000 in
set_option maxHeartbeats 4000000 in
theorem opened_any (w : World) : Calls Tryz.prog 11 #[] w fun e w' => ∃ s r, e = .returned (.tuple #[.pointer (some ⟨s, 0, none⟩), .pointer (some ⟨r, 0, none⟩), .bool true]) ∧ Pair w.heap.size w' s r T0 T0 T0 206 ∧ Below w.heap.size w w' := by
  have h201 : (Dk.begun (List.replicate 201 zSec)).first.length = 201 := List.length_replicate ..
  go_enter Tryz.func11, Tryz.ntmps11
  go_wp2_with fail
  refine (new_any 201 w (by omega) (by omega)).mono ?_
  rintro e w1 ⟨a, rfl, ⟨R1, hd, hR1⟩, hb1⟩
  have H1 := Lib.hid (⟨hd, hR1, hb1⟩ : _ ∧ _ ∧ _)
  clear hd hR1 hb1
  go_wp2_with fail
  refine (open_zero 100 a _ R1 w1 H1.out.1 rfl C0_zero (by rw [h201]; omega)).mono ?_
  rintro e w2 ⟨l, rfl, ⟨R2, hl, hR2⟩, hb2⟩
  have hz1 := H1.out.2.2.size
  have hbw2 := H1.out.2.2.trans (hb2.mono hz1)
  have hR2' : ∀ k, R2.has k → w.heap.size ≤ k := fun k hk => by
    rcases hR2 k hk with h | h
    · exact H1.out.2.1 k (.inr h)
    · omega
  have H2 := Lib.hid (⟨hl, hR2', hbw2⟩ : _ ∧ _ ∧ _)
  clear hl hR2 hR2' hb2 hbw2 H1 hz1
  go_wp2_with fail
  refine (cnew_any l 16 _ R2 w2 H2.out.1 (by omega)).mono ?_
  rintro e w3 ⟨c, rfl, ⟨R3, hc, hR3⟩, hb3⟩
  have hz2 := H2.out.2.2.size
  have hbw3 := H2.out.2.2.trans (hb3.mono hz2)
  have hR3' : ∀ k, R3.has k → w.heap.size ≤ k := fun k hk => by
    rcases hR3 k hk with h | h
    · exact H2.out.2.1 k h
    · omega
  have H3 := Lib.hid (⟨hc, hR3', hbw3⟩ : _ ∧ _ ∧ _)
  clear hc hR3 hR3' hb3 hbw3 H2 hz2
  go_wp2_with fail
  have hmk := amake_any c 16 C0 R3 [] w3 ⟨H3.out.1, fun p hp => by cases hp⟩ (by rw [C0_pages]; decide) (C0_rm.fits fun m hm => by rw [C0_pages]; have := List.mem_range.1 hm; unfold alFirst at this; omega) (fun k hk => (laid_rm C0_rm _ _ k (by rw [C0_pages]; unfold alFirst at hk; omega)).may (by rw [Ca.laid_G, C0_pages]; unfold alFirst at hk; omega))
  rw [C0_pages] at hmk
  have HMk := Lib.hid hmk
  clear hmk
  refine HMk.out.mono ?_
  rintro e w4 ⟨m, rfl, ⟨R4, hh, ht4, ho4⟩, hm4⟩
  have hz3 := H3.out.2.2.size
  have hbw4 : Below w.heap.size w w4 := H3.out.2.2.trans (ho4.below hz3 (fun k hk => H3.out.2.1 k (.inl hk)))
  have hR4' : ∀ k, R4.has k → w.heap.size ≤ k := fun k hk => by
    rcases ht4.has hk with h | h
    · exact H3.out.2.1 k h
    · omega
  obtain ⟨R5, g5, hR5, is5, im5⟩ := fresh_store hh
  have hms := (hh.fix (m, mapO c 16) (by simp)).1
  have H4 := Lib.hid (⟨g5, hR5, hms, hR4', hbw4⟩ : _ ∧ _ ∧ _ ∧ _ ∧ _)
  clear g5 hR5 is5 im5 hms hR4' hbw4 hh ht4 ho4 hm4 H3 HMk hz3
  go_wp2_with fail
  refine (inew_any m w4).mono ?_
  rintro e w5 ⟨rfl, hw5⟩
  obtain ⟨s, hs⟩ : ∃ s, s = w4.heap.size := ⟨_, rfl⟩
  have hH5 : StI w5 s (Tn 0) R5 0 ∧ (∀ k, R5.has k → w.heap.size ≤ k) ∧ Below w.heap.size w w5 ∧ w5.heap[s]? = some (storeO m) ∧ w5.heap[m]? = some (mapO c 16) := by
    obtain ⟨a1, a2, a3, a4, a5⟩ := H4.out
    have hz := a5.size
    rw [← hw5] at a1
    have hb : Below w4.heap.size w4 w5 := by rw [hw5]; exact (Below.refl _ _).alloc (Nat.le_refl _) _
    rw [hs]
    refine ⟨a1, fun k hk => ?_, a5.trans (hb.mono hz), by rw [hw5]; exact heap_alloc_new _ _, (hb.block m (Array.getElem?_eq_some_iff.1 a3).1).trans a3⟩
    rcases a2 k hk with h | h
    · exact a4 k h
    · omega
  rw [← hs]
  have H5 := Lib.hid hH5
  clear hH5 hs hw5 H4
  go_wp2_with fail
  have hmp := rmap_any 100 16 w5 (by decide)
  have HMp := Lib.hid hmp
  clear hmp
  refine HMp.out.mono ?_
  rintro e w6 ⟨m6, pv6, iv6, rfl, hM6, hm6, hb6⟩
  have H6 := Lib.hid (⟨hM6, hm6, hb6⟩ : _ ∧ _ ∧ _)
  clear hM6 hm6 hb6 HMp
  go_wp2_with fail
  have hnw := rnew_any _ m6 _ _ pv6 iv6 w6 H6.out.1 (fun h => h.2.2 rfl) (fun k hk => hk.2.1)
  have HNw := Lib.hid hnw
  clear hnw
  refine HNw.out.mono ?_
  rintro e w7 ⟨r, rfl, ⟨Q7, g7, hQ7⟩, ho7⟩
  have hP7 : PairC w.heap.size w7 s r m c (Tn 0) (Tn 0) (Tn 0) 0 ∧ Below w.heap.size w w7 := by
    obtain ⟨a1, a2, a3, a4, a5⟩ := H5.out
    obtain ⟨b1, b2, b3⟩ := H6.out
    have hz5 := a3.size
    have hz6 := b3.size
    have hz7 := ho7.size
    have hoo : Off (fun k => k = m6) w5 w7 := (Off.of_below b3 _).then ho7
    have hn : ∀ k, R5.has k → ¬ k = m6 := fun k hk e => by have := a1.lt k hk; omega
    have hsl := (Array.getElem?_eq_some_iff.1 a4).1
    have hml := (Array.getElem?_eq_some_iff.1 a5).1
    have hge : ∀ k, Q7.has k → w5.heap.size ≤ k := fun k hk => by
      rcases hQ7 k hk with h | h | h
      · exact h.1
      · omega
      · omega
    refine ⟨⟨R5, Q7, a1.off hoo hn, g7, fun k hk e => ?_, a2, fun k hk => ?_, by omega, (hoo.block s hsl (by omega)).trans a4, (hoo.block m hml (by omega)).trans a5⟩, a3.trans (hoo.below hz5 (fun k e => by omega))⟩
    · have := a1.lt k hk
      have := hge k e
      omega
    · have := hge k hk; omega
  have H7 := Lib.hid hP7
  clear hP7 g7 hQ7 ho7 HNw H5 H6
  go_wp2_with fail
  go_loopg [16] 3 (fun gg i wx => ∃ k : Nat, i = .int .i64 k ∧ gg = 3 - k ∧ k ≤ 3 ∧ OpenI w wx s r m c k)
  case atStart => exact ⟨0, rfl, rfl, by omega, H7.out⟩
  case round =>
    obtain ⟨k, rfl, rfl, hk, hO⟩ := hrel
    by_cases hlt : k < 3
    · have HO := Lib.hid hO
      clear hO
      have hk3 : k = 0 ∨ k = 1 ∨ k = 2 := by omega
      rcases hk3 with rfl | rfl | rfl
      · go_wp2_with fail
        refine (open_step (by omega) HO.out ((Below.refl _ _).alloc (Nat.le_refl _) _) 2 (by decide)).mono ?_
        rintro e w1 ⟨⟨v, rfl⟩, hc⟩
        have HC := Lib.hid hc
        clear hc HO
        go_wp2_with fail
        refine HC.out.mono ?_
        rintro e w2 ⟨⟨v2, rfl⟩, hPb⟩
        have HP := Lib.hid hPb
        clear hPb HC
        go_wp2_with fail
        go_roundg 2
        case measure => omega
        case rel => exact ⟨1, by go_num, rfl, by omega, HP.out⟩
      · go_wp2_with fail
        refine (open_step (by omega) HO.out ((Below.refl _ _).alloc (Nat.le_refl _) _) 1 (by decide)).mono ?_
        rintro e w1 ⟨⟨v, rfl⟩, hc⟩
        have HC := Lib.hid hc
        clear hc HO
        go_wp2_with fail
        refine HC.out.mono ?_
        rintro e w2 ⟨⟨v2, rfl⟩, hPb⟩
        have HP := Lib.hid hPb
        clear hPb HC
        go_wp2_with fail
        go_roundg 1
        case measure => omega
        case rel => exact ⟨2, by go_num, rfl, by omega, HP.out⟩
      · go_wp2_with fail
        refine (open_step (by omega) HO.out ((Below.refl _ _).alloc (Nat.le_refl _) _) 2 (by decide)).mono ?_
        rintro e w1 ⟨⟨v, rfl⟩, hc⟩
        have HC := Lib.hid hc
        clear hc HO
        go_wp2_with fail
        refine HC.out.mono ?_
        rintro e w2 ⟨⟨v2, rfl⟩, hPb⟩
        have HP := Lib.hid hPb
        clear hPb HC
        go_wp2_with fail
        go_roundg 0
        case measure => omega
        case rel => exact ⟨3, by go_num, rfl, by omega, HP.out⟩
    · obtain rfl : k = 3 := by omega
      obtain ⟨hP, hb⟩ := hO
      have hcm : Calls Tryz.prog 45 #[.pointer (some ⟨r, 0, none⟩)] wr fun e w1 => e = .returned (.tuple #[]) ∧ PairC w.heap.size w1 s r m c (Tn 3) (Tn 3) (Tn 3) 0 ∧ Below w.heap.size w w1 := by
        obtain ⟨Q, g, hr⟩ := hP.right
        obtain ⟨m9, lv, u2, u3, pv, iv, X, mk, pk, ik, Y, h1, h2⟩ := g
        refine (rcommit_any r m9 _ _ lv u2 u3 pv iv X wr h1).mono ?_
        rintro e w1 ⟨rfl, hst⟩
        obtain ⟨a, b⟩ := hr w1 _ _ hst
        exact ⟨rfl, a, hb.trans b⟩
      have HCm := Lib.hid hcm
      clear hcm hP hb
      go_wp2_with fail
      refine HCm.out.mono ?_
      rintro e w1 ⟨rfl, hP1, hb1⟩
      have hcm2 : Calls Tryz.prog 23 #[.pointer (some ⟨c, 0, none⟩)] w1 fun e w2 => e = .returned (.int .i64 0) ∧ Pair w.heap.size w2 s r T0 T0 T0 206 ∧ Below w.heap.size w w2 := by
        obtain ⟨R, g, hl⟩ := hP1.left
        obtain ⟨_, _, _, _, _, _, _, _, hs, hm⟩ := hP1
        refine (scommit_at s m c 0 (Tn 3) R w1 g hs (by rw [Tn_ino]; exact hm) (by omega)).mono ?_
        rintro e w2 ⟨rfl, hst⟩
        obtain ⟨a, b⟩ := hl w2 _ _ hst
        exact ⟨rfl, a.pair, hb1.trans b⟩
      have HCm2 := Lib.hid hcm2
      clear hcm2 hP1 hb1 HCm
      go_wp2_with fail
      refine HCm2.out.mono ?_
      rintro e w2 ⟨rfl, hP2, hb2⟩
      have HE := Lib.hid (⟨hP2, hb2⟩ : _ ∧ _)
      clear hP2 hb2 HCm2
      go_wp2_with fail
      refine bodyPost_ret (results_tmp3 rfl _ _ _) rfl ?_
      exact ⟨s, r, rfl, HE.out.1, HE.out.2⟩
end Go.Proofs.YtfgkgoddjemnfaaGreatDoor

namespace Go.Proofs.YtfgkgoddjemnfaaGreatDoor
open Go.RowKit Go.Shelf Pa
attribute [local go_sem] bs_toList bs_size
/-- Where a file's cells lie. -/
theorem RNow.cells {w : World} {R : Reg} {r m : Nat} {T : RS} {lv u2 u3 pv iv : Value} {X : List RFX} (h : RNow w R r m T lv u2 u3 pv iv X) (hn : 1 ≤ T.i.length) : ∃ g c, lv = .slice (some ⟨g, 0, none⟩) T.i.length c ∧ R.i g ∧ g < w.heap.size ∧ ∀ j, j < T.i.length → ∃ bv dv, X[j]? = some (T.file j, bv, dv) ∧ SlI w R.i 5 bv (bytV (T.file j).bytes) ∧ SlI w R.i 3 dv (natV (T.file j).data) ∧ ∀ q u, (fileV (T.file j) bv dv)[q]? = some u → w.cell? ⟨g, j * 6 + q, none⟩ = some u := by
  have hl := h.len.1
  have hti := h.map.few
  have hI0 : ∀ j, j < T.i.length → ∃ bv dv, X[j]? = some (T.file j, bv, dv) := fun j hj => h.file (by rw [h.small.1]; exact hj)
  obtain ⟨h1, h2⟩ := h.files.own
  rcases h2 with ⟨rfl, h0⟩ | ⟨g, cap, cur, rfl, hB, hg, hc, hm, hs, ht⟩
  · omega
  · refine ⟨g, cap, by rw [hl], h.files.blk g rfl, (Array.getElem?_eq_some_iff.1 hg).1, fun j hj => ?_⟩
    obtain ⟨bv, dv, hx⟩ := hI0 j hj
    obtain ⟨n1, n2⟩ := h.files.nest _ (List.mem_of_getElem? hx)
    refine ⟨bv, dv, hx, n1, n2, fun q u hu => ?_⟩
    have h3 := filesC_at hx hu
    rw [← ht] at h3
    have hq : j * 6 + q < X.length * 6 := by
      have := (List.getElem?_eq_some_iff.1 h3).1
      rw [List.length_take] at this; omega
    rw [List.getElem?_take_of_lt hq] at h3
    rw [cell_of_heap hg, ← Array.getElem?_toList]; exact h3
set_option maxRecDepth 100000 in
set_option maxHeartbeats 1000000 in
theorem rused_any (I : Nat → Prop) (m j : Nat) (p i : List Bool) (pv iv : Value) (w : World) (h : RMap w I m p i pv iv) (hj : j < i.length) :
    Calls Tryz.prog 122 #[.pointer (some ⟨m, 0, none⟩), .int .i64 j] w fun e w' => e = .returned (.bool (i.getD j false)) ∧ w' = w := by
  obtain ⟨A, c, rfl⟩ := h.ri.1.shape
  have c3 : w.cell? ⟨m, 3, none⟩ = some (.slice A (boolV i).length c) := cell_of_heap h.at_ 3
  obtain ⟨g, rfl, _, _, hcs⟩ := ent_of h.ri.1 rfl j (by rw [boolV_length]; exact hj)
  have hc := hcs j _ (boolV_at i j hj)
  rw [boolV_length] at c3
  obtain ⟨b, hb⟩ : ∃ b, b = i.getD j false := ⟨_, rfl⟩
  rw [← hb] at hc ⊢
  have h0 : decide ((0 : Int) ≤ (j : Int)) = true := by simp
  have h1 : decide ((j : Int) < (i.length : Int)) = true := by simp; omega
  clear h hcs hb
  go_enter Tryz.func122, Tryz.ntmps122
  go_wp2_with fail
  go_ret
  exact ⟨rfl, rfl⟩
set_option maxRecDepth 100000 in
set_option maxHeartbeats 1000000 in
theorem rlook6_any (r : Nat) (i : Int) (T K : RS) (R : Reg) (w : World) (h : RefI w r T K R) (hn : 1 ≤ T.i.length) :
    Calls Tryz.prog 63 #[.pointer (some ⟨r, 0, none⟩), .int .i64 i] w fun e w' => e = .returned (.int .i64 (T.look i : Nat)) ∧ w' = w := by
  obtain ⟨m, lv, u2, u3, pv, iv, X, mk, pk, ik, Y, h1, h2⟩ := h
  obtain ⟨g, c, rfl, _, hg, hcs⟩ := h1.cells hn
  have c0 : w.cell? ⟨r, 0, none⟩ = some (.pointer (some ⟨m, 0, none⟩)) := cell_of_heap h1.at_ 0
  have c1 : w.cell? ⟨r, 1, none⟩ = some (.slice (some ⟨g, 0, none⟩) T.i.length c) := cell_of_heap h1.at_ 1
  have hin := rinodes_any R.i m T.p T.i pv iv w h1.map
  have hus := fun j (hj : j < T.i.length) => rused_any R.i m j T.p T.i pv iv w h1.map hj
  have h512 := h1.map.few.2
  have HIn := Lib.hid hin
  have HUs := Lib.hid hus
  have HCs := Lib.hid hcs
  clear hin hus hcs h1 h2
  obtain ⟨lk, hlk⟩ : ∃ lk, lk = T.look i := ⟨_, rfl⟩
  rw [← hlk]
  by_cases hi1 : i < 1
  · have hl : lk = 2 := by rw [hlk]; unfold RS.look; rw [if_pos (.inl hi1)]
    subst hl
    have hi1' : decide (i < 1) = true := by simp; omega
    clear hlk
    go_enter Tryz.func63, Tryz.ntmps63
    go_wp2_with fail
    go_ret
    exact ⟨rfl, rfl⟩
  · obtain ⟨j, rfl⟩ : ∃ j : Nat, i = j := ⟨i.toNat, by omega⟩
    have hi1' : decide ((j : Int) < 1) = false := by simp; omega
    by_cases hi2 : T.i.length ≤ j
    · have hl : lk = 2 := by rw [hlk]; unfold RS.look RS.inodes; rw [if_pos (.inr (by omega))]
      subst hl
      have hi2' : decide ((T.i.length : Int) ≤ (j : Int)) = true := by simp; omega
      clear hlk
      go_enter Tryz.func63, Tryz.ntmps63
      go_wp2_with (go_at_call 84; refine HIn.out.mono ?_; rintro e w1 ⟨rfl, rfl⟩)
      go_ret
      exact ⟨rfl, rfl⟩
    · have hj : j < T.i.length := by omega
      have hi2' : decide ((T.i.length : Int) ≤ (j : Int)) = false := by simp; omega
      obtain ⟨bv, dv, _, _, _, hq⟩ := HCs.out j hj
      have ck := hq 0 _ rfl
      rw [Nat.add_zero] at ck
      obtain ⟨b, hb⟩ : ∃ b, b = T.i.getD j false := ⟨_, rfl⟩
      obtain ⟨kd, hkd⟩ : ∃ kd, kd = (T.file j).kind := ⟨_, rfl⟩
      have hu := HUs.out j hj
      rw [← hkd] at ck
      rw [← hb] at hu
      have hl : lk = if b = false ∨ kd = 0 then 4 else 0 := by
        rw [hlk, hb, hkd]; unfold RS.look RS.inodes
        rw [if_neg (by omega), Int.toNat_natCast]
      have HU := Lib.hid hu
      clear hlk hu hb hkd hq
      cases b with
      | false =>
        rw [if_pos (.inl rfl)] at hl
        subst hl
        go_enter Tryz.func63, Tryz.ntmps63
        go_wp2_with (first
          | (go_at_call 84; refine HIn.out.mono ?_; rintro e w1 ⟨rfl, rfl⟩)
          | (go_at_call 122; refine HU.out.mono ?_; rintro e w1 ⟨rfl, rfl⟩))
        go_ret
        exact ⟨rfl, rfl⟩
      | true =>
        by_cases hk0 : kd = 0
        · rw [if_pos (.inr hk0)] at hl
          subst hl
          have hk0' : ((kd : Int) == 0) = true := by rw [hk0]; rfl
          go_enter Tryz.func63, Tryz.ntmps63
          go_wp2_with (first
            | (go_at_call 84; refine HIn.out.mono ?_; rintro e w1 ⟨rfl, rfl⟩)
            | (go_at_call 122; refine HU.out.mono ?_; rintro e w1 ⟨rfl, rfl⟩))
          go_ret
          exact ⟨rfl, rfl⟩
        · rw [if_neg (by rintro (e | e); cases e; exact hk0 e)] at hl
          subst hl
          have hk0' : ((kd : Int) == 0) = false := by simp; omega
          go_enter Tryz.func63, Tryz.ntmps63
          go_wp2_with (first
            | (go_at_call 84; refine HIn.out.mono ?_; rintro e w1 ⟨rfl, rfl⟩)
            | (go_at_call 122; refine HU.out.mono ?_; rintro e w1 ⟨rfl, rfl⟩))
          go_ret
          exact ⟨rfl, rfl⟩
end Go.Proofs.YtfgkgoddjemnfaaGreatDoor

namespace Go.Proofs.YtfgkgoddjemnfaaGreatDoor
open Go.RowKit Go.Shelf Pa
attribute [local go_sem] bs_toList bs_size
set_option maxRecDepth 100000 in
set_option maxHeartbeats 1000000 in
theorem rbytes_any (r j : Nat) (T K : RS) (R : Reg) (w : World) (h : RefI w r T K R) (hj : j < T.i.length) :
    Calls Tryz.prog 105 #[.pointer (some ⟨r, 0, none⟩), .int .i64 j] w fun e w' => ∃ v, e = .returned v ∧ SlI w R.i 5 v (bytV (T.file j).bytes) ∧ w' = w := by
  obtain ⟨m, lv, u2, u3, pv, iv, X, mk, pk, ik, Y, h1, h2⟩ := h
  obtain ⟨g, c, rfl, _, hg, hcs⟩ := h1.cells (by omega)
  have c1 : w.cell? ⟨r, 1, none⟩ = some (.slice (some ⟨g, 0, none⟩) T.i.length c) := cell_of_heap h1.at_ 1
  obtain ⟨bv, dv, _, n1, n2, hq⟩ := hcs j hj
  have c3 := hq 3 _ rfl
  have HN := Lib.hid n1
  clear h1 h2 hcs hq n1 n2
  go_enter Tryz.func105, Tryz.ntmps105
  go_wp2_with fail
  go_ret
  exact ⟨_, rfl, HN.out, rfl⟩
/-- An inode with these four. -/
def Four (o : Opn) (kd md ln sz : Nat) : Prop := o.Len ∧ o.kind = kd ∧ o.mode = md ∧ o.links = ln ∧ o.size = sz
abbrev zI : Array Value := #[.int .i64 0, .int .i64 0, .int .i64 0, .int .i64 0, .int .i64 0, .int .i64 0, .int .i64 0, .int .i64 0, .int .i64 0, .int .i64 0, .int .i64 0, .int .i64 0, .int .i64 0, .int .i64 0, .int .i64 0]
theorem cellsI_set {o : Opn} (h : o.Len) {k : Nat} (n : Nat) (hk : k < 11) : (cellsI o).toArray.setIfInBounds (4 + k) (.int .i64 n) = (cellsI { o with pages := o.pages.set k n }).toArray := by
  have hp := h.pages
  have e : (cellsI o).toArray.setIfInBounds (4 + k) (.int .i64 n) = ((cellsI o).set (4 + k) (.int .i64 n)).toArray := by simp
  rw [e]
  congr 1
  unfold cellsI
  rw [List.set_append_right _ _ (by simp)]
  congr 1
  show (ints o.pages).set (4 + k - 4) _ = ints (o.pages.set k n)
  rw [Nat.add_sub_cancel_left]
  unfold ints
  rw [List.map_set]
/-- Get midway: its three boxes. -/
structure GetI (W1 wx : World) (b : Nat) (F : List Value) (o : Opn) : Prop where
  b0 : wx.heap[b]? = some (.cells zI 120 (0, 0))
  b1 : wx.heap[b + 1]? = some (.cells F.toArray 131 (0, 0))
  b2 : wx.heap[b + 1 + 1]? = some (.cells (cellsI o).toArray 120 (0, 0))
  below : Below W1.heap.size W1 wx
  sz : W1.heap.size = b + 1
theorem GetI.set {W1 wx : World} {b : Nat} {F : List Value} {o : Opn} (h : GetI W1 wx b F o) (hl : o.Len) {k : Nat} (n : Nat) (hk : k < 11) : GetI W1 (wx.setCell ⟨b + 1 + 1, 4 + k, none⟩ (.int .i64 n)) b F { o with pages := o.pages.set k n } := by
  have ho : Off (fun j => j = b + 1 + 1) wx (wx.setCell ⟨b + 1 + 1, 4 + k, none⟩ (.int .i64 n)) := (Off.refl (fun j => j = b + 1 + 1) wx).setCell (p := ⟨b + 1 + 1, 4 + k, none⟩) (.inl rfl) _
  refine ⟨(ho.block _ (Array.getElem?_eq_some_iff.1 h.b0).1 (by omega)).trans h.b0, (ho.block _ (Array.getElem?_eq_some_iff.1 h.b1).1 (by omega)).trans h.b1, ?_, h.below.setCell (by show W1.heap.size ≤ b + 1 + 1; have := h.sz; omega) _, h.sz⟩
  rw [← cellsI_set hl n hk]
  exact heap_setCell_at wx (b + 1 + 1) (4 + k) _ h.b2
theorem Opn.Len.set {o : Opn} (h : o.Len) (k n : Nat) : Opn.Len { o with pages := o.pages.set k n } := ⟨by show (o.pages.set k n).length = 11; rw [List.length_set]; exact h.pages, h.more⟩
theorem GetI.cell {W1 wx : World} {b : Nat} {F : List Value} {o : Opn} (h : GetI W1 wx b F o) (hl : o.Len) {k : Nat} (hk : k < 11) : (∃ u, wx.cell? ⟨b + 1 + 1, 4 + k, none⟩ = some u) ∧ wx.frozen? ⟨b + 1 + 1, 4 + k, none⟩ = false := by
  refine ⟨?_, free_of_heap h.b2 _⟩
  rw [cell_of_heap h.b2]
  exact ⟨_, Array.getElem?_eq_getElem (by rw [List.size_toArray, cellsI_length hl]; omega)⟩
theorem getI_start (w : World) (F : List Value) (o : Opn) : GetI (w.alloc (.cells zI 120)) (((w.alloc (.cells zI 120)).alloc (.cells F.toArray 131)).alloc (.cells (cellsI o).toArray 120)) w.heap.size F o := by
  obtain ⟨a, b, c, d⟩ := three_drew w (.cells zI 120) (.cells F.toArray 131) (.cells (cellsI o).toArray 120)
  exact ⟨a, b, c, ((Below.refl _ _).alloc (Nat.le_refl _) _).alloc (by simp) _, by simp⟩
set_option maxRecDepth 100000 in
set_option maxHeartbeats 2000000 in
theorem rget6_any (r : Nat) (i : Int) (T K : RS) (R : Reg) (w : World) (h : RefI w r T K R) (hn : 1 ≤ T.i.length) :
    Calls Tryz.prog 103 #[.pointer (some ⟨r, 0, none⟩), .int .i64 i] w fun e w' => ∃ o : Opn, e = .returned (.tuple #[.agg (cellsI o).toArray, .int .i64 (T.look i : Nat)]) ∧ o.Len ∧ (T.look i = 0 → Four o (T.file i.toNat).kind (T.file i.toNat).mode (T.file i.toNat).links (T.file i.toNat).bytes.length) ∧ Below w.heap.size w w' := by
  have hb0 : Below w.heap.size w (w.alloc (.cells zI 120)) := (Below.refl _ _).alloc (Nat.le_refl _) _
  have hlk := rlook6_any r i T K R (w.alloc (.cells zI 120)) (h.below hb0) hn
  obtain ⟨lk, hlke⟩ : ∃ lk, lk = T.look i := ⟨_, rfl⟩
  rw [← hlke] at hlk ⊢
  by_cases h0 : lk = 0
  · subst h0
    obtain ⟨hl, hij, hlt, _⟩ := look_live hlke.symm
    obtain ⟨j, rfl⟩ : ∃ j : Nat, i = j := ⟨i.toNat, hij⟩
    rw [Int.toNat_natCast] at hlt ⊢
    have hj : j < T.i.length := hlt
    obtain ⟨m, lv, u2, u3, pv, iv, X, mk, pk, ik, Y, h1, h2⟩ := h.below hb0
    obtain ⟨g, c, rfl, _, hg, hcs⟩ := h1.cells hn
    have c1 : (w.alloc (.cells zI 120)).cell? ⟨r, 1, none⟩ = some (.slice (some ⟨g, 0, none⟩) T.i.length c) := cell_of_heap h1.at_ 1
    obtain ⟨bv, dv, hx, n1, n2, hq⟩ := hcs j hj
    have hsm := h1.small.2 (T.file j) (by rw [← h1.eq]; exact List.mem_map.2 ⟨_, List.mem_of_getElem? hx, rfl⟩)
    obtain ⟨Ab, cb, rfl⟩ := n1.1.shape
    obtain ⟨Ad, cd, rfl⟩ := n2.1.shape
    obtain ⟨f, hf⟩ : ∃ f, f = T.file j := ⟨_, rfl⟩
    rw [← hf] at hq hsm n1 n2 ⊢
    rw [bytV_length] at hq
    rw [natV_length] at hq
    have q0 := hq 0 _ rfl
    have q1 := hq 1 _ rfl
    have q2 := hq 2 _ rfl
    have q3 := hq 3 _ rfl
    have q4 := hq 4 _ rfl
    have q5 := hq 5 _ rfl
    rw [Nat.add_zero] at q0
    have hd : ∀ k, k < f.data.length → ∃ gd, Ad = some ⟨gd, 0, none⟩ ∧ gd < (w.alloc (.cells zI 120)).heap.size ∧ (w.alloc (.cells zI 120)).cell? ⟨gd, k, none⟩ = some (.int .i64 (f.data.getD k 0 : Nat)) := fun k hk => by
      obtain ⟨gd, e, _, hlg, hc⟩ := ent_of n2.1 rfl k (by rw [natV_length]; exact hk)
      exact ⟨gd, e, hlg, hc k _ (natV_at _ k hk)⟩
    have HD := Lib.hid hd
    have HLk := Lib.hid hlk
    obtain ⟨hs1, hs2⟩ := hsm
    clear hlk hlke hl hij h1 h2 hcs hq n1 n2 hx hf hd hlt
    go_enter Tryz.func103, Tryz.ntmps103
    go_upto_block 0 with (go_at_call 63; refine HLk.out.mono ?_; rintro e w1 ⟨rfl, rfl⟩)
    have hst := getI_start w [.int .i64 f.kind, .int .i64 f.mode, .int .i64 f.links, .slice Ab f.bytes.length cb, .slice Ad f.data.length cd, .int .i64 f.ind] ⟨f.kind, f.mode, f.links, f.bytes.length, List.replicate 11 0, 0, List.replicate 128 0⟩
    have hfour : Four ⟨f.kind, f.mode, f.links, f.bytes.length, List.replicate 11 0, 0, List.replicate 128 0⟩ f.kind f.mode f.links f.bytes.length := ⟨⟨List.length_replicate .., List.length_replicate ..⟩, rfl, rfl, rfl, rfl⟩
    have HSt := Lib.hid (⟨hst, hfour⟩ : _ ∧ _)
    clear hst hfour
    go_cut [9] (fun s9 wx => ∃ o, GetI (w.alloc (.cells zI 120)) wx w.heap.size [.int .i64 f.kind, .int .i64 f.mode, .int .i64 f.links, .slice Ab f.bytes.length cb, .slice Ad f.data.length cd, .int .i64 f.ind] o ∧ Four o f.kind f.mode f.links f.bytes.length)
    case first =>
      go_wp2_with fail
      go_loopg [9] f.data.length (fun gg i wx => ∃ k : Nat, i = .int .i64 k ∧ gg = f.data.length - k ∧ k ≤ f.data.length ∧ k ≤ 10 ∧ ∃ o, GetI (w.alloc (.cells zI 120)) wx w.heap.size [.int .i64 f.kind, .int .i64 f.mode, .int .i64 f.links, .slice Ab f.bytes.length cb, .slice Ad f.data.length cd, .int .i64 f.ind] o ∧ Four o f.kind f.mode f.links f.bytes.length)
      case atStart => exact ⟨0, rfl, rfl, Nat.zero_le _, Nat.zero_le _, _, HSt.out.1, HSt.out.2⟩
      case round =>
        obtain ⟨k, rfl, rfl, hk, hk10, o, hG, hF⟩ := hrel
        have c4 : wr.cell? ⟨w.heap.size + 1, 4, none⟩ = some (.slice Ad f.data.length cd) := cell_of_heap hG.b1 4
        by_cases hlt : k < f.data.length
        · have hlt' : decide ((k : Int) < (f.data.length : Int)) = true := by simp; omega
          by_cases h10 : k < 10
          · have h10' : decide ((k : Int) < 10) = true := by simp; omega
            obtain ⟨gd, rfl, hgd, hcd⟩ := HD.out k hlt
            have hcw := (hG.below.cell (p := ⟨gd, k, none⟩) hgd).trans hcd
            obtain ⟨dk, hdk⟩ : ∃ d, d = f.data.getD k 0 := ⟨_, rfl⟩
            rw [← hdk] at hcw
            obtain ⟨⟨u, hu⟩, hfz⟩ := hG.cell hF.1 (k := k) (by omega)
            have hN := hG.set hF.1 dk (k := k) (by omega)
            have hF' : Four { o with pages := o.pages.set k dk } f.kind f.mode f.links f.bytes.length := ⟨hF.1.set k _, hF.2⟩
            have HN := Lib.hid (⟨hN, hF'⟩ : _ ∧ _)
            have hk11 : (k : Int) < 11 := by omega
            clear hG hF hN hF' hcd hdk
            go_wp2_with fail
            go_roundg (f.data.length - (k + 1))
            case measure => omega
            case rel => exact ⟨k + 1, by go_num, rfl, hlt, h10, _, HN.out.1, HN.out.2⟩
          · have h10' : decide ((k : Int) < 10) = false := by simp; omega
            have HN := Lib.hid (⟨hG, hF⟩ : _ ∧ _)
            clear hG hF
            go_wp2_with fail
            go_meet
            exact ⟨o, HN.out.1, HN.out.2⟩
        · have hlt' : decide ((k : Int) < (f.data.length : Int)) = false := by simp; omega
          have HN := Lib.hid (⟨hG, hF⟩ : _ ∧ _)
          clear hG hF
          go_wp2_with fail
          go_meet
          exact ⟨o, HN.out.1, HN.out.2⟩
    case rest =>
      obtain ⟨o, hG, hF⟩ := hcut
      have c5 : wc.cell? ⟨w.heap.size + 1, 5, none⟩ = some (.int .i64 f.ind) := cell_of_heap hG.b1 5
      obtain ⟨⟨u, hu⟩, hfz⟩ := hG.cell hF.1 (k := 10) (by omega)
      have hN := hG.set hF.1 f.ind (k := 10) (by omega)
      obtain ⟨o2, ho2⟩ : ∃ o2 : Opn, o2 = { o with pages := o.pages.set 10 f.ind } := ⟨_, rfl⟩
      have hF' : Four o2 f.kind f.mode f.links f.bytes.length := by rw [ho2]; exact ⟨hF.1.set 10 _, hF.2⟩
      rw [← ho2] at hN
      have hst := inode_store hN.b0 rfl o2 hF'.1
      have hl15 := cellsI_length hF'.1
      have hrg : (wc.setCell ⟨w.heap.size + 1 + 1, 4 + 10, none⟩ (.int .i64 f.ind)).rangeAt (w.heap.size + 1 + 1) 0 (cellsI o2) := fun j v hv => by
        rw [Nat.zero_add, cell_of_heap hN.b2]; simpa using hv
      have HN := Lib.hid (⟨hN, hF', hrg⟩ : _ ∧ _ ∧ _)
      clear hG hF hN hF' hrg ho2 HSt
      go_wp2_with (refine wpList_load_mid rfl 120 _ rfl (w.heap.size + 1 + 1) 0 rfl (cellsI o2) _ HN.out.2.2 Tryz.underlying120 rfl (by rw [info_inode, hl15]) ?_)
      refine bodyPost_ret (results_inode rfl _ _ w.heap.size o2 HN.out.2.1.1 rfl (heap_setRow _ _ _ _ HN.out.1.b0)) rfl ?_
      refine ⟨o2, rfl, HN.out.2.1.1, fun _ => HN.out.2.1, ?_⟩
      exact (hb0.trans (HN.out.1.below.mono hb0.size)).trans ⟨rfl, rfl, rfl, by simp [World.setRow], fun k hk => setRow_other _ w.heap.size k _ (by omega)⟩
  · have h0' : ((lk : Int) != 0) = true := by simp; exact h0
    have HLk := Lib.hid hlk
    have H0 := Lib.hid h0
    clear hlk h0 hlke h hn
    go_enter Tryz.func103, Tryz.ntmps103
    go_wp2_with (go_at_call 63; refine HLk.out.mono ?_; rintro e w1 ⟨rfl, rfl⟩)
    refine bodyPost_ret (results_inode rfl _ _ w.heap.size Opn.none Opn.none_len rfl (heap_alloc_new w _)) rfl ?_
    exact ⟨Opn.none, rfl, Opn.none_len, fun e => absurd e H0.out, hb0⟩
end Go.Proofs.YtfgkgoddjemnfaaGreatDoor
