/-
  The walk over union.Fold: the tree of layers.
-/
import Derived.Test.YtjolgckkoidhgaaGreatDoorApply
namespace Go.Proofs.YtjolgckkoidhgaaGreatDoor
open Go.RowKit Go.Shelf Pa
attribute [local go_sem] bs_toList bs_size

/-- A slice of layers below a block. -/
def LaysAt (w : World) (B : Nat) (v : Value) (ls : List (List Ch)) : Prop :=
  ∃ A n, v = .slice A ls.length n ∧ (ls.length ≤ n ∧ ls.length ≤ 140737488355328) ∧ (ls ≠ [] → ∃ b o, A = some ⟨b, o, none⟩ ∧ b < B ∧ ∀ i cs, ls[i]? = some cs → ∃ lv, ChsAt w B lv cs ∧ w.cell? ⟨b, o + i, none⟩ = some lv)
theorem LaysAt.below {w w' : World} {B : Nat} {v : Value} {ls : List (List Ch)} (h : LaysAt w B v ls) (hb : Below B w w') : LaysAt w' B v ls := by
  obtain ⟨A, n, e, hc, h⟩ := h
  refine ⟨A, n, e, hc, fun hn => ?_⟩
  obtain ⟨b, o, e, hB, h⟩ := h hn
  refine ⟨b, o, e, hB, fun i c hi => ?_⟩
  obtain ⟨lv, h1, h2⟩ := h i c hi
  exact ⟨lv, h1.below hb, (hb.cell (p := ⟨b, o + i, none⟩) hB).trans h2⟩
theorem LaysAt.more {w : World} {B B' : Nat} {v : Value} {ls : List (List Ch)} (h : LaysAt w B v ls) (hB : B ≤ B') : LaysAt w B' v ls := by
  obtain ⟨A, n, e, hc, h⟩ := h
  refine ⟨A, n, e, hc, fun hn => ?_⟩
  obtain ⟨b, o, e, hb, h⟩ := h hn
  refine ⟨b, o, e, by omega, fun i c hi => ?_⟩
  obtain ⟨lv, h1, h2⟩ := h i c hi
  exact ⟨lv, h1.more hB, h2⟩

theorem puts_error : ∀ (cs : List Ch) (T : List Nd) (n : Int), puts T cs = .error n → n = 13 ∨ n = 6
  | [], _, _, h => by cases h
  | c :: r, T, n, h => by
    rw [puts] at h
    split at h
    · cases hp : putC T c with
      | none =>
        rw [hp] at h
        simp only at h
        injection h with h
        exact .inl h.symm
      | some T' =>
        rw [hp] at h
        simp only at h
        split at h
        · exact puts_error r T' n h
        · injection h with h
          exact .inr h.symm
    · exact puts_error r T n h
theorem applyT_error {l : List Nd} {cs : List Ch} {n : Int} (h : applyT l cs = .error n) : n ≠ 0 := by
  cases ht : Pa.treeOf l with
  | none => rw [applyT_none ht] at h; injection h with h; omega
  | some T =>
    cases hc : cs.all mayC with
    | false => rw [applyT_bad ht hc] at h; injection h with h; omega
    | true =>
      rw [applyT_go ht hc] at h
      cases hp : puts (gone T cs) cs with
      | error m =>
        rw [hp] at h
        simp only at h
        injection h with h
        rcases puts_error _ _ _ hp with h1 | h1 <;> omega
      | ok T' => rw [hp] at h; cases h

/-- What Fold hands back. -/
def FoldPost (ls : List (List Ch)) (w : World) (e : Ending) (w' : World) : Prop :=
  Below w.heap.size w w' ∧ match foldT [] ls with
  | .error n => n ≠ 0 ∧ e = .returned (.tuple #[.slice none 0 0, .int .i64 n])
  | .ok T => ∃ v, e = .returned (.tuple #[v, .int .i64 0]) ∧ NodesAt w' w'.heap.size v T

theorem layDrop {ls : List (List Ch)} {k : Nat} {c : List Ch} (h : ls[k]? = some c) : ls.drop k = c :: ls.drop (k + 1) := by
  obtain ⟨hk, e⟩ := List.getElem?_eq_some_iff.1 h
  rw [List.drop_eq_getElem_cons hk, e]

structure FoInv (w : World) (ls : List (List Ch)) (k : Nat) (v : Value) (wx : World) : Prop where
  tree : ∃ T, NodesAt wx wx.heap.size v T ∧ foldT T (ls.drop k) = foldT [] ls
  below : Below w.heap.size w wx

theorem foldT_err {T : List Nd} {cs : List Ch} {r : List (List Ch)} {n : Int} (h : applyT T cs = .error n) : foldT T (cs :: r) = .error n := by rw [foldT, h]
theorem foldT_ok {T T' : List Nd} {cs : List Ch} {r : List (List Ch)} (h : applyT T cs = .ok T') : foldT T (cs :: r) = foldT T' r := by rw [foldT, h]
theorem FoldPost.err {ls : List (List Ch)} {w w' : World} {n : Int} (h : foldT [] ls = .error n) (hn : n ≠ 0) (hb : Below w.heap.size w w') : FoldPost ls w (.returned (.tuple #[.slice none 0 0, .int .i64 n])) w' := by
  refine ⟨hb, ?_⟩
  rw [h]
  exact ⟨hn, rfl⟩
theorem FoldPost.ok {ls : List (List Ch)} {w w' : World} {v : Value} {T : List Nd} (h : foldT [] ls = .ok T) (hb : Below w.heap.size w w') (hn : NodesAt w' w'.heap.size v T) : FoldPost ls w (.returned (.tuple #[v, .int .i64 0])) w' := by
  refine ⟨hb, ?_⟩
  rw [h]
  exact ⟨v, rfl, hn⟩

set_option maxRecDepth 100000 in
set_option maxHeartbeats 4000000 in
theorem fold_any (ls : List (List Ch)) (v : Value) (w : World) (hm : MaxOk w) (hls : LaysAt w w.heap.size v ls) :
    Calls Tryz.prog 13 #[v] w (FoldPost ls w) := by
  obtain ⟨A, cp, rfl, ⟨hcl, hlen⟩, hf⟩ := hls
  have HF := Lib.hid hf
  have HM := Lib.hid hm
  clear hf hm
  go_enter Tryz.func13, Tryz.ntmps13
  go_wp2_with fail
  go_loopg [4, 11] ls.length (fun g v i wx => ∃ k : Nat, i = .int .i64 k ∧ g = ls.length - k ∧ k ≤ ls.length ∧ FoInv w ls k v wx)
  case atStart => exact ⟨0, rfl, rfl, Nat.zero_le _, ⟨[], ⟨none, 0, rfl, ⟨Nat.le_refl _, by simp⟩, fun h => absurd rfl h⟩, rfl⟩, Below.refl _ _⟩
  case round =>
    obtain ⟨k, rfl, rfl, hk, hI⟩ := hrel
    obtain ⟨wx, rfl⟩ : ∃ wx, wx = wr := ⟨_, rfl⟩
    have HI := Lib.hid hI
    clear hI
    by_cases hlt : k < ls.length
    · have hlt' : decide ((k : Int) < (ls.length : Int)) = true := by simp; omega
      obtain ⟨b, o, rfl, hB, hn⟩ := HF.out (by rintro rfl; simp at hlt)
      obtain ⟨cs, hck⟩ : ∃ c, ls[k]? = some c := ⟨_, List.getElem?_eq_getElem hlt⟩
      obtain ⟨lv, hlv, hcell⟩ := hn k cs hck
      have hb := HI.out.below
      have k0 : wx.cell? ⟨b, o + k, none⟩ = some lv := (hb.cell (p := ⟨b, o + k, none⟩) hB).trans hcell
      obtain ⟨T, hT, hfo⟩ := HI.out.tree
      rw [layDrop hck] at hfo
      have happ := apply_any T cs _ lv wx (HM.out.grow hb) hT ((hlv.below hb).more hb.size)
      have HApp := Lib.hid happ
      have HFo := Lib.hid hfo
      obtain ⟨Al, nl, rfl, _, _⟩ := id hlv
      clear hn hck hcell hT hfo happ hlv
      go_wp2_with fail
      refine HApp.out.mono ?_
      rintro e w2 ⟨hb2, hp⟩
      have hbw2 := hb.trans (hb2.mono hb.size)
      cases ha : applyT T cs with
      | error n =>
        rw [ha] at hp
        simp only at hp
        subst hp
        have hn0 := applyT_error ha
        have hn0' : (n != 0) = true := by simpa using hn0
        have hres := FoldPost.err (HFo.out.symm.trans (foldT_err ha)) hn0 hbw2
        have HRes := Lib.hid hres
        clear hres ha hn0
        go_wp2_with fail
        go_ret2
        exact HRes.out
      | ok T' =>
        rw [ha] at hp
        simp only at hp
        obtain ⟨v2, rfl, hn2⟩ := hp
        have hI2 : FoInv w ls (k + 1) v2 w2 := ⟨⟨T', hn2, (foldT_ok ha).symm.trans HFo.out⟩, hbw2⟩
        have HI2 := Lib.hid hI2
        clear hI2 hn2 ha
        go_wp2_with fail
        go_roundg (ls.length - (k + 1))
        case measure => omega
        case rel => exact ⟨k + 1, by go_num, rfl, hlt, HI2.out⟩
    · have hlt' : decide ((k : Int) < (ls.length : Int)) = false := by simp; omega
      obtain ⟨T, hT, hfo⟩ := HI.out.tree
      have hnil : ls.drop k = [] := List.drop_eq_nil_of_le (by omega)
      rw [hnil, foldT] at hfo
      have hres := FoldPost.ok hfo.symm HI.out.below hT
      have HRes := Lib.hid hres
      clear hres hfo hT hnil
      go_wp2_with fail
      go_ret2
      exact HRes.out

end Go.Proofs.YtjolgckkoidhgaaGreatDoor
