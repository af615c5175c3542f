/-
  The walk over union.treeOf: nodes as a tree.
-/
import Derived.Test.YtjolgckkoidhgaaGreatDoorClone
import Derived.Test.YtjolgckkoidhgaaGreatDoorMay
import Derived.Lib.QuietBelow
namespace Go.Proofs.YtjolgckkoidhgaaGreatDoor
open Go.RowKit Go.Shelf Pa
attribute [local go_sem] bs_toList bs_size

/-- The five cells of a node. -/
structure NodeCells (w : World) (b o : Nat) (n : Nd) (dv : Value) : Prop where
  c0 : w.cell? ⟨b, o, none⟩ = some (.string (bs n.path))
  c1 : w.cell? ⟨b, o + 1, none⟩ = some (.int .i64 n.kind)
  c2 : w.cell? ⟨b, o + 2, none⟩ = some (.int .i64 n.mode)
  c3 : w.cell? ⟨b, o + 3, none⟩ = some (.string (bs n.link))
  c4 : w.cell? ⟨b, o + 4, none⟩ = some dv

/-- A slice of nodes below a block. -/
def NodesAt (w : World) (B : Nat) (v : Value) (T : List Nd) : Prop :=
  ∃ A c, v = .slice A T.length c ∧ (T.length ≤ c ∧ T.length ≤ 140737488355328) ∧ (T ≠ [] → ∃ b o, A = some ⟨b, o, none⟩ ∧ b < B ∧ ∀ i n, T[i]? = some n → ∃ dv, BytesAt w B dv n.data ∧ NodeCells w b (o + i * 5) n dv)

theorem NodeCells.below {w w' : World} {B b o : Nat} {n : Nd} {dv : Value} (h : NodeCells w b o n dv) (hb : Below B w w') (hB : b < B) : NodeCells w' b o n dv :=
  ⟨(hb.cell (p := ⟨b, o, none⟩) hB).trans h.c0, (hb.cell (p := ⟨b, o + 1, none⟩) hB).trans h.c1, (hb.cell (p := ⟨b, o + 2, none⟩) hB).trans h.c2, (hb.cell (p := ⟨b, o + 3, none⟩) hB).trans h.c3, (hb.cell (p := ⟨b, o + 4, none⟩) hB).trans h.c4⟩
theorem NodesAt.below {w w' : World} {B : Nat} {v : Value} {T : List Nd} (h : NodesAt w B v T) (hb : Below B w w') : NodesAt w' B v T := by
  obtain ⟨A, c, e, hc, h⟩ := h
  refine ⟨A, c, e, hc, fun hn => ?_⟩
  obtain ⟨b, o, e, hB, h⟩ := h hn
  refine ⟨b, o, e, hB, fun i n hi => ?_⟩
  obtain ⟨dv, h1, h2⟩ := h i n hi
  exact ⟨dv, h1.below hb, h2.below hb hB⟩
theorem NodesAt.more {w : World} {B B' : Nat} {v : Value} {T : List Nd} (h : NodesAt w B v T) (hB : B ≤ B') : NodesAt w B' v T := by
  obtain ⟨A, c, e, hc, h⟩ := h
  refine ⟨A, c, e, hc, fun hn => ?_⟩
  obtain ⟨b, o, e, hb, h⟩ := h hn
  refine ⟨b, o, e, by omega, fun i n hi => ?_⟩
  obtain ⟨dv, h1, h2⟩ := h i n hi
  exact ⟨dv, h1.more hB, h2⟩

/-- The path ahead of the i-th node. -/
def prevAt (l : List Nd) : Nat → Option Str
  | 0 => none
  | i + 1 => (l[i]?).map (·.path)

theorem drop_at {l : List Nd} {k : Nat} {n : Nd} (h : l[k]? = some n) : l.drop k = n :: l.drop (k + 1) := by
  obtain ⟨hk, e⟩ := List.getElem?_eq_some_iff.1 h
  rw [List.drop_eq_getElem_cons hk, e]
def stepOk (T : List Nd) (prev : Option Str) (n : Nd) : Bool := rightN n && prevOk prev n.path && (decide (parentP n.path = [47]) || decide (kindAt T (parentP n.path) = 2))
theorem stepOk_none {T : List Nd} {prev : Option Str} {n : Nd} (hpar : decide (parentP n.path = [47]) = false) (hlk : Pa.look T (parentP n.path) = none) : stepOk T prev n = false := by
  unfold stepOk kindAt; rw [hpar, hlk]; simp
theorem stepOk_some {T : List Nd} {prev : Option Str} {n m : Nd} (hpar : decide (parentP n.path = [47]) = false) (hlk : Pa.look T (parentP n.path) = some m) : stepOk T prev n = (rightN n && prevOk prev n.path && (m.kind == 2)) := by
  unfold stepOk kindAt; rw [hpar, hlk]
  have : decide (m.kind = 2) = (m.kind == 2) := by rw [Bool.eq_iff_iff]; simp
  simp [this]
theorem treeGo_none {l T : List Nd} {k : Nat} {n : Nd} (hn : l[k]? = some n) (h : treeGo (l.drop k) (prevAt l k) T = treeGo l none []) (hb : stepOk T (prevAt l k) n = false) : treeGo l none [] = none := by
  unfold stepOk at hb
  rw [← h, drop_at hn, treeGo, hb]
  rfl
theorem treeGo_step {l T : List Nd} {k : Nat} {n : Nd} (hn : l[k]? = some n) (h : treeGo (l.drop k) (prevAt l k) T = treeGo l none []) (hb : stepOk T (prevAt l k) n = true) : treeGo (l.drop (k + 1)) (prevAt l (k + 1)) (setN T n) = treeGo l none [] := by
  unfold stepOk at hb
  rw [← h, drop_at hn, treeGo, hb]
  simp [prevAt, hn]

theorem bytes_setCell {W : World} {B : Nat} {v : Value} {l : Str} {p : Addr} {u : Value} (h : BytesAt W B v l) (hp : W.cell? p = some u) (hu : ∀ m, u ≠ .int .u8 m) (x : Value) : BytesAt (W.setCell p x) B v l := by
  obtain ⟨A, c, e, hc, h⟩ := h
  refine ⟨A, c, e, hc, fun hn => ?_⟩
  obtain ⟨b, o, e, hB, h⟩ := h hn
  refine ⟨b, o, e, hB, fun i s hs => ?_⟩
  have h1 := h i s hs
  rw [World.cell?_setCell_other _ _ _ _ ?_]
  · exact h1
  · intro e2
    rw [e2, h1] at hp
    exact hu _ (Option.some.inj hp).symm

structure TrInv (w : World) (l : List Nd) (i : Nat) (wx : World) : Prop where
  tree : ∃ T, TreeAt wx w.heap.size T ∧ treeGo (l.drop i) (prevAt l i) T = treeGo l none []
  below : Below w.heap.size w wx

/-- What treeOf hands back. -/
def TreePost (l : List Nd) (w : World) (e : Ending) (w' : World) : Prop :=
  Below w.heap.size w w' ∧ match treeOf l with
  | none => e = .returned (.tuple #[.map none, .bool false])
  | some T => e = .returned (.tuple #[.map (some w.heap.size), .bool true]) ∧ TreeAt w' w.heap.size T

set_option maxRecDepth 100000 in
set_option maxHeartbeats 1000000 in
theorem treeOf_any (l : List Nd) (v : Value) (w : World) (hm : MaxOk w) (hl : NodesAt w w.heap.size v l) :
    Calls Tryz.prog 22 #[v] w (TreePost l w) := by
  have hL := hl
  obtain ⟨A, cp, rfl, ⟨hc, hlen⟩, hf⟩ := hl
  have HF := Lib.hid hf
  have HL := Lib.hid hL
  clear hf hL
  have hmk : (Instr.makeMap 68 none).run Tryz.prog w = .ok (.map (some w.heap.size)) (w.alloc (.map #[] 0)) := rfl
  by_cases hbig : l.length ≤ 256
  · have hnb : decide (256 < (l.length : Int)) = false := by simp; omega
    have H0 : TrInv w l 0 (w.alloc (.map #[] 0)) := ⟨⟨[], TreeAt.new w, by simp [prevAt]⟩, (Below.refl _ _).alloc (Nat.le_refl _) _⟩
    have HM := Lib.hid hm
    have hres : treeOf l = treeGo l none [] := by unfold treeOf; rw [if_pos hbig]
    have HR := Lib.hid hres
    have H0' := Lib.hid H0
    clear hm hres H0
    go_enter Tryz.func22, Tryz.ntmps22
    go_wp2_with fail
    go_loopg [14] l.length (fun g i wx => ∃ k : Nat, i = .int .i64 k ∧ g = l.length - k ∧ k ≤ l.length ∧ TrInv w l k wx)
    case atStart => exact ⟨0, rfl, rfl, Nat.zero_le _, H0'.out⟩
    case round =>
      obtain ⟨k, rfl, rfl, hk, hI⟩ := hrel
      have HI := Lib.hid hI
      clear hI
      by_cases hlt : k < l.length
      · have hlt' : decide ((k : Int) < (l.length : Int)) = true := by simp; omega
        obtain ⟨b, o, rfl, hB, hn⟩ := HF.out (by rintro rfl; simp at hlt)
        obtain ⟨n, hnk⟩ : ∃ n, l[k]? = some n := ⟨_, List.getElem?_eq_getElem hlt⟩
        obtain ⟨dv, hdv, hcells⟩ := hn k n hnk
        obtain ⟨A', c', rfl, hc', hf'⟩ := id hdv
        have hcw := hcells.below HI.out.below hB
        have k0 := hcw.c0
        have k1 := hcw.c1
        have k2 := hcw.c2
        have k3 := hcw.c3
        have k4 := hcw.c4
        have HN := Lib.hid hn
        have HNk := Lib.hid hnk
        have HDv := Lib.hid hdv
        clear hn hnk hdv hcells hcw hf'
        go_wp2_with fail
        have hB1 : Below wr.heap.size wr (wr.alloc (.cells #[.string (bs n.path), .int .i64 n.kind, .int .i64 n.mode, .string (bs n.link), .slice A' n.data.length c'] 45)) := (Below.refl _ _).alloc (Nat.le_refl _) _
        obtain ⟨W1, hW1⟩ : ∃ W1, W1 = wr.alloc (.cells #[.string (bs n.path), .int .i64 n.kind, .int .i64 n.mode, .string (bs n.link), .slice A' n.data.length c'] 45) := ⟨_, rfl⟩
        have hz : wr.heap.size < W1.heap.size := by rw [hW1]; simp
        have q0 : W1.cell? ⟨wr.heap.size, 0, none⟩ = some (.string (bs n.path)) := by rw [hW1]; go_simp
        have q1 : W1.cell? ⟨wr.heap.size, 1, none⟩ = some (.int .i64 n.kind) := by rw [hW1]; go_simp
        have q2 : W1.cell? ⟨wr.heap.size, 2, none⟩ = some (.int .i64 n.mode) := by rw [hW1]; go_simp
        have q3 : W1.cell? ⟨wr.heap.size, 3, none⟩ = some (.string (bs n.link)) := by rw [hW1]; go_simp
        have q4 : W1.cell? ⟨wr.heap.size, 4, none⟩ = some (.slice A' n.data.length c') := by rw [hW1]; go_simp
        have f4 : W1.frozen? ⟨wr.heap.size, 4, none⟩ = false := by rw [hW1]; go_simp
        rw [← hW1] at hB1 ⊢
        clear hW1 k0 k1 k2 k3 k4
        have hbel : Below w.heap.size w wr := HI.out.below
        have hb1 : Below w.heap.size w W1 := hbel.trans (hB1.mono hbel.size)
        have cr : ∀ d os, Calls Tryz.prog 51 #[.agg #[.string (bs n.path), .int .i64 n.kind, .int .i64 n.mode, .string (bs n.link), .slice A' n.data.length c']] (Sort.grow (redrawn W1 d) os) fun e w'' => e = .returned (.bool (rightN n)) ∧ ∃ p : Regrown, w'' = Sort.grow (redrawn W1 p.d) p.os := fun d os => Calls.regrown_of (right_any n A' c' _ ((HM.out.grow (hb1.trans ((below_regrown W1 d os).mono hb1.size)))))
        have co : ∀ q d os, Calls Tryz.prog 52 #[.string (bs q), .string (bs n.path)] (Sort.grow (redrawn W1 d) os) fun e w'' => e = .returned (.int .i64 (orderP q n.path)) ∧ ∃ p : Regrown, w'' = Sort.grow (redrawn W1 p.d) p.os := fun q d os => Calls.regrown_of (order_any q n.path _ ((HM.out.grow (hb1.trans ((below_regrown W1 d os).mono hb1.size)))))
        have q0r := cell_regrown q0
        have q1r := cell_regrown q1
        have q2r := cell_regrown q2
        have q3r := cell_regrown q3
        have q4r := cell_regrown q4
        generalize hrn : rightN n = rn at cr
        cases rn
        · refine wp_region_quiet_below (by kernel_rfl) (by kernel_rfl) ?_
          repeat (go_big_quiet_step ((go_at_call 51; exact cr _ _)))
          refine wpQuiet_nil ?_
          intro _ hw'
          obtain ⟨⟨dq, osq⟩, hw''⟩ := hw'
          subst hw''
          have hb2 : Below w.heap.size w (Sort.grow (redrawn W1 dq) osq) := hb1.trans ((below_regrown W1 dq osq).mono hb1.size)
          have hno : treeOf l = none := by
            obtain ⟨T, _, hT⟩ := HI.out.tree
            rw [HR.out]
            exact treeGo_none HNk.out hT (by unfold stepOk; rw [hrn]; rfl)
          have HNo := Lib.hid hno
          clear hno
          go_wp2_with fail
          go_ret2
          unfold TreePost
          rw [HNo.out]
          exact ⟨hb2, rfl⟩
        · have hpos : k = 0 ∨ ∃ k', k = k' + 1 := by cases k with
            | zero => exact .inl rfl
            | succ k' => exact .inr ⟨k', rfl⟩
          rcases hpos with h0 | ⟨k', h0⟩
          case' inl =>
            have hk0 : decide ((0 : Int) < (k : Int)) = false := by subst h0; rfl
            have hpo : prevOk (prevAt l k) n.path = true := by subst h0; rfl
            refine wp_region_quiet_below (by kernel_rfl) (by kernel_rfl) ?_
            repeat (go_big_quiet_step ((go_at_call 51; exact cr _ _)))
            refine wpQuiet_nil ?_
            intro _ hw'
            obtain ⟨⟨dq, osq⟩, hw''⟩ := hw'
            subst hw''
          case' inr =>
            obtain ⟨q, hq⟩ : ∃ q, l[k']? = some q := ⟨_, List.getElem?_eq_getElem (by omega)⟩
            obtain ⟨dq, _, hqc⟩ := HN.out k' q hq
            have kq := cell_regrown ((hqc.below hb1 hB).c0)
            have hk0 : decide ((0 : Int) < (k : Int)) = true := by subst h0; simp
            have hk1 : (k : Int) - 1 = k' := by omega
            have hk2 : ((k' : Int) < (l.length : Int)) := by omega
            have hpo : prevOk (prevAt l k) n.path = decide (orderP q.path n.path < 0) := by subst h0; simp [prevAt, hq, prevOk]
            clear hqc
            by_cases hx : 0 ≤ orderP q.path n.path
            case' pos =>
              have hx' : decide ((0 : Int) ≤ orderP q.path n.path) = true := by simpa using hx
              refine wp_region_quiet_below (by kernel_rfl) (by kernel_rfl) ?_
              repeat (go_big_quiet_step ((first | (go_at_call 51; exact cr _ _) | (go_at_call 52; exact co _ _ _))))
              refine wpQuiet_nil ?_
              intro _ hw'
              obtain ⟨⟨dq, osq⟩, hw''⟩ := hw'
              subst hw''
              have hb2 : Below w.heap.size w (Sort.grow (redrawn W1 dq) osq) := hb1.trans ((below_regrown W1 dq osq).mono hb1.size)
              have hno : treeOf l = none := by
                obtain ⟨T, _, hT⟩ := HI.out.tree
                rw [HR.out]
                exact treeGo_none HNk.out hT (by unfold stepOk; rw [hpo, decide_eq_false (by omega)]; simp)
              have HNo := Lib.hid hno
              clear hno
              go_wp2_with fail
              go_ret2
              unfold TreePost
              rw [HNo.out]
              exact ⟨hb2, rfl⟩
            case' neg =>
              have hx' : decide ((0 : Int) ≤ orderP q.path n.path) = false := by simpa using hx
              have hpo : prevOk (prevAt l k) n.path = true := by rw [hpo]; simp; omega
              refine wp_region_quiet_below (by kernel_rfl) (by kernel_rfl) ?_
              repeat (go_big_quiet_step ((first | (go_at_call 51; exact cr _ _) | (go_at_call 52; exact co _ _ _))))
              refine wpQuiet_nil ?_
              intro _ hw'
              obtain ⟨⟨dq, osq⟩, hw''⟩ := hw'
              subst hw''
          all_goals
            have hb2 : Below wr.heap.size wr (Sort.grow (redrawn W1 dq) osq) := hB1.trans ((below_regrown W1 dq osq).mono (Nat.le_of_lt hz))
            have hz2 : wr.heap.size < (Sort.grow (redrawn W1 dq) osq).heap.size := Nat.lt_of_lt_of_le hz (below_regrown W1 dq osq).size
            have x0 := cell_regrown q0 dq osq
            have x1 := cell_regrown q1 dq osq
            have x2 := cell_regrown q2 dq osq
            have x3 := cell_regrown q3 dq osq
            have x4 := cell_regrown q4 dq osq
            have g4 := ((below_regrown W1 dq osq).frozen (p := ⟨wr.heap.size, 4, none⟩) hz).trans f4
            clear q0 q1 q2 q3 q4 q0r q1r q2r q3r q4r cr co f4 h0 hk0
            generalize Sort.grow (redrawn W1 dq) osq = W2 at hb2 hz2 x0 x1 x2 x3 x4 g4 ⊢
            go_wp2_with fail
            have hplen : n.path.length ≤ 255 := by
              have h := hrn
              unfold rightN at h
              cases hsp : splitP n.path with
              | none => rw [hsp] at h; cases h
              | some m => exact (splitP_some hsp).2.2.2
            refine (parent_any n.path W2 (by omega)).mono ?_
            rintro e w' ⟨rfl, hw⟩
            obtain rfl := hw.symm
            clear hw
            obtain ⟨T, hT, hgo⟩ := HI.out.tree
            have hT2 : TreeAt W2 w.heap.size T := hT.grow hb2
            have hbw : Below w.heap.size w W2 := hbel.trans (hb2.mono hbel.size)
            have hby : BytesAt W2 W2.heap.size (.slice A' n.data.length c') n.data := (HDv.out.below hbw).more hbw.size
            have hcl := clone_any _ _ W2 hby
            have HCl := Lib.hid hcl
            have HT := Lib.hid hT
            have HGo := Lib.hid hgo
            have HPo := Lib.hid hpo
            clear hcl hT hgo hpo hby hplen
            cases hpar : decide (parentP n.path = [47])
            case' true =>
              have hps : (parentP n.path == [47]) = true := by simpa using hpar
              have hstep : stepOk T (prevAt l k) n = true := by unfold stepOk; rw [hrn, HPo.out, hpar]; rfl
              have HS := Lib.hid hstep
              clear hstep
              go_wp2_with fail
            case' false =>
              have hps : (parentP n.path == [47]) = false := by simpa using hpar
              have hf0 : ∀ w, (Instr.field 45 (.agg #[.string ⟨#[]⟩, .int .i64 0, .int .i64 0, .string ⟨#[]⟩, .slice none 0 0]) 1).run Tryz.prog w = .ok (.int .i64 0) w := fun w => by kernel_rfl
              cases hlk : Pa.look T (parentP n.path)
              case none =>
                have hlo := (hT2.look_none hlk).1
                unfold zeroV at hlo
                have hno : treeOf l = none := by
                  rw [HR.out]
                  exact treeGo_none HNk.out HGo.out (stepOk_none hpar hlk)
                have HNo := Lib.hid hno
                clear hno
                go_wp2_with fail
                go_ret2
                unfold TreePost
                rw [HNo.out]
                exact ⟨hbw, rfl⟩
              case' some m =>
                obtain ⟨dvm, _, hlo, _⟩ := hT2.look_some hlk
                unfold ndV at hlo
                have hf1 : ∀ w, (Instr.field 45 (.agg #[.string (bs m.path), .int .i64 m.kind, .int .i64 m.mode, .string (bs m.link), dvm]) 1).run Tryz.prog w = .ok (.int .i64 m.kind) w := fun w => by kernel_rfl
                have hstp := stepOk_some (prev := prevAt l k) hpar hlk
                have HStp := Lib.hid hstp
                have HRn := Lib.hid hrn
                clear hf0 hlk hstp hrn
                cases hmk2 : (m.kind == 2)
                case false =>
                  have hno : treeOf l = none := by
                    rw [HR.out]
                    exact treeGo_none HNk.out HGo.out (by rw [HStp.out, hmk2, Bool.and_false])
                  have HNo := Lib.hid hno
                  clear hno
                  go_wp2_with fail
                  go_ret2
                  unfold TreePost
                  rw [HNo.out]
                  exact ⟨hbw, rfl⟩
                case' true =>
                  have hstep : stepOk T (prevAt l k) n = true := by rw [HStp.out, HRn.out, HPo.out, hmk2]; rfl
                  have HS := Lib.hid hstep
                  clear hstep
                  go_wp2_with fail
            all_goals
              refine HCl.out.mono ?_
              rintro e W3 ⟨v3, rfl, hby3, hb3⟩
              obtain ⟨A3, c3, rfl, hc3, _⟩ := id hby3
              have y0 := (hb3.cell (p := ⟨wr.heap.size, 0, none⟩) hz2).trans x0
              have y1 := (hb3.cell (p := ⟨wr.heap.size, 1, none⟩) hz2).trans x1
              have y2 := (hb3.cell (p := ⟨wr.heap.size, 2, none⟩) hz2).trans x2
              have y3 := (hb3.cell (p := ⟨wr.heap.size, 3, none⟩) hz2).trans x3
              have y4 := (hb3.cell (p := ⟨wr.heap.size, 4, none⟩) hz2).trans x4
              have gz := (hb3.frozen (p := ⟨wr.heap.size, 4, none⟩) hz2).trans g4
              have hb5 : Below wr.heap.size wr (W3.setCell ⟨wr.heap.size, 4, none⟩ (.slice A3 n.data.length c3)) := (hb2.trans (hb3.mono (Nat.le_of_lt hz2))).setCell (Nat.le_refl _) _
              have hT5 : TreeAt (W3.setCell ⟨wr.heap.size, 4, none⟩ (.slice A3 n.data.length c3)) w.heap.size T := HT.out.grow hb5
              have hby5 : BytesAt (W3.setCell ⟨wr.heap.size, 4, none⟩ (.slice A3 n.data.length c3)) (W3.setCell ⟨wr.heap.size, 4, none⟩ (.slice A3 n.data.length c3)).heap.size (.slice A3 n.data.length c3) n.data := (bytes_setCell hby3 y4 (fun _ h => by cases h) _).more (by simp)
              obtain ⟨W6, hup, hT6, hg6, hz6⟩ := hT5.update n _ hby5
              unfold ndV at hup
              have hb6 : Below w.heap.size w W6 := (hbel.trans (hb5.mono hbel.size)).grown hg6 (Nat.le_trans hbel.size hb5.size) (fun k hk => by cases hk; exact Nat.le_refl _)
              have hI6 : TrInv w l (k + 1) W6 := ⟨⟨_, hT6, treeGo_step HNk.out HGo.out HS.out⟩, hb6⟩
              have HI6 := Lib.hid hI6
              clear hI6 hT6 hg6 hz6 hT5 hby5 hby3 hb5 x0 x1 x2 x3 x4 g4 hT2 hb6
              go_wp2
              go_roundg (l.length - (k + 1))
              case measure => omega
              case rel => exact ⟨k + 1, by go_num, rfl, hlt, HI6.out⟩
      · have hlt' : decide ((k : Int) < (l.length : Int)) = false := by simp; omega
        have hres : TreePost l w (.returned (.tuple #[.map (some w.heap.size), .bool true])) wr := by
          obtain ⟨T, hT, hgo⟩ := HI.out.tree
          have hd : l.drop k = [] := List.drop_eq_nil_of_le (by omega)
          rw [hd] at hgo
          refine ⟨HI.out.below, ?_⟩
          rw [HR.out, ← hgo]
          exact ⟨rfl, hT⟩
        have HRes := Lib.hid hres
        clear hres
        go_wp2
        go_ret2
        exact HRes.out
  · have hnb : decide (256 < (l.length : Int)) = true := by simp; omega
    have hres : treeOf l = none := by unfold treeOf; rw [if_neg hbig]
    have HR := Lib.hid hres
    clear hres
    go_enter Tryz.func22, Tryz.ntmps22
    go_wp2_with fail
    go_ret2
    unfold TreePost
    rw [HR.out]
    exact ⟨(Below.refl _ _).alloc (Nat.le_refl _) _, rfl⟩

end Go.Proofs.YtjolgckkoidhgaaGreatDoor
