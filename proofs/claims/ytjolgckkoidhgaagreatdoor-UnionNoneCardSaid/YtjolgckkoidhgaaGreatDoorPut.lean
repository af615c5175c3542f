/-
  The walk over union's put: a Put, done to the map of a tree.
-/
import Derived.Test.YtjolgckkoidhgaaGreatDoorPutBase
namespace Go.Proofs.YtjolgckkoidhgaaGreatDoor
open Go.RowKit Go.Shelf Pa
open Go.MapKept
attribute [local go_sem] bs_toList bs_size

set_option maxRecDepth 100000 in
set_option maxHeartbeats 8000000 in
theorem put_any (c : Ch) (A : Option Addr) (cp : Nat) (T : List Nd) (b : Nat) (w : World) (hm : MaxOk w) (hT : TreeAt w b T) (hby : BytesAt w w.heap.size (.slice A c.data.length cp) c.data) :
    Calls Tryz.prog 72 #[.map (some b), chV c (.slice A c.data.length cp)] w (PutPost T c b w) := by
  have hB1 : Below w.heap.size w (w.alloc (.cells #[.int .i64 c.kind, .string (bs c.path), .string (bs c.name), .int .i64 c.nkind, .int .i64 c.mode, .string (bs c.link), .slice A c.data.length cp] 53)) := (Below.refl _ _).alloc (Nat.le_refl _) _
  have hnm := names_any c.path _ (hm.grow hB1)
  have HNm := Lib.hid hnm
  have HT := Lib.hid hT
  have HBy := Lib.hid hby
  have hblt := hT.lt
  clear hnm hm hT hby
  unfold chV
  go_enter Tryz.func72, Tryz.ntmps72
  go_wp2_with fail
  obtain ⟨W1, hW1⟩ : ∃ W1, W1 = w.alloc (.cells #[.int .i64 c.kind, .string (bs c.path), .string (bs c.name), .int .i64 c.nkind, .int .i64 c.mode, .string (bs c.link), .slice A c.data.length cp] 53) := ⟨_, rfl⟩
  have hc : ∀ i, W1.cell? ⟨w.heap.size, i, none⟩ = #[.int .i64 c.kind, .string (bs c.path), .string (bs c.name), .int .i64 c.nkind, .int .i64 c.mode, .string (bs c.link), .slice A c.data.length cp][i]? := fun i => by
    rw [hW1, World.cell?_alloc_at _ _ _ _ rfl]
  have hz : w.heap.size < W1.heap.size := by rw [hW1]; simp
  rw [← hW1] at HNm hB1 ⊢
  clear hW1
  refine HNm.out.mono ?_
  rintro e w1 ⟨v1, rfl, hb, hs⟩
  have hk : ∀ i, w1.cell? ⟨w.heap.size, i, none⟩ = #[.int .i64 c.kind, .string (bs c.path), .string (bs c.name), .int .i64 c.nkind, .int .i64 c.mode, .string (bs c.link), .slice A c.data.length cp][i]? := fun i => (hb.cell (p := ⟨w.heap.size, i, none⟩) hz).trans (hc i)
  have hb1 := hB1.trans (hb.mono (Nat.le_of_lt hz))
  have hz1 : w.heap.size < w1.heap.size := Nat.lt_of_lt_of_le hz hb.size
  have hT1 : TreeAt w1 b T := HT.out.grow hb1
  have hby1 : BytesAt w1 w1.heap.size (.slice A c.data.length cp) c.data := (HBy.out.below hb1).more hb1.size
  have hnc1 := hT1.nocell
  have hl16 := names_len c.path
  have h59 : ∀ x ∈ names c.path, x.length ≤ 59 := fun x hx => names_mem hx
  have HK := Lib.hid hk
  have HT1 := Lib.hid hT1
  have HBy1 := Lib.hid hby1
  have HNc := Lib.hid hnc1
  have H59 := Lib.hid h59
  have HS := Lib.hid hs
  clear hk hT1 hby1 hnc1 h59 hc HNm HT HBy hb hB1
  obtain ⟨A1, c1, rfl, hc1, hcells⟩ := hs
  have HCe := Lib.hid hcells
  clear hcells
  generalize hL : names c.path = L at *
  have HL := Lib.hid hL
  clear hL
  cases L with
  | nil =>
    go_wp2
    go_ret
    exact PutPost.some (putC_nil HL.out) (grownBy_below (World.grownBy_self _ _) hb1) HT1.out
  | cons x0 L0 =>
    obtain ⟨bl, ol, rfl, hbl, hce⟩ := HCe.out (by simp)
    have HCl := Lib.hid hce
    have hll : (x0 :: L0).length = L0.length + 1 := rfl
    have hbne : bl ≠ b := by
      rintro rfl
      have h0 := hce 0 x0 rfl
      rw [HNc.out] at h0
      cases h0
    clear hce HCe
    go_wp2_with fail
    go_loopg [21] L0.length (fun g i wx => ∃ k : Nat, i = .int .i64 k ∧ g = L0.length - k ∧ k ≤ L0.length ∧ PutInv w1 T (x0 :: L0) b k wx)
    case atStart => exact ⟨0, rfl, rfl, Nat.zero_le _, ⟨⟨T, HT1.out, rfl⟩, World.grownBy_self _ _⟩⟩
    case round =>
      obtain ⟨k, rfl, rfl, hk, hI⟩ := hrel
      have HI := Lib.hid hI
      clear hI
      by_cases hlt : k < L0.length
      · have hlt' : decide ((k : Int) < (L0.length : Int)) = true := by simp; omega
        have hcr : ∀ i s, (x0 :: L0)[i]? = some s → wr.cell? ⟨bl, ol + i, none⟩ = some (.string (bs s)) := fun i s hs =>
          (World.cell?_of_block (w := w1) (HI.out.grow.block bl hbl (fun e => hbne (Option.some.inj e)))).trans (HCl.out i s hs)
        have hj := joinTo_any (x0 :: L0) k bl ol c1 wr (by simp; omega) hc1 hl16 H59.out (Nat.lt_of_lt_of_le hbl HI.out.grow.size) hcr
        have hcat : (⟨#[47]⟩ : ByteArray) ++ bs (jn ((x0 :: L0).take (k + 1))) = bs (joinP ((x0 :: L0).take (k + 1))) := bs_append [47] _
        have hkd : k < (x0 :: L0).dropLast.length := by simp; omega
        have HJ := Lib.hid hj
        clear hcr hj
        go_wp2_with fail
        refine HJ.out.mono ?_
        rintro e w2 ⟨rfl, hb2⟩
        obtain ⟨T', hT', hd⟩ := HI.out.tree
        have hT2 : TreeAt w2 b T' := hT'.grow hb2
        have HD := Lib.hid hd
        have hg2 : w1.grownBy w2 (some b) := grownBy_below HI.out.grow hb2
        have hstepN := fun T' X h h2 => dirs_none (T := T') (X := X) hkd h h2
        have hstepD := fun T' X n h h2 h3 => dirs_dir (T := T') (X := X) (n := n) hkd h h2 h3
        have hstepB := fun T' X n h h2 h3 => dirs_bad (T := T') (X := X) (n := n) hkd h h2 h3
        generalize joinP ((x0 :: L0).take (k + 1)) = P at hcat hstepN hstepD hstepB
        have HN := Lib.hid hstepN
        have HDi := Lib.hid hstepD
        have HBa := Lib.hid hstepB
        clear hstepN hstepD hstepB
        have hJl : ¬ 9223372036854775807 < 1 + (jn ((x0 :: L0).take (k + 1))).length := by
          have h1 := jn_len ((x0 :: L0).take (k + 1)) (fun x hx => H59.out x (List.mem_of_mem_take hx))
          have h2 : ((x0 :: L0).take (k + 1)).length ≤ k + 1 := by rw [List.length_take]; omega
          omega
        generalize jn ((x0 :: L0).take (k + 1)) = J at hcat hJl ⊢
        clear hT' hd HJ
        cases hlk : Pa.look T' P with
        | none =>
          have hlo := (hT2.look_none hlk).2
          unfold zeroV at hlo
          have hb3 : Below w2.heap.size w2 (w2.alloc (.cells #[.string ⟨#[]⟩, .int .i64 0, .int .i64 0, .string ⟨#[]⟩, .slice none 0 0] 45)) := (Below.refl _ _).alloc (Nat.le_refl _) _
          obtain ⟨W6, hup, hT6, hg6, hz6⟩ := (hT2.grow hb3).update (dirN P) (.slice none 0 0) (BytesAt.nil _ _ _ _)
          have hup' : (Instr.mapUpdate 68 (.map (some b)) (.string (bs P)) (.agg #[.string (bs P), .int .i64 2, .int .i64 493, .string ⟨#[]⟩, .slice none 0 0])).run Tryz.prog (w2.alloc (.cells #[.string ⟨#[]⟩, .int .i64 0, .int .i64 0, .string ⟨#[]⟩, .slice none 0 0] 45)) = .ok () W6 := hup
          have hI6 : PutInv w1 T (x0 :: L0) b (k + 1) W6 := ⟨⟨_, hT6, HN.out _ _ HD.out hlk⟩, grownBy_trans (grownBy_below hg2 hb3) hg6⟩
          have HI6 := Lib.hid hI6
          clear hup hlk hI6 hT6 hg6 hz6
          go_wp2
          go_roundg (L0.length - (k + 1))
          case measure => omega
          case rel => exact ⟨k + 1, by go_num, rfl, hlt, HI6.out⟩
        | some n =>
          obtain ⟨dv, hbyn, _, hlo⟩ := hT2.look_some hlk
          unfold ndV at hlo
          obtain ⟨An, cn, rfl, hcn, _⟩ := hbyn
          have hb3 : Below w2.heap.size w2 (w2.alloc (.cells #[.string (bs n.path), .int .i64 n.kind, .int .i64 n.mode, .string (bs n.link), .slice An n.data.length cn] 45)) := (Below.refl _ _).alloc (Nat.le_refl _) _
          have hT3 := hT2.grow hb3
          have hg3 := grownBy_below hg2 hb3
          cases hkd2 : (n.kind == 2) with
          | true =>
            have hI6 : PutInv w1 T (x0 :: L0) b (k + 1) _ := ⟨⟨_, hT3, HDi.out _ _ _ HD.out hlk hkd2⟩, hg3⟩
            have HI6 := Lib.hid hI6
            clear hlk hI6 hT3 hg3
            go_wp2
            go_roundg (L0.length - (k + 1))
            case measure => omega
            case rel => exact ⟨k + 1, by go_num, rfl, hlt, HI6.out⟩
          | false =>
            have hbad := HBa.out _ _ _ HD.out hlk hkd2
            have hres := PutPost.none (putC_dirs HL.out (by simp) hbad) (grownBy_trans (grownBy_below (World.grownBy_self w (some b)) hb1) hg3)
            have HRes := Lib.hid hres
            clear hlk hT3 hg3 hres hbad
            go_wp2
            go_ret
            exact HRes.out
      · have hlt' : decide ((k : Int) < (L0.length : Int)) = false := by simp; omega
        obtain ⟨T1, hT1, hd⟩ := HI.out.tree
        have hnil : (x0 :: L0).dropLast.drop k = [] := List.drop_eq_nil_of_le (by simp; omega)
        rw [hnil] at hd
        have hdirs : dirs T [] (x0 :: L0).dropLast = some T1 := hd.symm
        have hgr := HI.out.grow
        have kr : ∀ i, wr.cell? ⟨w.heap.size, i, none⟩ = #[.int .i64 c.kind, .string (bs c.path), .string (bs c.name), .int .i64 c.nkind, .int .i64 c.mode, .string (bs c.link), .slice A c.data.length cp][i]? := fun i =>
          (World.cell?_of_block (w := w1) (hgr.block w.heap.size hz1 (fun e => by have := Option.some.inj e; omega))).trans (HK.out i)
        have hbyr : BytesAt wr wr.heap.size (.slice A c.data.length cp) c.data := bytes_grown hgr HNc.out HBy1.out
        have HD := Lib.hid hdirs
        have HT2 := Lib.hid hT1
        have HG := Lib.hid hgr
        have HByr := Lib.hid hbyr
        have hB0 : w.heap.size < wr.heap.size := Nat.lt_of_lt_of_le hz1 hgr.size
        clear hd hnil hdirs hgr hbyr hT1 HI HCl HS HBy1 HT1 HK HNc H59
        have hS : ∀ w', Below wr.heap.size wr w' → w'.cell? ⟨w.heap.size, 1, none⟩ = some (.string (bs c.path)) ∧ w'.cell? ⟨w.heap.size, 3, none⟩ = some (.int .i64 c.nkind) ∧ w'.cell? ⟨w.heap.size, 4, none⟩ = some (.int .i64 c.mode) ∧ w'.cell? ⟨w.heap.size, 5, none⟩ = some (.string (bs c.link)) ∧ w'.cell? ⟨w.heap.size, 6, none⟩ = some (.slice A c.data.length cp) ∧ Below wr.heap.size wr w' := fun w' h =>
          ⟨(h.cell (p := ⟨w.heap.size, 1, none⟩) hB0).trans (kr 1), (h.cell (p := ⟨w.heap.size, 3, none⟩) hB0).trans (kr 3), (h.cell (p := ⟨w.heap.size, 4, none⟩) hB0).trans (kr 4), (h.cell (p := ⟨w.heap.size, 5, none⟩) hB0).trans (kr 5), (h.cell (p := ⟨w.heap.size, 6, none⟩) hB0).trans (kr 6), h⟩
        have HSx := Lib.hid hS
        obtain ⟨j1, j3, j4, j5, j6, j7⟩ := hS wr (Below.refl _ _)
        clear hS kr
        have hcl := fun w' (h : Below wr.heap.size wr w') => clone_any (.slice A c.data.length cp) c.data w' ((HByr.out.below h).more h.size)
        have HCo := Lib.hid hcl
        clear hcl
        go_wp2_with fail
        go_region_held3 (fun w' => w'.cell? ⟨w.heap.size, 1, none⟩ = some (.string (bs c.path)) ∧ w'.cell? ⟨w.heap.size, 3, none⟩ = some (.int .i64 c.nkind) ∧ w'.cell? ⟨w.heap.size, 4, none⟩ = some (.int .i64 c.mode) ∧ w'.cell? ⟨w.heap.size, 5, none⟩ = some (.string (bs c.link)) ∧ w'.cell? ⟨w.heap.size, 6, none⟩ = some (.slice A c.data.length cp) ∧ Below wr.heap.size wr w')
          ((go_split_ands
            refine HSx.out _ ?_
            with_reducible first
              | assumption
              | exact Below.drew (by assumption)
              | exact below_alloc (by assumption) _
              | exact below_alloc (Below.drew (by assumption)) _
              | exact Below.drew (below_alloc (by assumption) _)
              | exact below_then (by first | assumption | exact Below.drew (by assumption) | exact Below.drew (below_alloc (by assumption) _)) hb3
              | exact below_alloc (below_then (by first | assumption | exact Below.drew (by assumption)) hb3) _
              | exact below_set (below_set (below_set (below_set (below_set (by assumption) (Nat.le_refl _) _) (Nat.le_refl _) _) (Nat.le_refl _) _) (Nat.le_refl _) _) (Nat.le_refl _) _))
          ((go_at_call 53; go_split_ands; refine (HCo.out _ (by with_reducible first | assumption | exact Below.drew (by assumption) | exact below_alloc (by assumption) _)).mono ?_; rintro e w3 ⟨v3, rfl, hby3, hb3⟩; obtain ⟨A3, c3, rfl, hc3, _⟩ := id hby3
            try (obtain ⟨nk1, nk2⟩ := new_kept_drew hb3
                 have n0 : w3.cell? ⟨wr.heap.size, 0, none⟩ = some (.string ⟨#[]⟩) := nk1 0
                 have n1 : w3.cell? ⟨wr.heap.size, 1, none⟩ = some (.int .i64 0) := nk1 1
                 have n2 : w3.cell? ⟨wr.heap.size, 2, none⟩ = some (.int .i64 0) := nk1 2
                 have n3 : w3.cell? ⟨wr.heap.size, 3, none⟩ = some (.string ⟨#[]⟩) := nk1 3
                 have n4 : w3.cell? ⟨wr.heap.size, 4, none⟩ = some (.slice none 0 0) := nk1 4
                 have f0 : w3.frozen? ⟨wr.heap.size, 0, none⟩ = false := nk2 0
                 have f1 : w3.frozen? ⟨wr.heap.size, 1, none⟩ = false := nk2 1
                 have f2 : w3.frozen? ⟨wr.heap.size, 2, none⟩ = false := nk2 2
                 have f3 : w3.frozen? ⟨wr.heap.size, 3, none⟩ = false := nk2 3
                 have f4 : w3.frozen? ⟨wr.heap.size, 4, none⟩ = false := nk2 4
                 clear nk1 nk2)))
        have hBw3 : Below wr.heap.size wr w3 := below_then (Below.drew (Below.refl _ _)) hb3
        have hB4 := below_alloc hBw3 (.cells #[.string (bs c.path), .int .i64 c.nkind, .int .i64 c.mode, .string (bs c.link), .slice A3 c.data.length c3] 45)
        have hlt3 : wr.heap.size ≤ w3.heap.size := hBw3.size
        have hSt : PutSt w (w3.alloc (.cells #[.string (bs c.path), .int .i64 c.nkind, .int .i64 c.mode, .string (bs c.link), .slice A3 c.data.length c3] 45)) b w.heap.size w3.heap.size c.path T1 c.nkind c.mode c.link c.data (.slice A3 c.data.length c3) :=
          ⟨grownBy_below (grownBy_trans (grownBy_below (World.grownBy_self _ _) hb1) HG.out) hB4, HT2.out.grow hB4, varAt_new w3 ⟨c.path, c.nkind, c.mode, c.link, c.data⟩ _ _, (hby3.below ((Below.refl _ _).alloc (Nat.le_refl _) _)).more (by simp), (HSx.out _ hB4).1, by simp; omega, by simp, by omega, by omega, by omega⟩
        have hnb : w.heap.size ≤ w3.heap.size := by omega
        generalize w3.alloc (.cells #[.string (bs c.path), .int .i64 c.nkind, .int .i64 c.mode, .string (bs c.link), .slice A3 c.data.length c3] 45) = W4 at hSt ⊢
        obtain ⟨nb, hnbe⟩ : ∃ nb, nb = w3.heap.size := ⟨_, rfl⟩
        rw [← hnbe] at hSt hnb ⊢
        clear hnbe
        clear hb3 hby3 hB4 hBw3 hlt3
        rotate_left
        have hBw3 : Below wr.heap.size wr w3 := below_then (Below.drew (below_alloc (Below.refl _ _) _)) hb3
        obtain ⟨nk1, nk2⟩ := new_kept_drew hb3
        have hV0 : VarAt w3 wr.heap.size ⟨[], 0, 0, [], []⟩ (.slice none 0 0) := ⟨nk1 0, nk1 1, nk1 2, nk1 3, nk1 4, nk2 0, nk2 1, nk2 2, nk2 3, nk2 4⟩
        have hlt3 : wr.heap.size < w3.heap.size := Nat.lt_of_lt_of_le (by simp) hb3.size
        have hB4 : Below wr.heap.size wr (((((w3.setCell ⟨wr.heap.size, 0, none⟩ (.string (bs c.path))).setCell ⟨wr.heap.size, 1, none⟩ (.int .i64 c.nkind)).setCell ⟨wr.heap.size, 2, none⟩ (.int .i64 c.mode)).setCell ⟨wr.heap.size, 3, none⟩ (.string (bs c.link))).setCell ⟨wr.heap.size, 4, none⟩ (.slice A3 c.data.length c3)) := below_set (below_set (below_set (below_set (below_set hBw3 (Nat.le_refl _) _) (Nat.le_refl _) _) (Nat.le_refl _) _) (Nat.le_refl _) _) (Nat.le_refl _) _
        have hSt : PutSt w (((((w3.setCell ⟨wr.heap.size, 0, none⟩ (.string (bs c.path))).setCell ⟨wr.heap.size, 1, none⟩ (.int .i64 c.nkind)).setCell ⟨wr.heap.size, 2, none⟩ (.int .i64 c.mode)).setCell ⟨wr.heap.size, 3, none⟩ (.string (bs c.link))).setCell ⟨wr.heap.size, 4, none⟩ (.slice A3 c.data.length c3)) b w.heap.size wr.heap.size c.path T1 c.nkind c.mode c.link c.data (.slice A3 c.data.length c3) :=
          ⟨grownBy_below (grownBy_trans (grownBy_below (World.grownBy_self _ _) hb1) HG.out) hB4, HT2.out.grow hB4, varAt_set5 hV0 ⟨c.path, c.nkind, c.mode, c.link, c.data⟩ _, (bytes_set5 hV0 (fun _ h => by cases h) ⟨c.path, c.nkind, c.mode, c.link, c.data⟩ (.slice A3 c.data.length c3) hby3).more (by simp), (HSx.out _ hB4).1, by simp; omega, by simp; omega, by omega, by omega, by omega⟩
        have hnb : w.heap.size ≤ wr.heap.size := by omega
        generalize ((((w3.setCell ⟨wr.heap.size, 0, none⟩ (.string (bs c.path))).setCell ⟨wr.heap.size, 1, none⟩ (.int .i64 c.nkind)).setCell ⟨wr.heap.size, 2, none⟩ (.int .i64 c.mode)).setCell ⟨wr.heap.size, 3, none⟩ (.string (bs c.link))).setCell ⟨wr.heap.size, 4, none⟩ (.slice A3 c.data.length c3) = W4 at hSt ⊢
        obtain ⟨nb, hnbe⟩ : ∃ nb, nb = wr.heap.size := ⟨_, rfl⟩
        rw [← hnbe] at hSt hnb ⊢
        clear hnbe hb3 hby3 hB4 hBw3 hlt3 nk1 nk2 hV0 n0 n1 n2 n3 n4 f0 f1 f2 f3 f4
        all_goals
          clear j1 j3 j4 j5 j6 j7 HSx HCo HByr HT2 HG
          have hpl := names_path HL.out
          have k1 : W4.cell? ⟨nb, 1, none⟩ = some (.int .i64 c.nkind) := hSt.var.c1
          have k3 : W4.cell? ⟨nb, 3, none⟩ = some (.string (bs c.link)) := hSt.var.c3
          cases h4 : (c.nkind == 4)
          case' true =>
            cases hlk : Pa.look T1 c.link
            case none =>
              have hlo := (hSt.tree.look_none hlk).1
              unfold zeroV at hlo
              have hres := PutPost.none (putC_node HL.out (by simp) HD.out (nodeOf_hard_none h4 hlk)) (hSt.alloc (.cells #[.string ⟨#[]⟩, .int .i64 0, .int .i64 0, .string ⟨#[]⟩, .slice none 0 0] 45)).grow
              have HRes := Lib.hid hres
              clear hres hlk hSt
              go_wp2
              go_ret
              exact HRes.out
            case' some m =>
              obtain ⟨dm, hbm, hlo, _⟩ := hSt.tree.look_some hlk
              obtain ⟨Am, cm, rfl, hcm, _⟩ := id hbm
              unfold ndV at hlo
              cases hm1 : (m.kind == 1)
              case false =>
                have hres := PutPost.none (putC_node HL.out (by simp) HD.out (nodeOf_hard_bad h4 hlk hm1)) (hSt.alloc (.cells #[.string (bs m.path), .int .i64 m.kind, .int .i64 m.mode, .string (bs m.link), .slice Am m.data.length cm] 45)).grow
                have HRes := Lib.hid hres
                clear hres hlk hSt
                go_wp2
                go_ret
                exact HRes.out
              case' true =>
                have HNode := Lib.hid (nodeOf_hard h4 hlk hm1)
                have HSt := Lib.hid hSt
                have HBm := Lib.hid hbm
                clear hSt hlk hbm
                go_wp2_with fail
                obtain ⟨W5, hW5⟩ : ∃ W5, W5 = W4.alloc (.cells #[.string (bs m.path), .int .i64 m.kind, .int .i64 m.mode, .string (bs m.link), .slice Am m.data.length cm] 45) := ⟨_, rfl⟩
                obtain ⟨tb, htb⟩ : ∃ tb, tb = W4.heap.size := ⟨_, rfl⟩
                have t2 : W5.cell? ⟨tb, 2, none⟩ = some (.int .i64 m.mode) := by rw [hW5, htb]; go_simp
                have t4 : W5.cell? ⟨tb, 4, none⟩ = some (.slice Am m.data.length cm) := by rw [hW5, htb]; go_simp
                have hSt5 := HSt.out.alloc (.cells #[.string (bs m.path), .int .i64 m.kind, .int .i64 m.mode, .string (bs m.link), .slice Am m.data.length cm] 45)
                have hbm5 : BytesAt W5 W5.heap.size (.slice Am m.data.length cm) m.data := by
                  rw [hW5]; exact (HBm.out.below ((Below.refl _ _).alloc (Nat.le_refl _) _)).more (by simp)
                have t2d : W5.drew.cell? ⟨tb, 2, none⟩ = some (.int .i64 m.mode) := t2
                have t4d : W5.drew.cell? ⟨tb, 4, none⟩ = some (.slice Am m.data.length cm) := t4
                have htlt : tb < W5.heap.size := by rw [hW5, htb]; simp
                have htn : nb ≠ tb := by have := HSt.out.nblt; omega
                rw [← hW5] at hSt5
                rw [← htb, ← hW5]
                have hSd := hSt5.below (Below.drew (Below.refl _ _))
                have HSt5 := Lib.hid hSd
                have hcl := clone_any _ m.data W5.drew (hbm5.below (Below.drew (Below.refl _ _)))
                have HCl := Lib.hid hcl
                clear hcl hSt5 hSd HSt HBm hW5 htb hbm5 k1 k3
                go_region_held3 (fun w' => w'.cell? ⟨tb, 2, none⟩ = some (.int .i64 m.mode) ∧ w'.cell? ⟨tb, 4, none⟩ = some (.slice Am m.data.length cm))
                  (with_reducible first
                    | (refine ⟨?_, ?_⟩ <;> assumption)
                    | (go_split_ands; exact ⟨(World.cell?_setCell_far _ _ _ _ htn).trans (by assumption), (World.cell?_setCell_far _ _ _ _ htn).trans (by assumption)⟩))
                  ((go_at_call 53; refine HCl.out.mono ?_; rintro e w6 ⟨v6, rfl, hby6, hb6⟩; obtain ⟨A6, c6, rfl, hc6, _⟩ := id hby6
                    have hSt6 := HSt5.out.below hb6
                    have t2' : w6.cell? ⟨tb, 2, none⟩ = some (.int .i64 m.mode) := (hb6.cell (p := ⟨tb, 2, none⟩) htlt).trans t2
                    have t4' : w6.cell? ⟨tb, 4, none⟩ = some (.slice Am m.data.length cm) := (hb6.cell (p := ⟨tb, 4, none⟩) htlt).trans t4
                    have n1 : w6.cell? ⟨nb, 1, none⟩ = some (.int .i64 c.nkind) := hSt6.var.c1
                    have n2 : w6.cell? ⟨nb, 2, none⟩ = some (.int .i64 c.mode) := hSt6.var.c2
                    have n3 : w6.cell? ⟨nb, 3, none⟩ = some (.string (bs c.link)) := hSt6.var.c3
                    have n4 : w6.cell? ⟨nb, 4, none⟩ = some (.slice A3 c.data.length c3) := hSt6.var.c4
                    have f1 := hSt6.var.f1
                    have f2 := hSt6.var.f2
                    have f3 := hSt6.var.f3
                    have f4 := hSt6.var.f4
                    have HSt6 := Lib.hid hSt6
                    clear hSt6))
                have hSt : PutSt w ((((w6.setCell ⟨nb, 1, none⟩ (.int .i64 1)).setCell ⟨nb, 2, none⟩ (.int .i64 m.mode)).setCell ⟨nb, 3, none⟩ (.string ⟨#[]⟩)).setCell ⟨nb, 4, none⟩ (.slice A6 m.data.length c6)) b w.heap.size nb c.path T1 1 m.mode [] m.data (.slice A6 m.data.length c6) :=
                  HSt6.out.fields hnb (fun _ h => by cases h) 1 m.mode [] m.data (.slice A6 m.data.length c6) hby6
                generalize (((w6.setCell ⟨nb, 1, none⟩ (.int .i64 1)).setCell ⟨nb, 2, none⟩ (.int .i64 m.mode)).setCell ⟨nb, 3, none⟩ (.string ⟨#[]⟩)).setCell ⟨nb, 4, none⟩ (.slice A6 m.data.length c6) = W at hSt ⊢
                have hnode := HNode.out
                have hplace := place_del (T := T1) (n := ⟨c.path, 1, m.mode, [], m.data⟩) (fun h => by cases h.1)
                have HSt := Lib.hid hSt
                have HNo := Lib.hid hnode
                have HPl := Lib.hid hplace
                obtain ⟨u0, u1, u2, u3, u4, ub⟩ := hSt.cells
                clear hSt hnode hplace HSt6 HSt5 HNode n1 n2 n3 n4 f1 f2 f3 f4 t2 t4 t2d t4d t2' t4' hlo
                go_wp2_with fail
          case' false =>
            cases h3 : (c.nkind == 3)
            case' true =>
              have h2 : (c.nkind == 2) = false := by have : c.nkind = 3 := by simpa using h3
                                                     rw [this]; rfl
              have hk2' : (c.nkind = 2) = False := eq_false (by simpa using h2)
              have k2 : W4.cell? ⟨nb, 2, none⟩ = some (.int .i64 c.mode) := hSt.var.c2
              have f2 := hSt.var.f2
              have kb := hSt.box
              have hnode := nodeOf_link (T := T1) h4 h3
              have hplace := place_del (T := T1) (n := ⟨c.path, c.nkind, 511, c.link, c.data⟩) (fun h => by have h9 : c.nkind = 2 := h.1; rw [h9] at h3; cases h3)
              have hSt' := hSt.mode hnb 511
              have HSt := Lib.hid hSt'
              have HNo := Lib.hid hnode
              have HPl := Lib.hid hplace
              clear hSt' hSt hnode hplace
              go_wp2_with fail
              clear f2 k2 kb
              generalize W4.setCell ⟨nb, 2, none⟩ (.int .i64 511) = W at HSt ⊢
            case' false =>
              have hnode := nodeOf_other (T := T1) h4 h3
              have HNo := Lib.hid hnode
              clear hnode
              have kb := hSt.box
              obtain ⟨W, rfl⟩ : ∃ W, W = W4 := ⟨_, rfl⟩
              cases h2 : (c.nkind == 2)
              case' false =>
                have hk2' : (c.nkind = 2) = False := eq_false (by simpa using h2)
                have hplace := place_del (T := T1) (n := ⟨c.path, c.nkind, c.mode, c.link, c.data⟩) (fun h => by have h9 : c.nkind = 2 := h.1; rw [h9] at h2; cases h2)
                have HPl := Lib.hid hplace
                have HSt := Lib.hid hSt
                clear hplace hSt
                go_wp2_with fail
              case' true =>
                have hk2 : c.nkind = 2 := by simpa using h2
                have hk2' : (c.nkind = 2) = True := eq_true hk2
                cases hlk : Pa.look T1 c.path
                case' none =>
                  have hplace := place_del (T := T1) (n := ⟨c.path, c.nkind, c.mode, c.link, c.data⟩) (fun h => kindAt_none hlk h.2)
                  have HPl := Lib.hid hplace
                  have hlo := (hSt.tree.look_none hlk).1
                  unfold zeroV at hlo
                  have hf0 : ∀ w, (Instr.field 45 (.agg #[.string ⟨#[]⟩, .int .i64 0, .int .i64 0, .string ⟨#[]⟩, .slice none 0 0]) 1).run Tryz.prog w = .ok (.int .i64 0) w := fun w => by kernel_rfl
                  have HSt := Lib.hid hSt
                  clear hplace hSt hlk hk2
                  go_wp2_with fail
                case' some m =>
                  obtain ⟨dm, hbm, hlo, _⟩ := hSt.tree.look_some hlk
                  have hkm := kindAt_some hlk
                  unfold ndV at hlo
                  have hf1 : ∀ w, (Instr.field 45 (.agg #[.string (bs m.path), .int .i64 m.kind, .int .i64 m.mode, .string (bs m.link), dm]) 1).run Tryz.prog w = .ok (.int .i64 m.kind) w := fun w => by kernel_rfl
                  have hn2 : (c.nkind != 2) = false := by unfold bne; rw [h2]; rfl
                  cases hm2 : (m.kind == 2)
                  case' false =>
                    have hmn2 : (m.kind != 2) = true := by unfold bne; rw [hm2]; rfl
                    have hplace := place_del (T := T1) (n := ⟨c.path, c.nkind, c.mode, c.link, c.data⟩) (fun h => by have h9 := hkm.symm.trans h.2; rw [h9] at hm2; cases hm2)
                    have HPl := Lib.hid hplace
                    have HSt := Lib.hid hSt
                    clear hplace hSt hlk hk2 hkm hbm
                    go_wp2_with fail
                  case true =>
                    have hmn2 : (m.kind != 2) = false := by unfold bne; rw [hm2]; rfl
                    have hplace := place_keep (T := T1) (n := ⟨c.path, c.nkind, c.mode, c.link, c.data⟩) hk2 (hkm.trans (by simpa using hm2))
                    obtain ⟨u0, u1, u2, u3, u4, ub⟩ := hSt.cells
                    obtain ⟨WU, hup, hTU, hgU⟩ := hSt.update
                    have hres := PutPost.some (putC_some HL.out (by simp) HD.out HNo.out) hgU (by rw [hplace]; exact hTU)
                    have HRes := Lib.hid hres
                    clear hres hTU hgU hplace hSt hlk hk2 hkm hbm HNo k1 k3 kb
                    go_wp2
                    go_ret
                    exact HRes.out
          all_goals
            have hbl := below_any c.path W (by omega)
            refine hbl.mono ?_
            rintro e w' ⟨rfl, hw⟩
            subst hw
            have hSt8 := HSt.out.alloc (.cells #[.string (bs (topOf c.path))] 9)
            have hx : (W.alloc (.cells #[.string (bs (topOf c.path))] 9)).cell? ⟨W.heap.size, 0, none⟩ = some (.string (bs (topOf c.path))) := by go_simp
            have hdel := deleteFunc_any T1 b (topOf c.path) W.heap.size _ hSt8.tree hx
            have HSt8 := Lib.hid hSt8
            have HDel := Lib.hid hdel
            clear hSt8 hdel hx hbl
            go_wp2_with fail
            refine HDel.out.mono ?_
            rintro e W9 ⟨rfl, hT9, hg9⟩
            have hSt9 := HSt8.out.grown hg9 hT9
            obtain ⟨u0, u1, u2, u3, u4, ub⟩ := hSt9.cells
            obtain ⟨WU, hup, hTU, hgU⟩ := hSt9.update
            have hres := PutPost.some (putC_some HL.out (by simp) HD.out HNo.out) hgU (by rw [HPl.out]; exact hTU)
            have HRes := Lib.hid hres
            clear hres hTU hgU hSt9 hT9 hg9
            go_wp2
            go_ret
            exact HRes.out

end Go.Proofs.YtjolgckkoidhgaaGreatDoor
