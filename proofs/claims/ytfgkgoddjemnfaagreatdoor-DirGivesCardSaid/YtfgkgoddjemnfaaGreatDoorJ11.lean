/-
  The walk over both and Free of the map.
  Free of the store; the entries with no empty leftovers (DirV); rows of one's own beside both stores.
  The walk over the law DirGives: it answers true of all names.
-/
import Derived.Test.YtfgkgoddjemnfaaGreatDoorJ10
import Derived.Laws.ComplexArith
set_option linter.unusedVariables false
set_option linter.unusedSimpArgs false
set_option linter.deprecated false
namespace Go.Proofs.YtfgkgoddjemnfaaGreatDoor
open Go.RowKit Go.Shelf Pa
attribute [local go_sem] bs_toList bs_size

/-- A small number as a float's bits. -/
def encF (n : Nat) : Nat := if n = 0 then 0 else (1023 + Nat.log2 n) * 2 ^ 52 + (n - 2 ^ Nat.log2 n) * 2 ^ (52 - Nat.log2 n)
theorem encF_one : ((List.range 120).all fun n => decide (floatBits .add .f64 (encF n) 4607182418800017408 = some (encF (n + 1)))) = true := by kernel_rfl
theorem encF_zero : ((List.range 120).all fun n => decide (floatBits .add .f64 (encF n) 0 = some (encF n))) = true := by kernel_rfl
theorem encF_int : ((List.range 120).all fun n => decide (floatToIntVal .f64 (encF n) .i64 = some (n : Int))) = true := by kernel_rfl
theorem encF_add (n d : Nat) (hn : n < 120) (hd : d = 0 ∨ d = 1) : floatBits .add .f64 (encF n) (if d = 0 then 0 else 4607182418800017408) = some (encF (n + d)) := by
  rcases hd with rfl | rfl
  · have := List.all_eq_true.1 encF_zero n (List.mem_range.2 hn)
    simpa using this
  · have := List.all_eq_true.1 encF_one n (List.mem_range.2 hn)
    simpa using this
theorem encF_toInt (n : Nat) (hn : n < 120) : floatToIntVal .f64 (encF n) .i64 = some (n : Int) := by
  have := List.all_eq_true.1 encF_int n (List.mem_range.2 hn)
  simpa using this
def vC (a b : Nat) : Value := .complex .f64 (encF a) (encF b)
def dC (a b : Nat) : Value := .complex .f64 (if a = 0 then 0 else 4607182418800017408) (if b = 0 then 0 else 4607182418800017408)
theorem vC_add (t : TypeId) (a b c d : Nat) (ha : a < 120) (hb : b < 120) (hc : c = 0 ∨ c = 1) (hd : d = 0 ∨ d = 1) (w : World) : (binOp .add t (vC a b) (dC c d)).run Tryz.prog w = .ok (vC (a + c) (b + d)) w :=
  run_complex_sum (P := Tryz.prog) w .add (.inl rfl) t .f64 _ _ _ _ _ _ (by unfold cSumBits; rw [encF_add a c ha hc, encF_add b d hb hd]; rfl)

/-- The zeros among the first k bits. -/
def zc (b : Str) (k : Nat) : Nat := (List.range k).countP (fun i => !bitAt b i)
theorem zc_zero (b : Str) : zc b 0 = 0 := rfl
theorem zc_succ (b : Str) (k : Nat) : zc b (k + 1) = zc b k + if bitAt b k = true then 0 else 1 := by
  unfold zc
  rw [List.range_succ, List.countP_append]
  cases hb : bitAt b k <;> simp [hb]
theorem zc_le (b : Str) (k : Nat) : zc b k ≤ k := by
  unfold zc
  have := List.countP_le_length (p := fun i => !bitAt b i) (l := List.range k)
  simpa using this

theorem zc_mono (b : Str) {k n : Nat} (h : k ≤ n) : zc b k ≤ zc b n := by
  obtain ⟨d, rfl⟩ := Nat.le.dest h
  clear h
  induction d with
  | zero => exact Nat.le_refl _
  | succ d ih => rw [← Nat.add_assoc, zc_succ]; omega

structure BothI (W4 : World) (F : List (Nat × Obj)) (c : Nat) (C : Ca) (R : Reg) (mb r : Nat) (ck : Nat) (b0 b1 np ni : Nat) (seen : Array Nat) (v : Value) (wx : World) : Prop where
  iter : wx.heap[r]? = some (.mapIter (some mb) ck seen ck)
  held : ∃ Rx, Held wx F c C Rx ∧ R.To Rx W4.heap.size ∧ Off (fun k => R.m k ∨ k = r) W4 wx
  val : v = vC (if seen.contains b0 then np else 0) (if seen.contains b1 then ni else 0)

set_option maxRecDepth 100000 in
set_option maxHeartbeats 2000000 in
theorem both_any (m c ino : Nat) (C : Ca) (R : Reg) (F : List (Nat × Obj)) (w : World) (h : Held w F c C R) (hm : (m, mapO c ino) ∈ F)
    (hpg : C.G.pages < 120) (hpg2 : 2 < C.G.pages) (hino : ino < 120) (h1 : (C.rd 1).length = 512) (h2 : (C.rd 2).length = 512) :
    Calls Tryz.prog 64 #[.pointer (some ⟨m, 0, none⟩)] w fun e w' => e = .returned (vC (zc (C.rd 2) C.G.pages) (zc (C.rd 1) ino)) ∧ Step w F c C R w' := by
  have hmk : ∀ w, (Instr.makeMap 193 none).run Tryz.prog w = .ok (.map (some w.heap.size)) (w.alloc (.map #[] 0)) := fun _ => rfl
  obtain ⟨W2, u2, M2, g2, z2⟩ := (MapB.new (P := fun v (x : Nat × Nat) => v = dC x.1 x.2) w).update (Pr := Tryz.prog) Tryz.underlying193 Tryz.underlying3 2 (.complex .f64 4607182418800017408 0) (1, 0) rfl
  obtain ⟨W3, u3, M3, g3, z3⟩ := M2.update (Pr := Tryz.prog) Tryz.underlying193 Tryz.underlying3 1 (.complex .f64 0 4607182418800017408) (0, 1) rfl
  have hl : pset (pset ([] : List (Nat × (Nat × Nat))) 2 (1, 0)) 1 (0, 1) = [(2, (1, 0)), (1, (0, 1))] := rfl
  rw [hl] at M3
  obtain ⟨L, ⟨es, ck, hb, hst, hp⟩, hll, hL⟩ := id M3
  rw [World.size_alloc] at z2
  have hesl : es.toList.length = 2 := by
    have h1 : es.toList.length = L.length := by simpa using congrArg List.length hp
    rw [h1, hll]; rfl
  obtain ⟨e0, e1, hes⟩ : ∃ e0 e1, es.toList = [e0, e1] := by
    match hq : es.toList with
    | [] => rw [hq] at hesl; cases hesl
    | [_] => rw [hq] at hesl; cases hesl
    | [a, b] => exact ⟨a, b, rfl⟩
    | _ :: _ :: _ :: _ => rw [hq] at hesl; simp at hesl
  have hE0 : e0.key = .int .i64 (2 : Nat) ∧ e0.val = dC 1 0 := by
    obtain ⟨p, p1, p2, p3⟩ := imap_at hp 0 e0 (by rw [hes]; rfl)
    obtain ⟨v, v1, v2⟩ := hL 0 2 (1, 0) rfl
    rw [p1] at v1; cases v1
    exact ⟨p2, p3.trans v2⟩
  have hE1 : e1.key = .int .i64 (1 : Nat) ∧ e1.val = dC 0 1 := by
    obtain ⟨p, p1, p2, p3⟩ := imap_at hp 1 e1 (by rw [hes]; rfl)
    obtain ⟨v, v1, v2⟩ := hL 1 1 (0, 1) rfl
    rw [p1] at v1; cases v1
    exact ⟨p2, p3.trans v2⟩
  have hne : e0.born ≠ e1.born := by
    have := hst.2.1
    rw [hes] at this
    simpa using this
  have hmb : w.heap.size < W3.heap.size := by omega
  have hrange := run_range_map (P := Tryz.prog) W3 193 3 135 w.heap.size es ck Tryz.underlying193 hb
  have hb3 : Below w.heap.size w (W3.alloc (.mapIter (some w.heap.size) ck #[] ck)) :=
    (((((Below.refl _ _).alloc (Nat.le_refl _) (.map #[] 0)).grown g2 (by rw [World.size_alloc]; omega) (fun k e => by cases e; exact Nat.le_refl _)).grown g3 (by omega) (fun k e => by cases e; exact Nat.le_refl _))).alloc (by omega) _
  have hRlt := h.lt
  have H0 : BothI (W3.alloc (.mapIter (some w.heap.size) ck #[] ck)) F c C R w.heap.size W3.heap.size ck e0.born e1.born (zc (C.rd 2) C.G.pages) (zc (C.rd 1) ino) #[] (vC 0 0) (W3.alloc (.mapIter (some w.heap.size) ck #[] ck)) :=
    ⟨heap_alloc_new _ _, ⟨R, h.below hb3, Reg.To.refl _ _, Off.refl _ _⟩, by simp⟩
  have hbm : ∀ wx, Off (fun k => R.m k ∨ k = W3.heap.size) (W3.alloc (.mapIter (some w.heap.size) ck #[] ck)) wx → wx.heap[w.heap.size]? = some (.map es ck) := fun wx ho => by
    rw [ho.block w.heap.size (by rw [World.size_alloc]; omega) (fun e => by rcases e with e | e; exact absurd (hRlt _ (.inl e)) (Nat.lt_irrefl _); omega)]
    rw [Below.heap_alloc W3 _ _ hmb]; exact hb
  have hfin : ∀ wx v seen, BothI (W3.alloc (.mapIter (some w.heap.size) ck #[] ck)) F c C R w.heap.size W3.heap.size ck e0.born e1.born (zc (C.rd 2) C.G.pages) (zc (C.rd 1) ino) seen v wx → (∀ x ∈ es.toList, seen.contains x.born = true) → v = vC (zc (C.rd 2) C.G.pages) (zc (C.rd 1) ino) ∧ Step w F c C R wx := by
    intro wx v seen hI hs
    have s0 := hs e0 (by rw [hes]; simp)
    have s1 := hs e1 (by rw [hes]; simp)
    obtain ⟨Rx, k1, k2, k3⟩ := hI.held
    refine ⟨by rw [hI.val, if_pos s0, if_pos s1], Rx, k1, ⟨fun k e => ?_, fun k e => ?_⟩, ?_⟩
    · rcases k2.m k e with e | e
      · exact .inl e
      · right; rw [World.size_alloc] at e; omega
    · rcases k2.i k e with e | e
      · exact .inl e
      · right; rw [World.size_alloc] at e; omega
    · exact (Off.of_below hb3 R.m).trans k3 (fun j e => by rcases e with e | e; exact .inl e; right; omega)
  -- the round's parts
  have hround : ∀ wx v seen e W2', BothI (W3.alloc (.mapIter (some w.heap.size) ck #[] ck)) F c C R w.heap.size W3.heap.size ck e0.born e1.born (zc (C.rd 2) C.G.pages) (zc (C.rd 1) ino) seen v wx → e ∈ es.toList → seen.contains e.born = false →
      W2'.heap[W3.heap.size]? = some (.mapIter (some w.heap.size) ck (seen.push e.born) ck) → W2'.heap.size = wx.heap.size → (∀ k, k ≠ W3.heap.size → W2'.heap[k]? = wx.heap[k]?) → W2'.os = wx.os → W2'.tape = wx.tape → W2'.output = wx.output →
      ∃ q a b da db x n, e.key = .int .i64 (q : Nat) ∧ e.val = dC da db ∧ v = vC a b ∧ a ≤ 119 ∧ b ≤ 119 ∧ (da = 0 ∨ da = 1) ∧ (db = 0 ∨ db = 1) ∧ n < 120 ∧ x.length = 512 ∧ a + da * zc x n ≤ 119 ∧ b + db * zc x n ≤ 119 ∧
        Calls Tryz.prog 123 #[.pointer (some ⟨m, 0, none⟩), .int .i64 (q : Nat)] W2' fun e9 w3 => ∃ A cv, e9 = .returned (.agg #[.slice A 512 cv, .int .i64 (n : Nat)]) ∧ BytesAt w3 w3.heap.size (.slice A 512 cv) x ∧
          ∀ W5, Below w3.heap.size w3 W5 → BothI (W3.alloc (.mapIter (some w.heap.size) ck #[] ck)) F c C R w.heap.size W3.heap.size ck e0.born e1.born (zc (C.rd 2) C.G.pages) (zc (C.rd 1) ino) (seen.push e.born) (vC (a + da * zc x n) (b + db * zc x n)) W5 := by
    intro wx v seen e W2' hI he hns hit hz hoth ho1 ho2 ho3
    obtain ⟨Rx, k1, k2, k3⟩ := hI.held
    have hRx : ∀ k, Rx.has k → k < w.heap.size ∨ W3.heap.size + 1 ≤ k := fun k hk => by
      rcases k2.has hk with e9 | e9
      · exact .inl (hRlt k e9)
      · right; rw [World.size_alloc] at e9; exact e9
    have hoi : Off (fun k => k = W3.heap.size) wx W2' := ⟨ho1, ho2, ho3, by omega, fun k _ hk => hoth k hk⟩
    have k1' : Held W2' F c C Rx := k1.off hoi (fun k hk e9 => by rcases hRx k hk with e8 | e8 <;> omega)
    have hz1 := zc_le (C.rd 2) C.G.pages
    have hz2 := zc_le (C.rd 1) ino
    have key : ∀ (q n : Nat) (x : Str) (a b da db : Nat), q < C.G.pages → cntB C ino q = n → C.rd q = x → x.length = 512 → vC (if (seen.push e.born).contains e0.born then zc (C.rd 2) C.G.pages else 0) (if (seen.push e.born).contains e1.born then zc (C.rd 1) ino else 0) = vC (a + da * zc x n) (b + db * zc x n) →
        Calls Tryz.prog 123 #[.pointer (some ⟨m, 0, none⟩), .int .i64 (q : Nat)] W2' fun e9 w3 => ∃ A cv, e9 = .returned (.agg #[.slice A 512 cv, .int .i64 (n : Nat)]) ∧ BytesAt w3 w3.heap.size (.slice A 512 cv) x ∧
          ∀ W5, Below w3.heap.size w3 W5 → BothI (W3.alloc (.mapIter (some w.heap.size) ck #[] ck)) F c C R w.heap.size W3.heap.size ck e0.born e1.born (zc (C.rd 2) C.G.pages) (zc (C.rd 1) ino) (seen.push e.born) (vC (a + da * zc x n) (b + db * zc x n)) W5 := by
      intro q n x a b da db hq hn hx hxl hval
      refine (mread_any q m c ino C Rx F W2' k1' hm hq).mono ?_
      rintro e9 w3 ⟨v9, rfl, hr⟩
      obtain ⟨A, cv, rfl⟩ : ∃ A cv, v9 = .slice A (C.rd q).length cv := by obtain ⟨_, j1, _⟩ := id hr; exact ownsRow_slice j1
      have hby := hr.bytes (by rw [hx]; omega)
      obtain ⟨R', j1, j2, j3, j4, j5⟩ := hr
      rw [hx, hxl] at hby
      refine ⟨A, cv, by rw [hn, hx, hxl], hby, fun W5 hb5 => ⟨?_, ⟨R', j2.below hb5, ?_, ?_⟩, hval.symm⟩⟩
      · have hsz : W3.heap.size < W2'.heap.size := (Array.getElem?_eq_some_iff.1 hit).1
        rw [hb5.block _ (Nat.lt_of_lt_of_le hsz j4.size), j4.block _ hsz (fun e9 => by rcases hRx _ (.inl e9) with e8 | e8 <;> omega)]
        exact hit
      · exact k2.trans j3 (by have := k3.size; omega)
      · refine ((k3.trans hoi (fun k e9 => .inl (.inr e9))).trans j4 (fun k e9 => ?_)).trans (Off.of_below hb5 (fun _ => False)) (fun k e9 => e9.elim)
        rcases k2.m k e9 with e8 | e8
        · exact .inl (.inl e8)
        · exact .inr e8
    rw [hes] at he
    have hc : ∀ b : Nat, (seen.push e.born).contains b = (seen.contains b || decide (b = e.born)) := fun b => by
      rw [Array.contains_eq_mem, Array.contains_eq_mem]; by_cases hb : b = e.born <;> by_cases hb2 : b ∈ seen <;> simp [hb, hb2]
    rcases List.mem_cons.1 he with rfl | he
    · refine ⟨2, 0, if seen.contains e1.born then zc (C.rd 1) ino else 0, 1, 0, C.rd 2, C.G.pages, hE0.1, hE0.2, by rw [hI.val, if_neg (by rw [hns]; decide)], by omega, by split <;> omega, .inr rfl, .inl rfl, hpg, h2, by omega, by split <;> omega, key 2 C.G.pages (C.rd 2) _ _ _ _ hpg2 rfl rfl h2 ?_⟩
      rw [hc, hc, hns]
      simp [Ne.symm hne]
    · obtain rfl : e = e1 := by simpa using he
      refine ⟨1, if seen.contains e0.born then zc (C.rd 2) C.G.pages else 0, 0, 0, 1, C.rd 1, ino, hE1.1, hE1.2, by rw [hI.val]; congr 1; rw [if_neg (by rw [hns]; decide)], by split <;> omega, by omega, .inl rfl, .inr rfl, hino, h1, by split <;> omega, by omega, key 1 ino (C.rd 1) _ _ _ _ (by omega) rfl rfl h1 ?_⟩
      rw [hc, hc, hns]
      simp [hne]
  replace u2 : (Instr.mapUpdate 193 (.map (some w.heap.size)) (.int .i64 2) (.complex .f64 4607182418800017408 0)).run Tryz.prog (w.alloc (.map #[] 0)) = .ok () W2 := u2
  replace u3 : (Instr.mapUpdate 193 (.map (some w.heap.size)) (.int .i64 1) (.complex .f64 0 4607182418800017408)).run Tryz.prog W2 = .ok () W3 := u3
  have HR := Lib.hid hround
  have HFin := Lib.hid hfin
  have HBm := Lib.hid hbm
  have HSt := Lib.hid hst
  have HH0 := Lib.hid H0
  have hmbne : W3.heap.size ≠ w.heap.size := by omega
  clear hround hfin hbm hst hE0 hE1 hes hesl hp hll hL M2 M3 h g2 g3 hb hb3 hRlt hl H0 z2 z3 hmb hpg hpg2 hino h1 h2 hm
  go_enter Tryz.func64, Tryz.ntmps64
  go_wp2_with fail
  go_loopg [3] (leftOf es #[]).size (fun g v wx => ∃ seen, (leftOf es seen).size = g ∧ BothI (W3.alloc (.mapIter (some w.heap.size) ck #[] ck)) F c C R w.heap.size W3.heap.size ck e0.born e1.born (zc (C.rd 2) C.G.pages) (zc (C.rd 1) ino) seen v wx)
  case atStart => exact ⟨_, rfl, HH0.out⟩
  case round =>
    obtain ⟨seen, hg, hI⟩ := hrel
    obtain ⟨wx, rfl⟩ : ∃ wx, wx = wr := ⟨_, rfl⟩
    have hstep := fun ty => iter_step (P := Tryz.prog) wx w.heap.size W3.heap.size es ck seen hI.iter (HBm.out wx hI.held.choose_spec.2.2) HSt.out hmbne ty
    have HI := Lib.hid hI
    clear hI hrange
    rcases hstep 0 with ⟨hall, hnx⟩ | ⟨e, hme, hns, hsh, W9, hnx, hen, hr2, hz2, ho2, e1', e2', e3'⟩
    · obtain ⟨hv, hs⟩ := HFin.out wx _ seen HI.out hall
      have HS := Lib.hid hs
      have HV := Lib.hid hv
      clear hs hv hstep
      go_wp2_with fail
      go_ret
      exact ⟨congrArg Ending.returned HV.out, HS.out⟩
    · obtain ⟨q, a, b, da, db, x, n, hek, hev, hv, ha, hb, hda, hdb, hn, hxl, haz, hbz, hrd⟩ := HR.out wx _ seen e W9 HI.out hme hns hr2 hz2 ho2 e1' e2' e3'
      rw [hek, hev] at hnx hen
      subst hv
      have HRd := Lib.hid hrd
      have HSh := Lib.hid hsh
      have HZ := Lib.hid (And.intro haz hbz)
      clear hrd hsh hr2 ho2 hz2 e1' e2' e3' hstep hek hev hns hme haz hbz
      go_wp2_with fail
      refine HRd.out.mono ?_
      rintro e9 w3 ⟨A, cv, rfl, hby, hend⟩
      have HEnd := Lib.hid hend
      have HBy := Lib.hid hby
      clear hend hby
      go_wp2_with fail
      go_loopg [3, 21] n (fun g u i wz => ∃ k : Nat, i = .int .i64 k ∧ g = n - k ∧ k ≤ n ∧ u = vC (a + da * zc x k) (b + db * zc x k) ∧ Below w3.heap.size w3 wz ∧ w3.heap.size < wz.heap.size ∧ wz.cell? ⟨w3.heap.size, 0, none⟩ = some (.slice A 512 cv) ∧ wz.cell? ⟨w3.heap.size, 1, none⟩ = some (.int .i64 n))
      case atStart => exact ⟨0, rfl, rfl, Nat.zero_le _, by rw [zc_zero]; simp, (Below.refl _ _).alloc (Nat.le_refl _) _, by rw [World.size_alloc]; exact Nat.lt_succ_self _, cell_of_heap (heap_alloc_new _ _) 0, cell_of_heap (heap_alloc_new _ _) 1⟩
      case round =>
        obtain ⟨k, rfl, rfl, hk, rfl, hbw, hlt3, hc0, hc1⟩ := hrel
        by_cases hlt : k < n
        · have hltI : decide ((k : Int) < (n : Int)) = true := by simp; omega
          have hat := at_any k n _ x wr ((HBy.out.below hbw).more (Nat.le_of_lt hlt3)) (by omega)
          have HAt := Lib.hid hat
          clear hat
          go_wp2_with fail
          refine HAt.out.mono ?_
          rintro e8 w8 ⟨rfl, hb8⟩
          have hzl := zc_mono x hk
          obtain ⟨hZ1, hZ2⟩ := id HZ.out
          have hnx8 : Below w3.heap.size w3 w8 ∧ w3.heap.size < w8.heap.size ∧ w8.cell? ⟨w3.heap.size, 0, none⟩ = some (.slice A 512 cv) ∧ w8.cell? ⟨w3.heap.size, 1, none⟩ = some (.int .i64 n) :=
            ⟨hbw.trans (hb8.mono (Nat.le_of_lt hlt3)), Nat.lt_of_lt_of_le hlt3 hb8.size, (hb8.cell (p := ⟨w3.heap.size, 0, none⟩) hlt3).trans hc0, (hb8.cell (p := ⟨w3.heap.size, 1, none⟩) hlt3).trans hc1⟩
          have HN8 := Lib.hid hnx8
          have hzs := zc_succ x k
          clear hnx8 hb8 hbw hlt3 hc0 hc1
          cases hbt : bitAt x k with
          | true =>
            rw [hbt, if_pos rfl] at hzs
            have HZs := Lib.hid hzs
            clear hbt hzs hzl hZ1 hZ2
            go_wp2_with fail
            go_roundg (n - (k + 1))
            case measure => omega
            case rel => exact ⟨k + 1, by go_num, rfl, hlt, by rw [HZs.out]; rfl, HN8.out⟩
          | false =>
            rw [hbt, if_neg (by decide)] at hzs
            have hadd := fun t w => vC_add t (a + da * zc x k) (b + db * zc x k) da db (by rcases hda with rfl | rfl <;> omega) (by rcases hdb with rfl | rfl <;> omega) hda hdb w
            have HZs := Lib.hid hzs
            clear hbt hzs hzl hZ1 hZ2
            go_wp2_with fail
            go_roundg (n - (k + 1))
            case measure => omega
            case rel => exact ⟨k + 1, by go_num, rfl, hlt, by rw [HZs.out, Nat.mul_add, Nat.mul_add, Nat.mul_one, Nat.mul_one, Nat.add_assoc, Nat.add_assoc], HN8.out⟩
        · have hltI : decide ((k : Int) < (n : Int)) = false := by simp; omega
          obtain rfl : k = n := by omega
          have HI6 := Lib.hid (HEnd.out wr hbw)
          clear hbw hlt3 hc0 hc1
          go_wp2_with fail
          go_roundg (leftOf es (seen.push e.born)).size
          case measure => rw [← hg]; exact HSh.out
          case rel => exact ⟨_, rfl, HI6.out⟩

set_option maxRecDepth 100000 in
set_option maxHeartbeats 2000000 in
theorem free_any (m c ino : Nat) (C : Ca) (R : Reg) (F : List (Nat × Obj)) (w : World) (h : Held w F c C R) (hm : (m, mapO c ino) ∈ F)
    (hpg : C.G.pages < 120) (hpg2 : 2 < C.G.pages) (hino : ino < 120) (h1 : (C.rd 1).length = 512) (h2 : (C.rd 2).length = 512) :
    Calls Tryz.prog 29 #[.pointer (some ⟨m, 0, none⟩)] w fun e w' => e = .returned (.tuple #[.int .i64 (zc (C.rd 2) C.G.pages : Nat), .int .i64 (zc (C.rd 1) ino : Nat)]) ∧ Step w F c C R w' := by
  have HB := Lib.hid (both_any m c ino C R F w h hm hpg hpg2 hino h1 h2)
  have hz2 := zc_le (C.rd 2) C.G.pages
  have hz1 := zc_le (C.rd 1) ino
  have e2 := encF_toInt (zc (C.rd 2) C.G.pages) (by omega)
  have e1 := encF_toInt (zc (C.rd 1) ino) (by omega)
  have k2 : ∀ w, (convert 137 3 (.float .f64 (encF (zc (C.rd 2) C.G.pages)))).run Tryz.prog w = .ok (.int .i64 (zc (C.rd 2) C.G.pages : Nat)) w := fun w => run_convert_float_int (P := Tryz.prog) w 137 3 .f64 .i64 _ _ (by rw [Tryz.underlying137]; rfl) Tryz.underlying3 e2
  have k1 : ∀ w, (convert 137 3 (.float .f64 (encF (zc (C.rd 1) ino)))).run Tryz.prog w = .ok (.int .i64 (zc (C.rd 1) ino : Nat)) w := fun w => run_convert_float_int (P := Tryz.prog) w 137 3 .f64 .i64 _ _ (by rw [Tryz.underlying137]; rfl) Tryz.underlying3 e1
  clear h h1 h2 e1 e2 hz1 hz2 hm hpg hpg2 hino
  go_enter Tryz.func29, Tryz.ntmps29
  go_wp2_with fail
  refine HB.out.mono ?_
  rintro e w2 ⟨rfl, hs⟩
  have HS := Lib.hid hs
  clear hs
  unfold vC
  go_wp2_with fail
  go_ret2
  exact ⟨rfl, HS.out⟩

end Go.Proofs.YtfgkgoddjemnfaaGreatDoor

namespace Go.Proofs.YtfgkgoddjemnfaaGreatDoor
open Go.RowKit Go.Shelf Pa
attribute [local go_sem] bs_toList bs_size

theorem zc_count (b : Str) : ∀ (k : Nat) (l : List Bool), k ≤ l.length → (∀ n, n < k → bitAt b n = l.getD n false) → zc b k = (l.take k).count false
  | 0, l, _, _ => by simp [zc_zero]
  | k + 1, l, hk, h => by
    have hl := List.getElem?_eq_getElem (l := l) (i := k) (by omega)
    have hg : l.getD k false = l[k] := by rw [List.getD_eq_getElem?_getD, hl]; rfl
    rw [zc_succ, zc_count b k l (by omega) (fun n hn => h n (by omega)), h k (by omega), List.take_add_one, hl, List.count_append, hg]
    cases l[k] <;> simp

theorem sfree_any (s N : Nat) (T : RS) (R : Reg) (w : World) (h : StI w s T R N) (hp : T.p.length < 120) (hi : T.inodes < 120) : ∃ m,
    Calls Tryz.prog 21 #[.pointer (some ⟨s, 0, none⟩)] w (fun e w' => e = .returned (.pointer (some ⟨m, 0, none⟩)) ∧ w = w') ∧
    Calls Tryz.prog 29 #[.pointer (some ⟨m, 0, none⟩)] w fun e w' => e = .returned (.tuple #[.int .i64 (nfree T.p : Nat), .int .i64 (nfree T.i : Nat)]) ∧ StStep w s T R N w' := by
  obtain ⟨m, c, C, F, h1, h2, h3, h4, h5, h6, h7⟩ := h
  have np := h4.np
  obtain ⟨_, i8, _, hal⟩ := h4.ino8
  have hal2 : 2 < C.G.pages := by unfold alFirst at hal; omega
  refine ⟨m, imap_any' s m w (h1.fix _ h3).1, ?_⟩
  refine (free_any m c T.inodes C R F w h1 h2 (by omega) hal2 hi (h4.len 1 (by omega)) (h4.len 2 hal2)).mono ?_
  rintro e w' ⟨rfl, R', k1, k2, k3⟩
  have e2 : zc (C.rd 2) C.G.pages = nfree T.p := by
    rw [zc_count _ _ T.p (by omega) h4.pb, List.take_of_length_le (by omega)]; rfl
  have e1 : zc (C.rd 1) T.inodes = nfree T.i := by
    show zc (C.rd 1) T.i.length = nfree T.i
    rw [zc_count _ _ T.i (Nat.le_refl _) h4.ib, List.take_of_length_le (Nat.le_refl _)]; rfl
  exact ⟨by rw [e1, e2], R', ⟨m, c, C, F, k1, h2, h3, h4, h5, h6, h7⟩, k2, k3⟩

theorem pfreeZ_any (B s r N : Nat) (T U K : RS) (Z : Nat → Prop) (w : World) (h : PairZ B w s r T U K N Z) (hp : T.p.length < 120) (hi : T.inodes < 120) : ∃ m,
    Calls Tryz.prog 21 #[.pointer (some ⟨s, 0, none⟩)] w (fun e w' => e = .returned (.pointer (some ⟨m, 0, none⟩)) ∧ w = w') ∧
    Calls Tryz.prog 29 #[.pointer (some ⟨m, 0, none⟩)] w fun e w' => e = .returned (.tuple #[.int .i64 (nfree T.p : Nat), .int .i64 (nfree T.i : Nat)]) ∧ PairZ B w' s r T U K N Z ∧ KeptZ B Z w w' := by
  obtain ⟨R, g, hl⟩ := h.step
  obtain ⟨m, h1, h2⟩ := sfree_any s N T R w g hp hi
  refine ⟨m, h1, h2.mono ?_⟩
  rintro e w' ⟨rfl, hst⟩
  exact ⟨rfl, hl w' _ _ hst⟩

theorem PairZ.weak {B : Nat} {w : World} {s r : Nat} {T U K : RS} {N : Nat} {Z Z' : Nat → Prop} (h : PairZ B w s r T U K N Z) (hz : ∀ k, Z' k → Z k) : PairZ B w s r T U K N Z' := by
  obtain ⟨R, Q, h1, h2, hd, hR, hQ, hB, hZ⟩ := h
  exact ⟨R, Q, h1, h2, hd, hR, hQ, hB, fun k hk => hZ k (hz k hk)⟩
/-- What is done on one's own blocks alone. -/
theorem PairZ.own {B : Nat} {w w' : World} {s r : Nat} {T U K : RS} {N : Nat} {Z Z' : Nat → Prop} (h : PairZ B w s r T U K N Z) (ho : Off Z w w') (hZB : ∀ k, Z k → B ≤ k) (hz : ∀ k, Z' k → Z k ∨ (w.heap.size ≤ k ∧ k < w'.heap.size)) : PairZ B w' s r T U K N Z' ∧ Below B w w' := by
  obtain ⟨R, Q, h1, h2, hd, hR, hQ, hB, hZ⟩ := h
  refine ⟨⟨R, Q, h1.off ho (fun k hk e => (hZ k e).1 hk), h2.off ho (fun k hk e => (hZ k e).2.1 hk), hd, hR, hQ, Nat.le_trans hB ho.size, fun k hk => ?_⟩, ho.below hB hZB⟩
  rcases hz k hk with e | ⟨a, b⟩
  · obtain ⟨x, y, z⟩ := hZ k e
    exact ⟨x, y, Nat.lt_of_lt_of_le z ho.size⟩
  · exact ⟨fun e => by have := h1.lt k e; omega, fun e => by have := h2.lt k e; omega, b⟩

/-- As DirU; a directory without a used entry has no entry at all. -/
def DirV (T : RS) (u : Nat → List Ent) (L : Nat) : Prop := ∃ es, DirT T es ∧ (∀ j, (usedE (es j)).Perm (u j)) ∧ (∀ j, (es j).length ≤ L) ∧ ∀ j, usedE (es j) = [] → es j = []
theorem DirV.u {T : RS} {u : Nat → List Ent} {L : Nat} (h : DirV T u L) : DirU T u L := by
  obtain ⟨es, h1, h2, h3, _⟩ := h
  exact ⟨es, h1, h2, h3⟩
theorem DirV.zero : DirV T0 (fun _ => []) 0 := ⟨fun _ => [], T0_dir, fun _ => List.Perm.refl _, fun _ => Nat.le_refl _, fun _ _ => rfl⟩
theorem DirV.more {T : RS} {u : Nat → List Ent} {L L' : Nat} (h : DirV T u L) (hL : L ≤ L') : DirV T u L' := by
  obtain ⟨es, h1, h2, h3, h4⟩ := h
  exact ⟨es, h1, h2, fun j => Nat.le_trans (h3 j) hL, h4⟩
theorem DirV.plen {T : RS} {u : Nat → List Ent} {L : Nat} (h : DirV T u L) : T.p.length = 100 ∧ T.inodes = 16 := by
  obtain ⟨es, h1, _⟩ := h
  exact ⟨h1.plen, h1.inodes⟩
theorem DirV.free {T : RS} {u : Nat → List Ent} {L : Nat} (h : DirV T u L) (h1 : u 1 = []) (h3 : u 3 = []) : nfree T.p = 95 := by
  obtain ⟨es, k1, k2, _, k4⟩ := h
  have e1 : es 1 = [] := k4 1 (by have := k2 1; rw [h1] at this; exact this.eq_nil)
  have e3 : es 3 = [] := k4 3 (by have := k2 3; rw [h3] at this; exact this.eq_nil)
  have := k1.free
  rw [e1, e3] at this
  exact this
theorem DirV.add {C : Ca} {T : RS} {u : Nat → List Ent} {L : Nat} (h : DirV T u L) (hr : Rel C T (fun _ => False)) (ht : T.Tight) (hL : L ≤ 60) {d i : Int} {nm : Str} (he : Go.Proofs.YtfgkgoddjemnfaaGreatDoor.addE T d nm i = 0) :
    DirV (addT T d nm i) (fun j => if j = d.toNat then (nm, i.toNat) :: u j else u j) (L + 1) := by
  obtain ⟨es, h1, h2, h3, h4⟩ := h
  obtain ⟨a1, T', es', a2, a3, a4, a5, a6⟩ := h1.add hr ht (fun j => Nat.le_trans (h3 j) hL) he
  have e : addT T d nm i = T' := by unfold addT; rw [if_pos he, a2]; rfl
  rw [e]
  refine ⟨es', a3, fun j => ?_, fun j => Nat.le_trans (a6 j) (Nat.succ_le_succ (h3 j)), fun j => ?_⟩
  · show (usedE (es' j)).Perm (if j = d.toNat then (nm, i.toNat) :: u j else u j)
    by_cases hj : j = d.toNat
    · subst hj
      rw [if_pos rfl]
      exact a5.trans ((h2 _).cons _)
    · rw [if_neg hj, a4 j hj]; exact h2 j
  · intro hu
    by_cases hj : j = d.toNat
    · subst hj
      rw [hu] at a5
      exact absurd a5.length_eq (by simp)
    · rw [a4 j hj] at hu ⊢; exact h4 j hu
theorem DirV.drop {C : Ca} {T : RS} {u : Nat → List Ent} {L : Nat} (h : DirV T u L) (hr : Rel C T (fun _ => False)) (ht : T.Tight) (hL : L ≤ 60) {d : Int} {nm : Str} (he : (Go.Proofs.YtfgkgoddjemnfaaGreatDoor.findR T d nm).2.2 = 0) :
    DirV (drpT T d nm) (fun j => if j = d.toNat then (u j).erase (nm, (Go.Proofs.YtfgkgoddjemnfaaGreatDoor.findR T d nm).1.i) else u j) L := by
  obtain ⟨es, h1, h2, h3, h4⟩ := h
  obtain ⟨T', es', ⟨a1, a2, a3⟩, a4, a5, a6, a7⟩ := h1.drop hr ht (fun j => Nat.le_trans (h3 j) hL) he
  have e : drpT T d nm = T' := by unfold drpT; rw [if_pos he, a1]; rfl
  have hm : (nm, (Go.Proofs.YtfgkgoddjemnfaaGreatDoor.findR T d nm).1.i) ∈ u d.toNat := (h2 _).mem_iff.1 (a6.mem_iff.1 (by simp))
  rw [e]
  refine ⟨es', a4, fun j => ?_, fun j => Nat.le_trans (a7 j) (h3 j), fun j => ?_⟩
  · show (usedE (es' j)).Perm (if j = d.toNat then (u j).erase (nm, (Go.Proofs.YtfgkgoddjemnfaaGreatDoor.findR T d nm).1.i) else u j)
    by_cases hj : j = d.toNat
    · subst hj
      rw [if_pos rfl]
      exact List.Perm.cons_inv (a6.trans ((h2 _).trans (List.perm_cons_erase hm)))
    · rw [if_neg hj, a5 j hj]; exact h2 j
  · intro hu
    by_cases hj : j = d.toNat
    · subst hj
      rw [hu] at a6
      have hl1 : (usedE (es d.toNat)).length = 1 := a6.length_eq.symm
      have h0 : lookE T d = 0 := by
        have ha := h1.findE d nm
        rw [he] at ha
        by_cases h0 : lookE T d = 0
        · exact h0
        · rw [if_pos h0] at ha; exact absurd ha.symm h0
      have hj : d.toNat = 1 ∨ d.toNat = 3 := by
        rcases (h1.look0 d).1 h0 with rfl | rfl
        · exact .inl rfl
        · exact .inr rfl
      have hl : T.live d.toNat := (h1.live _).2 (by omega)
      have hus : usedP (slotsP (Go.Proofs.YtfgkgoddjemnfaaGreatDoor.lookB T d)) = (usedE (es d.toNat)).length := by rw [h1.lookB h0, slotsP_encE (h1.ok _), usedP_slE]
      unfold dropT at a1
      rw [hus, if_pos hl1] at a1
      obtain ⟨T2, b1, b2, _⟩ := hr.resizeN (j := d.toNat) (size := 0) (fun _ e => e.elim) ht hl (by omega) (by rw [show nd (npg 0) = 0 from by decide]; omega)
      rw [b1] at a1
      cases a1
      have hb := a4.b d.toNat
      rw [b2.bytes] at hb
      have hlen := encE_length (a4.ok d.toNat)
      rw [← hb] at hlen
      have : (fitTo (T.file d.toNat).bytes 0).length = 0 := by unfold fitTo; simp
      exact List.length_eq_zero_iff.1 (by omega)
    · rw [a5 j hj] at hu ⊢; exact h4 j hu

end Go.Proofs.YtfgkgoddjemnfaaGreatDoor

namespace Go.Proofs.YtfgkgoddjemnfaaGreatDoor
open Go.RowKit Go.Shelf Pa
attribute [local go_sem] bs_toList bs_size

def ofv (v : Value) : Nat → Prop := fun k => v.ownBlock = some k
/-- What stands while names are added to 3: those kept lie in v. -/
def Gv (B : Nat) (s r : Nat) (v : Value) (kept : List Str) (k : Nat) (wx : World) : Prop := ∃ T u, PairZ B wx s r T T0 T0 206 (ofv v) ∧ DirV T u k ∧ (u 3).Perm (kept.map fun x => (x, 5)) ∧ u 1 = [] ∧ OwnS wx B v kept ∧ kept.length ≤ k
theorem Gv.step {B s r k : Nat} {v : Value} {kept : List Str} {nm : Str} {wx : World} (h : Gv B s r v kept k wx) (hk : k < 40) : ∃ e9 : Nat, Calls Tryz.prog 13 #[.pointer (some ⟨s, 0, none⟩), .int .i64 3, .string (bs nm), .int .i64 5] wx fun e w' => e = .returned (.int .i64 e9) ∧ Below B wx w' ∧ OwnS w' B v kept ∧
    (e9 ≠ 0 → Gv B s r v kept (k + 1) w') ∧ (e9 = 0 → ∀ v' w2, Off (ofv v) w' w2 → (∀ j, v'.ownBlock = some j → v.ownBlock = some j ∨ (w'.heap.size ≤ j ∧ j < w2.heap.size)) → OwnS w2 B v' (kept ++ [nm]) → Gv B s r v' (kept ++ [nm]) (k + 1) w2 ∧ Below B w' w2) := by
  obtain ⟨T, u, h1, h2, h3, h4, h5, h6⟩ := h
  refine ⟨addE T 3 nm 5, (paddZ_any B s r 206 k 3 5 nm T T0 T0 u _ wx h1 h2.u (by omega)).mono ?_⟩
  rintro e w' ⟨rfl, hp, hkz⟩
  have ho : OwnS w' B v kept := row_kept h5 hkz.z (fun k hk => hk)
  refine ⟨rfl, hkz.below, ho, fun h0 => ?_, fun h0 v' w2 hoff hown hrow => ?_⟩
  · have e : addT T 3 nm 5 = T := by unfold addT; rw [if_neg h0]
    rw [e] at hp
    exact ⟨T, u, hp, h2.more (by omega), h3, h4, ho, by omega⟩
  · obtain ⟨R, g, _⟩ := h1.step
    obtain ⟨C, hr, ht⟩ := g.rel
    have hv := h2.add hr ht (by omega) h0
    obtain ⟨p1, p2⟩ := hp.own hoff (fun k hk => (World.ownsRow.lt ho k hk).1) (Z' := ofv v') hown
    refine ⟨⟨_, _, p1, hv, ?_, ?_, hrow, by rw [List.length_append]; simp; omega⟩, p2⟩
    · show (if 3 = (3 : Int).toNat then (nm, (5 : Int).toNat) :: u 3 else u 3).Perm _
      rw [if_pos (by decide), List.map_append]
      exact ((List.Perm.cons (nm, 5) h3).trans (List.perm_append_singleton _ _).symm)
    · show (if 1 = (3 : Int).toNat then (nm, (5 : Int).toNat) :: u 1 else u 1) = _
      rw [if_neg (by decide)]; exact h4
theorem Gv.more {B s r k k' : Nat} {v : Value} {kept : List Str} {wx : World} (h : Gv B s r v kept k wx) (hk : k ≤ k') : Gv B s r v kept k' wx := by
  obtain ⟨T, u, h1, h2, h3, h4, h5, h6⟩ := h
  exact ⟨T, u, h1, h2.more hk, h3, h4, h5, by omega⟩
/-- What stands while the kept are dropped again. -/
def Gd (B : Nat) (s r : Nat) (v : Value) (kept : List Str) (k : Nat) (wx : World) : Prop := ∃ T u, PairZ B wx s r T T0 T0 206 (ofv v) ∧ DirV T u 40 ∧ (u 3).Perm ((kept.drop k).map fun x => (x, 5)) ∧ u 1 = [] ∧ OwnS wx B v kept
theorem Gd.step {B s r k : Nat} {v : Value} {kept : List Str} {nm : Str} {wx : World} (h : Gd B s r v kept k wx) (hk : kept[k]? = some nm) : Calls Tryz.prog 17 #[.pointer (some ⟨s, 0, none⟩), .int .i64 3, .string (bs nm)] wx fun e w' => (∃ x, e = .returned (.tuple #[x, .int .i64 0])) ∧ Gd B s r v kept (k + 1) w' ∧ Below B wx w' := by
  obtain ⟨T, u, h1, h2, h3, h4, h5⟩ := h
  obtain ⟨R, g, _⟩ := h1.step
  obtain ⟨C, hr, ht⟩ := g.rel
  obtain ⟨hkl, hkn⟩ := List.getElem?_eq_some_iff.1 hk
  rw [List.drop_eq_getElem_cons hkl, hkn] at h3
  have hm : (nm, 5) ∈ u 3 := h3.mem_iff.2 (by simp)
  have hf := h2.u.findR 3 nm
  rw [if_neg (fun e => e ((h2.u.look0 3).2 (.inr rfl))), if_neg (by rw [h2.u.nm 3 _ hm]; decide), show (3 : Int).toNat = 3 from rfl, fnd_mem (h2.u.nodup 3) hm] at hf
  have hf1 : (findR T 3 nm).1.i = 5 := congrArg Prod.fst hf
  have hf2 : (findR T 3 nm).2.2 = 0 := congrArg Prod.snd hf
  have hv := h2.drop hr ht (by omega) hf2
  refine (pdropZ_any B s r 206 40 3 nm T T0 T0 u _ wx h1 h2.u (by omega)).mono ?_
  rintro e w' ⟨rfl, hp, hkz⟩
  refine ⟨⟨_, by rw [hf2]; rfl⟩, ⟨_, _, hp, hv, ?_, ?_, row_kept h5 hkz.z (fun k hk => hk)⟩, hkz.below⟩
  · show (if 3 = (3 : Int).toNat then (u 3).erase (nm, (findR T 3 nm).1.i) else u 3).Perm _
    rw [if_pos (by decide), hf1]
    have := h3.erase (nm, 5)
    rw [List.map_cons, List.erase_cons_head] at this
    exact this
  · show (if 1 = (3 : Int).toNat then _ else u 1) = _
    rw [if_neg (by decide)]; exact h4
theorem Gd.fact {B s r k n c : Nat} {A : Option Addr} {kept : List Str} {wx : World} (h : Gd B s r (.slice A n c) kept k wx) (hn : kept ≠ []) : ∃ b o, A = some ⟨b, o, none⟩ ∧ b < wx.heap.size ∧ ∀ (i : Nat) (x : Str), kept[i]? = some x → wx.cell? ⟨b, o + i, none⟩ = some (.string (bs x)) := by
  obtain ⟨_, _, _, _, _, _, h5⟩ := h
  obtain ⟨A', c', e, _, hf⟩ := h5.strs
  cases e
  obtain ⟨b, o, e, hb, hx⟩ := hf hn
  exact ⟨b, o, e, hb, hx⟩
/-- The list, between. -/
theorem Gv.list {B s r k : Nat} {v : Value} {kept : List Str} {wx : World} (h : Gv B s r v kept k wx) (hk : k ≤ 40) : Calls Tryz.prog 14 #[.pointer (some ⟨s, 0, none⟩), .int .i64 3] wx fun e w' => ∃ A c, e = .returned (.tuple #[.slice A kept.length c, .int .i64 0]) ∧ Gd B s r v kept 0 w' ∧ Below B wx w' := by
  obtain ⟨T, u, h1, h2, h3, h4, h5, h6⟩ := h
  have l3 : lookE T 3 = 0 := (h2.u.look0 3).2 (.inr rfl)
  have hli := plistZ_any B s r 206 3 T T0 T0 _ wx h1
  rw [l3, h2.u.list l3] at hli
  have hlen : (((u (3 : Int).toNat).map (·.1)).mergeSort fun x y => decide (x ≤ y)).length = kept.length := by
    rw [List.length_mergeSort, List.length_map]
    exact h3.length_eq.trans (List.length_map _)
  refine hli.mono ?_
  rintro e w' ⟨v', rfl, ho, hp, hkz⟩
  obtain ⟨A, c, rfl⟩ := ownsRow_slice ho
  exact ⟨A, c, by rw [hlen]; rfl, ⟨T, u, hp.weak (fun k hk => .inl hk), h2.more hk, by rw [List.drop_zero]; exact h3, h4, row_kept h5 hkz.z (fun k hk => hk)⟩, hkz.below⟩
/-- Free, at the start and at the end. -/
theorem pairT0_free {B s r : Nat} {Z : Nat → Prop} {wx : World} {T : RS} {u : Nat → List Ent} {L : Nat} (h : PairZ B wx s r T T0 T0 206 Z) (hd : DirV T u L) (h1 : u 1 = []) (h3 : u 3 = []) : ∃ m y,
    Calls Tryz.prog 21 #[.pointer (some ⟨s, 0, none⟩)] wx (fun e w' => e = .returned (.pointer (some ⟨m, 0, none⟩)) ∧ wx = w') ∧
    Calls Tryz.prog 29 #[.pointer (some ⟨m, 0, none⟩)] wx fun e w' => e = .returned (.tuple #[.int .i64 95, y]) ∧ PairZ B w' s r T T0 T0 206 Z ∧ KeptZ B Z wx w' := by
  obtain ⟨a, b⟩ := hd.plen
  obtain ⟨m, c1, c2⟩ := pfreeZ_any B s r 206 T T0 T0 Z wx h (by omega) (by omega)
  rw [hd.free h1 h3] at c2
  exact ⟨m, _, c1, c2⟩
theorem Gd.last {B s r : Nat} {v : Value} {kept : List Str} {wx : World} (h : Gd B s r v kept kept.length wx) : ∃ m y,
    Calls Tryz.prog 21 #[.pointer (some ⟨s, 0, none⟩)] wx (fun e w' => e = .returned (.pointer (some ⟨m, 0, none⟩)) ∧ wx = w') ∧
    Calls Tryz.prog 29 #[.pointer (some ⟨m, 0, none⟩)] wx fun e w' => e = .returned (.tuple #[.int .i64 95, y]) ∧ Below B wx w' ∧ Calls Tryz.prog 18 #[.pointer (some ⟨s, 0, none⟩), .int .i64 3] w' fun e w2 => e = .returned (.tuple #[.bool true, .int .i64 0]) ∧ Below B w' w2 := by
  obtain ⟨T, u, h1, h2, h3, h4, h5⟩ := h
  rw [List.drop_length] at h3
  have h3 : u 3 = [] := h3.eq_nil
  obtain ⟨m, y, c1, c2⟩ := pairT0_free h1 h2 h4 h3
  refine ⟨m, y, c1, c2.mono ?_⟩
  rintro e w' ⟨rfl, hp, hkz⟩
  have l3 : lookE T 3 = 0 := (h2.u.look0 3).2 (.inr rfl)
  have he := pemptyZ_any B s r 206 3 T T0 T0 _ w' hp
  rw [l3, h2.u.list l3, show (3 : Int).toNat = 3 from rfl, h3] at he
  refine ⟨rfl, hkz.below, he.mono ?_⟩
  rintro e w2 ⟨rfl, _, hk2⟩
  exact ⟨by simp, hk2.below⟩

set_option maxRecDepth 100000 in
set_option maxHeartbeats 4000000 in
theorem dirGives_any (ls : List Str) (v : Value) (w : World) (hm : MaxOk w) (h : TextsIn w v ls) :
    Calls Tryz.prog 8 #[v] w fun e w' => e = .returned (.bool true) ∧ Below w.heap.size w w' := by
  obtain ⟨i0, hi0, hz0, hz1, hz2⟩ := info_parts info_str
  obtain ⟨hs, hn⟩ := h
  obtain ⟨A, c, rfl, hc, hf⟩ := hs
  have HF := Lib.hid hf
  have HM := Lib.hid hm
  clear hf hm
  go_enter Tryz.func8, Tryz.ntmps8
  go_wp2_with fail
  refine (opened_any w).mono ?_
  rintro e w1 ⟨s, r, rfl, hP, hb⟩
  have HP := Lib.hid hP
  have HB := Lib.hid hb
  have hlive := live_any w1 (HM.out.grow HB.out)
  have HLive := Lib.hid hlive
  clear hP hb hlive
  go_wp2_with fail
  refine HLive.out.mono ?_
  rintro e w2 ⟨rfl, hb2⟩
  obtain ⟨m, y, hm1, hm2⟩ := pairT0_free (HP.out.below hb2).z DirV.zero rfl rfl
  have hbw : Below w.heap.size w w2 := HB.out.trans (hb2.mono HB.out.size)
  have HM1 := Lib.hid hm1
  have HM2 := Lib.hid hm2
  have HBw := Lib.hid hbw
  clear hbw hb2 HLive HP HB hm1 hm2
  go_wp2_with fail
  refine HM1.out.mono ?_
  rintro e w3 ⟨rfl, rfl⟩
  go_wp2_with fail
  refine HM2.out.mono ?_
  rintro e w3 ⟨rfl, hp3, hk3⟩
  have hb3 : Below w.heap.size w w3 := HBw.out.trans hk3.below
  have h1 : Gv w.heap.size s r (.slice none 0 0) [] 0 w3 := ⟨T0, fun _ => [], hp3.weak (fun k hk => by cases hk), DirV.zero, List.Perm.refl _, rfl, World.ownsRow_nil _ _ _ _, Nat.zero_le _⟩
  have H3 := Lib.hid (⟨h1, hb3⟩ : _ ∧ _)
  clear h1 hb3 hk3 hp3 HM1 HM2 HBw
  go_upto_block 0 with fail
  go_cut [8, 9] (fun v8 _v9 wx => ∃ (A8 : Option Addr) (c8 : Nat) (kept : List Str), v8 = .slice A8 kept.length c8 ∧ kept.length ≤ 40 ∧ Gv w.heap.size s r (.slice A8 kept.length c8) kept 40 wx ∧ Below w.heap.size w wx)
  case first =>
    go_wp2_with fail
    go_loopg [8, 9] 40 (fun gg v8 i wx => ∃ (A8 : Option Addr) (c8 : Nat) (kept : List Str) (k : Nat), v8 = .slice A8 kept.length c8 ∧ i = .int .i64 k ∧ gg = 40 - k ∧ k ≤ 40 ∧ k ≤ ls.length ∧ Gv w.heap.size s r (.slice A8 kept.length c8) kept k wx ∧ Below w.heap.size w wx)
    case atStart => exact ⟨none, 0, [], 0, rfl, rfl, rfl, Nat.zero_le _, Nat.zero_le _, H3.out.1, H3.out.2⟩
    case round =>
      obtain ⟨A8, c8, kept, k, rfl, rfl, rfl, hk, hkl, hO, hb⟩ := hrel
      by_cases hlt : k < ls.length
      · have hlt' : decide ((k : Int) < (ls.length : Int)) = true := by simp; omega
        by_cases h40 : k < 40
        · have h40' : decide ((k : Int) < 40) = true := by simp; omega
          obtain ⟨b, o, rfl, hbl, hcs⟩ := HF.out (by rintro rfl; simp at hlt)
          have hcell := (hb.cell (p := ⟨b, o + k, none⟩) hbl).trans (hcs k _ (List.getElem?_eq_getElem hlt))
          obtain ⟨nm, hnm⟩ : ∃ nm, nm = ls[k] := ⟨_, rfl⟩
          rw [← hnm] at hcell
          obtain ⟨e9, hst⟩ := hO.step (nm := nm) h40
          have hkl8 : kept.length ≤ 40 := by obtain ⟨_, _, _, _, _, _, _, h6⟩ := hO; omega
          have HSt := Lib.hid hst
          have HBw := Lib.hid hb
          have HCs := Lib.hid hcs
          have HNm := Lib.hid hnm
          clear hst hO hb hcs hnm
          go_wp2_with fail
          refine HSt.out.mono ?_
          rintro e w4 ⟨rfl, hb4, hown, hno, hyes⟩
          have hcell4 := ((HBw.out.trans hb4).cell (p := ⟨b, o + k, none⟩) hbl).trans (HCs.out k _ (List.getElem?_eq_getElem hlt))
          rw [← HNm.out] at hcell4
          by_cases h0 : e9 = 0
          · subst h0
            have hbase : w.heap.size ≤ (w4.alloc (.cells #[.string (bs nm)] 9)).heap.size := by rw [World.size_alloc]; exact Nat.le_succ_of_le (HBw.out.trans hb4).size
            have hownA : (w4.alloc (.cells #[.string (bs nm)] 9)).ownsRow w.heap.size 9 1 (.slice A8 kept.length c8) kept.length (kept.map encStr) := World.ownsRow.alloc hown (.cells #[.string (bs nm)] 9)
            have hkm : kept.length + 1 ≤ maxLen := by unfold maxLen; omega
            have hkb : (kept.length + 1) * 16 ≤ 140737488355328 := by omega
            have hnext : ∀ v' w6, w6.ownsRow w.heap.size 9 1 v' (kept.length + 1) (kept.map encStr ++ [.string (bs nm)]) → (w4.alloc (.cells #[.string (bs nm)] 9)).grownBy w6 (Value.slice A8 kept.length c8).ownBlock → (v'.ownBlock = (Value.slice A8 kept.length c8).ownBlock ∨ v'.ownBlock = some (w4.alloc (.cells #[.string (bs nm)] 9)).heap.size) → ∃ A9 c9, v' = .slice A9 (kept ++ [nm]).length c9 ∧ Gv w.heap.size s r (.slice A9 (kept ++ [nm]).length c9) (kept ++ [nm]) (k + 1) w6 ∧ Below w.heap.size w w6 := fun v' w6 r1 r2 r3 => by
              have hrow : OwnS w6 w.heap.size v' (kept ++ [nm]) := by
                unfold OwnS
                rw [List.length_append, List.map_append]
                exact r1
              obtain ⟨g1, g2⟩ := hyes rfl v' w6 (((Off.refl (ofv (.slice A8 kept.length c8)) w4).alloc _).grown r2 (fun j e => .inl e)) (fun j hj => by
                rcases r3 with e | e
                · exact .inl (e ▸ hj)
                · right
                  have h9 := World.ownsRow.lt r1 j hj
                  rw [e] at hj
                  have : (w4.alloc (.cells #[.string (bs nm)] 9)).heap.size = j := by injection hj
                  rw [World.size_alloc] at this
                  omega) hrow
              obtain ⟨A9, c9, rfl⟩ := ownsRow_slice hrow
              exact ⟨A9, c9, rfl, g1, (HBw.out.trans hb4).trans g2⟩
            have HNext := Lib.hid hnext
            have HOwn := Lib.hid hownA
            clear hnext hownA hno hyes hb4 hown
            go_wp2_with (at_builtin; refine wpList_append_own_at _ rfl _ _ 22 rfl w.heap.size 9 i0 (.string ⟨#[]⟩) 1 16 Tryz.underlying22 hi0 hz0 hz1 hz2 rfl (by decide) (.slice A8 kept.length c8) _ _ rfl HOwn.out ⟨w4.heap.size, 0, none⟩ 1 1 [.string (bs nm)] rfl rfl (World.news_of_block (heap_alloc_new _ _)) (by intro u hu; simp at hu; subst hu; rfl) hkm hkb hbase ?_; intro v' w6 hown' hgrow hnil hloc; have hI6 := HNext.out v' w6 hown' hgrow hloc; have HI6 := Lib.hid hI6; clear hown' hgrow hnil hloc hI6)
            go_roundg (40 - (k + 1))
            case measure => omega
            case rel =>
              obtain ⟨A9, c9, e1, e2, e3⟩ := HI6.out
              exact ⟨A9, c9, kept ++ [nm], k + 1, e1, by go_num, rfl, h40, hlt, e2, e3⟩
          · have h0' : ((e9 : Int) == 0) = false := by simp; omega
            have HO := Lib.hid (⟨hno h0, HBw.out.trans hb4⟩ : _ ∧ _)
            clear hno hyes hb4 hown h0
            go_wp2_with fail
            go_roundg (40 - (k + 1))
            case measure => omega
            case rel => exact ⟨A8, c8, kept, k + 1, rfl, by go_num, rfl, h40, hlt, HO.out.1, HO.out.2⟩
        · obtain rfl : k = 40 := by omega
          have h40' : decide (((40 : Nat) : Int) < 40) = false := by decide
          have HO := Lib.hid (⟨hO, hb⟩ : _ ∧ _)
          have hkl8 : kept.length ≤ 40 := by obtain ⟨_, _, _, _, _, _, _, h6⟩ := hO; omega
          clear hO hb
          go_wp2_with fail
          go_meet
          exact ⟨A8, c8, kept, rfl, hkl8, HO.out.1, HO.out.2⟩
      · have hlt' : decide ((k : Int) < (ls.length : Int)) = false := by simp; omega
        have hkl8 : kept.length ≤ 40 := by obtain ⟨_, _, _, _, _, _, _, h6⟩ := hO; omega
        have HO := Lib.hid (⟨hO.more hk, hb⟩ : _ ∧ _)
        clear hO hb
        go_wp2_with fail
        go_meet
        exact ⟨A8, c8, kept, rfl, hkl8, HO.out.1, HO.out.2⟩
  case rest =>
    obtain ⟨A8, c8, kept, rfl, hkl8, hO, hb⟩ := hcut
    have hli := hO.list (Nat.le_refl _)
    have HLi := Lib.hid hli
    have HBr := Lib.hid hb
    clear hli hO hb H3
    go_wp2_with fail
    refine HLi.out.mono ?_
    rintro e w5 ⟨A5, c5, rfl, hG, hb5⟩
    have hbw5 : Below w.heap.size w w5 := HBr.out.trans hb5
    have HG := Lib.hid hG
    have HB5 := Lib.hid hbw5
    clear hG hb5 hbw5 HLi HBr
    go_wp2_with fail
    go_loopg [12] kept.length (fun gg i wx => ∃ k : Nat, i = .int .i64 k ∧ gg = kept.length - k ∧ k ≤ kept.length ∧ Gd w.heap.size s r (.slice A8 kept.length c8) kept k wx ∧ Below w.heap.size w wx)
    case atStart => exact ⟨0, rfl, rfl, Nat.zero_le _, HG.out, HB5.out⟩
    case round =>
      obtain ⟨k, rfl, rfl, hk, hO, hb⟩ := hrel
      by_cases hlt : k < kept.length
      · have hlt' : decide ((k : Int) < (kept.length : Int)) = true := by simp; omega
        have hx := List.getElem?_eq_getElem hlt
        obtain ⟨b, o, rfl, hbl, hcs⟩ := hO.fact (by rintro rfl; simp at hlt)
        have hcell := hcs k _ hx
        obtain ⟨nm, hnm⟩ : ∃ nm, nm = kept[k] := ⟨_, rfl⟩
        rw [← hnm] at hcell hx
        have hst := hO.step hx
        have HSt := Lib.hid hst
        have HBw := Lib.hid hb
        have HX := Lib.hid hx
        clear hst hO hb hcs hnm hx
        go_wp2_with fail
        refine HSt.out.mono ?_
        rintro e w6 ⟨⟨x6, rfl⟩, hG6, hb6⟩
        have HO := Lib.hid (⟨hG6, HBw.out.trans hb6⟩ : _ ∧ _)
        clear hG6 hb6 HBw HSt
        go_wp2_with fail
        go_roundg (kept.length - (k + 1))
        case measure => omega
        case rel => exact ⟨k + 1, by go_num, rfl, hlt, HO.out.1, HO.out.2⟩
      · have hlt' : decide ((k : Int) < (kept.length : Int)) = false := by simp; omega
        obtain rfl : k = kept.length := by omega
        obtain ⟨m, y, hm1, hm2⟩ := hO.last
        have HM1 := Lib.hid hm1
        have HM2 := Lib.hid hm2
        have HBw := Lib.hid hb
        clear hm1 hm2 hO hb
        go_wp2_with fail
        refine HM1.out.mono ?_
        rintro e w6 ⟨rfl, rfl⟩
        go_wp2_with fail
        refine HM2.out.mono ?_
        rintro e w6 ⟨rfl, hb6, hem⟩
        have HEm := Lib.hid hem
        have HB6 := Lib.hid hb6
        clear hem hb6 HM1 HM2
        go_wp2_with fail
        refine HEm.out.mono ?_
        rintro e w7 ⟨rfl, hb7⟩
        have HB7 := Lib.hid ((HBw.out.trans HB6.out).trans hb7)
        clear hb7
        go_wp2_with fail
        go_ret
        exact ⟨rfl, HB7.out⟩

end Go.Proofs.YtfgkgoddjemnfaaGreatDoor
