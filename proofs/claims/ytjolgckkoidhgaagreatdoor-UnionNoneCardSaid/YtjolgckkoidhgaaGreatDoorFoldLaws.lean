/-
  Plain laws of layers: what is folded is a tree; what a whiteout names is gone, and nothing else; a layer of Puts twice is as once. No program in sight.
-/
import Derived.Test.YtjolgckkoidhgaaGreatDoorFold
namespace Go.Proofs.YtjolgckkoidhgaaGreatDoor.Pa

def Closed (T : List Nd) : Prop := ∀ n ∈ T, parentP n.path = [47] ∨ ∃ m ∈ T, m.path = parentP n.path ∧ m.kind = 2
def Uniq (T : List Nd) : Prop := (T.map (·.path)).Nodup
structure Good (T : List Nd) : Prop where
  right : ∀ n ∈ T, rightN n = true
  uniq : Uniq T
  closed : Closed T
structure Tree (T : List Nd) : Prop where
  len : T.length ≤ 256
  right : ∀ n ∈ T, rightN n = true
  sorted : T.Pairwise (fun a b => orderP a.path b.path < 0)
  closed : Closed T

theorem rightN_split {n : Nd} (h : rightN n = true) : ∃ l, splitP n.path = some l ∧ l ≠ [] := by
  unfold rightN at h
  cases hs : splitP n.path with
  | none => rw [hs] at h; cases h
  | some l =>
    rw [hs] at h
    refine ⟨l, rfl, ?_⟩
    rintro rfl
    simp at h
theorem rightN_names {n : Nd} (h : rightN n = true) : splitP n.path = some (names n.path) ∧ names n.path ≠ [] := by
  obtain ⟨l, hl, hn⟩ := rightN_split h
  have : names n.path = l := by simp [names, hl]
  rw [this]; exact ⟨hl, hn⟩
theorem names_inj {a b : Nd} (ha : rightN a = true) (hb : rightN b = true) (h : names a.path = names b.path) : a.path = b.path :=
  splitP_inj (rightN_names ha).1 (h ▸ (rightN_names hb).1)

theorem look_none {T : List Nd} {p : Str} : look T p = none ↔ ∀ n ∈ T, n.path ≠ p := by simp [look]
theorem look_some {T : List Nd} {p : Str} {n : Nd} (h : look T p = some n) : n ∈ T ∧ n.path = p := by
  unfold look at h
  exact ⟨List.mem_of_find?_eq_some h, by simpa using List.find?_some h⟩
theorem Uniq.eq {T : List Nd} (h : Uniq T) {a b : Nd} (ha : a ∈ T) (hb : b ∈ T) (e : a.path = b.path) : a = b := by
  unfold Uniq at h
  induction T with
  | nil => cases ha
  | cons x T ih =>
    simp only [List.map_cons, List.nodup_cons, List.mem_map, not_exists, not_and] at h
    rcases List.mem_cons.1 ha with rfl | ha' <;> rcases List.mem_cons.1 hb with rfl | hb'
    · rfl
    · exact absurd e.symm (h.1 b hb')
    · exact absurd e (h.1 a ha')
    · exact ih h.2 ha' hb'
theorem look_mem {T : List Nd} (h : Uniq T) {n : Nd} (hn : n ∈ T) : look T n.path = some n := by
  cases hl : look T n.path with
  | none => exact absurd rfl (look_none.1 hl n hn)
  | some m =>
    obtain ⟨h1, h2⟩ := look_some hl
    rw [h.eq h1 hn h2]
theorem kindAt_eq {T : List Nd} {p : Str} {k : Int} (hk : k ≠ 0) : kindAt T p = k → ∃ n ∈ T, n.path = p ∧ n.kind = k := by
  unfold kindAt
  cases hl : look T p with
  | none => simp; intro h; exact absurd h.symm hk
  | some n =>
    obtain ⟨h1, h2⟩ := look_some hl
    simp only [Option.map_some, Option.getD_some]
    exact fun h => ⟨n, h1, h2, h⟩
theorem kindAt_mem {T : List Nd} (h : Uniq T) {n : Nd} (hn : n ∈ T) : kindAt T n.path = n.kind := by
  unfold kindAt
  rw [look_mem h hn]; rfl

theorem mem_setN {T : List Nd} {n m : Nd} : m ∈ setN T n ↔ m = n ∨ (m ∈ T ∧ m.path ≠ n.path) := by
  unfold setN
  split
  · rename_i h
    obtain ⟨x, hx⟩ := Option.isSome_iff_exists.1 h
    obtain ⟨h1, h2⟩ := look_some hx
    rw [List.mem_map]
    constructor
    · rintro ⟨y, hy, rfl⟩
      split
      · exact .inl rfl
      · rename_i hne; exact .inr ⟨hy, hne⟩
    · rintro (rfl | ⟨hm, hne⟩)
      · exact ⟨x, h1, by rw [if_pos h2]⟩
      · exact ⟨m, hm, by rw [if_neg hne]⟩
  · rename_i h
    have hn : look T n.path = none := by simpa using h
    have := look_none.1 hn
    rw [List.mem_append, List.mem_singleton]
    constructor
    · rintro (hm | rfl)
      · exact .inr ⟨hm, this m hm⟩
      · exact .inl rfl
    · rintro (rfl | ⟨hm, _⟩)
      · exact .inr rfl
      · exact .inl hm
theorem setN_paths (T : List Nd) (n : Nd) : (setN T n).map (·.path) = if (look T n.path).isSome then T.map (·.path) else T.map (·.path) ++ [n.path] := by
  unfold setN
  split
  · rw [List.map_map]
    apply List.map_congr_left
    intro x _
    simp only [Function.comp]
    split
    · rename_i h; exact h.symm
    · rfl
  · simp
theorem setN_uniq {T : List Nd} (h : Uniq T) (n : Nd) : Uniq (setN T n) := by
  unfold Uniq at *
  rw [setN_paths]
  split
  · exact h
  · rename_i hl
    have hn : look T n.path = none := by simpa using hl
    have := look_none.1 hn
    rw [List.nodup_append]
    refine ⟨h, by simp, ?_⟩
    intro a ha b hb
    obtain ⟨x, hx, rfl⟩ := List.mem_map.1 ha
    simp at hb
    subst hb
    exact this x hx
theorem setN_length (T : List Nd) (n : Nd) : (setN T n).length ≤ T.length + 1 ∧ T.length ≤ (setN T n).length := by
  unfold setN
  split <;> simp
theorem setN_same {T : List Nd} (h : Uniq T) {n : Nd} (hn : n ∈ T) : setN T n = T := by
  unfold setN
  rw [look_mem h hn]
  simp only [Option.isSome_some, if_true]
  conv => rhs; rw [← List.map_id T]
  apply List.map_congr_left
  intro x hx
  split
  · rename_i e; exact (h.eq hx hn e).symm
  · rfl

theorem mem_delBelow {T : List Nd} {p : Str} {m : Nd} : m ∈ delBelow T p ↔ m ∈ T ∧ isBelow p m.path = false := by simp [delBelow]
theorem mem_delN {T : List Nd} {p : Str} {m : Nd} : m ∈ delN T p ↔ m ∈ T ∧ m.path ≠ p := by simp [delN]
theorem filter_uniq {T : List Nd} (h : Uniq T) (f : Nd → Bool) : Uniq (T.filter f) := by
  unfold Uniq at *
  exact List.Nodup.sublist (List.Sublist.map _ (List.filter_sublist)) h

/-- Names and parents. -/
theorem right_parent {n : Nd} (h : rightN n = true) : ∃ l x, names n.path = l ++ [x] ∧ parentP n.path = joinP l ∧ splitP n.path = some (l ++ [x]) ∧ splitP (joinP l) = some l := by
  obtain ⟨h1, h2⟩ := rightN_names h
  obtain ⟨l, x, e⟩ : ∃ l x, names n.path = l ++ [x] := ⟨(names n.path).dropLast, (names n.path).getLast h2, (List.dropLast_concat_getLast h2).symm⟩
  rw [e] at h1
  exact ⟨l, x, e, parentP_names h1, h1, splitP_take h1⟩

theorem names_of {p : Str} {l : List Str} (h : splitP p = some l) : names p = l := by simp [names, h]

/-- What lies below what is not below, is not. -/
theorem below_parent {top : Str} {lt : List Str} (ht : splitP top = some lt) {n : Nd} (h : rightN n = true) (hb : isBelow top (parentP n.path) = true ∨ parentP n.path = top) :
    isBelow top n.path = true := by
  obtain ⟨l, x, _, e2, e3, e4⟩ := right_parent h
  rw [isBelow_iff ht e3]
  rw [e2] at hb
  rcases hb with hb | hb
  · rcases (isBelow_iff ht e4).1 hb with h0 | ⟨r, _, rfl⟩
    · exact .inl h0
    · exact .inr ⟨r ++ [x], by simp, by simp⟩
  · have : l = lt := by rw [hb, ht] at e4; exact (Option.some.inj e4).symm
    subst this
    exact .inr ⟨[x], by simp, rfl⟩

theorem Good.delBelow {T : List Nd} (h : Good T) {p : Str} {lp : List Str} (hp : splitP p = some lp) : Good (delBelow T p) := by
  refine ⟨fun n hn => h.right n (mem_delBelow.1 hn).1, filter_uniq h.uniq _, fun n hn => ?_⟩
  obtain ⟨hn, hb⟩ := mem_delBelow.1 hn
  rcases h.closed n hn with h0 | ⟨m, hm, e, k⟩
  · exact .inl h0
  · refine .inr ⟨m, mem_delBelow.2 ⟨hm, ?_⟩, e, k⟩
    cases hmb : isBelow p m.path with
    | false => rfl
    | true =>
      rw [e] at hmb
      rw [below_parent hp (h.right n hn) (.inl hmb)] at hb
      cases hb

theorem Good.gone1 {T : List Nd} (h : Good T) {p : Str} {lp : List Str} (hp : splitP p = some lp) : Good (delN (Pa.delBelow T p) p) := by
  have h1 := h.delBelow hp
  refine ⟨fun n hn => h1.right n (mem_delN.1 hn).1, filter_uniq h1.uniq _, fun n hn => ?_⟩
  obtain ⟨hn, hne⟩ := mem_delN.1 hn
  rcases h1.closed n hn with h0 | ⟨m, hm, e, k⟩
  · exact .inl h0
  · refine .inr ⟨m, mem_delN.2 ⟨hm, ?_⟩, e, k⟩
    intro em
    have hr := h1.right n hn
    have := below_parent hp hr (.inr (e ▸ em))
    rw [(mem_delBelow.1 hn).2] at this
    cases this

theorem mayC_split {c : Ch} (h : mayC c = true) : ∃ l, splitP c.path = some l ∧ (c.kind = 2 → l ≠ []) := by
  unfold mayC at h
  cases hs : splitP c.path with
  | none => rw [hs] at h; cases h
  | some l =>
    refine ⟨l, rfl, fun h2 => ?_⟩
    rw [hs] at h
    simp only at h
    rw [if_neg (by omega), if_pos h2] at h
    rintro rfl
    simp at h

theorem gone_good : ∀ (cs : List Ch) (T : List Nd), Good T → (∀ c ∈ cs, mayC c = true) → Good (gone T cs)
  | [], _, h, _ => h
  | c :: r, T, h, hc => by
    obtain ⟨l, hl, _⟩ := mayC_split (hc c (by simp))
    unfold gone
    refine gone_good r _ ?_ (fun d hd => hc d (by simp [hd]))
    split
    · exact h
    · split
      · exact h.gone1 hl
      · exact h.delBelow hl
theorem gone_length : ∀ (cs : List Ch) (T : List Nd), (gone T cs).length ≤ T.length
  | [], _ => Nat.le_refl _
  | c :: r, T => by
    unfold gone
    refine Nat.le_trans (gone_length r _) ?_
    split
    · exact Nat.le_refl _
    · split
      · exact Nat.le_trans (List.length_filter_le _ _) (List.length_filter_le _ _)
      · exact List.length_filter_le _ _

theorem right_dir {l : List Str} (h : splitP (joinP l) = some l) (hne : l ≠ []) : rightN (dirN (joinP l)) = true := by
  unfold rightN dirN
  simp only [h]
  cases l with
  | nil => exact absurd rfl hne
  | cons x l => simp

/-- A Dir that is put where nothing is, below a Dir. -/
theorem Good.put {T : List Nd} (h : Good T) {n : Nd} (hr : rightN n = true) (hp : parentP n.path = [47] ∨ ∃ m ∈ T, m.path = parentP n.path ∧ m.kind = 2)
    (hk : ∀ m ∈ T, parentP m.path = n.path → n.kind = 2) : Good (setN T n) := by
  have hself : parentP n.path ≠ n.path := by
    obtain ⟨l, x, _, e2, e3, e4⟩ := right_parent hr
    intro e
    rw [e2] at e
    rw [e, e3] at e4
    have := congrArg List.length (Option.some.inj e4)
    simp at this
  refine ⟨fun m hm => ?_, setN_uniq h.uniq n, fun m hm => ?_⟩
  · rcases mem_setN.1 hm with rfl | ⟨hm, _⟩
    · exact hr
    · exact h.right m hm
  · rcases mem_setN.1 hm with rfl | ⟨hm, hne⟩
    · rcases hp with h0 | ⟨q, hq, e, k⟩
      · exact .inl h0
      · exact .inr ⟨q, mem_setN.2 (.inr ⟨hq, fun e' => hself (e.symm.trans e')⟩), e, k⟩
    · rcases h.closed m hm with h0 | ⟨q, hq, e, k⟩
      · exact .inl h0
      · by_cases eq : q.path = n.path
        · exact .inr ⟨n, mem_setN.2 (.inl rfl), eq.symm.trans e, hk m hm (e.symm.trans eq)⟩
        · exact .inr ⟨q, mem_setN.2 (.inr ⟨hq, eq⟩), e, k⟩

theorem dirs_good : ∀ (r l : List Str) (T T' : List Nd), Good T → splitP (joinP (l ++ r)) = some (l ++ r) →
    (l = [] ∨ ∃ m ∈ T, m.path = joinP l ∧ m.kind = 2) → dirs T l r = some T' →
    Good T' ∧ (l ++ r = [] ∨ ∃ m ∈ T', m.path = joinP (l ++ r) ∧ m.kind = 2) ∧ T'.length ≤ T.length + r.length ∧ T.length ≤ T'.length
  | [], l, T, T', hg, _, hl, h => by
    simp only [dirs, Option.some.injEq] at h
    subst h
    rw [List.append_nil]
    exact ⟨hg, hl, by simp, Nat.le_refl _⟩
  | x :: r, l, T, T', hg, hs, hl, h => by
    have hs' : splitP (joinP ((l ++ [x]) ++ r)) = some ((l ++ [x]) ++ r) := by simpa using hs
    have hx := splitP_take hs'
    have hpar : parentP (joinP (l ++ [x])) = joinP l := parentP_names hx
    have e : l ++ x :: r = (l ++ [x]) ++ r := by simp
    rw [e]
    unfold dirs at h
    cases hlk : look T (joinP (l ++ [x])) with
    | some n =>
      rw [hlk] at h
      simp only at h
      split at h
      · rename_i hk
        obtain ⟨hm, he⟩ := look_some hlk
        obtain ⟨a, b, c, d⟩ := dirs_good r (l ++ [x]) T T' hg hs' (.inr ⟨n, hm, he, hk⟩) h
        exact ⟨a, b, by simp only [List.length_cons]; omega, d⟩
      · cases h
    | none =>
      rw [hlk] at h
      simp only at h
      have hnone := look_none.1 hlk
      have hg1 : Good (setN T (dirN (joinP (l ++ [x])))) := by
        refine hg.put (right_dir hx (by simp)) ?_ (fun m hm e => rfl)
        show parentP (joinP (l ++ [x])) = [47] ∨ _
        rcases hl with rfl | ⟨m, hm, e, k⟩
        · exact .inl (hpar.trans rfl)
        · exact .inr ⟨m, hm, e.trans hpar.symm, k⟩
      obtain ⟨a, b, c, d⟩ := dirs_good r (l ++ [x]) _ T' hg1 hs' (.inr ⟨dirN (joinP (l ++ [x])), mem_setN.2 (.inl rfl), rfl, rfl⟩) h
      have := setN_length T (dirN (joinP (l ++ [x])))
      exact ⟨a, b, by simp only [List.length_cons]; omega, by omega⟩

theorem nodeOf_right {T : List Nd} (hg : Good T) {c : Ch} (hm : mayC c = true) (hk : c.kind = 1) (hne : names c.path ≠ []) {n : Nd} (h : nodeOf T c = some n) : rightN n = true ∧ n.path = c.path := by
  unfold mayC at hm
  cases hs : splitP c.path with
  | none => rw [hs] at hm; cases hm
  | some l =>
    rw [hs] at hm
    have hl : l ≠ [] := by rw [names_of hs] at hne; exact hne
    simp only at hm
    rw [if_neg (by omega), if_neg (by omega), if_pos hk] at hm
    simp only [Bool.and_eq_true] at hm
    obtain ⟨⟨⟨_, _⟩, ht⟩, _⟩ := hm
    have hle : l.isEmpty = false := by cases l <;> simp_all
    unfold nodeOf at h
    split at h
    · rename_i h4
      split at h
      · cases h
      · rename_i to hto
        split at h
        · rename_i hk1
          cases h
          refine ⟨?_, rfl⟩
          have hr := hg.right to (look_some hto).1
          unfold rightN at hr ⊢
          simp only [hs]
          cases hsp : splitP to.path with
          | none => rw [hsp] at hr; cases hr
          | some l' =>
            rw [hsp] at hr
            simp only [hk1, if_true, Bool.and_eq_true] at hr
            simp [hle]
            simp at hr
            exact ⟨⟨hr.1.1.2, hr.1.2⟩, hr.2.2⟩
        · cases h
    · rename_i h4
      cases h
      refine ⟨?_, rfl⟩
      rw [if_neg h4] at ht
      unfold tarOk at ht
      unfold rightN
      simp only [hs, hle]
      simp only [Bool.and_eq_true, decide_eq_true_eq] at ht
      obtain ⟨⟨⟨⟨⟨⟨k1, k4⟩, m0⟩, m1⟩, hlink⟩, hdata⟩, hlen⟩ := ht
      by_cases h1 : c.nkind = 1
      · simp only [h1] at hlink hdata ⊢
        simp at hlink ⊢
        exact ⟨⟨m0, m1⟩, hlink, hlen⟩
      · by_cases h2 : c.nkind = 2
        · simp only [h2] at hlink hdata ⊢
          simp at hlink hdata ⊢
          exact ⟨⟨m0, m1⟩, hlink, hdata⟩
        · have h3 : c.nkind = 3 := by omega
          simp only [h3] at hlink hdata ⊢
          simp [plainT] at hlink hdata ⊢
          exact ⟨⟨hlink.1.1, by omega⟩, hdata⟩

theorem putC_good {T T' : List Nd} (hg : Good T) {c : Ch} (hm : mayC c = true) (hk : c.kind = 1) (h : putC T c = some T') : Good T' ∧ T'.length ≤ T.length + 16 := by
  unfold putC at h
  split at h
  · cases h; exact ⟨hg, by omega⟩
  · rename_i hne
    obtain ⟨l, hl, _⟩ := mayC_split hm
    have hn := names_of hl
    rw [hn] at h hne
    obtain ⟨l', x, rfl⟩ : ∃ l' x, l = l' ++ [x] := ⟨l.dropLast, l.getLast hne, (List.dropLast_concat_getLast hne).symm⟩
    rw [List.dropLast_concat] at h
    have h16 := (splitP_some hl).2.1
    cases hd : dirs T [] l' with
    | none => rw [hd] at h; cases h
    | some T1 =>
      rw [hd] at h
      obtain ⟨g1, hp1, len1, _⟩ := dirs_good l' [] T T1 hg (splitP_take hl) (.inl rfl) hd
      rw [List.nil_append] at hp1
      simp only at h
      cases hno : nodeOf T1 c with
      | none => rw [hno] at h; cases h
      | some n =>
        rw [hno] at h
        simp only [Option.some.injEq] at h
        subst h
        obtain ⟨hr, hpath⟩ := nodeOf_right g1 hm hk (by rw [hn]; simp) hno
        have hpar : parentP n.path = joinP l' := by rw [hpath]; exact parentP_names hl
        have hlen : T1.length ≤ T.length + 15 := by simp at h16; omega
        unfold place
        split
        · rename_i hkk
          refine ⟨g1.put hr ?_ (fun _ _ _ => hkk.1), ?_⟩
          · rw [hpar]
            rcases hp1 with rfl | ⟨m, hm, e, k⟩
            · exact .inl rfl
            · exact .inr ⟨m, hm, e, k⟩
          · have := setN_length T1 n; omega
        · have hsp : splitP n.path = some (l' ++ [x]) := by rw [hpath]; exact hl
          have g2 := g1.delBelow hsp
          refine ⟨g2.put hr ?_ (fun m hm e => ?_), ?_⟩
          · rw [hpar]
            rcases hp1 with rfl | ⟨m, hm, e, k⟩
            · exact .inl rfl
            · refine .inr ⟨m, mem_delBelow.2 ⟨hm, ?_⟩, e, k⟩
              cases hb : isBelow n.path m.path with
              | false => rfl
              | true =>
                rw [e, isBelow_iff hsp (splitP_take hl)] at hb
                rcases hb with hb | ⟨r, _, hb⟩
                · simp at hb
                · have := congrArg List.length hb
                  simp at this
          · obtain ⟨hm, hb⟩ := mem_delBelow.1 hm
            rw [below_parent hsp (g1.right m hm) (.inr e)] at hb
            cases hb
          · have := setN_length (delBelow T1 n.path) n
            have := List.length_filter_le (fun m => !isBelow n.path m.path) T1
            unfold delBelow at *
            omega

theorem puts_good : ∀ (cs : List Ch) (T T' : List Nd), Good T → T.length ≤ 256 → (∀ c ∈ cs, mayC c = true) → puts T cs = .ok T' → Good T' ∧ T'.length ≤ 256
  | [], T, T', hg, hl, _, h => by
    simp only [puts, Except.ok.injEq] at h
    subst h
    exact ⟨hg, hl⟩
  | c :: r, T, T', hg, hl, hm, h => by
    unfold puts at h
    have hr : ∀ d ∈ r, mayC d = true := fun d hd => hm d (by simp [hd])
    split at h
    · rename_i hk
      split at h
      · cases h
      · rename_i T1 hp
        split at h
        · rename_i hle
          exact puts_good r T1 T' (putC_good hg (hm c (by simp)) hk hp).1 hle hr h
        · cases h
    · exact puts_good r T T' hg hl hr h

/-- Sorting. -/
theorem leN_trans (a b c : Nd) (h1 : leN a b = true) (h2 : leN b c = true) : leN a c = true := by
  simp only [leN, decide_eq_true_eq] at *
  unfold orderP at *
  rcases cmpL_tri (names a.path) (names c.path) with h | h | h
  · omega
  · rw [h, cmpL_self]; omega
  · exfalso
    rcases Int.lt_or_eq_of_le h1 with h1 | h1
    · rcases Int.lt_or_eq_of_le h2 with h2 | h2
      · exact cmpL_asymm h (cmpL_trans _ _ _ h1 h2)
      · rw [← cmpL_zero h2] at h; exact cmpL_asymm h h1
    · rw [cmpL_zero h1] at h
      rcases Int.lt_or_eq_of_le h2 with h2 | h2
      · exact cmpL_asymm h h2
      · rw [cmpL_zero h2] at h; exact cmpL_irr _ h
theorem leN_total (a b : Nd) : (leN a b || leN b a) = true := by
  simp only [leN, Bool.or_eq_true, decide_eq_true_eq]
  unfold orderP
  rcases cmpL_tri (names a.path) (names b.path) with h | h | h
  · exact .inl (by omega)
  · exact .inl (by rw [h, cmpL_self]; omega)
  · exact .inr (by omega)

theorem srt_perm (T : List Nd) : (srt T).Perm T := List.mergeSort_perm _ _
theorem srt_sorted {T : List Nd} (h : Good T) : (srt T).Pairwise (fun a b => orderP a.path b.path < 0) := by
  have h1 : (srt T).Pairwise (fun a b => leN a b = true) := List.pairwise_mergeSort leN_trans leN_total T
  have h2 : (srt T).Pairwise (fun a b => a.path ≠ b.path) := by
    have : Uniq (srt T) := ((srt_perm T).map _).nodup_iff.2 h.uniq
    exact List.pairwise_map.1 this
  have hr : ∀ n ∈ srt T, rightN n = true := fun n hn => h.right n ((srt_perm T).mem_iff.1 hn)
  refine (h1.and h2).imp_of_mem ?_
  intro a b ha hb hab
  have hle : orderP a.path b.path ≤ 0 := by simpa [leN] using hab.1
  rcases Int.lt_or_eq_of_le hle with h | h
  · exact h
  · exact absurd (names_inj (hr a ha) (hr b hb) (cmpL_zero h)) hab.2

/-- Two sorted rows of the same are one. -/
theorem sorted_unique : ∀ (A B : List Nd), A.Pairwise (fun a b => orderP a.path b.path < 0) → B.Pairwise (fun a b => orderP a.path b.path < 0) → (∀ n, n ∈ A ↔ n ∈ B) → A = B
  | [], [], _, _, _ => rfl
  | [], b :: B, _, _, h => absurd ((h b).2 (by simp)) (by simp)
  | a :: A, [], _, _, h => absurd ((h a).1 (by simp)) (by simp)
  | a :: A, b :: B, hA, hB, h => by
    have hA' := List.pairwise_cons.1 hA
    have hB' := List.pairwise_cons.1 hB
    have e : a = b := by
      rcases List.mem_cons.1 ((h a).1 (by simp)) with e | ha
      · exact e
      · rcases List.mem_cons.1 ((h b).2 (by simp)) with e | hb
        · exact e.symm
        · exact absurd (hA'.1 b hb) (cmpL_asymm (hB'.1 a ha))
    subst e
    have ha : a ∉ A := fun hm => cmpL_irr _ (hA'.1 a hm)
    have hb : a ∉ B := fun hm => cmpL_irr _ (hB'.1 a hm)
    rw [sorted_unique A B hA'.2 hB'.2 (fun n => ?_)]
    constructor
    · intro hn
      rcases List.mem_cons.1 ((h n).1 (by simp [hn])) with rfl | hn'
      · exact absurd hn ha
      · exact hn'
    · intro hn
      rcases List.mem_cons.1 ((h n).2 (by simp [hn])) with rfl | hn'
      · exact absurd hn hb
      · exact hn'

theorem Good.srt_tree {T : List Nd} (h : Good T) (hl : T.length ≤ 256) : Tree (srt T) := by
  have hm : ∀ n, n ∈ srt T ↔ n ∈ T := fun n => (srt_perm T).mem_iff
  refine ⟨by rw [(srt_perm T).length_eq]; exact hl, fun n hn => h.right n ((hm n).1 hn), srt_sorted h, fun n hn => ?_⟩
  rcases h.closed n ((hm n).1 hn) with h0 | ⟨m, hmm, e, k⟩
  · exact .inl h0
  · exact .inr ⟨m, (hm m).2 hmm, e, k⟩
theorem Tree.uniq {T : List Nd} (h : Tree T) : Uniq T := by
  unfold Uniq
  refine List.pairwise_map.2 (h.sorted.imp ?_)
  intro a b hab e
  rw [e] at hab
  exact cmpL_irr _ hab
theorem Tree.good {T : List Nd} (h : Tree T) : Good T := ⟨h.right, h.uniq, h.closed⟩
theorem Tree.srt {T : List Nd} (h : Tree T) : srt T = T := sorted_unique _ _ (srt_sorted h.good) h.sorted (fun _ => (srt_perm T).mem_iff)

/-- union.treeOf: just the trees, as they are. -/
theorem treeGo_some : ∀ (l T : List Nd) (prev : Option Str) (T' : List Nd), (∀ n ∈ T, match prev with | none => False | some q => orderP n.path q < 0 ∨ n.path = q) → treeGo l prev T = some T' →
    T' = T ++ l ∧ (∀ n ∈ l, rightN n = true) ∧ l.Pairwise (fun a b => orderP a.path b.path < 0) ∧ (∀ n ∈ l, match prev with | none => True | some q => orderP q n.path < 0) ∧
    ∀ n ∈ l, parentP n.path = [47] ∨ ∃ m ∈ T ++ l, m.path = parentP n.path ∧ m.kind = 2
  | [], T, _, T', _, h => by
    simp only [treeGo, Option.some.injEq] at h
    subst h
    simp
  | n :: r, T, prev, T', hT, h => by
    unfold treeGo at h
    split at h
    case isFalse => cases h
    rename_i hc
    simp only [Bool.and_eq_true, Bool.or_eq_true, decide_eq_true_eq] at hc
    obtain ⟨⟨hr, hq⟩, hp⟩ := hc
    have hlt : ∀ m ∈ T, orderP m.path n.path < 0 := by
      intro m hm
      have := hT m hm
      cases prev with
      | none => exact this.elim
      | some q =>
        have hq : orderP q n.path < 0 := by simpa [prevOk] using hq
        rcases this with h | h
        · exact cmpL_trans _ _ _ h hq
        · rw [h]; exact hq
    have hnone : look T n.path = none := look_none.2 fun m hm e => by
      have := hlt m hm
      rw [e] at this
      exact cmpL_irr _ this
    have hset : setN T n = T ++ [n] := by unfold setN; rw [hnone]; rfl
    rw [hset] at h
    obtain ⟨e, a, b, c, d⟩ := treeGo_some r (T ++ [n]) (some n.path) T' (by
      intro m hm
      rcases List.mem_append.1 hm with hm | hm
      · exact .inl (hlt m hm)
      · simp at hm; exact .inr (by rw [hm])) h
    refine ⟨by rw [e]; simp, ?_, List.pairwise_cons.2 ⟨fun m hm => c m hm, b⟩, ?_, ?_⟩
    · intro m hm
      rcases List.mem_cons.1 hm with rfl | hm
      · exact hr
      · exact a m hm
    · intro m hm
      cases prev with
      | none => trivial
      | some q =>
        have hq : orderP q n.path < 0 := by simpa [prevOk] using hq
        rcases List.mem_cons.1 hm with rfl | hm
        · exact hq
        · exact cmpL_trans _ _ _ hq (c m hm)
    · intro m hm
      rcases List.mem_cons.1 hm with rfl | hm
      · rcases hp with hp | hp
        · exact .inl hp
        · obtain ⟨q, hq, e, k⟩ := kindAt_eq (by omega) hp
          exact .inr ⟨q, by simp [hq], e, k⟩
      · rcases d m hm with h0 | ⟨q, hq, e⟩
        · exact .inl h0
        · exact .inr ⟨q, by simpa using hq, e⟩

theorem treeOf_some {l T : List Nd} (h : treeOf l = some T) : T = l ∧ Tree l := by
  unfold treeOf at h
  split at h
  case isFalse => cases h
  rename_i hl
  obtain ⟨e, a, b, _, d⟩ := treeGo_some l [] none T (by simp) h
  exact ⟨by simpa using e, hl, a, b, fun n hn => by simpa using d n hn⟩

theorem treeGo_ok : ∀ (l T : List Nd) (prev : Option Str), (∀ n ∈ l, rightN n = true) → (T ++ l).Pairwise (fun a b => orderP a.path b.path < 0) → (match prev with | none => T = [] | some q => ∃ m ∈ T, m.path = q) →
    Closed (T ++ l) → treeGo l prev T = some (T ++ l)
  | [], T, _, _, _, _, _ => by simp [treeGo]
  | n :: r, T, prev, hr, hs, hp, hc => by
    have hlt : ∀ m ∈ T, orderP m.path n.path < 0 := fun m hm => (List.pairwise_append.1 hs).2.2 m hm n (by simp)
    have hgt : ∀ m ∈ r, orderP n.path m.path < 0 := (List.pairwise_cons.1 (List.pairwise_append.1 hs).2.1).1
    have hnone : look T n.path = none := look_none.2 fun m hm e => by
      have := hlt m hm
      rw [e] at this
      exact cmpL_irr _ this
    have hset : setN T n = T ++ [n] := by unfold setN; rw [hnone]; rfl
    have huniq : Uniq T := List.pairwise_map.2 (((List.pairwise_append.1 hs).1).imp fun {a b} hab e => by rw [e] at hab; exact cmpL_irr _ hab)
    have hrn := hr n (by simp)
    unfold treeGo
    rw [if_pos, hset, treeGo_ok r (T ++ [n]) (some n.path) (fun m hm => hr m (by simp [hm])) (by simpa using hs) ⟨n, by simp, rfl⟩ (by simpa using hc)]
    · simp
    · simp only [Bool.and_eq_true, Bool.or_eq_true, decide_eq_true_eq]
      refine ⟨⟨hrn, ?_⟩, ?_⟩
      · cases prev with
        | none => rfl
        | some q =>
          obtain ⟨m, hm, e⟩ := hp
          simpa [prevOk] using e ▸ hlt m hm
      · rcases hc n (by simp) with h0 | ⟨m, hm, e, k⟩
        · exact .inl h0
        · right
          have hmT : m ∈ T := by
            rcases List.mem_append.1 hm with hm | hm
            · exact hm
            · exfalso
              obtain ⟨l, x, e1, e2, e3, e4⟩ := right_parent hrn
              have hmn : orderP m.path n.path < 0 := by
                unfold orderP
                rw [e, e2, names_of e4, e1]
                exact cmpL_prefix l [x] (by simp)
              rcases List.mem_cons.1 hm with rfl | hm
              · exact cmpL_irr _ hmn
              · exact cmpL_asymm (hgt m hm) hmn
          rw [← e, kindAt_mem huniq hmT]; exact k

theorem Tree.treeOf {l : List Nd} (h : Tree l) : treeOf l = some l := by
  unfold Pa.treeOf
  rw [if_pos h.len, treeGo_ok l [] none h.right (by simpa using h.sorted) rfl (by simpa using h.closed)]
  simp

theorem applyT_tree {l : List Nd} {cs : List Ch} {T : List Nd} (h : applyT l cs = .ok T) : Tree l ∧ Tree T := by
  unfold applyT at h
  cases ht : Pa.treeOf l with
  | none => rw [ht] at h; cases h
  | some T0 =>
    obtain ⟨rfl, htr⟩ := treeOf_some ht
    rw [ht] at h
    simp only at h
    split at h
    · rename_i hm
      have hm : ∀ c ∈ cs, mayC c = true := by simpa using hm
      split at h
      · cases h
      · rename_i T' hp
        cases h
        have hg := gone_good cs T0 htr.good hm
        obtain ⟨g, hl⟩ := puts_good cs _ T' hg (Nat.le_trans (gone_length cs T0) htr.len) hm hp
        exact ⟨htr, g.srt_tree hl⟩
    · cases h

theorem Tree.nil : Tree [] := ⟨by simp, by simp, by simp, fun _ h => by cases h⟩
/-- WHAT IS FOLDED IS A TREE. -/
theorem foldT_tree : ∀ (ls : List (List Ch)) (T T' : List Nd), Tree T → foldT T ls = .ok T' → Tree T'
  | [], T, T', h, e => by simp only [foldT, Except.ok.injEq] at e; subst e; exact h
  | l :: r, T, T', _, e => by
    unfold foldT at e
    split at e
    · cases e
    · rename_i T1 ha
      exact foldT_tree r T1 T' (applyT_tree ha).2 e

end Go.Proofs.YtjolgckkoidhgaaGreatDoor.Pa
