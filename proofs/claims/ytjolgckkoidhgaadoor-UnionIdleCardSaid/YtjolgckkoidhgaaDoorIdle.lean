/-
  Plain laws of layers, more: a whiteout takes a path and all below it away, and nothing else; a layer of Puts folded twice is as once. No program in sight.
-/
import Derived.Test.YtjolgckkoidhgaaDoorFoldLaws
namespace Go.Proofs.YtjolgckkoidhgaaDoor.Pa

/-- Does a path lie below another one, as the document's answer reckons it? -/
def belowR (p top : Str) : Bool := if top = [47] then !decide (p = [47]) else decide (top.length < p.length) && decide (p.take top.length = top) && decide (p[top.length]? = some 47)

theorem belowR_eq {p top : Str} (h : top ≠ [47]) : belowR p top = isBelow top p := by
  unfold belowR isBelow
  rw [if_neg h, if_neg h, Bool.eq_iff_iff]
  simp only [Bool.and_eq_true, decide_eq_true_eq, List.isPrefixOf_iff_prefix]
  constructor
  · rintro ⟨⟨h1, h2⟩, h3⟩
    refine ⟨p.drop (top.length + 1), ?_⟩
    have hd : p.drop top.length = 47 :: p.drop (top.length + 1) := by
      rw [List.drop_eq_getElem_cons h1]
      rw [List.getElem?_eq_getElem h1] at h3
      rw [Option.some.inj h3]
    rw [List.append_assoc, List.singleton_append, ← hd]
    conv => lhs; rw [← h2]
    rw [List.length_take, Nat.min_eq_left (by omega), List.take_append_drop]
  · rintro ⟨s, rfl⟩
    simp

/-- WHAT A WHITEOUT NAMES IS GONE, with all below; nothing else goes. -/
theorem gone_law {t u : List Nd} {p : Str} {c : Ch} (ht : Tree t) (hk : c.kind = 2) (hp : c.path = p) (h : applyT t [c] = .ok u) :
    u = t.filter (fun n => !(decide (n.path = p) || belowR n.path p)) := by
  unfold applyT at h
  rw [ht.treeOf] at h
  simp only at h
  split at h
  case isFalse => cases h
  rename_i hm
  have hm : mayC c = true := by simpa using hm
  obtain ⟨l, hl, h2⟩ := mayC_split hm
  have hne : p ≠ [47] := by
    rintro rfl
    rw [hp, splitP_root] at hl
    cases hl
    exact h2 hk rfl
  have hp1 : puts (gone t [c]) [c] = .ok (gone t [c]) := by
    simp only [puts]
    rw [if_neg (by omega)]
  rw [hp1] at h
  simp only [Except.ok.injEq] at h
  subst h
  have hg : Good (gone t [c]) := gone_good [c] t ht.good (by simpa using hm)
  refine sorted_unique _ _ (srt_sorted hg) (ht.sorted.filter _) (fun n => ?_)
  rw [(srt_perm _).mem_iff]
  simp only [gone]
  rw [if_neg (by omega), if_pos hk, hp, mem_delN, mem_delBelow, List.mem_filter, belowR_eq hne]
  simp only [Bool.not_or, Bool.and_eq_true, Bool.not_eq_true', decide_eq_false_iff_not]
  constructor
  · rintro ⟨⟨a, b⟩, c⟩; exact ⟨a, c, b⟩
  · rintro ⟨a, b, c⟩; exact ⟨⟨a, c⟩, b⟩

/-- The node of a Put that is no hard link. -/
def nd (c : Ch) : Nd := ⟨c.path, c.nkind, if c.nkind = 3 then 511 else c.mode, c.link, c.data⟩
theorem nodeOf_nd {T : List Nd} {c : Ch} (h : c.nkind ≠ 4) : nodeOf T c = some (nd c) := by unfold nodeOf; rw [if_neg h]; rfl

theorem dirs_mem : ∀ (r l : List Str) (T T' : List Nd), dirs T l r = some T' → (∀ m ∈ T, m ∈ T') ∧
    (∀ m ∈ T', m ∈ T ∨ ∃ r1 r2, r = r1 ++ r2 ∧ r1 ≠ [] ∧ m.path = joinP (l ++ r1)) ∧ (∀ r1 r2, r = r1 ++ r2 → r1 ≠ [] → ∃ m ∈ T', m.path = joinP (l ++ r1) ∧ m.kind = 2)
  | [], l, T, T', h => by
    simp only [dirs, Option.some.injEq] at h
    subst h
    refine ⟨fun _ h => h, fun _ h => .inl h, ?_⟩
    intro r1 r2 e hne
    have := (List.append_eq_nil_iff.1 e.symm).1
    exact absurd this hne
  | x :: r, l, T, T', h => by
    have step : ∀ T1, (∀ m ∈ T, m ∈ T1) → (∀ m ∈ T1, m ∈ T ∨ m.path = joinP (l ++ [x])) → (∃ m ∈ T1, m.path = joinP (l ++ [x]) ∧ m.kind = 2) → dirs T1 (l ++ [x]) r = some T' → (∀ m ∈ T, m ∈ T') ∧
        (∀ m ∈ T', m ∈ T ∨ ∃ r1 r2, x :: r = r1 ++ r2 ∧ r1 ≠ [] ∧ m.path = joinP (l ++ r1)) ∧ (∀ r1 r2, x :: r = r1 ++ r2 → r1 ≠ [] → ∃ m ∈ T', m.path = joinP (l ++ r1) ∧ m.kind = 2) := by
      intro T1 h1 h2 h3 hd
      obtain ⟨a, b, c⟩ := dirs_mem r (l ++ [x]) T1 T' hd
      refine ⟨fun m hm => a m (h1 m hm), fun m hm => ?_, fun r1 r2 e hne => ?_⟩
      · rcases b m hm with hm | ⟨r1, r2, e, hne, hp⟩
        · rcases h2 m hm with hm | hm
          · exact .inl hm
          · exact .inr ⟨[x], r, rfl, by simp, hm⟩
        · exact .inr ⟨x :: r1, r2, by simp [e], by simp, by simpa using hp⟩
      · cases r1 with
        | nil => exact absurd rfl hne
        | cons y r1 =>
          simp only [List.cons_append, List.cons.injEq] at e
          obtain ⟨rfl, e⟩ := e
          by_cases h0 : r1 = []
          · subst h0
            obtain ⟨m, hm, hp⟩ := h3
            exact ⟨m, a m hm, hp⟩
          · obtain ⟨m, hm, hp, hk⟩ := c r1 r2 e h0
            exact ⟨m, hm, by simpa using hp, hk⟩
    unfold dirs at h
    cases hlk : look T (joinP (l ++ [x])) with
    | some n =>
      rw [hlk] at h
      simp only at h
      split at h
      · rename_i hk
        obtain ⟨hm, he⟩ := look_some hlk
        exact step T (fun _ h => h) (fun _ h => .inl h) ⟨n, hm, he, hk⟩ h
      · cases h
    | none =>
      rw [hlk] at h
      have hnone := look_none.1 hlk
      refine step _ (fun m hm => mem_setN.2 (.inr ⟨hm, hnone m hm⟩)) (fun m hm => ?_) ⟨dirN (joinP (l ++ [x])), mem_setN.2 (.inl rfl), rfl, rfl⟩ h
      rcases mem_setN.1 hm with rfl | ⟨hm, _⟩
      · exact .inr rfl
      · exact .inl hm

theorem dirs_same : ∀ (r l : List Str) (T : List Nd), Uniq T → (∀ r1 r2, r = r1 ++ r2 → r1 ≠ [] → ∃ m ∈ T, m.path = joinP (l ++ r1) ∧ m.kind = 2) → dirs T l r = some T
  | [], _, _, _, _ => rfl
  | x :: r, l, T, hu, h => by
    obtain ⟨m, hm, hp, hk⟩ := h [x] r rfl (by simp)
    unfold dirs
    rw [← hp, look_mem hu hm]
    simp only
    rw [if_pos hk]
    refine dirs_same r (l ++ [x]) T hu (fun r1 r2 e hne => ?_)
    obtain ⟨m, hm, hp, hk⟩ := h (x :: r1) r2 (by simp [e]) (by simp)
    exact ⟨m, hm, by simpa using hp, hk⟩

/-- A tree behind a Put: the node is there; nothing lies below it, if it is no Dir; the directories ahead are there. -/
def Done (T : List Nd) (c : Ch) : Prop := names c.path = [] ∨
  (nd c ∈ T ∧ (c.nkind ≠ 2 → ∀ m ∈ T, isBelow c.path m.path = false) ∧ ∀ l r, names c.path = l ++ r → l ≠ [] → r ≠ [] → ∃ m ∈ T, m.path = joinP l ∧ m.kind = 2)

theorem putC_form {T T' : List Nd} {c : Ch} (h4 : c.nkind ≠ 4) (hne : names c.path ≠ []) (h : putC T c = some T') :
    ∃ T1, dirs T [] (names c.path).dropLast = some T1 ∧ T' = place T1 (nd c) := by
  unfold putC at h
  rw [if_neg hne] at h
  cases hd : dirs T [] (names c.path).dropLast with
  | none => rw [hd] at h; cases h
  | some T1 =>
    rw [hd] at h
    simp only [nodeOf_nd h4, Option.some.injEq] at h
    exact ⟨T1, rfl, h.symm⟩

theorem mem_place {T : List Nd} {n m : Nd} : m ∈ place T n ↔ m = n ∨ (m ∈ T ∧ m.path ≠ n.path ∧ ((n.kind = 2 ∧ kindAt T n.path = 2) ∨ isBelow n.path m.path = false)) := by
  unfold place
  rw [mem_setN]
  split
  · rename_i h
    constructor
    · rintro (h1 | ⟨h1, h2⟩)
      · exact .inl h1
      · exact .inr ⟨h1, h2, .inl h⟩
    · rintro (h1 | ⟨h1, h2, _⟩)
      · exact .inl h1
      · exact .inr ⟨h1, h2⟩
  · rename_i h
    rw [mem_delBelow]
    constructor
    · rintro (h1 | ⟨⟨h1, h3⟩, h2⟩)
      · exact .inl h1
      · exact .inr ⟨h1, h2, .inr h3⟩
    · rintro (h1 | ⟨h1, h2, h3 | h3⟩)
      · exact .inl h1
      · exact absurd h3 h
      · exact .inr ⟨⟨h1, h3⟩, h2⟩

theorem prefix_of_dropLast {l r : List Str} {x : List Str} (h : x = l ++ r) (hr : r ≠ []) : ∃ r2, x.dropLast = l ++ r2 := by
  subst h
  exact ⟨r.dropLast, by rw [List.dropLast_append_of_ne_nil hr]⟩

/-- The path of a prefix does not lie below the path. -/
theorem not_below_prefix {p : Str} {l r : List Str} (h : splitP p = some (l ++ r)) : r ≠ [] → isBelow p (joinP l) = false := by
  intro hr
  cases hb : isBelow p (joinP l) with
  | false => rfl
  | true =>
    rcases (isBelow_iff h (splitP_take h)).1 hb with h0 | ⟨s, _, h0⟩
    · exact absurd (List.append_eq_nil_iff.1 h0).2 hr
    · have := congrArg List.length h0
      simp only [List.length_append] at this
      have : r.length = 0 := by omega
      exact absurd (List.length_eq_zero_iff.1 this) hr

theorem putC_done {T T' : List Nd} {c : Ch} (hsp : splitP c.path = some (names c.path)) (h4 : c.nkind ≠ 4) (h : putC T c = some T') : Done T' c := by
  by_cases hne : names c.path = []
  · exact .inl hne
  · right
    obtain ⟨T1, hd, rfl⟩ := putC_form h4 hne h
    obtain ⟨_, _, hdir⟩ := dirs_mem _ _ _ _ hd
    refine ⟨mem_place.2 (.inl rfl), fun hk m hm => ?_, fun l r e hl hr => ?_⟩
    · rcases mem_place.1 hm with rfl | ⟨_, _, ⟨h1, _⟩ | h1⟩
      · show isBelow c.path c.path = false
        cases hb : isBelow c.path c.path with
        | false => rfl
        | true =>
          rcases (isBelow_iff hsp hsp).1 hb with h0 | ⟨s, hs, h0⟩
          · exact absurd h0 hne
          · have := congrArg List.length h0
            simp at this
            exact absurd this hs
      · exact absurd h1 hk
      · exact h1
    · obtain ⟨r2, e2⟩ := prefix_of_dropLast e hr
      obtain ⟨m, hm, hp, hk⟩ := hdir l r2 e2 hl
      rw [List.nil_append] at hp
      have hspl : splitP c.path = some (l ++ r) := by rw [hsp, e]
      refine ⟨m, mem_place.2 (.inr ⟨hm, ?_, .inr ?_⟩), hp, hk⟩
      · show m.path ≠ c.path
        intro e3
        rw [hp] at e3
        have h5 := splitP_take hspl
        rw [e3, hspl] at h5
        have := congrArg List.length (Option.some.inj h5)
        simp at this
        exact hr this
      · show isBelow c.path m.path = false
        rw [hp]; exact not_below_prefix hspl hr

theorem putC_keeps {T T' : List Nd} {c d : Ch} (hc : splitP c.path = some (names c.path)) (hd : splitP d.path = some (names d.path)) (h4 : c.nkind ≠ 4) (hne : c.path ≠ d.path)
    (hb1 : isBelow c.path d.path = false) (hb2 : isBelow d.path c.path = false) (h : putC T c = some T') (hD : Done T d) : Done T' d := by
  rcases hD with h0 | ⟨h1, h2, h3⟩
  · exact .inl h0
  by_cases hn : names c.path = []
  · unfold putC at h
    rw [if_pos hn] at h
    cases h
    exact .inr ⟨h1, h2, h3⟩
  obtain ⟨T1, hdr, rfl⟩ := putC_form h4 hn h
  obtain ⟨hmem, hnew, _⟩ := dirs_mem _ _ _ _ hdr
  refine .inr ⟨mem_place.2 (.inr ⟨hmem _ h1, fun e => hne e.symm, .inr hb1⟩), fun hk m hm => ?_, fun l r e hl hr => ?_⟩
  · rcases mem_place.1 hm with rfl | ⟨hm, _, _⟩
    · exact hb2
    · rcases hnew m hm with hm | ⟨r1, r2, e, hr1, hp⟩
      · exact h2 hk m hm
      · -- a directory ahead of c: were it below d, c would be
        rw [List.nil_append] at hp
        obtain ⟨x, hx⟩ : ∃ x, names c.path = (names c.path).dropLast ++ [x] := ⟨_, (List.dropLast_concat_getLast hn).symm⟩
        have hspl : splitP c.path = some (r1 ++ (r2 ++ [x])) := by rw [hc, hx, e]; simp
        have ht := splitP_take hspl
        cases hb : isBelow d.path m.path with
        | false => rfl
        | true =>
          rw [hp] at hb
          have : isBelow d.path c.path = true := by
            rw [isBelow_iff hd hspl]
            rcases (isBelow_iff hd ht).1 hb with h0 | ⟨s, hs, h0⟩
            · exact .inl h0
            · exact .inr ⟨s ++ (r2 ++ [x]), by simp, by rw [h0]; simp⟩
          rw [hb2] at this
          cases this
  · obtain ⟨m, hm, hp, hk⟩ := h3 l r e hl hr
    have hspl : splitP d.path = some (l ++ r) := by rw [hd, e]
    have ht := splitP_take hspl
    refine ⟨m, mem_place.2 (.inr ⟨hmem m hm, ?_, .inr ?_⟩), hp, hk⟩
    · show m.path ≠ c.path
      intro e3
      have e4 : names c.path = l := by rw [← e3, hp]; exact names_of ht
      have : isBelow c.path d.path = true := by
        rw [isBelow_iff hc hspl]
        exact .inr ⟨r, hr, by rw [e4]⟩
      rw [hb1] at this
      cases this
    · show isBelow c.path m.path = false
      cases hb : isBelow c.path m.path with
      | false => rfl
      | true =>
        rw [hp] at hb
        have : isBelow c.path d.path = true := by
          rw [isBelow_iff hc hspl]
          rcases (isBelow_iff hc ht).1 hb with h0 | ⟨s, hs, h0⟩
          · exact .inl h0
          · exact .inr ⟨s ++ r, by simp [hs], by rw [h0]; simp⟩
        rw [hb1] at this
        cases this

theorem putC_idem {T : List Nd} {c : Ch} (hu : Uniq T) (h4 : c.nkind ≠ 4) (h : Done T c) : putC T c = some T := by
  rcases h with h | ⟨h1, h2, h3⟩
  · unfold putC; rw [if_pos h]
  · by_cases hne : names c.path = []
    · unfold putC; rw [if_pos hne]
    have hd : dirs T [] (names c.path).dropLast = some T := by
      refine dirs_same _ _ _ hu (fun r1 r2 e hr => ?_)
      obtain ⟨x, hx⟩ : ∃ x, names c.path = (names c.path).dropLast ++ [x] := ⟨_, (List.dropLast_concat_getLast hne).symm⟩
      rw [List.nil_append]
      exact h3 r1 (r2 ++ [x]) (by rw [hx, e]; simp) hr (by simp)
    unfold putC
    rw [if_neg hne, hd]
    simp only [nodeOf_nd h4]
    congr 1
    unfold place
    by_cases hk : c.nkind = 2
    · have hkk : kindAt T (nd c).path = 2 := by rw [kindAt_mem hu h1]; exact hk
      rw [if_pos ⟨hk, hkk⟩, setN_same hu h1]
    · rw [if_neg (fun e => hk e.1)]
      have : delBelow T (nd c).path = T := by
        unfold delBelow
        rw [List.filter_eq_self]
        intro m hm
        have := h2 hk m hm
        show (!isBelow c.path m.path) = true
        rw [this]; rfl
      rw [this, setN_same hu h1]

theorem puts_done : ∀ (cs : List Ch) (T T' : List Nd), (∀ c ∈ cs, c.kind = 1 ∧ c.nkind ≠ 4 ∧ splitP c.path = some (names c.path)) → cs.Pairwise (fun c d => c.path ≠ d.path ∧ isBelow c.path d.path = false ∧ isBelow d.path c.path = false) →
    puts T cs = .ok T' → ∀ (S : Ch → Prop), (∀ d, S d → splitP d.path = some (names d.path) ∧ Done T d ∧ ∀ c ∈ cs, c.path ≠ d.path ∧ isBelow c.path d.path = false ∧ isBelow d.path c.path = false) →
    ∀ d, S d ∨ d ∈ cs → Done T' d
  | [], T, T', _, _, h, S, hS, d, hd => by
    simp only [puts, Except.ok.injEq] at h
    subst h
    rcases hd with hd | hd
    · exact (hS d hd).2.1
    · cases hd
  | c :: r, T, T', hc, hp, h, S, hS, d, hd => by
    obtain ⟨k1, k4, ksp⟩ := hc c (by simp)
    obtain ⟨hp1, hp2⟩ := List.pairwise_cons.1 hp
    unfold puts at h
    rw [if_pos k1] at h
    split at h
    · cases h
    rename_i T1 hput
    split at h
    case isFalse => cases h
    refine puts_done r T1 T' (fun e he => hc e (by simp [he])) hp2 h (fun e => S e ∨ e = c) ?_ d ?_
    · rintro e (he | rfl)
      · obtain ⟨a, b, f⟩ := hS e he
        obtain ⟨f1, f2, f3⟩ := f c (by simp)
        exact ⟨a, putC_keeps ksp a k4 f1 f2 f3 hput b, fun g hg => f g (by simp [hg])⟩
      · exact ⟨ksp, putC_done ksp k4 hput, fun g hg => ⟨fun e => (hp1 g hg).1 e.symm, (hp1 g hg).2.2, (hp1 g hg).2.1⟩⟩
    · rcases hd with hd | hd
      · exact .inl (.inl hd)
      · rcases List.mem_cons.1 hd with rfl | hd
        · exact .inl (.inr rfl)
        · exact .inr hd

theorem puts_idem : ∀ (cs : List Ch) (T : List Nd), Uniq T → T.length ≤ 256 → (∀ c ∈ cs, c.kind = 1 ∧ c.nkind ≠ 4 ∧ splitP c.path = some (names c.path) ∧ Done T c) → puts T cs = .ok T
  | [], _, _, _, _ => rfl
  | c :: r, T, hu, hl, h => by
    obtain ⟨k1, k4, _, hd⟩ := h c (by simp)
    unfold puts
    rw [if_pos k1, putC_idem hu k4 hd]
    simp only
    rw [if_pos hl]
    exact puts_idem r T hu hl (fun d hd => h d (by simp [hd]))

theorem gone_puts : ∀ (cs : List Ch) (T : List Nd), (∀ c ∈ cs, c.kind = 1) → gone T cs = T
  | [], _, _ => rfl
  | c :: r, T, h => by
    unfold gone
    rw [if_pos (h c (by simp))]
    exact gone_puts r T (fun d hd => h d (by simp [hd]))

theorem Done.of_mem {T T' : List Nd} (h : ∀ n, n ∈ T ↔ n ∈ T') {c : Ch} (hd : Done T c) : Done T' c := by
  rcases hd with hd | ⟨h1, h2, h3⟩
  · exact .inl hd
  · refine .inr ⟨(h _).1 h1, fun hk m hm => h2 hk m ((h m).2 hm), fun l r e hl hr => ?_⟩
    obtain ⟨m, hm, hp⟩ := h3 l r e hl hr
    exact ⟨m, (h m).1 hm, hp⟩

/-- A LAYER OF PUTS FOLDED TWICE IS AS ONCE, but for links that are hard. -/
theorem idle_law {t x y : List Nd} {cs : List Ch} (hk : ∀ c ∈ cs, c.kind = 1 ∧ c.nkind ≠ 4) (hp : cs.Pairwise (fun c d => c.path ≠ d.path))
    (hb : ∀ c ∈ cs, ∀ d ∈ cs, belowR c.path d.path = false) (hx : applyT t cs = .ok x) (hy : applyT x cs = .ok y) : x = y := by
  obtain ⟨htt, htx⟩ := applyT_tree hx
  unfold applyT at hx hy
  rw [htt.treeOf] at hx
  rw [htx.treeOf] at hy
  simp only at hx hy
  split at hx
  case isFalse => cases hx
  rename_i hm
  rw [if_pos hm] at hy
  have hm : ∀ c ∈ cs, mayC c = true := by simpa using hm
  have hsp : ∀ c ∈ cs, splitP c.path = some (names c.path) := fun c hc => by
    obtain ⟨l, hl, _⟩ := mayC_split (hm c hc)
    rw [names_of hl]; exact hl
  rw [gone_puts cs t (fun c hc => (hk c hc).1)] at hx
  rw [gone_puts cs x (fun c hc => (hk c hc).1)] at hy
  cases hput : puts t cs with
  | error e => rw [hput] at hx; cases hx
  | ok T' =>
    rw [hput] at hx
    simp only [Except.ok.injEq] at hx
    subst hx
    -- unlike paths, none below another one
    have hpw : cs.Pairwise (fun c d => c.path ≠ d.path ∧ isBelow c.path d.path = false ∧ isBelow d.path c.path = false) := by
      refine hp.imp_of_mem ?_
      intro c d hc hd hne
      have key : ∀ a b : Ch, a ∈ cs → b ∈ cs → a.path ≠ b.path → isBelow a.path b.path = false := by
        intro a b ha hb' hne
        by_cases h47 : a.path = [47]
        · have := hb b hb' a ha
          unfold belowR at this
          rw [if_pos h47] at this
          simp at this
          exact absurd (this.trans h47.symm).symm hne
        · rw [← belowR_eq h47]; exact hb b hb' a ha
      exact ⟨hne, key c d hc hd hne, key d c hd hc (fun e => hne e.symm)⟩
    have hdone := puts_done cs t T' (fun c hc => ⟨(hk c hc).1, (hk c hc).2, hsp c hc⟩) hpw hput (fun _ => False) (fun _ h => h.elim)
    obtain ⟨g, hl⟩ := puts_good cs t T' htt.good htt.len hm hput
    have hdone2 : ∀ c ∈ cs, Done (srt T') c := fun c hc => (hdone c (.inr hc)).of_mem (fun n => (srt_perm T').mem_iff.symm)
    rw [puts_idem cs (srt T') htx.uniq htx.len (fun c hc => ⟨(hk c hc).1, (hk c hc).2, hsp c hc, hdone2 c hc⟩)] at hy
    simp only [Except.ok.injEq] at hy
    subst hy
    exact htx.srt.symm

/-- A LAYER OF NOTHING CHANGES NOTHING. -/
theorem nothing_law {t : List Nd} (h : Tree t) : applyT t [] = .ok t := by
  unfold applyT
  rw [h.treeOf]
  simp [gone, puts, h.srt]

end Go.Proofs.YtjolgckkoidhgaaDoor.Pa
