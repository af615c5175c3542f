/-
  The walk over union's nodes: a tree's nodes, in order.
-/
import Derived.Test.YtjolgckkoidhgaaGreatDoorSorted
import Derived.Deep.AppendLies
namespace Go.Proofs.YtjolgckkoidhgaaGreatDoor
open Go.RowKit Go.Shelf Pa
attribute [local go_sem] bs_toList bs_size

/-- The cells of nodes, one behind the other. -/
structure Flat (w : World) (vs : List Value) (l : List Nd) : Prop where
  len : vs.length = l.length * 5
  at_ : ∀ i n, l[i]? = some n → ∃ dv, BytesAt w w.heap.size dv n.data ∧ vs[i * 5]? = some (.string (bs n.path)) ∧ vs[i * 5 + 1]? = some (.int .i64 n.kind) ∧ vs[i * 5 + 2]? = some (.int .i64 n.mode) ∧ vs[i * 5 + 3]? = some (.string (bs n.link)) ∧ vs[i * 5 + 4]? = some dv
theorem Flat.nil (w : World) : Flat w [] [] := ⟨rfl, fun i n h => by simp at h⟩
theorem Flat.snoc {w : World} {vs : List Value} {l : List Nd} (h : Flat w vs l) {n : Nd} {dv : Value} (hb : BytesAt w w.heap.size dv n.data) :
    Flat w (vs ++ [.string (bs n.path), .int .i64 n.kind, .int .i64 n.mode, .string (bs n.link), dv]) (l ++ [n]) := by
  have hl := h.len
  refine ⟨by simp [hl]; omega, fun i m hi => ?_⟩
  by_cases hlt : i < l.length
  · rw [List.getElem?_append_left hlt] at hi
    obtain ⟨d, h0, h1, h2, h3, h4, h5⟩ := h.at_ i m hi
    exact ⟨d, h0, by rw [List.getElem?_append_left (by omega)]; exact h1, by rw [List.getElem?_append_left (by omega)]; exact h2, by rw [List.getElem?_append_left (by omega)]; exact h3, by rw [List.getElem?_append_left (by omega)]; exact h4, by rw [List.getElem?_append_left (by omega)]; exact h5⟩
  · have hie : i = l.length := by
      have := (List.getElem?_eq_some_iff.1 hi).1
      simp at this; omega
    subst hie
    have hm : m = n := by simpa using hi.symm
    subst hm
    have key : ∀ j, (vs ++ [Value.string (bs m.path), .int .i64 m.kind, .int .i64 m.mode, .string (bs m.link), dv])[l.length * 5 + j]? = [Value.string (bs m.path), .int .i64 m.kind, .int .i64 m.mode, .string (bs m.link), dv][j]? := fun j => by
      rw [List.getElem?_append_right (by omega)]
      congr 1
      omega
    exact ⟨dv, hb, key 0, key 1, key 2, key 3, key 4⟩

theorem TreeAt.look_later {w wx : World} {b : Nat} {T : List Nd} (h : TreeAt w b T) (hbx : Below w.heap.size w wx) {p : Str} {n : Nd} (hl : Pa.look T p = some n) :
    ∃ dv, BytesAt w w.heap.size dv n.data ∧ (Instr.lookup 68 (.map (some b)) (.string (bs p)) false).run Tryz.prog wx = .ok (ndV n dv) wx := by
  obtain ⟨L, h, e, hd⟩ := h
  obtain ⟨hn, hp⟩ := Pa.look_some hl
  obtain ⟨dv, hm, hB⟩ := hd n hn
  have hf := mem_of_find h.nodup hm
  rw [hp] at hf
  obtain ⟨h1, _⟩ := RawMap.lookup Tryz.underlying68 Tryz.underlying9 (fun w => by kernel_rfl : ∀ w, (zeroValue 45).run Tryz.prog w = .ok zeroV w) (h.grow hbx) p
  rw [hf] at h1
  exact ⟨dv, hB, h1⟩

structure NRow (w2 wx : World) (v : Value) (l : List Nd) (k : Nat) : Prop where
  row : ∃ vs, wx.ownsRow w2.heap.size 45 5 v k vs ∧ Flat w2 vs (l.take k)
  below : Below w2.heap.size w2 wx

theorem NRow.nodes {w2 wx : World} {v : Value} {l : List Nd} (h : NRow w2 wx v l l.length) (hl : l.length ≤ 256) : NodesAt wx wx.heap.size v l := by
  obtain ⟨⟨vs, hrow, hf⟩, hb⟩ := h
  rw [List.take_length] at hf
  have hrow0 := hrow
  obtain ⟨_, hrow⟩ := hrow
  rcases hrow with ⟨rfl, h0⟩ | ⟨g, cap, cur, rfl, hB, hg, hc, hm, hs, ht⟩
  · have : l = [] := List.length_eq_zero_iff.1 h0
    subst this
    exact ⟨none, 0, rfl, ⟨Nat.le_refl _, by simp⟩, fun h => absurd rfl h⟩
  · refine ⟨_, cap, rfl, ⟨hc, by omega⟩, fun _ => ⟨g, 0, rfl, (Array.getElem?_eq_some_iff.1 hg).1, fun i n hi => ?_⟩⟩
    obtain ⟨dv, h0, h1, h2, h3, h4, h5⟩ := hf.at_ i n hi
    have hcell : ∀ j u, vs[j]? = some u → wx.cell? ⟨g, j, none⟩ = some u := fun j u hu => by
      have hj : j < vs.length := (List.getElem?_eq_some_iff.1 hu).1
      rw [← ht] at hu
      rw [hf.len] at hj
      rw [List.getElem?_take_of_lt (by omega)] at hu
      rw [World.cell?]
      simp only [hg]
      simpa using hu
    exact ⟨dv, (h0.below hb).more hb.size, ⟨by rw [Nat.zero_add]; exact hcell _ _ h1, by rw [Nat.zero_add]; exact hcell _ _ h2, by rw [Nat.zero_add]; exact hcell _ _ h3, by rw [Nat.zero_add]; exact hcell _ _ h4, by rw [Nat.zero_add]; exact hcell _ _ h5⟩⟩

theorem info_node : (Tryz.prog.info? 45).map (fun i => (i.zero, i.size, i.bytes)) = some (some zeroV, 5, 72) := by kernel_rfl

set_option maxRecDepth 100000 in
set_option maxHeartbeats 2000000 in
theorem nodes_any (T : List Nd) (b : Nat) (w : World) (hg : Pa.Good T) (hl : T.length ≤ 256) (hT : TreeAt w b T) (hm : MaxOk w) :
    Calls Tryz.prog 73 #[.map (some b)] w fun e w' => ∃ v, e = .returned v ∧ NodesAt w' w'.heap.size v (srt T) ∧ Below w.heap.size w w' := by
  obtain ⟨i0, hi0, hz0, hz1, hz2⟩ := info_parts info_node
  have hb1 : Below w.heap.size w (w.alloc (.cells #[.map (some b)] 68)) := (Below.refl _ _).alloc (Nat.le_refl _) _
  have hT1 := hT.grow hb1
  have hs := sortedFunc_any T b w.heap.size _ hg hl hT1 (hm.grow hb1) (by simp) (by go_simp)
  have HS := Lib.hid hs
  have HT := Lib.hid hT
  have HG := Lib.hid hg
  clear hs hT hT1 hm hg
  go_enter Tryz.func73, Tryz.ntmps73
  go_wp2_with fail
  refine (keys_any b w).mono ?_
  rintro e w' ⟨rfl, hw⟩
  subst hw
  go_wp2_with fail
  refine HS.out.mono ?_
  rintro e w2 ⟨v, rfl, hv, hb2⟩
  obtain ⟨A, c, hve, hc, hcells⟩ := hv
  have hlen : ((srt T).map (·.path)).length = T.length := by rw [List.length_map, (srt_perm T).length_eq]
  rw [hlen] at hve hc
  subst hve
  have hbw : Below w.heap.size w w2 := hb1.trans (hb2.mono hb1.size)
  have hT2 : TreeAt w2 b T := HT.out.grow hbw
  have HT2 := Lib.hid hT2
  have HCe := Lib.hid hcells
  have HLen := Lib.hid hlen
  clear hT2 hcells hb1 hb2 hlen HS HT
  go_wp2_with fail
  go_loopg [3, 10] T.length (fun g s3 s10 wx => ∃ k : Nat, s10 = .int .i64 k ∧ g = T.length - k ∧ k ≤ T.length ∧ NRow w2 wx s3 (srt T) k)
  case atStart => exact ⟨0, rfl, rfl, Nat.zero_le _, ⟨[], World.ownsRow_nil _ _ _ _, by simpa using Flat.nil w2⟩, Below.refl _ _⟩
  case round =>
    obtain ⟨k, rfl, rfl, hk, hI⟩ := hrel
    obtain ⟨wx, rfl⟩ : ∃ wx, wx = wr := ⟨_, rfl⟩
    have HI := Lib.hid hI
    clear hI
    by_cases hlt : k < T.length
    · have hlt' : decide ((k : Int) < (T.length : Int)) = true := by simp; omega
      have hks : k < (srt T).length := by rw [(srt_perm T).length_eq]; exact hlt
      obtain ⟨n, hn⟩ : ∃ n, (srt T)[k]? = some n := ⟨_, List.getElem?_eq_getElem hks⟩
      obtain ⟨bl, ol, rfl, hbl, hce⟩ := HCe.out (by intro h; have h2 := HLen.out; rw [h] at h2; simp at h2; omega)
      have hk0 : wx.cell? ⟨bl, ol + k, none⟩ = some (.string (bs n.path)) := (HI.out.below.cell (p := ⟨bl, ol + k, none⟩) hbl).trans (hce k _ (by rw [List.getElem?_map, hn]; rfl))
      have hmem : n ∈ T := (srt_perm T).mem_iff.1 (List.mem_of_getElem? hn)
      obtain ⟨dv, hby, hlo⟩ := HT2.out.look_later HI.out.below (look_mem HG.out.uniq hmem)
      obtain ⟨Ad, cd, rfl, hcd, _⟩ := id hby
      unfold ndV at hlo
      obtain ⟨vs, hrow, hflat⟩ := HI.out.row
      have hbx := HI.out.below
      have hown1 := hrow.alloc (.cells #[.string (bs n.path), .int .i64 n.kind, .int .i64 n.mode, .string (bs n.link), .slice Ad n.data.length cd] 45)
      have hnews := World.news_of_block (B := wx.heap.size) (heap_alloc_new wx (.cells #[.string (bs n.path), .int .i64 n.kind, .int .i64 n.mode, .string (bs n.link), .slice Ad n.data.length cd] 45))
      have HN := Lib.hid hn
      have HBy := Lib.hid hby
      have HFl := Lib.hid hflat
      have HOwn := Lib.hid hown1
      have HNews := Lib.hid hnews
      have hkm : k + 1 ≤ maxLen := by unfold maxLen; omega
      have hkb : (k + 1) * 72 ≤ 140737488355328 := by omega
      clear hn hby hflat hrow hown1 hnews hmem
      go_wp2_with (at_builtin; refine wpList_append_own _ rfl _ _ 22 rfl w2.heap.size 45 i0 zeroV 5 72 Tryz.underlying22 hi0 hz0 hz1 hz2 rfl (by decide) _ _ _ rfl HOwn.out ⟨wx.heap.size, 0, none⟩ 1 1 [.string (bs n.path), .int .i64 n.kind, .int .i64 n.mode, .string (bs n.link), .slice Ad n.data.length cd] rfl rfl HNews.out (by intro u hu; simp at hu; rcases hu with rfl | rfl | rfl | rfl | rfl <;> rfl) hkm hkb (by simp; have := hbx.size; omega) ?_; intro v' w3 hown' hgrow hnil)
      have hb3 : Below w2.heap.size w2 w3 := (hbx.alloc hbx.size _).grown hgrow (by simp; have := hbx.size; omega) (fun j hj => (HOwn.out.lt j hj).1)
      have htake : (srt T).take (k + 1) = (srt T).take k ++ [n] := by
        have h1 := List.take_succ_eq_append_getElem hks
        rw [h1, (List.getElem?_eq_some_iff.1 HN.out).2]
      have hI3 : NRow w2 w3 v' (srt T) (k + 1) := ⟨⟨_, hown', by rw [htake]; exact HFl.out.snoc HBy.out⟩, hb3⟩
      have HI3 := Lib.hid hI3
      clear hI3 hown' hgrow hnil hb3 htake
      go_roundg (T.length - (k + 1))
      case measure => omega
      case rel => exact ⟨k + 1, by go_num, rfl, hlt, HI3.out⟩
    · have hlt' : decide ((k : Int) < (T.length : Int)) = false := by simp; omega
      have hkk : k = (srt T).length := by rw [(srt_perm T).length_eq]; omega
      have hres := HI.out
      rw [hkk] at hres
      have hnod := hres.nodes (by rw [(srt_perm T).length_eq]; exact hl)
      have hbf := hbw.trans (HI.out.below.mono hbw.size)
      have HN := Lib.hid hnod
      clear hres hnod hkk
      go_wp2
      go_ret
      exact ⟨_, rfl, HN.out, hbf⟩

end Go.Proofs.YtjolgckkoidhgaaGreatDoor
