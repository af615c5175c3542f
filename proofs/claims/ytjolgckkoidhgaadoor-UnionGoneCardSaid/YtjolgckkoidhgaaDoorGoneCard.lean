/-
  The tied card of the law UnionGone: it returns true for every input.
-/
import Derived.Test.YtjolgckkoidhgaaDoorCards
import Derived.Test.YtjolgckkoidhgaaDoorTie
import Derived.Test.YtjolgckkoidhgaaDoorGoneRow
import Derived.SevenTiedAt
namespace Go.Proofs.YtjolgckkoidhgaaDoor
open Go

theorem gone_card : Rows.UnionGoneCardSaid :=
  Claim7.holds_tied_plain_at .later [] [.data, .pinned] true (true, "adf3365bacb69a92c5cb451be14e7073c7680d2a764cb7fd3ec4c0ee1d0ff582") false
    gone_holds (fun _ h => by cases h) (by kernel_rfl) (fun _ h => by cases h) unionGone_row_tie rfl ⟨rfl, rfl⟩ (by kernel_rfl) rfl
    (fun f fn hf hfn => by
      obtain rfl : f = 4 := Option.some.inj ((show Tryd.prog.funcNamed "dunnage/dunnagelaw14.UnionGone" = some 4 by kernel_rfl).symm.trans hf) |>.symm
      obtain rfl : fn = Tryd.f4 := (Option.some.inj (Tryd.func4.symm.trans hfn)).symm
      exact ⟨by kernel_rfl, fun j t ht => by
        rw [Tryd.params4] at ht
        have h3 : t = 22 ∨ t = 9 := by
          rcases j with _ | _ | j
          · have h := ht.symm; simp at h; simp [h]
          · have h := ht.symm; simp at h; simp [h]
          · simp at ht
        rcases h3 with rfl | rfl
        · exact (show Tryd.prog.wantsStandIn 22 = false by kernel_rfl)
        · exact (show Tryd.prog.wantsStandIn 9 = false by kernel_rfl)⟩)
    (by kernel_rfl)
end Go.Proofs.YtjolgckkoidhgaaDoor
