/-
  The tied card of the law UnionTree.
-/
import Derived.Test.YtjolgckkoidhgaaDoorCards
import Derived.Test.YtjolgckkoidhgaaDoorTie
import Derived.Test.YtjolgckkoidhgaaDoorTreeRow
import Derived.SevenTiedAt
namespace Go.Proofs.YtjolgckkoidhgaaDoor
open Go

theorem tree_card : Rows.UnionTreeCardSaid :=
  Claim7.holds_tied_plain_at .later [] [.data, .pinned] true (true, "adf3365bacb69a92c5cb451be14e7073c7680d2a764cb7fd3ec4c0ee1d0ff582") false
    tree_holds (fun _ h => by cases h) (by kernel_rfl) (fun _ h => by cases h) unionTree_row_tie rfl ⟨rfl, rfl⟩ (by kernel_rfl) rfl
    (fun f fn hf hfn => by
      obtain rfl : f = 5 := Option.some.inj ((show Tryd.prog.funcNamed "dunnage/dunnagelaw14.UnionTree" = some 5 by kernel_rfl).symm.trans hf) |>.symm
      obtain rfl : fn = Tryd.f5 := (Option.some.inj (Tryd.func5.symm.trans hfn)).symm
      exact ⟨by kernel_rfl, fun j t ht => by
        rw [Tryd.params5] at ht
        have h3 : t = 45 := by
          rcases j with _ | j
          · simpa using ht.symm
          · simp at ht
        subst h3
        exact (show Tryd.prog.wantsStandIn 45 = false by kernel_rfl)⟩)
    (by kernel_rfl)
end Go.Proofs.YtjolgckkoidhgaaDoor
