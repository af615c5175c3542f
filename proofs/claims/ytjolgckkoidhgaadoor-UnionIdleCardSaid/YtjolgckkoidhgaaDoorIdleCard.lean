/-
  The tied card of the law UnionIdle: it returns true for every input.
-/
import Derived.Test.YtjolgckkoidhgaaDoorCards
import Derived.Test.YtjolgckkoidhgaaDoorTie
import Derived.Test.YtjolgckkoidhgaaDoorIdleRow
import Derived.SevenTiedAt
namespace Go.Proofs.YtjolgckkoidhgaaDoor
open Go

theorem idle_card : Rows.UnionIdleCardSaid :=
  Claim7.holds_tied_plain_at .later [] [.data, .pinned] true (true, "adf3365bacb69a92c5cb451be14e7073c7680d2a764cb7fd3ec4c0ee1d0ff582") false
    idle_holds (fun _ h => by cases h) (by kernel_rfl) (fun _ h => by cases h) unionIdle_row_tie rfl ⟨rfl, rfl⟩ (by kernel_rfl) rfl
    (fun f fn hf hfn => by
      obtain rfl : f = 3 := Option.some.inj ((show Tryd.prog.funcNamed "dunnage/dunnagelaw14.UnionIdle" = some 3 by kernel_rfl).symm.trans hf) |>.symm
      obtain rfl : fn = Tryd.f3 := (Option.some.inj (Tryd.func3.symm.trans hfn)).symm
      exact ⟨by kernel_rfl, fun j t ht => by
        rw [Tryd.params3] at ht
        have h3 : t = 22 := by
          rcases j with _ | _ | j
          · have h := ht.symm; simp at h; simp [h]
          · have h := ht.symm; simp at h; simp [h]
          · simp at ht
        subst h3
        exact (show Tryd.prog.wantsStandIn 22 = false by kernel_rfl)⟩)
    (by kernel_rfl)
end Go.Proofs.YtjolgckkoidhgaaDoor
