/-
  The tied card of the law UnionNone: it returns true for every input.
-/
import Derived.Test.YtjolgckkoidhgaaGreatDoorCards
import Derived.Test.YtjolgckkoidhgaaGreatDoorTie
import Derived.Test.YtjolgckkoidhgaaGreatDoorNoneRow
import Derived.SevenTiedAt
namespace Go.Proofs.YtjolgckkoidhgaaGreatDoor
open Go

theorem none_card : Rows.UnionNoneCardSaid :=
  Claim7.holds_tied_plain_at .later [] [.data, .pinned] true (true, "8ff657fce02ca3e9785c853bea94c490d72ff4d590a7e1cf4686e752732f0dc1") true
    none_holds (fun _ h => by cases h) (by kernel_rfl) (fun _ h => by cases h) unionNone_row_tie rfl ⟨rfl, rfl⟩ (by kernel_rfl) rfl
    (fun f fn hf hfn => by
      obtain rfl : f = 3 := Option.some.inj ((show Tryz.prog.funcNamed "dunnage/dunnagelaw14.UnionNone" = some 3 by kernel_rfl).symm.trans hf) |>.symm
      obtain rfl : fn = Tryz.f3 := (Option.some.inj (Tryz.func3.symm.trans hfn)).symm
      exact ⟨by kernel_rfl, fun j t ht => by
        rw [Tryz.params3] at ht
        have h3 : t = 9 := by
          rcases j with _ | j
          · simpa using ht.symm
          · simp at ht
        subst h3
        exact (show Tryz.prog.wantsStandIn 9 = false by kernel_rfl)⟩)
    (by kernel_rfl)
end Go.Proofs.YtjolgckkoidhgaaGreatDoor
