/- ParseNames: the closed facts of its row, each by the kernel. -/
import Derived.Test.YtmcinpeplkkpfaaGreatDoorRows
import Derived.JoinedCond
import Derived.ProofKit
namespace Go.Proofs.YtmcinpeplkkpfaaGreatDoor.parseNames
theorem closedF : joinedFacts Tryz.pinned.checked.prog 3 Tryz.f3 (OpenSpec.ofChange Rows.parseNamesSpec).bare Rows.parseNamesRow = true := by kernel_rfl
theorem namedF : Tryz.pinned.checked.prog.funcNamed Rows.parseNamesRow.func = some 3 := by kernel_rfl
theorem instF : Tryz.f3.isInstance Tryz.pinned.checked.prog Rows.parseNamesRow.origin Rows.parseNamesRow.targs := of_decide_eq_true (by kernel_rfl)
theorem wrapF : Tryz.f3.isWrapper Tryz.pinned.checked.prog Rows.parseNamesRow.wrapper Rows.parseNamesRow.mainSum := by
  unfold Func.isWrapper
  first
    | (rw [if_pos (by decide +kernel)]; kernel_rfl)
    | (rw [if_neg (by decide +kernel)]; exact ⟨rfl, rfl⟩)
end Go.Proofs.YtmcinpeplkkpfaaGreatDoor.parseNames
