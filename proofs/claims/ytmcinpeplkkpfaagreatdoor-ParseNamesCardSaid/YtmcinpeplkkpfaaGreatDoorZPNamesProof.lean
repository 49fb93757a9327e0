/- ParseNames: for every string it returns true, and the string reads afterwards as it read before. The listed variables are tied to the program's text by the given tie; the walk asks nothing of them. -/
import Derived.Test.YtmcinpeplkkpfaaGreatDoorCards
import Derived.Test.YtmcinpeplkkpfaaGreatDoorTie
import Derived.Test.YtmcinpeplkkpfaaGreatDoorZPNamesLift
import Derived.Test.YtmcinpeplkkpfaaGreatDoorZPNamesFacts
namespace Go.Proofs.YtmcinpeplkkpfaaGreatDoor.parseNames
open Go.ChangeShapes Go.WideShapes Go.ChangeAt Go.RowKit
set_option linter.unusedVariables false

theorem said : Rows.ParseNamesSaid :=
  OpenClaim.holds_of_cond 3 Tryz.f3 rfl rfl rfl rfl rfl rfl rfl ⟨rfl, rfl, rfl, rfl, rfl⟩ rfl rfl rfl rfl rfl namedF Tryz.func3 closedF instF wrapF
    (fun os started H enc _ F => by rw [OpenClaim.pre_eq_preRow]; exact lifted os started H enc F)

set_option maxRecDepth 100000 in
theorem plain (f : FuncId) (fn : Func) (hf : Tryz.pinned.checked.prog.funcNamed "whetstone/whetstonelaw16.ParseNames" = some f) (hfn : Tryz.pinned.checked.prog.funcs[f]? = some fn) :
    true = Tryz.pinned.checked.prog.looks [] ∧ ∀ (j : Nat) t, fn.params[j]? = some t → Tryz.pinned.checked.prog.wantsStandIn t = false := by
  obtain rfl : f = 3 := Option.some.inj ((show Tryz.prog.funcNamed "whetstone/whetstonelaw16.ParseNames" = some 3 by kernel_rfl).symm.trans hf) |>.symm
  obtain rfl : fn = Tryz.f3 := (Option.some.inj (Tryz.func3.symm.trans hfn)).symm
  refine ⟨by kernel_rfl, fun j t ht => ?_⟩
  rw [Tryz.params3] at ht
  match j, ht with
  | 0, ht =>
    obtain rfl : 9 = t := by simpa using ht
    exact (by kernel_rfl : Tryz.pinned.checked.prog.wantsStandIn 9 = false)
  | j + 1, ht => simp at ht

theorem proved : Rows.ParseNamesCardSaid :=
  Claim7.holds_tied_plain_at .later [] _ _ _ _ said (fun _ h => by cases h) (by kernel_rfl) (fun _ h => by cases h) parseNames_row_tie rfl ⟨rfl, rfl⟩ (by kernel_rfl) rfl plain (by kernel_rfl)
#print axioms proved
end Go.Proofs.YtmcinpeplkkpfaaGreatDoor.parseNames
