/- The program's ValidDesk returns what the reference's returns: for every argument that can be read as data, the law FnExactValidDesk returns true, and the argument reads as it did. No condition. -/
import Derived.Test.YtnglcmfgkcdgcaaGreatVdJ
namespace Go.Proofs.YtnglcmfgkcdgcaaGreat
open Go Go.AM
open Go.ChangeShapes Go.WideShapes Go.ChangeAt Go.RowKit
set_option linter.unusedVariables false
set_option linter.unusedSimpArgs false
set_option maxRecDepth 100000
namespace fnExactValidDesk
theorem over : Rows.fnExactValidDeskRow.holds Tryz.pinned (OpenSpec.ofChange Rows.fnExactValidDeskSpec) :=
  OpenClaim.holds_of_wide 7 Tryz.f7 rfl rfl rfl rfl rfl rfl rfl ⟨rfl, rfl, rfl, rfl, rfl⟩ rfl rfl rfl rfl rfl (by kernel_rfl) Tryz.func7 (by kernel_rfl)
    (of_decide_eq_true (by kernel_rfl)) (by unfold Func.isWrapper; first | (rw [if_pos (by decide +kernel)]; kernel_rfl) | (rw [if_neg (by decide +kernel)]; exact ⟨rfl, rfl⟩))
    (fun os started H enc _ => lifted os started H enc)
end fnExactValidDesk
theorem fnExactValidDesk_holds : Rows.FnExactValidDeskSaid := fnExactValidDesk.over
#print axioms fnExactValidDesk_holds
end Go.Proofs.YtnglcmfgkcdgcaaGreat
