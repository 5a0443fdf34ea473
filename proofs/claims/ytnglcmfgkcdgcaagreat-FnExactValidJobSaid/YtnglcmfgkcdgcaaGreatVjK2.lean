/- The program's ValidJob returns what the reference's returns: for every argument that can be read as data, the law FnExactValidJob returns true, and the argument reads as it did. No condition. -/
import Derived.Test.YtnglcmfgkcdgcaaGreatVjJ
namespace Go.Proofs.YtnglcmfgkcdgcaaGreat
open Go Go.AM
open Go.ChangeShapes Go.WideShapes Go.ChangeAt Go.RowKit
set_option maxRecDepth 100000
namespace fnExactValidJob
theorem over : Rows.fnExactValidJobRow.holds Tryz.pinned (OpenSpec.ofChange Rows.fnExactValidJobSpec) :=
  OpenClaim.holds_of_wide 3 Tryz.f3 rfl rfl rfl rfl rfl rfl rfl ⟨rfl, rfl, rfl, rfl, rfl⟩ rfl rfl rfl rfl rfl (by kernel_rfl) Tryz.func3 (by kernel_rfl)
    (of_decide_eq_true (by kernel_rfl)) (by unfold Func.isWrapper; first | (rw [if_pos (by decide +kernel)]; kernel_rfl) | (rw [if_neg (by decide +kernel)]; exact ⟨rfl, rfl⟩))
    (fun os started H enc _ => lifted os started H enc)
end fnExactValidJob
theorem fnExactValidJob_holds : Rows.FnExactValidJobSaid := fnExactValidJob.over
#print axioms fnExactValidJob_holds
end Go.Proofs.YtnglcmfgkcdgcaaGreat
