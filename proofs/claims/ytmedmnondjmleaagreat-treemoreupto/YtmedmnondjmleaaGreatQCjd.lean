/- Part QCjd of the proof of treeMoreProved: the walk of the program on abstract values, and the plain law. -/
import Derived.Test.YtmedmnondjmleaaGreatRows
import Derived.WalkKit
import Derived.ProofKit
import Derived.JoinedCond
set_option linter.unusedVariables false
set_option linter.unusedSimpArgs false
namespace Go.Proofs.YtmedmnondjmleaaGreat.treeMore
theorem Ay:joinedFacts Tryz.checked.prog 4 Tryz.f4 (Rows.OpenSpec.upto Rows.treeMoreSpec).bare Rows.treeMoreUptoRow=true:=by kernel_rfl
end Go.Proofs.YtmedmnondjmleaaGreat.treeMore
