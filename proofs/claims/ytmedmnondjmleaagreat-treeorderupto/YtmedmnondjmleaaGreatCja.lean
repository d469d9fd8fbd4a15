/- Part Cja of the proof of treeOrderProved: the walk of the program on abstract values, and the plain law. -/
import Derived.Test.YtmedmnondjmleaaGreatRows
import Derived.WalkKit
import Derived.ProofKit
import Derived.JoinedCond
set_option linter.unusedVariables false
set_option linter.unusedSimpArgs false
namespace Go.Proofs.YtmedmnondjmleaaGreat.treeOrder
theorem closed:joinedFacts Tryz.checked.prog 5 Tryz.f5 (Rows.OpenSpec.upto Rows.treeOrderSpec).bare Rows.treeOrderUptoRow = true:=by kernel_rfl
end Go.Proofs.YtmedmnondjmleaaGreat.treeOrder
