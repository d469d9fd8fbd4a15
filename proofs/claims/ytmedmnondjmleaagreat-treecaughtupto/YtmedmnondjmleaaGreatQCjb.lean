/- Part QCjb of the proof of treeCaughtProved: the walk of the program on abstract values, and the plain law. -/
import Derived.Test.YtmedmnondjmleaaGreatRows
import Derived.WalkKit
import Derived.ProofKit
import Derived.JoinedCond
set_option linter.unusedVariables false
set_option linter.unusedSimpArgs false
namespace Go.Proofs.YtmedmnondjmleaaGreat.treeCaught
theorem closed:joinedFacts Tryz.checked.prog 3 Tryz.f3 (Rows.OpenSpec.upto Rows.treeCaughtSpec).bare Rows.treeCaughtUptoRow=true:=by kernel_rfl
end Go.Proofs.YtmedmnondjmleaaGreat.treeCaught
