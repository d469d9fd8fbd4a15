/- Part QCje of the proof of treeLooksProved: the walk of the program on abstract values, and the plain law. -/
import Derived.Test.YtmedmnondjmleaaGreatRows
import Derived.WalkKit
import Derived.ProofKit
import Derived.JoinedCond
set_option linter.unusedVariables false
set_option linter.unusedSimpArgs false
namespace Go.Proofs.YtmedmnondjmleaaGreat.treeLooks
theorem AF:joinedFacts Tryz.checked.prog 9 Tryz.f9 (Rows.OpenSpec.upto Rows.treeLooksSpec).bare Rows.treeLooksUptoRow=true:=by kernel_rfl
end Go.Proofs.YtmedmnondjmleaaGreat.treeLooks
