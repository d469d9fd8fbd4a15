/-
  NARROWER THAN 'FOR EVERY INPUT', by the rows' own cells (each row's printed sentence says how): TreeCaught: loops · TreeMore: loops · TreeOrder: loops · TreeClauses: loops · TreeFits: loops · TreeBuilds: loops · TreeLooks: loops · TreeChecks: loops.
  DERIVED. THE GIVEN ROWS OF THIS SEAT. 8 by the template 'for every input the law returns true; each argument reads behind the call as it read before'; 0 by the template 'total and deterministic' (their statements: YtmedmnondjmleaaGreatTotals.lean).
  GIVEN WITH THE SEED: the statements are not yours to turn. If you find one false, say at which input.
  Laid BY PROGRAM, IN A SANDBOX (cutbox-rows.mjs): the forced cells as the released guide's own fill.sh prints them over the translation fc096b3b184f92ee… (all of the seat's roots in one cut). By AI agents, Wed Nov 11 2026. No macro, syntax, notation, axiom, sorry.
-/
import Derived.Test.YtmedmnondjmleaaGreatChecked
import GoSem.Claim
import GoSem.ClaimJoined
import GoSem.ClaimMapViews
import Derived.JoinedTies
import Derived.KernelRfl
namespace Go.Proofs.YtmedmnondjmleaaGreat
/- THE CELL 'sum', in the pinned program and in every row, IS THE sha256 OF THE DUMP (.gsa) THAT YtmedmnondjmleaaGreatProg.lean LOADS. Nothing in Lean hashes anything: it is a label: what it is worth is what the hold of that sum in a sandbox is worth. -/
noncomputable def Tryz.pinned : Pinned := { name := "ytmedmnondjmleaagreat", sum := "fc096b3b184f92eea992a23d78d6e37fdb9338edafbec732ae1c2d2da40f8550", checked := Tryz.checked }
namespace Rows
def none {H : Type} : Left H := { results := [], args := [] }

/-- 'peculiumlaw23.TreeCaught': WHATEVER THE INPUT: true; the input reads as it did. -/
def treeCaughtSpec : ChangeSpec := { name := "treeCaught", fn := fun _ => fun
  | [d1, d2, d3] => { results := [.lit (.bool true)], args := [d1, d2, d3] }
  | _ => none }
def treeCaughtRow : OpenClaim := { program := "ytmedmnondjmleaagreat", sum := "fc096b3b184f92eea992a23d78d6e37fdb9338edafbec732ae1c2d2da40f8550", func := "peculium/peculiumlaw23.TreeCaught", spec := "treeCaught", inPlace := ["internal/bytealg.IndexByteString"], unfollowed := true, recurses := true, loops := true, plainKeys := false, apart := false }
def TreeCaughtSaid : Prop := treeCaughtRow.holds Tryz.pinned (OpenSpec.ofChange treeCaughtSpec)

/-- ITS FALSE NEIGHBOUR: 'it returns false'. Refute it at one input. -/
def treeCaughtWrong : ChangeSpec := { name := "treeCaught", fn := fun _ => fun
  | [d1, d2, d3] => { results := [.lit (.bool false)], args := [d1, d2, d3] }
  | _ => none }
def TreeCaughtWrongFalsely : Prop := treeCaughtRow.holds Tryz.pinned (OpenSpec.ofChange treeCaughtWrong)

/-- 'peculiumlaw23.TreeMore': WHATEVER THE INPUT: true; the input reads as it did. -/
def treeMoreSpec : ChangeSpec := { name := "treeMore", fn := fun _ => fun
  | [d1, d2, d3] => { results := [.lit (.bool true)], args := [d1, d2, d3] }
  | _ => none }
def treeMoreRow : OpenClaim := { program := "ytmedmnondjmleaagreat", sum := "fc096b3b184f92eea992a23d78d6e37fdb9338edafbec732ae1c2d2da40f8550", func := "peculium/peculiumlaw23.TreeMore", spec := "treeMore", inPlace := ["internal/bytealg.IndexByteString"], unfollowed := true, recurses := true, loops := true, plainKeys := false, apart := false }
def TreeMoreSaid : Prop := treeMoreRow.holds Tryz.pinned (OpenSpec.ofChange treeMoreSpec)

/-- ITS FALSE NEIGHBOUR: 'it returns false'. Refute it at one input. -/
def treeMoreWrong : ChangeSpec := { name := "treeMore", fn := fun _ => fun
  | [d1, d2, d3] => { results := [.lit (.bool false)], args := [d1, d2, d3] }
  | _ => none }
def TreeMoreWrongFalsely : Prop := treeMoreRow.holds Tryz.pinned (OpenSpec.ofChange treeMoreWrong)

/-- 'peculiumlaw23.TreeOrder': WHATEVER THE INPUT: true; the input reads as it did. -/
def treeOrderSpec : ChangeSpec := { name := "treeOrder", fn := fun _ => fun
  | [d1, d2, d3] => { results := [.lit (.bool true)], args := [d1, d2, d3] }
  | _ => none }
def treeOrderRow : OpenClaim := { program := "ytmedmnondjmleaagreat", sum := "fc096b3b184f92eea992a23d78d6e37fdb9338edafbec732ae1c2d2da40f8550", func := "peculium/peculiumlaw23.TreeOrder", spec := "treeOrder", inPlace := ["internal/bytealg.IndexByteString"], unfollowed := true, recurses := true, loops := true, plainKeys := false, apart := false }
def TreeOrderSaid : Prop := treeOrderRow.holds Tryz.pinned (OpenSpec.ofChange treeOrderSpec)

/-- ITS FALSE NEIGHBOUR: 'it returns false'. Refute it at one input. -/
def treeOrderWrong : ChangeSpec := { name := "treeOrder", fn := fun _ => fun
  | [d1, d2, d3] => { results := [.lit (.bool false)], args := [d1, d2, d3] }
  | _ => none }
def TreeOrderWrongFalsely : Prop := treeOrderRow.holds Tryz.pinned (OpenSpec.ofChange treeOrderWrong)

/-- 'peculiumlaw23.TreeClauses': WHATEVER THE INPUT: true; the input reads as it did. -/
def treeClausesSpec : ChangeSpec := { name := "treeClauses", fn := fun _ => fun
  | [d1, d2, d3] => { results := [.lit (.bool true)], args := [d1, d2, d3] }
  | _ => none }
def treeClausesRow : OpenClaim := { program := "ytmedmnondjmleaagreat", sum := "fc096b3b184f92eea992a23d78d6e37fdb9338edafbec732ae1c2d2da40f8550", func := "peculium/peculiumlaw23.TreeClauses", spec := "treeClauses", inPlace := ["internal/bytealg.IndexByteString"], unfollowed := true, recurses := true, loops := true, plainKeys := false, apart := false }
def TreeClausesSaid : Prop := treeClausesRow.holds Tryz.pinned (OpenSpec.ofChange treeClausesSpec)

/-- ITS FALSE NEIGHBOUR: 'it returns false'. Refute it at one input. -/
def treeClausesWrong : ChangeSpec := { name := "treeClauses", fn := fun _ => fun
  | [d1, d2, d3] => { results := [.lit (.bool false)], args := [d1, d2, d3] }
  | _ => none }
def TreeClausesWrongFalsely : Prop := treeClausesRow.holds Tryz.pinned (OpenSpec.ofChange treeClausesWrong)

/-- 'peculiumlaw23.TreeFits': WHATEVER THE INPUT: true; the input reads as it did. -/
def treeFitsSpec : ChangeSpec := { name := "treeFits", fn := fun _ => fun
  | [d1, d2, d3] => { results := [.lit (.bool true)], args := [d1, d2, d3] }
  | _ => none }
def treeFitsRow : OpenClaim := { program := "ytmedmnondjmleaagreat", sum := "fc096b3b184f92eea992a23d78d6e37fdb9338edafbec732ae1c2d2da40f8550", func := "peculium/peculiumlaw23.TreeFits", spec := "treeFits", inPlace := ["internal/bytealg.IndexByteString"], unfollowed := true, recurses := true, loops := true, plainKeys := false, apart := false }
def TreeFitsSaid : Prop := treeFitsRow.holds Tryz.pinned (OpenSpec.ofChange treeFitsSpec)

/-- ITS FALSE NEIGHBOUR: 'it returns false'. Refute it at one input. -/
def treeFitsWrong : ChangeSpec := { name := "treeFits", fn := fun _ => fun
  | [d1, d2, d3] => { results := [.lit (.bool false)], args := [d1, d2, d3] }
  | _ => none }
def TreeFitsWrongFalsely : Prop := treeFitsRow.holds Tryz.pinned (OpenSpec.ofChange treeFitsWrong)

/-- 'peculiumlaw23.TreeBuilds': WHATEVER THE INPUT: true; the input reads as it did. -/
def treeBuildsSpec : ChangeSpec := { name := "treeBuilds", fn := fun _ => fun
  | [d1, d2] => { results := [.lit (.bool true)], args := [d1, d2] }
  | _ => none }
def treeBuildsRow : OpenClaim := { program := "ytmedmnondjmleaagreat", sum := "fc096b3b184f92eea992a23d78d6e37fdb9338edafbec732ae1c2d2da40f8550", func := "peculium/peculiumlaw23.TreeBuilds", spec := "treeBuilds", inPlace := ["internal/bytealg.IndexByteString"], unfollowed := true, recurses := true, loops := true, plainKeys := false, apart := false }
def TreeBuildsSaid : Prop := treeBuildsRow.holds Tryz.pinned (OpenSpec.ofChange treeBuildsSpec)

/-- ITS FALSE NEIGHBOUR: 'it returns false'. Refute it at one input. -/
def treeBuildsWrong : ChangeSpec := { name := "treeBuilds", fn := fun _ => fun
  | [d1, d2] => { results := [.lit (.bool false)], args := [d1, d2] }
  | _ => none }
def TreeBuildsWrongFalsely : Prop := treeBuildsRow.holds Tryz.pinned (OpenSpec.ofChange treeBuildsWrong)

/-- 'peculiumlaw23.TreeLooks': WHATEVER THE INPUT: true; the input reads as it did. -/
def treeLooksSpec : ChangeSpec := { name := "treeLooks", fn := fun _ => fun
  | [d1, d2, d3] => { results := [.lit (.bool true)], args := [d1, d2, d3] }
  | _ => none }
def treeLooksRow : OpenClaim := { program := "ytmedmnondjmleaagreat", sum := "fc096b3b184f92eea992a23d78d6e37fdb9338edafbec732ae1c2d2da40f8550", func := "peculium/peculiumlaw23.TreeLooks", spec := "treeLooks", inPlace := ["internal/bytealg.IndexByteString"], unfollowed := true, recurses := true, loops := true, plainKeys := false, apart := false }
def TreeLooksSaid : Prop := treeLooksRow.holds Tryz.pinned (OpenSpec.ofChange treeLooksSpec)

/-- ITS FALSE NEIGHBOUR: 'it returns false'. Refute it at one input. -/
def treeLooksWrong : ChangeSpec := { name := "treeLooks", fn := fun _ => fun
  | [d1, d2, d3] => { results := [.lit (.bool false)], args := [d1, d2, d3] }
  | _ => none }
def TreeLooksWrongFalsely : Prop := treeLooksRow.holds Tryz.pinned (OpenSpec.ofChange treeLooksWrong)

/-- 'peculiumlaw23.TreeChecks': WHATEVER THE INPUT: true; the input reads as it did. -/
def treeChecksSpec : ChangeSpec := { name := "treeChecks", fn := fun _ => fun
  | [d1, d2, d3] => { results := [.lit (.bool true)], args := [d1, d2, d3] }
  | _ => none }
def treeChecksRow : OpenClaim := { program := "ytmedmnondjmleaagreat", sum := "fc096b3b184f92eea992a23d78d6e37fdb9338edafbec732ae1c2d2da40f8550", func := "peculium/peculiumlaw23.TreeChecks", spec := "treeChecks", inPlace := ["internal/bytealg.IndexByteString"], unfollowed := true, recurses := true, loops := true, plainKeys := false, apart := false }
def TreeChecksSaid : Prop := treeChecksRow.holds Tryz.pinned (OpenSpec.ofChange treeChecksSpec)

/-- ITS FALSE NEIGHBOUR: 'it returns false'. Refute it at one input. -/
def treeChecksWrong : ChangeSpec := { name := "treeChecks", fn := fun _ => fun
  | [d1, d2, d3] => { results := [.lit (.bool false)], args := [d1, d2, d3] }
  | _ => none }
def TreeChecksWrongFalsely : Prop := treeChecksRow.holds Tryz.pinned (OpenSpec.ofChange treeChecksWrong)

/- THE SECOND FORM. 'bulk': how many values and letters a reading holds, each counted each time it is reached (what is shared counts as often as it is met; a slice's spare places count too). A statement '..UptoSaid' is the law's where the arguments, and the package variables that the reading takes, are together of bulk at most 1048576: NARROWER than '..Said'. Prove '..Said' where nothing that the law and all that it calls make is longer than what came in: it says more and counts as full. Else prove '..UptoSaid'. A law counts once. -/
mutual
def uptoBulk {H : Type} : DataW H → Nat
  | .lit (.string bytes) => bytes.length + 1
  | .lit _ => 1
  | .nil => 1
  | .ptr d => uptoBulk d + 1
  | .slice elems spare => uptoBulkAll elems + uptoBulkAll spare + 1
  | .agg parts => uptoBulkAll parts + 1
  | .iface _ d => uptoBulk d + 1
  | .map entries => uptoBulkEntries entries + 1
  | .held _ => 1
def uptoBulkAll {H : Type} : List (DataW H) → Nat
  | [] => 0
  | d :: r => uptoBulk d + uptoBulkAll r
def uptoBulkEntries {H : Type} : List (Lit × DataW H) → Nat
  | [] => 0
  | x :: r => uptoBulkEntry x + uptoBulkEntries r
def uptoBulkEntry {H : Type} : Lit × DataW H → Nat
  | (.string bytes, d) => bytes.length + uptoBulk d + 1
  | (_, d) => uptoBulk d + 1
 end
def uptoSmall : (H : Type) → List (DataW H) → Bool := fun _ ds => decide (uptoBulkAll ds ≤ 1048576)
def OpenSpec.upto (s : _root_.Go.ChangeSpec) : _root_.Go.OpenSpec := { _root_.Go.OpenSpec.ofChange s with cond := some uptoSmall }

/-- 'peculiumlaw23.TreeCaught', WHERE WHAT IT READS IS OF BULK AT MOST 1048576: true; the input reads as it did. -/
def treeCaughtUptoRow : OpenClaim := { program := "ytmedmnondjmleaagreat", sum := "fc096b3b184f92eea992a23d78d6e37fdb9338edafbec732ae1c2d2da40f8550", func := "peculium/peculiumlaw23.TreeCaught", spec := "treeCaught", inPlace := ["internal/bytealg.IndexByteString"], unfollowed := true, recurses := true, loops := true, plainKeys := false, apart := false, narrowed := true }
def TreeCaughtUptoSaid : Prop := treeCaughtUptoRow.holds Tryz.pinned (OpenSpec.upto treeCaughtSpec)

/-- 'peculiumlaw23.TreeMore', WHERE WHAT IT READS IS OF BULK AT MOST 1048576: true; the input reads as it did. -/
def treeMoreUptoRow : OpenClaim := { program := "ytmedmnondjmleaagreat", sum := "fc096b3b184f92eea992a23d78d6e37fdb9338edafbec732ae1c2d2da40f8550", func := "peculium/peculiumlaw23.TreeMore", spec := "treeMore", inPlace := ["internal/bytealg.IndexByteString"], unfollowed := true, recurses := true, loops := true, plainKeys := false, apart := false, narrowed := true }
def TreeMoreUptoSaid : Prop := treeMoreUptoRow.holds Tryz.pinned (OpenSpec.upto treeMoreSpec)

/-- 'peculiumlaw23.TreeOrder', WHERE WHAT IT READS IS OF BULK AT MOST 1048576: true; the input reads as it did. -/
def treeOrderUptoRow : OpenClaim := { program := "ytmedmnondjmleaagreat", sum := "fc096b3b184f92eea992a23d78d6e37fdb9338edafbec732ae1c2d2da40f8550", func := "peculium/peculiumlaw23.TreeOrder", spec := "treeOrder", inPlace := ["internal/bytealg.IndexByteString"], unfollowed := true, recurses := true, loops := true, plainKeys := false, apart := false, narrowed := true }
def TreeOrderUptoSaid : Prop := treeOrderUptoRow.holds Tryz.pinned (OpenSpec.upto treeOrderSpec)

/-- 'peculiumlaw23.TreeClauses', WHERE WHAT IT READS IS OF BULK AT MOST 1048576: true; the input reads as it did. -/
def treeClausesUptoRow : OpenClaim := { program := "ytmedmnondjmleaagreat", sum := "fc096b3b184f92eea992a23d78d6e37fdb9338edafbec732ae1c2d2da40f8550", func := "peculium/peculiumlaw23.TreeClauses", spec := "treeClauses", inPlace := ["internal/bytealg.IndexByteString"], unfollowed := true, recurses := true, loops := true, plainKeys := false, apart := false, narrowed := true }
def TreeClausesUptoSaid : Prop := treeClausesUptoRow.holds Tryz.pinned (OpenSpec.upto treeClausesSpec)

/-- 'peculiumlaw23.TreeFits', WHERE WHAT IT READS IS OF BULK AT MOST 1048576: true; the input reads as it did. -/
def treeFitsUptoRow : OpenClaim := { program := "ytmedmnondjmleaagreat", sum := "fc096b3b184f92eea992a23d78d6e37fdb9338edafbec732ae1c2d2da40f8550", func := "peculium/peculiumlaw23.TreeFits", spec := "treeFits", inPlace := ["internal/bytealg.IndexByteString"], unfollowed := true, recurses := true, loops := true, plainKeys := false, apart := false, narrowed := true }
def TreeFitsUptoSaid : Prop := treeFitsUptoRow.holds Tryz.pinned (OpenSpec.upto treeFitsSpec)

/-- 'peculiumlaw23.TreeBuilds', WHERE WHAT IT READS IS OF BULK AT MOST 1048576: true; the input reads as it did. -/
def treeBuildsUptoRow : OpenClaim := { program := "ytmedmnondjmleaagreat", sum := "fc096b3b184f92eea992a23d78d6e37fdb9338edafbec732ae1c2d2da40f8550", func := "peculium/peculiumlaw23.TreeBuilds", spec := "treeBuilds", inPlace := ["internal/bytealg.IndexByteString"], unfollowed := true, recurses := true, loops := true, plainKeys := false, apart := false, narrowed := true }
def TreeBuildsUptoSaid : Prop := treeBuildsUptoRow.holds Tryz.pinned (OpenSpec.upto treeBuildsSpec)

/-- 'peculiumlaw23.TreeLooks', WHERE WHAT IT READS IS OF BULK AT MOST 1048576: true; the input reads as it did. -/
def treeLooksUptoRow : OpenClaim := { program := "ytmedmnondjmleaagreat", sum := "fc096b3b184f92eea992a23d78d6e37fdb9338edafbec732ae1c2d2da40f8550", func := "peculium/peculiumlaw23.TreeLooks", spec := "treeLooks", inPlace := ["internal/bytealg.IndexByteString"], unfollowed := true, recurses := true, loops := true, plainKeys := false, apart := false, narrowed := true }
def TreeLooksUptoSaid : Prop := treeLooksUptoRow.holds Tryz.pinned (OpenSpec.upto treeLooksSpec)

/-- 'peculiumlaw23.TreeChecks', WHERE WHAT IT READS IS OF BULK AT MOST 1048576: true; the input reads as it did. -/
def treeChecksUptoRow : OpenClaim := { program := "ytmedmnondjmleaagreat", sum := "fc096b3b184f92eea992a23d78d6e37fdb9338edafbec732ae1c2d2da40f8550", func := "peculium/peculiumlaw23.TreeChecks", spec := "treeChecks", inPlace := ["internal/bytealg.IndexByteString"], unfollowed := true, recurses := true, loops := true, plainKeys := false, apart := false, narrowed := true }
def TreeChecksUptoSaid : Prop := treeChecksUptoRow.holds Tryz.pinned (OpenSpec.upto treeChecksSpec)

end Rows
end Go.Proofs.YtmedmnondjmleaaGreat
