/- The tied card of ClausalSpines, out of its row. -/
import Derived.Test.YtllgjklcpieanaaGreatDoorCkd
import Derived.Test.YtllgjklcpieanaaGreatDoorCards
import Derived.Test.YtllgjklcpieanaaGreatDoorTie
import Derived.SevenTiedAt
set_option maxRecDepth 100000
namespace Go.Proofs.YtllgjklcpieanaaGreatDoor
open Go
theorem clausalSpinesCardProved : Rows.ClausalSpinesUptoCardSaid :=
  Claim7.holds_tied_plain_at .later [] [.data, .data, .data] true (true, "f1139bc4272ef0e73487e0eed65bb0d3d2f1201066adaac3067d62cb8c44cecf") true clausalSpinesProved (fun _ h => by cases h) (by kernel_rfl) (fun _ h => by cases h) clausalSpinesUpto_row_tie rfl ⟨rfl, rfl⟩ (by kernel_rfl) rfl
    (fun f fn hf hfn => by
      obtain rfl : f = 3 := Option.some.inj ((show Tryz.prog.funcNamed "peculium/peculiumlaw22.ClausalSpines" = some 3 by kernel_rfl).symm.trans hf) |>.symm
      obtain rfl : fn = Tryz.f3 := (Option.some.inj (Tryz.func3.symm.trans hfn)).symm
      exact ⟨by kernel_rfl, fun j t ht => by
        have hall : (Tryz.f3.params.toList.all fun u => !Tryz.prog.wantsStandIn u) = true := by kernel_rfl
        exact (show Tryz.prog.wantsStandIn t = false by simpa using List.all_eq_true.1 hall t (Array.mem_toList_iff.2 (Array.mem_of_getElem? ht)))⟩)
    (by kernel_rfl)
#print axioms clausalSpinesCardProved
end Go.Proofs.YtllgjklcpieanaaGreatDoor
