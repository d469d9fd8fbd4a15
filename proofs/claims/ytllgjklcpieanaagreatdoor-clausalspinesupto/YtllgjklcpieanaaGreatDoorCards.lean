/-
  DERIVED. GIVEN WITH THE SEED: THE CARDS: each row of YtllgjklcpieanaaGreatDoorRows.lean that lists a variable, with what it lists TIED to the program's text (the seventh form; the later family's looks); each row that meets fmt, with fmt's text TOLD by the authors' own Lean function (tested against real Go, not proved from fmt's source: count such statements apart). THE CARD IS WHAT COUNTS. Prove the row's statement (the work); the ties are given (YtllgjklcpieanaaGreatDoorTie.lean); close each card by the builder's one call (the guide's Derived/Test/ToyasCard.lean, 'card_holds'). Laid BY PROGRAM, IN A SANDBOX (cutbox-door.mjs). By AI agents, Wed Nov 11 2026. No macro, syntax, notation, axiom, sorry.
-/
import Derived.Test.YtllgjklcpieanaaGreatDoorRows
import GoSem.ClaimSeven
namespace Go.Proofs.YtllgjklcpieanaaGreatDoor
namespace Rows

/-- THE TIED CARD OF 'peculiumlaw22.ClausalSpines'. -/
def clausalSpinesCard : Claim7 := { stood := { row := clausalSpinesRow, standIns := [], harness := (true, "f1139bc4272ef0e73487e0eed65bb0d3d2f1201066adaac3067d62cb8c44cecf"), looks := true }, kinds := [], alts := [], laidByText := true, laidKinds := [.data, .data, .data], laidTests := true, laidLooks := .later }
def ClausalSpinesCardSaid : Prop := Claim7.holds Tryz.pinned (.plain (OpenSpec.ofChange clausalSpinesSpec)) clausalSpinesCard

/-- THE TIED CARD OF 'peculiumlaw22.ClausalNames'. -/
def clausalNamesCard : Claim7 := { stood := { row := clausalNamesRow, standIns := [], harness := (true, "f1139bc4272ef0e73487e0eed65bb0d3d2f1201066adaac3067d62cb8c44cecf"), looks := true }, kinds := [], alts := [], laidByText := true, laidKinds := [.data, .data, .data], laidTests := true, laidLooks := .later }
def ClausalNamesCardSaid : Prop := Claim7.holds Tryz.pinned (.plain (OpenSpec.ofChange clausalNamesSpec)) clausalNamesCard

/-- THE TIED CARD OF 'peculiumlaw22.ClausalLooks'. -/
def clausalLooksCard : Claim7 := { stood := { row := clausalLooksRow, standIns := [], harness := (true, "f1139bc4272ef0e73487e0eed65bb0d3d2f1201066adaac3067d62cb8c44cecf"), looks := true }, kinds := [], alts := [], laidByText := true, laidKinds := [.data, .data, .data], laidTests := true, laidLooks := .later }
def ClausalLooksCardSaid : Prop := Claim7.holds Tryz.pinned (.plain (OpenSpec.ofChange clausalLooksSpec)) clausalLooksCard

/-- THE TIED CARD OF 'peculiumlaw22.ClausalHeads'. -/
def clausalHeadsCard : Claim7 := { stood := { row := clausalHeadsRow, standIns := [], harness := (true, "f1139bc4272ef0e73487e0eed65bb0d3d2f1201066adaac3067d62cb8c44cecf"), looks := true }, kinds := [], alts := [], laidByText := true, laidKinds := [.data, .data, .data], laidTests := true, laidLooks := .later }
def ClausalHeadsCardSaid : Prop := Claim7.holds Tryz.pinned (.plain (OpenSpec.ofChange clausalHeadsSpec)) clausalHeadsCard

/-- THE TIED CARD OF 'peculiumlaw22.ClausalFormed'. -/
def clausalFormedCard : Claim7 := { stood := { row := clausalFormedRow, standIns := [], harness := (true, "f1139bc4272ef0e73487e0eed65bb0d3d2f1201066adaac3067d62cb8c44cecf"), looks := true }, kinds := [], alts := [], laidByText := true, laidKinds := [.data, .data, .data], laidTests := true, laidLooks := .later }
def ClausalFormedCardSaid : Prop := Claim7.holds Tryz.pinned (.plain (OpenSpec.ofChange clausalFormedSpec)) clausalFormedCard

/-- THE TIED CARD OF 'peculiumlaw22.ClausalBack'. -/
def clausalBackCard : Claim7 := { stood := { row := clausalBackRow, standIns := [], harness := (true, "f1139bc4272ef0e73487e0eed65bb0d3d2f1201066adaac3067d62cb8c44cecf"), looks := true }, kinds := [], alts := [], laidByText := true, laidKinds := [.data, .data, .data], laidTests := true, laidLooks := .later }
def ClausalBackCardSaid : Prop := Claim7.holds Tryz.pinned (.plain (OpenSpec.ofChange clausalBackSpec)) clausalBackCard

/-- THE SECOND FORM's CARD OF 'peculiumlaw22.ClausalSpines'. -/
def clausalSpinesUptoCard : Claim7 := { stood := { row := clausalSpinesUptoRow, standIns := [], harness := (true, "f1139bc4272ef0e73487e0eed65bb0d3d2f1201066adaac3067d62cb8c44cecf"), looks := true }, kinds := [], alts := [], laidByText := true, laidKinds := [.data, .data, .data], laidTests := true, laidLooks := .later }
def ClausalSpinesUptoCardSaid : Prop := Claim7.holds Tryz.pinned (.plain (OpenSpec.upto clausalSpinesSpec)) clausalSpinesUptoCard

/-- THE SECOND FORM's CARD OF 'peculiumlaw22.ClausalNames'. -/
def clausalNamesUptoCard : Claim7 := { stood := { row := clausalNamesUptoRow, standIns := [], harness := (true, "f1139bc4272ef0e73487e0eed65bb0d3d2f1201066adaac3067d62cb8c44cecf"), looks := true }, kinds := [], alts := [], laidByText := true, laidKinds := [.data, .data, .data], laidTests := true, laidLooks := .later }
def ClausalNamesUptoCardSaid : Prop := Claim7.holds Tryz.pinned (.plain (OpenSpec.upto clausalNamesSpec)) clausalNamesUptoCard

/-- THE SECOND FORM's CARD OF 'peculiumlaw22.ClausalLooks'. -/
def clausalLooksUptoCard : Claim7 := { stood := { row := clausalLooksUptoRow, standIns := [], harness := (true, "f1139bc4272ef0e73487e0eed65bb0d3d2f1201066adaac3067d62cb8c44cecf"), looks := true }, kinds := [], alts := [], laidByText := true, laidKinds := [.data, .data, .data], laidTests := true, laidLooks := .later }
def ClausalLooksUptoCardSaid : Prop := Claim7.holds Tryz.pinned (.plain (OpenSpec.upto clausalLooksSpec)) clausalLooksUptoCard

/-- THE SECOND FORM's CARD OF 'peculiumlaw22.ClausalHeads'. -/
def clausalHeadsUptoCard : Claim7 := { stood := { row := clausalHeadsUptoRow, standIns := [], harness := (true, "f1139bc4272ef0e73487e0eed65bb0d3d2f1201066adaac3067d62cb8c44cecf"), looks := true }, kinds := [], alts := [], laidByText := true, laidKinds := [.data, .data, .data], laidTests := true, laidLooks := .later }
def ClausalHeadsUptoCardSaid : Prop := Claim7.holds Tryz.pinned (.plain (OpenSpec.upto clausalHeadsSpec)) clausalHeadsUptoCard

/-- THE SECOND FORM's CARD OF 'peculiumlaw22.ClausalFormed'. -/
def clausalFormedUptoCard : Claim7 := { stood := { row := clausalFormedUptoRow, standIns := [], harness := (true, "f1139bc4272ef0e73487e0eed65bb0d3d2f1201066adaac3067d62cb8c44cecf"), looks := true }, kinds := [], alts := [], laidByText := true, laidKinds := [.data, .data, .data], laidTests := true, laidLooks := .later }
def ClausalFormedUptoCardSaid : Prop := Claim7.holds Tryz.pinned (.plain (OpenSpec.upto clausalFormedSpec)) clausalFormedUptoCard

/-- THE SECOND FORM's CARD OF 'peculiumlaw22.ClausalBack'. -/
def clausalBackUptoCard : Claim7 := { stood := { row := clausalBackUptoRow, standIns := [], harness := (true, "f1139bc4272ef0e73487e0eed65bb0d3d2f1201066adaac3067d62cb8c44cecf"), looks := true }, kinds := [], alts := [], laidByText := true, laidKinds := [.data, .data, .data], laidTests := true, laidLooks := .later }
def ClausalBackUptoCardSaid : Prop := Claim7.holds Tryz.pinned (.plain (OpenSpec.upto clausalBackSpec)) clausalBackUptoCard
end Rows
end Go.Proofs.YtllgjklcpieanaaGreatDoor
