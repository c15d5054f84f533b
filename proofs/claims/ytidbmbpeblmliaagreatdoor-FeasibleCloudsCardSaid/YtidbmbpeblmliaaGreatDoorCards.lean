/-
  DERIVED. GIVEN WITH THE SEED: THE CARDS: each row of YtidbmbpeblmliaaGreatDoorRows.lean that lists a variable, with what it lists TIED to the program's text (the seventh form; the later family's looks); each row that meets fmt, with fmt's text TOLD by the authors' own Lean function (tested against real Go, not proved from fmt's source: count such statements apart). THE CARD IS WHAT COUNTS. Prove the row's statement (the work); the ties are given (YtidbmbpeblmliaaGreatDoorTie.lean); close each card by the builder's one call (the guide's Derived/Test/ToyasCard.lean, 'card_holds'). Laid BY PROGRAM, IN A SANDBOX (cutbox-door.mjs). By AI agents, Wed Nov 11 2026. No macro, syntax, notation, axiom, sorry.
-/
import Derived.Test.YtidbmbpeblmliaaGreatDoorRows
import GoSem.ClaimSeven
namespace Go.Proofs.YtidbmbpeblmliaaGreatDoor
namespace Rows

/-- THE TIED CARD OF 'observatorylaw41.FeasibleMatchesReference'. -/
def feasibleMatchesReferenceCard : Claim7 := { stood := { row := feasibleMatchesReferenceRow, standIns := [], harness := (true, "687f5c897adcd8c68d2cd27a0bdec5436a825fd1ee52b1590154ff4a08bdf646"), looks := true }, kinds := [], alts := [], laidByText := true, laidKinds := [.data, .data, .data, .sentinel, .sentinel], laidTests := true, laidLooks := .later }
def FeasibleMatchesReferenceCardSaid : Prop := Claim7.holds Tryz.pinned (.plain (OpenSpec.ofChange feasibleMatchesReferenceSpec)) feasibleMatchesReferenceCard

/-- THE TIED CARD OF 'observatorylaw41.FeasiblePartition'. -/
def feasiblePartitionCard : Claim7 := { stood := { row := feasiblePartitionRow, standIns := [], harness := (true, "687f5c897adcd8c68d2cd27a0bdec5436a825fd1ee52b1590154ff4a08bdf646"), looks := true }, kinds := [], alts := [], laidByText := true, laidKinds := [.data, .data, .data, .sentinel, .sentinel], laidTests := true, laidLooks := .later }
def FeasiblePartitionCardSaid : Prop := Claim7.holds Tryz.pinned (.plain (OpenSpec.ofChange feasiblePartitionSpec)) feasiblePartitionCard

/-- THE TIED CARD OF 'observatorylaw41.FeasibleRequests'. -/
def feasibleRequestsCard : Claim7 := { stood := { row := feasibleRequestsRow, standIns := [], harness := (true, "687f5c897adcd8c68d2cd27a0bdec5436a825fd1ee52b1590154ff4a08bdf646"), looks := true }, kinds := [], alts := [], laidByText := true, laidKinds := [.data, .data, .data, .sentinel, .sentinel], laidTests := true, laidLooks := .later }
def FeasibleRequestsCardSaid : Prop := Claim7.holds Tryz.pinned (.plain (OpenSpec.ofChange feasibleRequestsSpec)) feasibleRequestsCard

/-- THE TIED CARD OF 'observatorylaw41.FeasibleReasons'. -/
def feasibleReasonsCard : Claim7 := { stood := { row := feasibleReasonsRow, standIns := [], harness := (true, "687f5c897adcd8c68d2cd27a0bdec5436a825fd1ee52b1590154ff4a08bdf646"), looks := true }, kinds := [], alts := [], laidByText := true, laidKinds := [.data, .data, .data, .sentinel, .sentinel], laidTests := true, laidLooks := .later }
def FeasibleReasonsCardSaid : Prop := Claim7.holds Tryz.pinned (.plain (OpenSpec.ofChange feasibleReasonsSpec)) feasibleReasonsCard

/-- THE TIED CARD OF 'observatorylaw41.FeasibleMerits'. -/
def feasibleMeritsCard : Claim7 := { stood := { row := feasibleMeritsRow, standIns := [], harness := (true, "687f5c897adcd8c68d2cd27a0bdec5436a825fd1ee52b1590154ff4a08bdf646"), looks := true }, kinds := [], alts := [], laidByText := true, laidKinds := [.data, .data, .data, .sentinel, .sentinel], laidTests := true, laidLooks := .later }
def FeasibleMeritsCardSaid : Prop := Claim7.holds Tryz.pinned (.plain (OpenSpec.ofChange feasibleMeritsSpec)) feasibleMeritsCard

/-- THE TIED CARD OF 'observatorylaw41.FeasibleOthers'. -/
def feasibleOthersCard : Claim7 := { stood := { row := feasibleOthersRow, standIns := [], harness := (true, "687f5c897adcd8c68d2cd27a0bdec5436a825fd1ee52b1590154ff4a08bdf646"), looks := true }, kinds := [], alts := [], laidByText := true, laidKinds := [.data, .data, .data, .sentinel, .sentinel], laidTests := true, laidLooks := .later }
def FeasibleOthersCardSaid : Prop := Claim7.holds Tryz.pinned (.plain (OpenSpec.ofChange feasibleOthersSpec)) feasibleOthersCard

/-- THE TIED CARD OF 'observatorylaw41.FeasibleClouds'. -/
def feasibleCloudsCard : Claim7 := { stood := { row := feasibleCloudsRow, standIns := [], harness := (true, "687f5c897adcd8c68d2cd27a0bdec5436a825fd1ee52b1590154ff4a08bdf646"), looks := true }, kinds := [], alts := [], laidByText := true, laidKinds := [.data, .data, .data, .sentinel, .sentinel], laidTests := true, laidLooks := .later }
def FeasibleCloudsCardSaid : Prop := Claim7.holds Tryz.pinned (.plain (OpenSpec.ofChange feasibleCloudsSpec)) feasibleCloudsCard

/-- THE SECOND FORM's CARD OF 'observatorylaw41.FeasibleMatchesReference'. -/
def feasibleMatchesReferenceUptoCard : Claim7 := { stood := { row := feasibleMatchesReferenceUptoRow, standIns := [], harness := (true, "687f5c897adcd8c68d2cd27a0bdec5436a825fd1ee52b1590154ff4a08bdf646"), looks := true }, kinds := [], alts := [], laidByText := true, laidKinds := [.data, .data, .data, .sentinel, .sentinel], laidTests := true, laidLooks := .later }
def FeasibleMatchesReferenceUptoCardSaid : Prop := Claim7.holds Tryz.pinned (.plain (OpenSpec.upto feasibleMatchesReferenceSpec)) feasibleMatchesReferenceUptoCard

/-- THE SECOND FORM's CARD OF 'observatorylaw41.FeasiblePartition'. -/
def feasiblePartitionUptoCard : Claim7 := { stood := { row := feasiblePartitionUptoRow, standIns := [], harness := (true, "687f5c897adcd8c68d2cd27a0bdec5436a825fd1ee52b1590154ff4a08bdf646"), looks := true }, kinds := [], alts := [], laidByText := true, laidKinds := [.data, .data, .data, .sentinel, .sentinel], laidTests := true, laidLooks := .later }
def FeasiblePartitionUptoCardSaid : Prop := Claim7.holds Tryz.pinned (.plain (OpenSpec.upto feasiblePartitionSpec)) feasiblePartitionUptoCard

/-- THE SECOND FORM's CARD OF 'observatorylaw41.FeasibleRequests'. -/
def feasibleRequestsUptoCard : Claim7 := { stood := { row := feasibleRequestsUptoRow, standIns := [], harness := (true, "687f5c897adcd8c68d2cd27a0bdec5436a825fd1ee52b1590154ff4a08bdf646"), looks := true }, kinds := [], alts := [], laidByText := true, laidKinds := [.data, .data, .data, .sentinel, .sentinel], laidTests := true, laidLooks := .later }
def FeasibleRequestsUptoCardSaid : Prop := Claim7.holds Tryz.pinned (.plain (OpenSpec.upto feasibleRequestsSpec)) feasibleRequestsUptoCard

/-- THE SECOND FORM's CARD OF 'observatorylaw41.FeasibleReasons'. -/
def feasibleReasonsUptoCard : Claim7 := { stood := { row := feasibleReasonsUptoRow, standIns := [], harness := (true, "687f5c897adcd8c68d2cd27a0bdec5436a825fd1ee52b1590154ff4a08bdf646"), looks := true }, kinds := [], alts := [], laidByText := true, laidKinds := [.data, .data, .data, .sentinel, .sentinel], laidTests := true, laidLooks := .later }
def FeasibleReasonsUptoCardSaid : Prop := Claim7.holds Tryz.pinned (.plain (OpenSpec.upto feasibleReasonsSpec)) feasibleReasonsUptoCard

/-- THE SECOND FORM's CARD OF 'observatorylaw41.FeasibleMerits'. -/
def feasibleMeritsUptoCard : Claim7 := { stood := { row := feasibleMeritsUptoRow, standIns := [], harness := (true, "687f5c897adcd8c68d2cd27a0bdec5436a825fd1ee52b1590154ff4a08bdf646"), looks := true }, kinds := [], alts := [], laidByText := true, laidKinds := [.data, .data, .data, .sentinel, .sentinel], laidTests := true, laidLooks := .later }
def FeasibleMeritsUptoCardSaid : Prop := Claim7.holds Tryz.pinned (.plain (OpenSpec.upto feasibleMeritsSpec)) feasibleMeritsUptoCard

/-- THE SECOND FORM's CARD OF 'observatorylaw41.FeasibleOthers'. -/
def feasibleOthersUptoCard : Claim7 := { stood := { row := feasibleOthersUptoRow, standIns := [], harness := (true, "687f5c897adcd8c68d2cd27a0bdec5436a825fd1ee52b1590154ff4a08bdf646"), looks := true }, kinds := [], alts := [], laidByText := true, laidKinds := [.data, .data, .data, .sentinel, .sentinel], laidTests := true, laidLooks := .later }
def FeasibleOthersUptoCardSaid : Prop := Claim7.holds Tryz.pinned (.plain (OpenSpec.upto feasibleOthersSpec)) feasibleOthersUptoCard

/-- THE SECOND FORM's CARD OF 'observatorylaw41.FeasibleClouds'. -/
def feasibleCloudsUptoCard : Claim7 := { stood := { row := feasibleCloudsUptoRow, standIns := [], harness := (true, "687f5c897adcd8c68d2cd27a0bdec5436a825fd1ee52b1590154ff4a08bdf646"), looks := true }, kinds := [], alts := [], laidByText := true, laidKinds := [.data, .data, .data, .sentinel, .sentinel], laidTests := true, laidLooks := .later }
def FeasibleCloudsUptoCardSaid : Prop := Claim7.holds Tryz.pinned (.plain (OpenSpec.upto feasibleCloudsSpec)) feasibleCloudsUptoCard
end Rows
end Go.Proofs.YtidbmbpeblmliaaGreatDoor
