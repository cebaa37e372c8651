/-
  DERIVED. GIVEN WITH THE SEED: THE CARDS: each row of YtfcpgeanbklleaaGreatDoorRows.lean that lists a variable, with what it lists TIED to the program's text (the seventh form; the later family's looks); each row that meets fmt, with fmt's text TOLD by the authors' own Lean function (tested against real Go, not proved from fmt's source: count such statements apart). THE CARD IS WHAT COUNTS. Prove the row's statement (the work); the ties are given (YtfcpgeanbklleaaGreatDoorTie.lean); close each card by the builder's one call (the guide's Derived/Test/ToyasCard.lean, 'card_holds'). Laid BY PROGRAM, IN A SANDBOX (cutbox-door.mjs). By AI agents, Wed Nov 11 2026. No macro, syntax, notation, axiom, sorry.
-/
import Derived.Test.YtfcpgeanbklleaaGreatDoorRows
import GoSem.ClaimSeven
namespace Go.Proofs.YtfcpgeanbklleaaGreatDoor
namespace Rows

/-- THE TIED CARD OF 'cobletop.TopAnswered'. -/
def topAnsweredCard : Claim7 := { stood := { row := topAnsweredRow, standIns := [], harness := (true, "e028f98e9c5603d9fe0051ea6930f1edf012fa3c3d610464b21551be2646b912"), looks := false }, kinds := [], alts := [], laidByText := true, laidKinds := [.data], laidTests := true, laidLooks := .later }
def TopAnsweredCardSaid : Prop := Claim7.holds Tryz.pinned (.plain (OpenSpec.ofChange topAnsweredSpec)) topAnsweredCard

/-- THE TIED CARD OF 'cobletop.TopEverywhere'. -/
def topEverywhereCard : Claim7 := { stood := { row := topEverywhereRow, standIns := [], harness := (true, "e028f98e9c5603d9fe0051ea6930f1edf012fa3c3d610464b21551be2646b912"), looks := false }, kinds := [], alts := [], laidByText := true, laidKinds := [.data], laidTests := true, laidLooks := .later }
def TopEverywhereCardSaid : Prop := Claim7.holds Tryz.pinned (.plain (OpenSpec.ofChange topEverywhereSpec)) topEverywhereCard

/-- THE TIED CARD OF 'cobletop.TopCalled'. -/
def topCalledCard : Claim7 := { stood := { row := topCalledRow, standIns := [], harness := (true, "e028f98e9c5603d9fe0051ea6930f1edf012fa3c3d610464b21551be2646b912"), looks := false }, kinds := [], alts := [], laidByText := true, laidKinds := [.data], laidTests := true, laidLooks := .later }
def TopCalledCardSaid : Prop := Claim7.holds Tryz.pinned (.plain (OpenSpec.ofChange topCalledSpec)) topCalledCard

/-- THE TIED CARD OF 'cobletop.TopFresh'. -/
def topFreshCard : Claim7 := { stood := { row := topFreshRow, standIns := [], harness := (true, "e028f98e9c5603d9fe0051ea6930f1edf012fa3c3d610464b21551be2646b912"), looks := false }, kinds := [], alts := [], laidByText := true, laidKinds := [.data], laidTests := true, laidLooks := .later }
def TopFreshCardSaid : Prop := Claim7.holds Tryz.pinned (.plain (OpenSpec.ofChange topFreshSpec)) topFreshCard

/-- THE TIED CARD OF 'cobletop.TopPaid'. -/
def topPaidCard : Claim7 := { stood := { row := topPaidRow, standIns := [], harness := (true, "e028f98e9c5603d9fe0051ea6930f1edf012fa3c3d610464b21551be2646b912"), looks := false }, kinds := [], alts := [], laidByText := true, laidKinds := [.data], laidTests := true, laidLooks := .later }
def TopPaidCardSaid : Prop := Claim7.holds Tryz.pinned (.plain (OpenSpec.ofChange topPaidSpec)) topPaidCard

/-- THE SECOND FORM's CARD OF 'cobletop.TopAnswered'. -/
def topAnsweredUptoCard : Claim7 := { stood := { row := topAnsweredUptoRow, standIns := [], harness := (true, "e028f98e9c5603d9fe0051ea6930f1edf012fa3c3d610464b21551be2646b912"), looks := false }, kinds := [], alts := [], laidByText := true, laidKinds := [.data], laidTests := true, laidLooks := .later }
def TopAnsweredUptoCardSaid : Prop := Claim7.holds Tryz.pinned (.plain (OpenSpec.upto topAnsweredSpec)) topAnsweredUptoCard

/-- THE SECOND FORM's CARD OF 'cobletop.TopEverywhere'. -/
def topEverywhereUptoCard : Claim7 := { stood := { row := topEverywhereUptoRow, standIns := [], harness := (true, "e028f98e9c5603d9fe0051ea6930f1edf012fa3c3d610464b21551be2646b912"), looks := false }, kinds := [], alts := [], laidByText := true, laidKinds := [.data], laidTests := true, laidLooks := .later }
def TopEverywhereUptoCardSaid : Prop := Claim7.holds Tryz.pinned (.plain (OpenSpec.upto topEverywhereSpec)) topEverywhereUptoCard

/-- THE SECOND FORM's CARD OF 'cobletop.TopCalled'. -/
def topCalledUptoCard : Claim7 := { stood := { row := topCalledUptoRow, standIns := [], harness := (true, "e028f98e9c5603d9fe0051ea6930f1edf012fa3c3d610464b21551be2646b912"), looks := false }, kinds := [], alts := [], laidByText := true, laidKinds := [.data], laidTests := true, laidLooks := .later }
def TopCalledUptoCardSaid : Prop := Claim7.holds Tryz.pinned (.plain (OpenSpec.upto topCalledSpec)) topCalledUptoCard

/-- THE SECOND FORM's CARD OF 'cobletop.TopFresh'. -/
def topFreshUptoCard : Claim7 := { stood := { row := topFreshUptoRow, standIns := [], harness := (true, "e028f98e9c5603d9fe0051ea6930f1edf012fa3c3d610464b21551be2646b912"), looks := false }, kinds := [], alts := [], laidByText := true, laidKinds := [.data], laidTests := true, laidLooks := .later }
def TopFreshUptoCardSaid : Prop := Claim7.holds Tryz.pinned (.plain (OpenSpec.upto topFreshSpec)) topFreshUptoCard

/-- THE SECOND FORM's CARD OF 'cobletop.TopPaid'. -/
def topPaidUptoCard : Claim7 := { stood := { row := topPaidUptoRow, standIns := [], harness := (true, "e028f98e9c5603d9fe0051ea6930f1edf012fa3c3d610464b21551be2646b912"), looks := false }, kinds := [], alts := [], laidByText := true, laidKinds := [.data], laidTests := true, laidLooks := .later }
def TopPaidUptoCardSaid : Prop := Claim7.holds Tryz.pinned (.plain (OpenSpec.upto topPaidSpec)) topPaidUptoCard
end Rows
end Go.Proofs.YtfcpgeanbklleaaGreatDoor
