/-
  DERIVED. GIVEN WITH THE SEED: THE CARDS: each row of YtehclnpgbgppeaaDoorRows.lean that lists a variable, with what it lists TIED to the program's text (the seventh form; the later family's looks); each row that meets fmt, with fmt's text TOLD by the authors' own Lean function (tested against real Go, not proved from fmt's source: count such statements apart). THE CARD IS WHAT COUNTS. Prove the row's statement (the work); the ties are given (YtehclnpgbgppeaaDoorTie.lean); close each card by the builder's one call (the guide's Derived/Test/ToyasCard.lean, 'card_holds'). Laid BY PROGRAM, IN A SANDBOX (cutbox-door.mjs). By AI agents, Wed Nov 11 2026. No macro, syntax, notation, axiom, sorry.
-/
import Derived.Test.YtehclnpgbgppeaaDoorRows
import GoSem.ClaimSeven
namespace Go.Proofs.YtehclnpgbgppeaaDoor
namespace Rows

/-- THE TIED CARD OF 'sundiallaw11.FactsStack'. -/
def factsStackCard : Claim7 := { stood := { row := factsStackRow, standIns := [], harness := (true, "38d21019279a0d9c29ada8188b63e6668c6f29dc02f732073005c0ac35652a0b"), looks := false }, kinds := [], alts := [], laidByText := true, laidKinds := [.data, .widerDeep], laidTests := true, laidLooks := .later }
def FactsStackCardSaid : Prop := Claim7.holds Tryd.pinned (.plain (OpenSpec.ofChange factsStackSpec)) factsStackCard

/-- THE TIED CARD OF 'sundiallaw11.FactsCond'. -/
def factsCondCard : Claim7 := { stood := { row := factsCondRow, standIns := [], harness := (true, "38d21019279a0d9c29ada8188b63e6668c6f29dc02f732073005c0ac35652a0b"), looks := false }, kinds := [], alts := [], laidByText := true, laidKinds := [.data, .widerDeep], laidTests := true, laidLooks := .later }
def FactsCondCardSaid : Prop := Claim7.holds Tryd.pinned (.plain (OpenSpec.ofChange factsCondSpec)) factsCondCard

/-- THE SECOND FORM's CARD OF 'sundiallaw11.FactsStack'. -/
def factsStackUptoCard : Claim7 := { stood := { row := factsStackUptoRow, standIns := [], harness := (true, "38d21019279a0d9c29ada8188b63e6668c6f29dc02f732073005c0ac35652a0b"), looks := false }, kinds := [], alts := [], laidByText := true, laidKinds := [.data, .widerDeep], laidTests := true, laidLooks := .later }
def FactsStackUptoCardSaid : Prop := Claim7.holds Tryd.pinned (.plain (OpenSpec.upto factsStackSpec)) factsStackUptoCard

/-- THE SECOND FORM's CARD OF 'sundiallaw11.FactsCond'. -/
def factsCondUptoCard : Claim7 := { stood := { row := factsCondUptoRow, standIns := [], harness := (true, "38d21019279a0d9c29ada8188b63e6668c6f29dc02f732073005c0ac35652a0b"), looks := false }, kinds := [], alts := [], laidByText := true, laidKinds := [.data, .widerDeep], laidTests := true, laidLooks := .later }
def FactsCondUptoCardSaid : Prop := Claim7.holds Tryd.pinned (.plain (OpenSpec.upto factsCondSpec)) factsCondUptoCard
end Rows
end Go.Proofs.YtehclnpgbgppeaaDoor
