/-
  DERIVED. GIVEN WITH THE SEED: THE CARDS: each row of YtilhngjecfdgpaaGreatDoorRows.lean that lists a variable, with what it lists TIED to the program's text (the seventh form; the later family's looks); each row that meets fmt, with fmt's text TOLD by the authors' own Lean function (tested against real Go, not proved from fmt's source: count such statements apart). THE CARD IS WHAT COUNTS. Prove the row's statement (the work); the ties are given (YtilhngjecfdgpaaGreatDoorTie.lean); close each card by the builder's one call (the guide's Derived/Test/ToyasCard.lean, 'card_holds'). Laid BY PROGRAM, IN A SANDBOX (cutbox-door.mjs). By AI agents, Wed Nov 11 2026. No macro, syntax, notation, axiom, sorry.
-/
import Derived.Test.YtilhngjecfdgpaaGreatDoorRows
import GoSem.ClaimSeven
namespace Go.Proofs.YtilhngjecfdgpaaGreatDoor
namespace Rows

/-- THE TIED CARD OF 'seisintop.TopPSO'. -/
def topPSOCard : Claim7 := { stood := { row := topPSORow, standIns := [], harness := (true, "b0ae176a54159a5a4d552f0518da1acbdd6dd9f2abe0cba58b9450970f7335f4"), looks := false }, kinds := [], alts := [], laidByText := true, laidKinds := [.data, .data, .data], laidTests := true, laidLooks := .later }
def TopPSOCardSaid : Prop := Claim7.holds Tryz.pinned (.plain (OpenSpec.ofChange topPSOSpec)) topPSOCard

/-- THE SECOND FORM's CARD OF 'seisintop.TopPSO'. -/
def topPSOUptoCard : Claim7 := { stood := { row := topPSOUptoRow, standIns := [], harness := (true, "b0ae176a54159a5a4d552f0518da1acbdd6dd9f2abe0cba58b9450970f7335f4"), looks := false }, kinds := [], alts := [], laidByText := true, laidKinds := [.data, .data, .data], laidTests := true, laidLooks := .later }
def TopPSOUptoCardSaid : Prop := Claim7.holds Tryz.pinned (.plain (OpenSpec.upto topPSOSpec)) topPSOUptoCard
end Rows
end Go.Proofs.YtilhngjecfdgpaaGreatDoor
