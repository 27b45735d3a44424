/-
  DERIVED. GIVEN WITH THE SEED: THE CARDS: each row of YtjnoiahkbdoejaaDoorRows.lean that lists a variable, with what it lists TIED to the program's text (the seventh form; the later family's looks); each row that meets fmt, with fmt's text TOLD by the authors' own Lean function (tested against real Go, not proved from fmt's source: count such statements apart). THE CARD IS WHAT COUNTS. Prove the row's statement (the work); the ties are given (YtjnoiahkbdoejaaDoorTie.lean); close each card by the builder's one call (the guide's Derived/Test/ToyasCard.lean, 'card_holds'). Laid BY PROGRAM, IN A SANDBOX (cutbox-door.mjs). By AI agents, Wed Nov 11 2026. No macro, syntax, notation, axiom, sorry.
-/
import Derived.Test.YtjnoiahkbdoejaaDoorRows
import GoSem.ClaimSeven
namespace Go.Proofs.YtjnoiahkbdoejaaDoor
namespace Rows

/-- THE TIED CARD OF 'seisinlaw01.MarksTells'. -/
def marksTellsCard : Claim7 := { stood := { row := marksTellsRow, standIns := [], harness := (true, "6cd0231b9f460d492bb0e03ce31a34f91842535de0fbc2107c875d320abbb8e4"), looks := false }, kinds := [], alts := [], laidByText := true, laidKinds := [.data], laidTests := true, laidLooks := .later }
def MarksTellsCardSaid : Prop := Claim7.holds Tryd.pinned (.plain (OpenSpec.ofChange marksTellsSpec)) marksTellsCard

/-- THE TIED CARD OF 'seisinlaw01.MarksBack'. -/
def marksBackCard : Claim7 := { stood := { row := marksBackRow, standIns := [], harness := (true, "6cd0231b9f460d492bb0e03ce31a34f91842535de0fbc2107c875d320abbb8e4"), looks := false }, kinds := [], alts := [], laidByText := true, laidKinds := [.data], laidTests := true, laidLooks := .later }
def MarksBackCardSaid : Prop := Claim7.holds Tryd.pinned (.plain (OpenSpec.ofChange marksBackSpec)) marksBackCard

/-- THE TIED CARD OF 'seisinlaw01.MarksNext'. -/
def marksNextCard : Claim7 := { stood := { row := marksNextRow, standIns := [], harness := (true, "6cd0231b9f460d492bb0e03ce31a34f91842535de0fbc2107c875d320abbb8e4"), looks := false }, kinds := [], alts := [], laidByText := true, laidKinds := [.data], laidTests := true, laidLooks := .later }
def MarksNextCardSaid : Prop := Claim7.holds Tryd.pinned (.plain (OpenSpec.ofChange marksNextSpec)) marksNextCard

/-- THE TIED CARD OF 'seisinlaw01.MarksRank'. -/
def marksRankCard : Claim7 := { stood := { row := marksRankRow, standIns := [], harness := (true, "6cd0231b9f460d492bb0e03ce31a34f91842535de0fbc2107c875d320abbb8e4"), looks := false }, kinds := [], alts := [], laidByText := true, laidKinds := [.data], laidTests := true, laidLooks := .later }
def MarksRankCardSaid : Prop := Claim7.holds Tryd.pinned (.plain (OpenSpec.ofChange marksRankSpec)) marksRankCard

/-- THE TIED CARD OF 'seisinlaw01.MarksUnion'. -/
def marksUnionCard : Claim7 := { stood := { row := marksUnionRow, standIns := [], harness := (true, "6cd0231b9f460d492bb0e03ce31a34f91842535de0fbc2107c875d320abbb8e4"), looks := false }, kinds := [], alts := [], laidByText := true, laidKinds := [.data], laidTests := true, laidLooks := .later }
def MarksUnionCardSaid : Prop := Claim7.holds Tryd.pinned (.plain (OpenSpec.ofChange marksUnionSpec)) marksUnionCard

/-- THE TIED CARD OF 'seisinlaw01.MarksSubsets'. -/
def marksSubsetsCard : Claim7 := { stood := { row := marksSubsetsRow, standIns := [], harness := (true, "6cd0231b9f460d492bb0e03ce31a34f91842535de0fbc2107c875d320abbb8e4"), looks := false }, kinds := [], alts := [], laidByText := true, laidKinds := [.data], laidTests := true, laidLooks := .later }
def MarksSubsetsCardSaid : Prop := Claim7.holds Tryd.pinned (.plain (OpenSpec.ofChange marksSubsetsSpec)) marksSubsetsCard

/-- THE TIED CARD OF 'seisinlaw01.MarksAll'. -/
def marksAllCard : Claim7 := { stood := { row := marksAllRow, standIns := [], harness := (true, "6cd0231b9f460d492bb0e03ce31a34f91842535de0fbc2107c875d320abbb8e4"), looks := false }, kinds := [], alts := [], laidByText := true, laidKinds := [.data], laidTests := true, laidLooks := .later }
def MarksAllCardSaid : Prop := Claim7.holds Tryd.pinned (.plain (OpenSpec.ofChange marksAllSpec)) marksAllCard

/-- THE SECOND FORM's CARD OF 'seisinlaw01.MarksTells'. -/
def marksTellsUptoCard : Claim7 := { stood := { row := marksTellsUptoRow, standIns := [], harness := (true, "6cd0231b9f460d492bb0e03ce31a34f91842535de0fbc2107c875d320abbb8e4"), looks := false }, kinds := [], alts := [], laidByText := true, laidKinds := [.data], laidTests := true, laidLooks := .later }
def MarksTellsUptoCardSaid : Prop := Claim7.holds Tryd.pinned (.plain (OpenSpec.upto marksTellsSpec)) marksTellsUptoCard

/-- THE SECOND FORM's CARD OF 'seisinlaw01.MarksBack'. -/
def marksBackUptoCard : Claim7 := { stood := { row := marksBackUptoRow, standIns := [], harness := (true, "6cd0231b9f460d492bb0e03ce31a34f91842535de0fbc2107c875d320abbb8e4"), looks := false }, kinds := [], alts := [], laidByText := true, laidKinds := [.data], laidTests := true, laidLooks := .later }
def MarksBackUptoCardSaid : Prop := Claim7.holds Tryd.pinned (.plain (OpenSpec.upto marksBackSpec)) marksBackUptoCard

/-- THE SECOND FORM's CARD OF 'seisinlaw01.MarksNext'. -/
def marksNextUptoCard : Claim7 := { stood := { row := marksNextUptoRow, standIns := [], harness := (true, "6cd0231b9f460d492bb0e03ce31a34f91842535de0fbc2107c875d320abbb8e4"), looks := false }, kinds := [], alts := [], laidByText := true, laidKinds := [.data], laidTests := true, laidLooks := .later }
def MarksNextUptoCardSaid : Prop := Claim7.holds Tryd.pinned (.plain (OpenSpec.upto marksNextSpec)) marksNextUptoCard

/-- THE SECOND FORM's CARD OF 'seisinlaw01.MarksRank'. -/
def marksRankUptoCard : Claim7 := { stood := { row := marksRankUptoRow, standIns := [], harness := (true, "6cd0231b9f460d492bb0e03ce31a34f91842535de0fbc2107c875d320abbb8e4"), looks := false }, kinds := [], alts := [], laidByText := true, laidKinds := [.data], laidTests := true, laidLooks := .later }
def MarksRankUptoCardSaid : Prop := Claim7.holds Tryd.pinned (.plain (OpenSpec.upto marksRankSpec)) marksRankUptoCard

/-- THE SECOND FORM's CARD OF 'seisinlaw01.MarksUnion'. -/
def marksUnionUptoCard : Claim7 := { stood := { row := marksUnionUptoRow, standIns := [], harness := (true, "6cd0231b9f460d492bb0e03ce31a34f91842535de0fbc2107c875d320abbb8e4"), looks := false }, kinds := [], alts := [], laidByText := true, laidKinds := [.data], laidTests := true, laidLooks := .later }
def MarksUnionUptoCardSaid : Prop := Claim7.holds Tryd.pinned (.plain (OpenSpec.upto marksUnionSpec)) marksUnionUptoCard

/-- THE SECOND FORM's CARD OF 'seisinlaw01.MarksSubsets'. -/
def marksSubsetsUptoCard : Claim7 := { stood := { row := marksSubsetsUptoRow, standIns := [], harness := (true, "6cd0231b9f460d492bb0e03ce31a34f91842535de0fbc2107c875d320abbb8e4"), looks := false }, kinds := [], alts := [], laidByText := true, laidKinds := [.data], laidTests := true, laidLooks := .later }
def MarksSubsetsUptoCardSaid : Prop := Claim7.holds Tryd.pinned (.plain (OpenSpec.upto marksSubsetsSpec)) marksSubsetsUptoCard

/-- THE SECOND FORM's CARD OF 'seisinlaw01.MarksAll'. -/
def marksAllUptoCard : Claim7 := { stood := { row := marksAllUptoRow, standIns := [], harness := (true, "6cd0231b9f460d492bb0e03ce31a34f91842535de0fbc2107c875d320abbb8e4"), looks := false }, kinds := [], alts := [], laidByText := true, laidKinds := [.data], laidTests := true, laidLooks := .later }
def MarksAllUptoCardSaid : Prop := Claim7.holds Tryd.pinned (.plain (OpenSpec.upto marksAllSpec)) marksAllUptoCard
end Rows
end Go.Proofs.YtjnoiahkbdoejaaDoor
