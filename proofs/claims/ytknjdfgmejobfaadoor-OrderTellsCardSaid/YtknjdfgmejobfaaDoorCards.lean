/-
  DERIVED. GIVEN WITH THE SEED: THE CARDS: each row of YtknjdfgmejobfaaDoorRows.lean that lists a variable, with what it lists TIED to the program's text (the seventh form; the later family's looks); each row that meets fmt, with fmt's text TOLD by the authors' own Lean function (tested against real Go, not proved from fmt's source: count such statements apart). THE CARD IS WHAT COUNTS. Prove the row's statement (the work); the ties are given (YtknjdfgmejobfaaDoorTie.lean); close each card by the builder's one call (the guide's Derived/Test/ToyasCard.lean, 'card_holds'). Laid BY PROGRAM, IN A SANDBOX (cutbox-door.mjs). By AI agents, Wed Nov 11 2026. No macro, syntax, notation, axiom, sorry.
-/
import Derived.Test.YtknjdfgmejobfaaDoorRows
import GoSem.ClaimSeven
namespace Go.Proofs.YtknjdfgmejobfaaDoor
namespace Rows

/-- THE TIED CARD OF 'seisinlaw02.RelThen'. -/
def relThenCard : Claim7 := { stood := { row := relThenRow, standIns := [], harness := (true, "9f67824ecd841d91415b916fed8965da2dadeeec06b4e97db945c90873d81ee4"), looks := false }, kinds := [], alts := [], laidByText := true, laidKinds := [.data], laidTests := true, laidLooks := .later }
def RelThenCardSaid : Prop := Claim7.holds Tryd.pinned (.plain (OpenSpec.ofChange relThenSpec)) relThenCard

/-- THE TIED CARD OF 'seisinlaw02.RelRing'. -/
def relRingCard : Claim7 := { stood := { row := relRingRow, standIns := [], harness := (true, "9f67824ecd841d91415b916fed8965da2dadeeec06b4e97db945c90873d81ee4"), looks := false }, kinds := [], alts := [], laidByText := true, laidKinds := [.data], laidTests := true, laidLooks := .later }
def RelRingCardSaid : Prop := Claim7.holds Tryd.pinned (.plain (OpenSpec.ofChange relRingSpec)) relRingCard

/-- THE TIED CARD OF 'seisinlaw02.RelPlus'. -/
def relPlusCard : Claim7 := { stood := { row := relPlusRow, standIns := [], harness := (true, "9f67824ecd841d91415b916fed8965da2dadeeec06b4e97db945c90873d81ee4"), looks := false }, kinds := [], alts := [], laidByText := true, laidKinds := [.data], laidTests := true, laidLooks := .later }
def RelPlusCardSaid : Prop := Claim7.holds Tryd.pinned (.plain (OpenSpec.ofChange relPlusSpec)) relPlusCard

/-- THE TIED CARD OF 'seisinlaw02.RelRounds'. -/
def relRoundsCard : Claim7 := { stood := { row := relRoundsRow, standIns := [], harness := (true, "9f67824ecd841d91415b916fed8965da2dadeeec06b4e97db945c90873d81ee4"), looks := false }, kinds := [], alts := [], laidByText := true, laidKinds := [.data], laidTests := true, laidLooks := .later }
def RelRoundsCardSaid : Prop := Claim7.holds Tryd.pinned (.plain (OpenSpec.ofChange relRoundsSpec)) relRoundsCard

/-- THE TIED CARD OF 'seisinlaw02.RelCross'. -/
def relCrossCard : Claim7 := { stood := { row := relCrossRow, standIns := [], harness := (true, "9f67824ecd841d91415b916fed8965da2dadeeec06b4e97db945c90873d81ee4"), looks := false }, kinds := [], alts := [], laidByText := true, laidKinds := [.data], laidTests := true, laidLooks := .later }
def RelCrossCardSaid : Prop := Claim7.holds Tryd.pinned (.plain (OpenSpec.ofChange relCrossSpec)) relCrossCard

/-- THE TIED CARD OF 'seisinlaw02.RelPairs'. -/
def relPairsCard : Claim7 := { stood := { row := relPairsRow, standIns := [], harness := (true, "9f67824ecd841d91415b916fed8965da2dadeeec06b4e97db945c90873d81ee4"), looks := false }, kinds := [], alts := [], laidByText := true, laidKinds := [.data], laidTests := true, laidLooks := .later }
def RelPairsCardSaid : Prop := Claim7.holds Tryd.pinned (.plain (OpenSpec.ofChange relPairsSpec)) relPairsCard

/-- THE TIED CARD OF 'seisinlaw03.OrderTells'. -/
def orderTellsCard : Claim7 := { stood := { row := orderTellsRow, standIns := [], harness := (true, "9f67824ecd841d91415b916fed8965da2dadeeec06b4e97db945c90873d81ee4"), looks := false }, kinds := [], alts := [], laidByText := true, laidKinds := [.data], laidTests := true, laidLooks := .later }
def OrderTellsCardSaid : Prop := Claim7.holds Tryd.pinned (.plain (OpenSpec.ofChange orderTellsSpec)) orderTellsCard

/-- THE TIED CARD OF 'seisinlaw03.OrderAll'. -/
def orderAllCard : Claim7 := { stood := { row := orderAllRow, standIns := [], harness := (true, "9f67824ecd841d91415b916fed8965da2dadeeec06b4e97db945c90873d81ee4"), looks := false }, kinds := [], alts := [], laidByText := true, laidKinds := [.data], laidTests := true, laidLooks := .later }
def OrderAllCardSaid : Prop := Claim7.holds Tryd.pinned (.plain (OpenSpec.ofChange orderAllSpec)) orderAllCard

/-- THE TIED CARD OF 'seisinlaw03.OrderWrong'. -/
def orderWrongCard : Claim7 := { stood := { row := orderWrongRow, standIns := [], harness := (true, "9f67824ecd841d91415b916fed8965da2dadeeec06b4e97db945c90873d81ee4"), looks := false }, kinds := [], alts := [], laidByText := true, laidKinds := [.data], laidTests := true, laidLooks := .later }
def OrderWrongCardSaid : Prop := Claim7.holds Tryd.pinned (.plain (OpenSpec.ofChange orderWrongSpec)) orderWrongCard

/-- THE TIED CARD OF 'seisinlaw02.RelTells'. -/
def relTellsCard : Claim7 := { stood := { row := relTellsRow, standIns := [], harness := (true, "9f67824ecd841d91415b916fed8965da2dadeeec06b4e97db945c90873d81ee4"), looks := false }, kinds := [], alts := [], laidByText := true, laidKinds := [.data], laidTests := true, laidLooks := .later }
def RelTellsCardSaid : Prop := Claim7.holds Tryd.pinned (.plain (OpenSpec.ofChange relTellsSpec)) relTellsCard

/-- THE TIED CARD OF 'seisinlaw02.RelWrong'. -/
def relWrongCard : Claim7 := { stood := { row := relWrongRow, standIns := [], harness := (true, "9f67824ecd841d91415b916fed8965da2dadeeec06b4e97db945c90873d81ee4"), looks := false }, kinds := [], alts := [], laidByText := true, laidKinds := [.data], laidTests := true, laidLooks := .later }
def RelWrongCardSaid : Prop := Claim7.holds Tryd.pinned (.plain (OpenSpec.ofChange relWrongSpec)) relWrongCard

/-- THE TIED CARD OF 'seisinlaw03.OrderTotal'. -/
def orderTotalCard : Claim7 := { stood := { row := orderTotalRow, standIns := [], harness := (true, "9f67824ecd841d91415b916fed8965da2dadeeec06b4e97db945c90873d81ee4"), looks := false }, kinds := [], alts := [], laidByText := true, laidKinds := [.data], laidTests := true, laidLooks := .later }
def OrderTotalCardSaid : Prop := Claim7.holds Tryd.pinned (.plain (OpenSpec.ofChange orderTotalSpec)) orderTotalCard

/-- THE TIED CARD OF 'seisinlaw03.OrderCount'. -/
def orderCountCard : Claim7 := { stood := { row := orderCountRow, standIns := [], harness := (true, "9f67824ecd841d91415b916fed8965da2dadeeec06b4e97db945c90873d81ee4"), looks := false }, kinds := [], alts := [], laidByText := true, laidKinds := [.data], laidTests := true, laidLooks := .later }
def OrderCountCardSaid : Prop := Claim7.holds Tryd.pinned (.plain (OpenSpec.ofChange orderCountSpec)) orderCountCard

/-- THE TIED CARD OF 'seisinlaw03.OrderCommon'. -/
def orderCommonCard : Claim7 := { stood := { row := orderCommonRow, standIns := [], harness := (true, "9f67824ecd841d91415b916fed8965da2dadeeec06b4e97db945c90873d81ee4"), looks := false }, kinds := [], alts := [], laidByText := true, laidKinds := [.data], laidTests := true, laidLooks := .later }
def OrderCommonCardSaid : Prop := Claim7.holds Tryd.pinned (.plain (OpenSpec.ofChange orderCommonSpec)) orderCommonCard

/-- THE SECOND FORM's CARD OF 'seisinlaw02.RelThen'. -/
def relThenUptoCard : Claim7 := { stood := { row := relThenUptoRow, standIns := [], harness := (true, "9f67824ecd841d91415b916fed8965da2dadeeec06b4e97db945c90873d81ee4"), looks := false }, kinds := [], alts := [], laidByText := true, laidKinds := [.data], laidTests := true, laidLooks := .later }
def RelThenUptoCardSaid : Prop := Claim7.holds Tryd.pinned (.plain (OpenSpec.upto relThenSpec)) relThenUptoCard

/-- THE SECOND FORM's CARD OF 'seisinlaw02.RelRing'. -/
def relRingUptoCard : Claim7 := { stood := { row := relRingUptoRow, standIns := [], harness := (true, "9f67824ecd841d91415b916fed8965da2dadeeec06b4e97db945c90873d81ee4"), looks := false }, kinds := [], alts := [], laidByText := true, laidKinds := [.data], laidTests := true, laidLooks := .later }
def RelRingUptoCardSaid : Prop := Claim7.holds Tryd.pinned (.plain (OpenSpec.upto relRingSpec)) relRingUptoCard

/-- THE SECOND FORM's CARD OF 'seisinlaw02.RelPlus'. -/
def relPlusUptoCard : Claim7 := { stood := { row := relPlusUptoRow, standIns := [], harness := (true, "9f67824ecd841d91415b916fed8965da2dadeeec06b4e97db945c90873d81ee4"), looks := false }, kinds := [], alts := [], laidByText := true, laidKinds := [.data], laidTests := true, laidLooks := .later }
def RelPlusUptoCardSaid : Prop := Claim7.holds Tryd.pinned (.plain (OpenSpec.upto relPlusSpec)) relPlusUptoCard

/-- THE SECOND FORM's CARD OF 'seisinlaw02.RelRounds'. -/
def relRoundsUptoCard : Claim7 := { stood := { row := relRoundsUptoRow, standIns := [], harness := (true, "9f67824ecd841d91415b916fed8965da2dadeeec06b4e97db945c90873d81ee4"), looks := false }, kinds := [], alts := [], laidByText := true, laidKinds := [.data], laidTests := true, laidLooks := .later }
def RelRoundsUptoCardSaid : Prop := Claim7.holds Tryd.pinned (.plain (OpenSpec.upto relRoundsSpec)) relRoundsUptoCard

/-- THE SECOND FORM's CARD OF 'seisinlaw02.RelCross'. -/
def relCrossUptoCard : Claim7 := { stood := { row := relCrossUptoRow, standIns := [], harness := (true, "9f67824ecd841d91415b916fed8965da2dadeeec06b4e97db945c90873d81ee4"), looks := false }, kinds := [], alts := [], laidByText := true, laidKinds := [.data], laidTests := true, laidLooks := .later }
def RelCrossUptoCardSaid : Prop := Claim7.holds Tryd.pinned (.plain (OpenSpec.upto relCrossSpec)) relCrossUptoCard

/-- THE SECOND FORM's CARD OF 'seisinlaw02.RelPairs'. -/
def relPairsUptoCard : Claim7 := { stood := { row := relPairsUptoRow, standIns := [], harness := (true, "9f67824ecd841d91415b916fed8965da2dadeeec06b4e97db945c90873d81ee4"), looks := false }, kinds := [], alts := [], laidByText := true, laidKinds := [.data], laidTests := true, laidLooks := .later }
def RelPairsUptoCardSaid : Prop := Claim7.holds Tryd.pinned (.plain (OpenSpec.upto relPairsSpec)) relPairsUptoCard

/-- THE SECOND FORM's CARD OF 'seisinlaw03.OrderTells'. -/
def orderTellsUptoCard : Claim7 := { stood := { row := orderTellsUptoRow, standIns := [], harness := (true, "9f67824ecd841d91415b916fed8965da2dadeeec06b4e97db945c90873d81ee4"), looks := false }, kinds := [], alts := [], laidByText := true, laidKinds := [.data], laidTests := true, laidLooks := .later }
def OrderTellsUptoCardSaid : Prop := Claim7.holds Tryd.pinned (.plain (OpenSpec.upto orderTellsSpec)) orderTellsUptoCard

/-- THE SECOND FORM's CARD OF 'seisinlaw03.OrderAll'. -/
def orderAllUptoCard : Claim7 := { stood := { row := orderAllUptoRow, standIns := [], harness := (true, "9f67824ecd841d91415b916fed8965da2dadeeec06b4e97db945c90873d81ee4"), looks := false }, kinds := [], alts := [], laidByText := true, laidKinds := [.data], laidTests := true, laidLooks := .later }
def OrderAllUptoCardSaid : Prop := Claim7.holds Tryd.pinned (.plain (OpenSpec.upto orderAllSpec)) orderAllUptoCard

/-- THE SECOND FORM's CARD OF 'seisinlaw03.OrderWrong'. -/
def orderWrongUptoCard : Claim7 := { stood := { row := orderWrongUptoRow, standIns := [], harness := (true, "9f67824ecd841d91415b916fed8965da2dadeeec06b4e97db945c90873d81ee4"), looks := false }, kinds := [], alts := [], laidByText := true, laidKinds := [.data], laidTests := true, laidLooks := .later }
def OrderWrongUptoCardSaid : Prop := Claim7.holds Tryd.pinned (.plain (OpenSpec.upto orderWrongSpec)) orderWrongUptoCard

/-- THE SECOND FORM's CARD OF 'seisinlaw02.RelTells'. -/
def relTellsUptoCard : Claim7 := { stood := { row := relTellsUptoRow, standIns := [], harness := (true, "9f67824ecd841d91415b916fed8965da2dadeeec06b4e97db945c90873d81ee4"), looks := false }, kinds := [], alts := [], laidByText := true, laidKinds := [.data], laidTests := true, laidLooks := .later }
def RelTellsUptoCardSaid : Prop := Claim7.holds Tryd.pinned (.plain (OpenSpec.upto relTellsSpec)) relTellsUptoCard

/-- THE SECOND FORM's CARD OF 'seisinlaw02.RelWrong'. -/
def relWrongUptoCard : Claim7 := { stood := { row := relWrongUptoRow, standIns := [], harness := (true, "9f67824ecd841d91415b916fed8965da2dadeeec06b4e97db945c90873d81ee4"), looks := false }, kinds := [], alts := [], laidByText := true, laidKinds := [.data], laidTests := true, laidLooks := .later }
def RelWrongUptoCardSaid : Prop := Claim7.holds Tryd.pinned (.plain (OpenSpec.upto relWrongSpec)) relWrongUptoCard

/-- THE SECOND FORM's CARD OF 'seisinlaw03.OrderTotal'. -/
def orderTotalUptoCard : Claim7 := { stood := { row := orderTotalUptoRow, standIns := [], harness := (true, "9f67824ecd841d91415b916fed8965da2dadeeec06b4e97db945c90873d81ee4"), looks := false }, kinds := [], alts := [], laidByText := true, laidKinds := [.data], laidTests := true, laidLooks := .later }
def OrderTotalUptoCardSaid : Prop := Claim7.holds Tryd.pinned (.plain (OpenSpec.upto orderTotalSpec)) orderTotalUptoCard

/-- THE SECOND FORM's CARD OF 'seisinlaw03.OrderCount'. -/
def orderCountUptoCard : Claim7 := { stood := { row := orderCountUptoRow, standIns := [], harness := (true, "9f67824ecd841d91415b916fed8965da2dadeeec06b4e97db945c90873d81ee4"), looks := false }, kinds := [], alts := [], laidByText := true, laidKinds := [.data], laidTests := true, laidLooks := .later }
def OrderCountUptoCardSaid : Prop := Claim7.holds Tryd.pinned (.plain (OpenSpec.upto orderCountSpec)) orderCountUptoCard

/-- THE SECOND FORM's CARD OF 'seisinlaw03.OrderCommon'. -/
def orderCommonUptoCard : Claim7 := { stood := { row := orderCommonUptoRow, standIns := [], harness := (true, "9f67824ecd841d91415b916fed8965da2dadeeec06b4e97db945c90873d81ee4"), looks := false }, kinds := [], alts := [], laidByText := true, laidKinds := [.data], laidTests := true, laidLooks := .later }
def OrderCommonUptoCardSaid : Prop := Claim7.holds Tryd.pinned (.plain (OpenSpec.upto orderCommonSpec)) orderCommonUptoCard
end Rows
end Go.Proofs.YtknjdfgmejobfaaDoor
