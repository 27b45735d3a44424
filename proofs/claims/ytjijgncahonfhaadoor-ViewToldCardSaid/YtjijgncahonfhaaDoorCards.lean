/-
  DERIVED. GIVEN WITH THE SEED: THE CARDS: each row of YtjijgncahonfhaaDoorRows.lean that lists a variable, with what it lists TIED to the program's text (the seventh form; the later family's looks); each row that meets fmt, with fmt's text TOLD by the authors' own Lean function (tested against real Go, not proved from fmt's source: count such statements apart). THE CARD IS WHAT COUNTS. Prove the row's statement (the work); the ties are given (YtjijgncahonfhaaDoorTie.lean); close each card by the builder's one call (the guide's Derived/Test/ToyasCard.lean, 'card_holds'). Laid BY PROGRAM, IN A SANDBOX (cutbox-door.mjs). By AI agents, Wed Nov 11 2026. No macro, syntax, notation, axiom, sorry.
-/
import Derived.Test.YtjijgncahonfhaaDoorRows
import GoSem.ClaimSeven
namespace Go.Proofs.YtjijgncahonfhaaDoor
namespace Rows

/-- THE TIED CARD OF 'seisinlaw19.ViewMakes'. -/
def viewMakesCard : Claim7 := { stood := { row := viewMakesRow, standIns := [], harness := (true, "2f038d19088fdc992d350155fed8537ef3b9b23d66f32b27032b0f8aacee6d33"), looks := false }, kinds := [], alts := [], laidByText := true, laidKinds := [.data], laidTests := true, laidLooks := .later }
def ViewMakesCardSaid : Prop := Claim7.holds Tryd.pinned (.plain (OpenSpec.ofChange viewMakesSpec)) viewMakesCard

/-- THE TIED CARD OF 'seisinlaw19.ViewOrder'. -/
def viewOrderCard : Claim7 := { stood := { row := viewOrderRow, standIns := [], harness := (true, "2f038d19088fdc992d350155fed8537ef3b9b23d66f32b27032b0f8aacee6d33"), looks := false }, kinds := [], alts := [], laidByText := true, laidKinds := [.data], laidTests := true, laidLooks := .later }
def ViewOrderCardSaid : Prop := Claim7.holds Tryd.pinned (.plain (OpenSpec.ofChange viewOrderSpec)) viewOrderCard

/-- THE TIED CARD OF 'seisinlaw19.ViewTold'. -/
def viewToldCard : Claim7 := { stood := { row := viewToldRow, standIns := [], harness := (true, "2f038d19088fdc992d350155fed8537ef3b9b23d66f32b27032b0f8aacee6d33"), looks := false }, kinds := [], alts := [], laidByText := true, laidKinds := [.data], laidTests := true, laidLooks := .later }
def ViewToldCardSaid : Prop := Claim7.holds Tryd.pinned (.plain (OpenSpec.ofChange viewToldSpec)) viewToldCard

/-- THE TIED CARD OF 'seisinlaw19.ViewTells'. -/
def viewTellsCard : Claim7 := { stood := { row := viewTellsRow, standIns := [], harness := (true, "2f038d19088fdc992d350155fed8537ef3b9b23d66f32b27032b0f8aacee6d33"), looks := false }, kinds := [], alts := [], laidByText := true, laidKinds := [.data], laidTests := true, laidLooks := .later }
def ViewTellsCardSaid : Prop := Claim7.holds Tryd.pinned (.plain (OpenSpec.ofChange viewTellsSpec)) viewTellsCard

/-- THE TIED CARD OF 'seisinlaw19.ViewCleared'. -/
def viewClearedCard : Claim7 := { stood := { row := viewClearedRow, standIns := [], harness := (true, "2f038d19088fdc992d350155fed8537ef3b9b23d66f32b27032b0f8aacee6d33"), looks := false }, kinds := [], alts := [], laidByText := true, laidKinds := [.data], laidTests := true, laidLooks := .later }
def ViewClearedCardSaid : Prop := Claim7.holds Tryd.pinned (.plain (OpenSpec.ofChange viewClearedSpec)) viewClearedCard

/-- THE TIED CARD OF 'seisinlaw19.ViewEnds'. -/
def viewEndsCard : Claim7 := { stood := { row := viewEndsRow, standIns := [], harness := (true, "2f038d19088fdc992d350155fed8537ef3b9b23d66f32b27032b0f8aacee6d33"), looks := false }, kinds := [], alts := [], laidByText := true, laidKinds := [.data], laidTests := true, laidLooks := .later }
def ViewEndsCardSaid : Prop := Claim7.holds Tryd.pinned (.plain (OpenSpec.ofChange viewEndsSpec)) viewEndsCard

/-- THE SECOND FORM's CARD OF 'seisinlaw19.ViewMakes'. -/
def viewMakesUptoCard : Claim7 := { stood := { row := viewMakesUptoRow, standIns := [], harness := (true, "2f038d19088fdc992d350155fed8537ef3b9b23d66f32b27032b0f8aacee6d33"), looks := false }, kinds := [], alts := [], laidByText := true, laidKinds := [.data], laidTests := true, laidLooks := .later }
def ViewMakesUptoCardSaid : Prop := Claim7.holds Tryd.pinned (.plain (OpenSpec.upto viewMakesSpec)) viewMakesUptoCard

/-- THE SECOND FORM's CARD OF 'seisinlaw19.ViewOrder'. -/
def viewOrderUptoCard : Claim7 := { stood := { row := viewOrderUptoRow, standIns := [], harness := (true, "2f038d19088fdc992d350155fed8537ef3b9b23d66f32b27032b0f8aacee6d33"), looks := false }, kinds := [], alts := [], laidByText := true, laidKinds := [.data], laidTests := true, laidLooks := .later }
def ViewOrderUptoCardSaid : Prop := Claim7.holds Tryd.pinned (.plain (OpenSpec.upto viewOrderSpec)) viewOrderUptoCard

/-- THE SECOND FORM's CARD OF 'seisinlaw19.ViewTold'. -/
def viewToldUptoCard : Claim7 := { stood := { row := viewToldUptoRow, standIns := [], harness := (true, "2f038d19088fdc992d350155fed8537ef3b9b23d66f32b27032b0f8aacee6d33"), looks := false }, kinds := [], alts := [], laidByText := true, laidKinds := [.data], laidTests := true, laidLooks := .later }
def ViewToldUptoCardSaid : Prop := Claim7.holds Tryd.pinned (.plain (OpenSpec.upto viewToldSpec)) viewToldUptoCard

/-- THE SECOND FORM's CARD OF 'seisinlaw19.ViewTells'. -/
def viewTellsUptoCard : Claim7 := { stood := { row := viewTellsUptoRow, standIns := [], harness := (true, "2f038d19088fdc992d350155fed8537ef3b9b23d66f32b27032b0f8aacee6d33"), looks := false }, kinds := [], alts := [], laidByText := true, laidKinds := [.data], laidTests := true, laidLooks := .later }
def ViewTellsUptoCardSaid : Prop := Claim7.holds Tryd.pinned (.plain (OpenSpec.upto viewTellsSpec)) viewTellsUptoCard

/-- THE SECOND FORM's CARD OF 'seisinlaw19.ViewCleared'. -/
def viewClearedUptoCard : Claim7 := { stood := { row := viewClearedUptoRow, standIns := [], harness := (true, "2f038d19088fdc992d350155fed8537ef3b9b23d66f32b27032b0f8aacee6d33"), looks := false }, kinds := [], alts := [], laidByText := true, laidKinds := [.data], laidTests := true, laidLooks := .later }
def ViewClearedUptoCardSaid : Prop := Claim7.holds Tryd.pinned (.plain (OpenSpec.upto viewClearedSpec)) viewClearedUptoCard

/-- THE SECOND FORM's CARD OF 'seisinlaw19.ViewEnds'. -/
def viewEndsUptoCard : Claim7 := { stood := { row := viewEndsUptoRow, standIns := [], harness := (true, "2f038d19088fdc992d350155fed8537ef3b9b23d66f32b27032b0f8aacee6d33"), looks := false }, kinds := [], alts := [], laidByText := true, laidKinds := [.data], laidTests := true, laidLooks := .later }
def ViewEndsUptoCardSaid : Prop := Claim7.holds Tryd.pinned (.plain (OpenSpec.upto viewEndsSpec)) viewEndsUptoCard
end Rows
end Go.Proofs.YtjijgncahonfhaaDoor
