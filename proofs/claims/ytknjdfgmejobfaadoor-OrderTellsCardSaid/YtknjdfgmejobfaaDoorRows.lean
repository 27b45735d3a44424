/-
  NARROWER THAN 'FOR EVERY INPUT', by the rows' own cells (each row's printed sentence says how): RelThen: laid · RelRing: laid · RelPlus: laid · RelRounds: laid · RelCross: laid · RelPairs: laid · OrderTells: laid · OrderAll: laid · OrderWrong: laid · RelTells: laid · RelWrong: laid · OrderTotal: laid · OrderCount: laid · OrderCommon: laid.
  DERIVED. THE GIVEN ROWS OF THIS SEAT. 14 by the template 'for every input the law returns true; each argument reads behind the call as it read before'; 0 by the template 'total and deterministic' (their statements: YtknjdfgmejobfaaDoorTotals.lean).
  GIVEN WITH THE SEED: the statements are not yours to turn. If you find one false, say at which input.
  Laid BY PROGRAM, IN A SANDBOX (cutbox-rows.mjs): the forced cells as the released guide's own fill.sh prints them over the translation 3a970cd2823a4fcc… (all of the seat's roots in one cut). By AI agents, Wed Nov 11 2026. No macro, syntax, notation, axiom, sorry.
-/
import Derived.Test.YtknjdfgmejobfaaDoorChecked
import GoSem.Claim
import GoSem.ClaimJoined
import GoSem.ClaimMapViews
import Derived.JoinedTies
import Derived.KernelRfl
namespace Go.Proofs.YtknjdfgmejobfaaDoor
/- THE CELL 'sum', in the pinned program and in every row, IS THE sha256 OF THE DUMP (.gsa) THAT YtknjdfgmejobfaaDoorProg.lean LOADS. Nothing in Lean hashes anything: it is a label: what it is worth is what the hold of that sum in a sandbox is worth. -/
noncomputable def Tryd.pinned : Pinned := { name := "ytknjdfgmejobfaadoor", sum := "3a970cd2823a4fcc1ed23fe2ea45b268249faa89e3c3e3c931fb4f1a97354476", checked := Tryd.checked }
namespace Rows
def none {H : Type} : Left H := { results := [], args := [] }

/- WHAT THE LISTED PACKAGE-LEVEL VARIABLES READ AS WHEN THE CALL BEGINS. Each datum BY PROGRAM (the guide's laid-datum.mjs) off the statement by which the dump's own 'gosem.cut.vars' lays the variable. In a bare row this is a premise. The card (YtknjdfgmejobfaaDoorCards.lean) ties it to the program's text. -/
def laid_math_bits_deBruijn64tab {H : Type} : DataW H := .agg [.lit (.int .u8 0), .lit (.int .u8 1), .lit (.int .u8 56), .lit (.int .u8 2), .lit (.int .u8 57), .lit (.int .u8 49), .lit (.int .u8 28), .lit (.int .u8 3), .lit (.int .u8 61), .lit (.int .u8 58), .lit (.int .u8 42), .lit (.int .u8 50), .lit (.int .u8 38), .lit (.int .u8 29), .lit (.int .u8 17), .lit (.int .u8 4), .lit (.int .u8 62), .lit (.int .u8 47), .lit (.int .u8 59), .lit (.int .u8 36), .lit (.int .u8 45), .lit (.int .u8 43), .lit (.int .u8 51), .lit (.int .u8 22), .lit (.int .u8 53), .lit (.int .u8 39), .lit (.int .u8 33), .lit (.int .u8 30), .lit (.int .u8 24), .lit (.int .u8 18), .lit (.int .u8 12), .lit (.int .u8 5), .lit (.int .u8 63), .lit (.int .u8 55), .lit (.int .u8 48), .lit (.int .u8 27), .lit (.int .u8 60), .lit (.int .u8 41), .lit (.int .u8 37), .lit (.int .u8 16), .lit (.int .u8 46), .lit (.int .u8 35), .lit (.int .u8 44), .lit (.int .u8 21), .lit (.int .u8 52), .lit (.int .u8 32), .lit (.int .u8 23), .lit (.int .u8 11), .lit (.int .u8 54), .lit (.int .u8 26), .lit (.int .u8 40), .lit (.int .u8 15), .lit (.int .u8 34), .lit (.int .u8 20), .lit (.int .u8 31), .lit (.int .u8 10), .lit (.int .u8 25), .lit (.int .u8 14), .lit (.int .u8 19), .lit (.int .u8 9), .lit (.int .u8 13), .lit (.int .u8 8), .lit (.int .u8 7), .lit (.int .u8 6)]

/-- 'seisinlaw02.RelThen': WHATEVER THE INPUT: true; the input reads as it did. -/
def relThenSpec : ChangeSpec := { name := "relThen", fn := fun _ => fun
  | [d1, d2, d3] => { results := [.lit (.bool true)], args := [d1, d2, d3] }
  | _ => none }
def relThenRow : OpenClaim := { program := "ytknjdfgmejobfaadoor", sum := "3a970cd2823a4fcc1ed23fe2ea45b268249faa89e3c3e3c931fb4f1a97354476", func := "seisin/seisinlaw02.RelThen", spec := "relThen", unfollowed := true, recurses := true, named := ["math/bits.deBruijn64tab"], apart := false, laid := [("math/bits.deBruijn64tab", laid_math_bits_deBruijn64tab)] }
def RelThenSaid : Prop := relThenRow.holds Tryd.pinned (OpenSpec.ofChange relThenSpec)

/-- ITS FALSE NEIGHBOUR: 'it returns false'. Refute it at one input. -/
def relThenWrong : ChangeSpec := { name := "relThen", fn := fun _ => fun
  | [d1, d2, d3] => { results := [.lit (.bool false)], args := [d1, d2, d3] }
  | _ => none }
def RelThenWrongFalsely : Prop := relThenRow.holds Tryd.pinned (OpenSpec.ofChange relThenWrong)

/-- 'seisinlaw02.RelRing': WHATEVER THE INPUT: true; the input reads as it did. -/
def relRingSpec : ChangeSpec := { name := "relRing", fn := fun _ => fun
  | [d] => { results := [.lit (.bool true)], args := [d] }
  | _ => none }
def relRingRow : OpenClaim := { program := "ytknjdfgmejobfaadoor", sum := "3a970cd2823a4fcc1ed23fe2ea45b268249faa89e3c3e3c931fb4f1a97354476", func := "seisin/seisinlaw02.RelRing", spec := "relRing", unfollowed := true, recurses := true, named := ["math/bits.deBruijn64tab"], apart := false, laid := [("math/bits.deBruijn64tab", laid_math_bits_deBruijn64tab)] }
def RelRingSaid : Prop := relRingRow.holds Tryd.pinned (OpenSpec.ofChange relRingSpec)

/-- ITS FALSE NEIGHBOUR: 'it returns false'. Refute it at one input. -/
def relRingWrong : ChangeSpec := { name := "relRing", fn := fun _ => fun
  | [d] => { results := [.lit (.bool false)], args := [d] }
  | _ => none }
def RelRingWrongFalsely : Prop := relRingRow.holds Tryd.pinned (OpenSpec.ofChange relRingWrong)

/-- 'seisinlaw02.RelPlus': WHATEVER THE INPUT: true; the input reads as it did. -/
def relPlusSpec : ChangeSpec := { name := "relPlus", fn := fun _ => fun
  | [d1, d2] => { results := [.lit (.bool true)], args := [d1, d2] }
  | _ => none }
def relPlusRow : OpenClaim := { program := "ytknjdfgmejobfaadoor", sum := "3a970cd2823a4fcc1ed23fe2ea45b268249faa89e3c3e3c931fb4f1a97354476", func := "seisin/seisinlaw02.RelPlus", spec := "relPlus", unfollowed := true, recurses := true, named := ["math/bits.deBruijn64tab"], apart := false, laid := [("math/bits.deBruijn64tab", laid_math_bits_deBruijn64tab)] }
def RelPlusSaid : Prop := relPlusRow.holds Tryd.pinned (OpenSpec.ofChange relPlusSpec)

/-- ITS FALSE NEIGHBOUR: 'it returns false'. Refute it at one input. -/
def relPlusWrong : ChangeSpec := { name := "relPlus", fn := fun _ => fun
  | [d1, d2] => { results := [.lit (.bool false)], args := [d1, d2] }
  | _ => none }
def RelPlusWrongFalsely : Prop := relPlusRow.holds Tryd.pinned (OpenSpec.ofChange relPlusWrong)

/-- 'seisinlaw02.RelRounds': WHATEVER THE INPUT: true; the input reads as it did. -/
def relRoundsSpec : ChangeSpec := { name := "relRounds", fn := fun _ => fun
  | [d] => { results := [.lit (.bool true)], args := [d] }
  | _ => none }
def relRoundsRow : OpenClaim := { program := "ytknjdfgmejobfaadoor", sum := "3a970cd2823a4fcc1ed23fe2ea45b268249faa89e3c3e3c931fb4f1a97354476", func := "seisin/seisinlaw02.RelRounds", spec := "relRounds", unfollowed := true, recurses := true, named := ["math/bits.deBruijn64tab"], apart := false, laid := [("math/bits.deBruijn64tab", laid_math_bits_deBruijn64tab)] }
def RelRoundsSaid : Prop := relRoundsRow.holds Tryd.pinned (OpenSpec.ofChange relRoundsSpec)

/-- ITS FALSE NEIGHBOUR: 'it returns false'. Refute it at one input. -/
def relRoundsWrong : ChangeSpec := { name := "relRounds", fn := fun _ => fun
  | [d] => { results := [.lit (.bool false)], args := [d] }
  | _ => none }
def RelRoundsWrongFalsely : Prop := relRoundsRow.holds Tryd.pinned (OpenSpec.ofChange relRoundsWrong)

/-- 'seisinlaw02.RelCross': WHATEVER THE INPUT: true; the input reads as it did. -/
def relCrossSpec : ChangeSpec := { name := "relCross", fn := fun _ => fun
  | [d1, d2, d3, d4] => { results := [.lit (.bool true)], args := [d1, d2, d3, d4] }
  | _ => none }
def relCrossRow : OpenClaim := { program := "ytknjdfgmejobfaadoor", sum := "3a970cd2823a4fcc1ed23fe2ea45b268249faa89e3c3e3c931fb4f1a97354476", func := "seisin/seisinlaw02.RelCross", spec := "relCross", unfollowed := true, recurses := true, named := ["math/bits.deBruijn64tab"], apart := false, laid := [("math/bits.deBruijn64tab", laid_math_bits_deBruijn64tab)] }
def RelCrossSaid : Prop := relCrossRow.holds Tryd.pinned (OpenSpec.ofChange relCrossSpec)

/-- ITS FALSE NEIGHBOUR: 'it returns false'. Refute it at one input. -/
def relCrossWrong : ChangeSpec := { name := "relCross", fn := fun _ => fun
  | [d1, d2, d3, d4] => { results := [.lit (.bool false)], args := [d1, d2, d3, d4] }
  | _ => none }
def RelCrossWrongFalsely : Prop := relCrossRow.holds Tryd.pinned (OpenSpec.ofChange relCrossWrong)

/-- 'seisinlaw02.RelPairs': WHATEVER THE INPUT: true; the input reads as it did. -/
def relPairsSpec : ChangeSpec := { name := "relPairs", fn := fun _ => fun
  | [d1, d2, d3] => { results := [.lit (.bool true)], args := [d1, d2, d3] }
  | _ => none }
def relPairsRow : OpenClaim := { program := "ytknjdfgmejobfaadoor", sum := "3a970cd2823a4fcc1ed23fe2ea45b268249faa89e3c3e3c931fb4f1a97354476", func := "seisin/seisinlaw02.RelPairs", spec := "relPairs", unfollowed := true, recurses := true, named := ["math/bits.deBruijn64tab"], apart := false, laid := [("math/bits.deBruijn64tab", laid_math_bits_deBruijn64tab)] }
def RelPairsSaid : Prop := relPairsRow.holds Tryd.pinned (OpenSpec.ofChange relPairsSpec)

/-- ITS FALSE NEIGHBOUR: 'it returns false'. Refute it at one input. -/
def relPairsWrong : ChangeSpec := { name := "relPairs", fn := fun _ => fun
  | [d1, d2, d3] => { results := [.lit (.bool false)], args := [d1, d2, d3] }
  | _ => none }
def RelPairsWrongFalsely : Prop := relPairsRow.holds Tryd.pinned (OpenSpec.ofChange relPairsWrong)

/-- 'seisinlaw03.OrderTells': WHATEVER THE INPUT: true; the input reads as it did. -/
def orderTellsSpec : ChangeSpec := { name := "orderTells", fn := fun _ => fun
  | [d1, d2, d3, d4] => { results := [.lit (.bool true)], args := [d1, d2, d3, d4] }
  | _ => none }
def orderTellsRow : OpenClaim := { program := "ytknjdfgmejobfaadoor", sum := "3a970cd2823a4fcc1ed23fe2ea45b268249faa89e3c3e3c931fb4f1a97354476", func := "seisin/seisinlaw03.OrderTells", spec := "orderTells", unfollowed := true, recurses := true, named := ["math/bits.deBruijn64tab"], apart := false, laid := [("math/bits.deBruijn64tab", laid_math_bits_deBruijn64tab)] }
def OrderTellsSaid : Prop := orderTellsRow.holds Tryd.pinned (OpenSpec.ofChange orderTellsSpec)

/-- ITS FALSE NEIGHBOUR: 'it returns false'. Refute it at one input. -/
def orderTellsWrong : ChangeSpec := { name := "orderTells", fn := fun _ => fun
  | [d1, d2, d3, d4] => { results := [.lit (.bool false)], args := [d1, d2, d3, d4] }
  | _ => none }
def OrderTellsWrongFalsely : Prop := orderTellsRow.holds Tryd.pinned (OpenSpec.ofChange orderTellsWrong)

/-- 'seisinlaw03.OrderAll': WHATEVER THE INPUT: true; the input reads as it did. -/
def orderAllSpec : ChangeSpec := { name := "orderAll", fn := fun _ => fun
  | [d1, d2] => { results := [.lit (.bool true)], args := [d1, d2] }
  | _ => none }
def orderAllRow : OpenClaim := { program := "ytknjdfgmejobfaadoor", sum := "3a970cd2823a4fcc1ed23fe2ea45b268249faa89e3c3e3c931fb4f1a97354476", func := "seisin/seisinlaw03.OrderAll", spec := "orderAll", unfollowed := true, recurses := true, named := ["math/bits.deBruijn64tab"], apart := false, laid := [("math/bits.deBruijn64tab", laid_math_bits_deBruijn64tab)] }
def OrderAllSaid : Prop := orderAllRow.holds Tryd.pinned (OpenSpec.ofChange orderAllSpec)

/-- ITS FALSE NEIGHBOUR: 'it returns false'. Refute it at one input. -/
def orderAllWrong : ChangeSpec := { name := "orderAll", fn := fun _ => fun
  | [d1, d2] => { results := [.lit (.bool false)], args := [d1, d2] }
  | _ => none }
def OrderAllWrongFalsely : Prop := orderAllRow.holds Tryd.pinned (OpenSpec.ofChange orderAllWrong)

/-- 'seisinlaw03.OrderWrong': WHATEVER THE INPUT: true; the input reads as it did. -/
def orderWrongSpec : ChangeSpec := { name := "orderWrong", fn := fun _ => fun
  | [d1, d2, d3] => { results := [.lit (.bool true)], args := [d1, d2, d3] }
  | _ => none }
def orderWrongRow : OpenClaim := { program := "ytknjdfgmejobfaadoor", sum := "3a970cd2823a4fcc1ed23fe2ea45b268249faa89e3c3e3c931fb4f1a97354476", func := "seisin/seisinlaw03.OrderWrong", spec := "orderWrong", unfollowed := true, recurses := true, named := ["math/bits.deBruijn64tab"], apart := false, laid := [("math/bits.deBruijn64tab", laid_math_bits_deBruijn64tab)] }
def OrderWrongSaid : Prop := orderWrongRow.holds Tryd.pinned (OpenSpec.ofChange orderWrongSpec)

/-- ITS FALSE NEIGHBOUR: 'it returns false'. Refute it at one input. -/
def orderWrongWrong : ChangeSpec := { name := "orderWrong", fn := fun _ => fun
  | [d1, d2, d3] => { results := [.lit (.bool false)], args := [d1, d2, d3] }
  | _ => none }
def OrderWrongWrongFalsely : Prop := orderWrongRow.holds Tryd.pinned (OpenSpec.ofChange orderWrongWrong)

/-- 'seisinlaw02.RelTells': WHATEVER THE INPUT: true; the input reads as it did. -/
def relTellsSpec : ChangeSpec := { name := "relTells", fn := fun _ => fun
  | [d1, d2, d3, d4, d5, d6] => { results := [.lit (.bool true)], args := [d1, d2, d3, d4, d5, d6] }
  | _ => none }
def relTellsRow : OpenClaim := { program := "ytknjdfgmejobfaadoor", sum := "3a970cd2823a4fcc1ed23fe2ea45b268249faa89e3c3e3c931fb4f1a97354476", func := "seisin/seisinlaw02.RelTells", spec := "relTells", unfollowed := true, recurses := true, named := ["math/bits.deBruijn64tab"], apart := false, laid := [("math/bits.deBruijn64tab", laid_math_bits_deBruijn64tab)] }
def RelTellsSaid : Prop := relTellsRow.holds Tryd.pinned (OpenSpec.ofChange relTellsSpec)

/-- ITS FALSE NEIGHBOUR: 'it returns false'. Refute it at one input. -/
def relTellsWrong : ChangeSpec := { name := "relTells", fn := fun _ => fun
  | [d1, d2, d3, d4, d5, d6] => { results := [.lit (.bool false)], args := [d1, d2, d3, d4, d5, d6] }
  | _ => none }
def RelTellsWrongFalsely : Prop := relTellsRow.holds Tryd.pinned (OpenSpec.ofChange relTellsWrong)

/-- 'seisinlaw02.RelWrong': WHATEVER THE INPUT: true; the input reads as it did. -/
def relWrongSpec : ChangeSpec := { name := "relWrong", fn := fun _ => fun
  | [d1, d2, d3, d4] => { results := [.lit (.bool true)], args := [d1, d2, d3, d4] }
  | _ => none }
def relWrongRow : OpenClaim := { program := "ytknjdfgmejobfaadoor", sum := "3a970cd2823a4fcc1ed23fe2ea45b268249faa89e3c3e3c931fb4f1a97354476", func := "seisin/seisinlaw02.RelWrong", spec := "relWrong", unfollowed := true, recurses := true, named := ["math/bits.deBruijn64tab"], apart := false, laid := [("math/bits.deBruijn64tab", laid_math_bits_deBruijn64tab)] }
def RelWrongSaid : Prop := relWrongRow.holds Tryd.pinned (OpenSpec.ofChange relWrongSpec)

/-- ITS FALSE NEIGHBOUR: 'it returns false'. Refute it at one input. -/
def relWrongWrong : ChangeSpec := { name := "relWrong", fn := fun _ => fun
  | [d1, d2, d3, d4] => { results := [.lit (.bool false)], args := [d1, d2, d3, d4] }
  | _ => none }
def RelWrongWrongFalsely : Prop := relWrongRow.holds Tryd.pinned (OpenSpec.ofChange relWrongWrong)

/-- 'seisinlaw03.OrderTotal': WHATEVER THE INPUT: true; the input reads as it did. -/
def orderTotalSpec : ChangeSpec := { name := "orderTotal", fn := fun _ => fun
  | [d1, d2, d3] => { results := [.lit (.bool true)], args := [d1, d2, d3] }
  | _ => none }
def orderTotalRow : OpenClaim := { program := "ytknjdfgmejobfaadoor", sum := "3a970cd2823a4fcc1ed23fe2ea45b268249faa89e3c3e3c931fb4f1a97354476", func := "seisin/seisinlaw03.OrderTotal", spec := "orderTotal", unfollowed := true, recurses := true, named := ["math/bits.deBruijn64tab"], apart := false, laid := [("math/bits.deBruijn64tab", laid_math_bits_deBruijn64tab)] }
def OrderTotalSaid : Prop := orderTotalRow.holds Tryd.pinned (OpenSpec.ofChange orderTotalSpec)

/-- ITS FALSE NEIGHBOUR: 'it returns false'. Refute it at one input. -/
def orderTotalWrong : ChangeSpec := { name := "orderTotal", fn := fun _ => fun
  | [d1, d2, d3] => { results := [.lit (.bool false)], args := [d1, d2, d3] }
  | _ => none }
def OrderTotalWrongFalsely : Prop := orderTotalRow.holds Tryd.pinned (OpenSpec.ofChange orderTotalWrong)

/-- 'seisinlaw03.OrderCount': WHATEVER THE INPUT: true; the input reads as it did. -/
def orderCountSpec : ChangeSpec := { name := "orderCount", fn := fun _ => fun
  | [d1, d2, d3] => { results := [.lit (.bool true)], args := [d1, d2, d3] }
  | _ => none }
def orderCountRow : OpenClaim := { program := "ytknjdfgmejobfaadoor", sum := "3a970cd2823a4fcc1ed23fe2ea45b268249faa89e3c3e3c931fb4f1a97354476", func := "seisin/seisinlaw03.OrderCount", spec := "orderCount", unfollowed := true, recurses := true, named := ["math/bits.deBruijn64tab"], apart := false, laid := [("math/bits.deBruijn64tab", laid_math_bits_deBruijn64tab)] }
def OrderCountSaid : Prop := orderCountRow.holds Tryd.pinned (OpenSpec.ofChange orderCountSpec)

/-- ITS FALSE NEIGHBOUR: 'it returns false'. Refute it at one input. -/
def orderCountWrong : ChangeSpec := { name := "orderCount", fn := fun _ => fun
  | [d1, d2, d3] => { results := [.lit (.bool false)], args := [d1, d2, d3] }
  | _ => none }
def OrderCountWrongFalsely : Prop := orderCountRow.holds Tryd.pinned (OpenSpec.ofChange orderCountWrong)

/-- 'seisinlaw03.OrderCommon': WHATEVER THE INPUT: true; the input reads as it did. -/
def orderCommonSpec : ChangeSpec := { name := "orderCommon", fn := fun _ => fun
  | [d] => { results := [.lit (.bool true)], args := [d] }
  | _ => none }
def orderCommonRow : OpenClaim := { program := "ytknjdfgmejobfaadoor", sum := "3a970cd2823a4fcc1ed23fe2ea45b268249faa89e3c3e3c931fb4f1a97354476", func := "seisin/seisinlaw03.OrderCommon", spec := "orderCommon", unfollowed := true, recurses := true, named := ["math/bits.deBruijn64tab"], apart := false, laid := [("math/bits.deBruijn64tab", laid_math_bits_deBruijn64tab)] }
def OrderCommonSaid : Prop := orderCommonRow.holds Tryd.pinned (OpenSpec.ofChange orderCommonSpec)

/-- ITS FALSE NEIGHBOUR: 'it returns false'. Refute it at one input. -/
def orderCommonWrong : ChangeSpec := { name := "orderCommon", fn := fun _ => fun
  | [d] => { results := [.lit (.bool false)], args := [d] }
  | _ => none }
def OrderCommonWrongFalsely : Prop := orderCommonRow.holds Tryd.pinned (OpenSpec.ofChange orderCommonWrong)

/- THE SECOND FORM. 'bulk': how many values and letters a reading holds, each counted each time it is reached (what is shared counts as often as it is met; a slice's spare places count too). A statement '..UptoSaid' is the law's where the arguments, and the package variables that the reading takes, are together of bulk at most 1048576: NARROWER than '..Said'. Prove '..Said' where nothing that the law and all that it calls make is longer than what came in: it says more and counts as full. Else prove '..UptoSaid'. A law counts once. -/
mutual
def uptoBulk {H : Type} : DataW H → Nat
  | .lit (.string bytes) => bytes.length + 1
  | .lit _ => 1
  | .nil => 1
  | .ptr d => uptoBulk d + 1
  | .slice elems spare => uptoBulkAll elems + uptoBulkAll spare + 1
  | .agg parts => uptoBulkAll parts + 1
  | .iface _ d => uptoBulk d + 1
  | .map entries => uptoBulkEntries entries + 1
  | .held _ => 1
def uptoBulkAll {H : Type} : List (DataW H) → Nat
  | [] => 0
  | d :: r => uptoBulk d + uptoBulkAll r
def uptoBulkEntries {H : Type} : List (Lit × DataW H) → Nat
  | [] => 0
  | x :: r => uptoBulkEntry x + uptoBulkEntries r
def uptoBulkEntry {H : Type} : Lit × DataW H → Nat
  | (.string bytes, d) => bytes.length + uptoBulk d + 1
  | (_, d) => uptoBulk d + 1
 end
def uptoSmall : (H : Type) → List (DataW H) → Bool := fun _ ds => decide (uptoBulkAll ds ≤ 1048576)
def OpenSpec.upto (s : _root_.Go.ChangeSpec) : _root_.Go.OpenSpec := { _root_.Go.OpenSpec.ofChange s with cond := some uptoSmall }

/-- 'seisinlaw02.RelThen', WHERE WHAT IT READS IS OF BULK AT MOST 1048576: true; the input reads as it did. -/
def relThenUptoRow : OpenClaim := { program := "ytknjdfgmejobfaadoor", sum := "3a970cd2823a4fcc1ed23fe2ea45b268249faa89e3c3e3c931fb4f1a97354476", func := "seisin/seisinlaw02.RelThen", spec := "relThen", unfollowed := true, recurses := true, named := ["math/bits.deBruijn64tab"], apart := false, laid := [("math/bits.deBruijn64tab", laid_math_bits_deBruijn64tab)], narrowed := true }
def RelThenUptoSaid : Prop := relThenUptoRow.holds Tryd.pinned (OpenSpec.upto relThenSpec)

/-- 'seisinlaw02.RelRing', WHERE WHAT IT READS IS OF BULK AT MOST 1048576: true; the input reads as it did. -/
def relRingUptoRow : OpenClaim := { program := "ytknjdfgmejobfaadoor", sum := "3a970cd2823a4fcc1ed23fe2ea45b268249faa89e3c3e3c931fb4f1a97354476", func := "seisin/seisinlaw02.RelRing", spec := "relRing", unfollowed := true, recurses := true, named := ["math/bits.deBruijn64tab"], apart := false, laid := [("math/bits.deBruijn64tab", laid_math_bits_deBruijn64tab)], narrowed := true }
def RelRingUptoSaid : Prop := relRingUptoRow.holds Tryd.pinned (OpenSpec.upto relRingSpec)

/-- 'seisinlaw02.RelPlus', WHERE WHAT IT READS IS OF BULK AT MOST 1048576: true; the input reads as it did. -/
def relPlusUptoRow : OpenClaim := { program := "ytknjdfgmejobfaadoor", sum := "3a970cd2823a4fcc1ed23fe2ea45b268249faa89e3c3e3c931fb4f1a97354476", func := "seisin/seisinlaw02.RelPlus", spec := "relPlus", unfollowed := true, recurses := true, named := ["math/bits.deBruijn64tab"], apart := false, laid := [("math/bits.deBruijn64tab", laid_math_bits_deBruijn64tab)], narrowed := true }
def RelPlusUptoSaid : Prop := relPlusUptoRow.holds Tryd.pinned (OpenSpec.upto relPlusSpec)

/-- 'seisinlaw02.RelRounds', WHERE WHAT IT READS IS OF BULK AT MOST 1048576: true; the input reads as it did. -/
def relRoundsUptoRow : OpenClaim := { program := "ytknjdfgmejobfaadoor", sum := "3a970cd2823a4fcc1ed23fe2ea45b268249faa89e3c3e3c931fb4f1a97354476", func := "seisin/seisinlaw02.RelRounds", spec := "relRounds", unfollowed := true, recurses := true, named := ["math/bits.deBruijn64tab"], apart := false, laid := [("math/bits.deBruijn64tab", laid_math_bits_deBruijn64tab)], narrowed := true }
def RelRoundsUptoSaid : Prop := relRoundsUptoRow.holds Tryd.pinned (OpenSpec.upto relRoundsSpec)

/-- 'seisinlaw02.RelCross', WHERE WHAT IT READS IS OF BULK AT MOST 1048576: true; the input reads as it did. -/
def relCrossUptoRow : OpenClaim := { program := "ytknjdfgmejobfaadoor", sum := "3a970cd2823a4fcc1ed23fe2ea45b268249faa89e3c3e3c931fb4f1a97354476", func := "seisin/seisinlaw02.RelCross", spec := "relCross", unfollowed := true, recurses := true, named := ["math/bits.deBruijn64tab"], apart := false, laid := [("math/bits.deBruijn64tab", laid_math_bits_deBruijn64tab)], narrowed := true }
def RelCrossUptoSaid : Prop := relCrossUptoRow.holds Tryd.pinned (OpenSpec.upto relCrossSpec)

/-- 'seisinlaw02.RelPairs', WHERE WHAT IT READS IS OF BULK AT MOST 1048576: true; the input reads as it did. -/
def relPairsUptoRow : OpenClaim := { program := "ytknjdfgmejobfaadoor", sum := "3a970cd2823a4fcc1ed23fe2ea45b268249faa89e3c3e3c931fb4f1a97354476", func := "seisin/seisinlaw02.RelPairs", spec := "relPairs", unfollowed := true, recurses := true, named := ["math/bits.deBruijn64tab"], apart := false, laid := [("math/bits.deBruijn64tab", laid_math_bits_deBruijn64tab)], narrowed := true }
def RelPairsUptoSaid : Prop := relPairsUptoRow.holds Tryd.pinned (OpenSpec.upto relPairsSpec)

/-- 'seisinlaw03.OrderTells', WHERE WHAT IT READS IS OF BULK AT MOST 1048576: true; the input reads as it did. -/
def orderTellsUptoRow : OpenClaim := { program := "ytknjdfgmejobfaadoor", sum := "3a970cd2823a4fcc1ed23fe2ea45b268249faa89e3c3e3c931fb4f1a97354476", func := "seisin/seisinlaw03.OrderTells", spec := "orderTells", unfollowed := true, recurses := true, named := ["math/bits.deBruijn64tab"], apart := false, laid := [("math/bits.deBruijn64tab", laid_math_bits_deBruijn64tab)], narrowed := true }
def OrderTellsUptoSaid : Prop := orderTellsUptoRow.holds Tryd.pinned (OpenSpec.upto orderTellsSpec)

/-- 'seisinlaw03.OrderAll', WHERE WHAT IT READS IS OF BULK AT MOST 1048576: true; the input reads as it did. -/
def orderAllUptoRow : OpenClaim := { program := "ytknjdfgmejobfaadoor", sum := "3a970cd2823a4fcc1ed23fe2ea45b268249faa89e3c3e3c931fb4f1a97354476", func := "seisin/seisinlaw03.OrderAll", spec := "orderAll", unfollowed := true, recurses := true, named := ["math/bits.deBruijn64tab"], apart := false, laid := [("math/bits.deBruijn64tab", laid_math_bits_deBruijn64tab)], narrowed := true }
def OrderAllUptoSaid : Prop := orderAllUptoRow.holds Tryd.pinned (OpenSpec.upto orderAllSpec)

/-- 'seisinlaw03.OrderWrong', WHERE WHAT IT READS IS OF BULK AT MOST 1048576: true; the input reads as it did. -/
def orderWrongUptoRow : OpenClaim := { program := "ytknjdfgmejobfaadoor", sum := "3a970cd2823a4fcc1ed23fe2ea45b268249faa89e3c3e3c931fb4f1a97354476", func := "seisin/seisinlaw03.OrderWrong", spec := "orderWrong", unfollowed := true, recurses := true, named := ["math/bits.deBruijn64tab"], apart := false, laid := [("math/bits.deBruijn64tab", laid_math_bits_deBruijn64tab)], narrowed := true }
def OrderWrongUptoSaid : Prop := orderWrongUptoRow.holds Tryd.pinned (OpenSpec.upto orderWrongSpec)

/-- 'seisinlaw02.RelTells', WHERE WHAT IT READS IS OF BULK AT MOST 1048576: true; the input reads as it did. -/
def relTellsUptoRow : OpenClaim := { program := "ytknjdfgmejobfaadoor", sum := "3a970cd2823a4fcc1ed23fe2ea45b268249faa89e3c3e3c931fb4f1a97354476", func := "seisin/seisinlaw02.RelTells", spec := "relTells", unfollowed := true, recurses := true, named := ["math/bits.deBruijn64tab"], apart := false, laid := [("math/bits.deBruijn64tab", laid_math_bits_deBruijn64tab)], narrowed := true }
def RelTellsUptoSaid : Prop := relTellsUptoRow.holds Tryd.pinned (OpenSpec.upto relTellsSpec)

/-- 'seisinlaw02.RelWrong', WHERE WHAT IT READS IS OF BULK AT MOST 1048576: true; the input reads as it did. -/
def relWrongUptoRow : OpenClaim := { program := "ytknjdfgmejobfaadoor", sum := "3a970cd2823a4fcc1ed23fe2ea45b268249faa89e3c3e3c931fb4f1a97354476", func := "seisin/seisinlaw02.RelWrong", spec := "relWrong", unfollowed := true, recurses := true, named := ["math/bits.deBruijn64tab"], apart := false, laid := [("math/bits.deBruijn64tab", laid_math_bits_deBruijn64tab)], narrowed := true }
def RelWrongUptoSaid : Prop := relWrongUptoRow.holds Tryd.pinned (OpenSpec.upto relWrongSpec)

/-- 'seisinlaw03.OrderTotal', WHERE WHAT IT READS IS OF BULK AT MOST 1048576: true; the input reads as it did. -/
def orderTotalUptoRow : OpenClaim := { program := "ytknjdfgmejobfaadoor", sum := "3a970cd2823a4fcc1ed23fe2ea45b268249faa89e3c3e3c931fb4f1a97354476", func := "seisin/seisinlaw03.OrderTotal", spec := "orderTotal", unfollowed := true, recurses := true, named := ["math/bits.deBruijn64tab"], apart := false, laid := [("math/bits.deBruijn64tab", laid_math_bits_deBruijn64tab)], narrowed := true }
def OrderTotalUptoSaid : Prop := orderTotalUptoRow.holds Tryd.pinned (OpenSpec.upto orderTotalSpec)

/-- 'seisinlaw03.OrderCount', WHERE WHAT IT READS IS OF BULK AT MOST 1048576: true; the input reads as it did. -/
def orderCountUptoRow : OpenClaim := { program := "ytknjdfgmejobfaadoor", sum := "3a970cd2823a4fcc1ed23fe2ea45b268249faa89e3c3e3c931fb4f1a97354476", func := "seisin/seisinlaw03.OrderCount", spec := "orderCount", unfollowed := true, recurses := true, named := ["math/bits.deBruijn64tab"], apart := false, laid := [("math/bits.deBruijn64tab", laid_math_bits_deBruijn64tab)], narrowed := true }
def OrderCountUptoSaid : Prop := orderCountUptoRow.holds Tryd.pinned (OpenSpec.upto orderCountSpec)

/-- 'seisinlaw03.OrderCommon', WHERE WHAT IT READS IS OF BULK AT MOST 1048576: true; the input reads as it did. -/
def orderCommonUptoRow : OpenClaim := { program := "ytknjdfgmejobfaadoor", sum := "3a970cd2823a4fcc1ed23fe2ea45b268249faa89e3c3e3c931fb4f1a97354476", func := "seisin/seisinlaw03.OrderCommon", spec := "orderCommon", unfollowed := true, recurses := true, named := ["math/bits.deBruijn64tab"], apart := false, laid := [("math/bits.deBruijn64tab", laid_math_bits_deBruijn64tab)], narrowed := true }
def OrderCommonUptoSaid : Prop := orderCommonUptoRow.holds Tryd.pinned (OpenSpec.upto orderCommonSpec)

end Rows
end Go.Proofs.YtknjdfgmejobfaaDoor
