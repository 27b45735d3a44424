/-
  NARROWER THAN 'FOR EVERY INPUT', by the rows' own cells (each row's printed sentence says how): ViewMakes: laid · ViewOrder: laid · ViewTold: laid · ViewTells: laid · ViewCleared: laid · ViewEnds: laid.
  DERIVED. THE GIVEN ROWS OF THIS SEAT. 6 by the template 'for every input the law returns true; each argument reads behind the call as it read before'; 0 by the template 'total and deterministic' (their statements: YtjijgncahonfhaaDoorTotals.lean).
  GIVEN WITH THE SEED: the statements are not yours to turn. If you find one false, say at which input.
  Laid BY PROGRAM, IN A SANDBOX (cutbox-rows.mjs): the forced cells as the released guide's own fill.sh prints them over the translation fcdecc94d0bd7a88… (all of the seat's roots in one cut). By AI agents, Wed Nov 11 2026. No macro, syntax, notation, axiom, sorry.
-/
import Derived.Test.YtjijgncahonfhaaDoorChecked
import GoSem.Claim
import GoSem.ClaimJoined
import GoSem.ClaimMapViews
import Derived.JoinedTies
import Derived.KernelRfl
namespace Go.Proofs.YtjijgncahonfhaaDoor
/- THE CELL 'sum', in the pinned program and in every row, IS THE sha256 OF THE DUMP (.gsa) THAT YtjijgncahonfhaaDoorProg.lean LOADS. Nothing in Lean hashes anything: it is a label: what it is worth is what the hold of that sum in a sandbox is worth. -/
noncomputable def Tryd.pinned : Pinned := { name := "ytjijgncahonfhaadoor", sum := "fcdecc94d0bd7a88b32def5aec9c314a700ad0dc1d930b1f31283ad4660d6caf", checked := Tryd.checked }
namespace Rows
def none {H : Type} : Left H := { results := [], args := [] }

/- WHAT THE LISTED PACKAGE-LEVEL VARIABLES READ AS WHEN THE CALL BEGINS. Each datum BY PROGRAM (the guide's laid-datum.mjs) off the statement by which the dump's own 'gosem.cut.vars' lays the variable. In a bare row this is a premise. The card (YtjijgncahonfhaaDoorCards.lean) ties it to the program's text. -/
def laid_math_bits_deBruijn64tab {H : Type} : DataW H := .agg [.lit (.int .u8 0), .lit (.int .u8 1), .lit (.int .u8 56), .lit (.int .u8 2), .lit (.int .u8 57), .lit (.int .u8 49), .lit (.int .u8 28), .lit (.int .u8 3), .lit (.int .u8 61), .lit (.int .u8 58), .lit (.int .u8 42), .lit (.int .u8 50), .lit (.int .u8 38), .lit (.int .u8 29), .lit (.int .u8 17), .lit (.int .u8 4), .lit (.int .u8 62), .lit (.int .u8 47), .lit (.int .u8 59), .lit (.int .u8 36), .lit (.int .u8 45), .lit (.int .u8 43), .lit (.int .u8 51), .lit (.int .u8 22), .lit (.int .u8 53), .lit (.int .u8 39), .lit (.int .u8 33), .lit (.int .u8 30), .lit (.int .u8 24), .lit (.int .u8 18), .lit (.int .u8 12), .lit (.int .u8 5), .lit (.int .u8 63), .lit (.int .u8 55), .lit (.int .u8 48), .lit (.int .u8 27), .lit (.int .u8 60), .lit (.int .u8 41), .lit (.int .u8 37), .lit (.int .u8 16), .lit (.int .u8 46), .lit (.int .u8 35), .lit (.int .u8 44), .lit (.int .u8 21), .lit (.int .u8 52), .lit (.int .u8 32), .lit (.int .u8 23), .lit (.int .u8 11), .lit (.int .u8 54), .lit (.int .u8 26), .lit (.int .u8 40), .lit (.int .u8 15), .lit (.int .u8 34), .lit (.int .u8 20), .lit (.int .u8 31), .lit (.int .u8 10), .lit (.int .u8 25), .lit (.int .u8 14), .lit (.int .u8 19), .lit (.int .u8 9), .lit (.int .u8 13), .lit (.int .u8 8), .lit (.int .u8 7), .lit (.int .u8 6)]

/-- 'seisinlaw19.ViewMakes': WHATEVER THE INPUT: true; the input reads as it did. -/
def viewMakesSpec : ChangeSpec := { name := "viewMakes", fn := fun _ => fun
  | [d1, d2, d3] => { results := [.lit (.bool true)], args := [d1, d2, d3] }
  | _ => none }
def viewMakesRow : OpenClaim := { program := "ytjijgncahonfhaadoor", sum := "fcdecc94d0bd7a88b32def5aec9c314a700ad0dc1d930b1f31283ad4660d6caf", func := "seisin/seisinlaw19.ViewMakes", spec := "viewMakes", unfollowed := true, recurses := true, named := ["math/bits.deBruijn64tab"], apart := false, laid := [("math/bits.deBruijn64tab", laid_math_bits_deBruijn64tab)] }
def ViewMakesSaid : Prop := viewMakesRow.holds Tryd.pinned (OpenSpec.ofChange viewMakesSpec)

/-- ITS FALSE NEIGHBOUR: 'it returns false'. Refute it at one input. -/
def viewMakesWrong : ChangeSpec := { name := "viewMakes", fn := fun _ => fun
  | [d1, d2, d3] => { results := [.lit (.bool false)], args := [d1, d2, d3] }
  | _ => none }
def ViewMakesWrongFalsely : Prop := viewMakesRow.holds Tryd.pinned (OpenSpec.ofChange viewMakesWrong)

/-- 'seisinlaw19.ViewOrder': WHATEVER THE INPUT: true; the input reads as it did. -/
def viewOrderSpec : ChangeSpec := { name := "viewOrder", fn := fun _ => fun
  | [d1, d2, d3, d4] => { results := [.lit (.bool true)], args := [d1, d2, d3, d4] }
  | _ => none }
def viewOrderRow : OpenClaim := { program := "ytjijgncahonfhaadoor", sum := "fcdecc94d0bd7a88b32def5aec9c314a700ad0dc1d930b1f31283ad4660d6caf", func := "seisin/seisinlaw19.ViewOrder", spec := "viewOrder", unfollowed := true, recurses := true, named := ["math/bits.deBruijn64tab"], apart := false, laid := [("math/bits.deBruijn64tab", laid_math_bits_deBruijn64tab)] }
def ViewOrderSaid : Prop := viewOrderRow.holds Tryd.pinned (OpenSpec.ofChange viewOrderSpec)

/-- ITS FALSE NEIGHBOUR: 'it returns false'. Refute it at one input. -/
def viewOrderWrong : ChangeSpec := { name := "viewOrder", fn := fun _ => fun
  | [d1, d2, d3, d4] => { results := [.lit (.bool false)], args := [d1, d2, d3, d4] }
  | _ => none }
def ViewOrderWrongFalsely : Prop := viewOrderRow.holds Tryd.pinned (OpenSpec.ofChange viewOrderWrong)

/-- 'seisinlaw19.ViewTold': WHATEVER THE INPUT: true; the input reads as it did. -/
def viewToldSpec : ChangeSpec := { name := "viewTold", fn := fun _ => fun
  | [d1, d2, d3] => { results := [.lit (.bool true)], args := [d1, d2, d3] }
  | _ => none }
def viewToldRow : OpenClaim := { program := "ytjijgncahonfhaadoor", sum := "fcdecc94d0bd7a88b32def5aec9c314a700ad0dc1d930b1f31283ad4660d6caf", func := "seisin/seisinlaw19.ViewTold", spec := "viewTold", unfollowed := true, recurses := true, named := ["math/bits.deBruijn64tab"], apart := false, laid := [("math/bits.deBruijn64tab", laid_math_bits_deBruijn64tab)] }
def ViewToldSaid : Prop := viewToldRow.holds Tryd.pinned (OpenSpec.ofChange viewToldSpec)

/-- ITS FALSE NEIGHBOUR: 'it returns false'. Refute it at one input. -/
def viewToldWrong : ChangeSpec := { name := "viewTold", fn := fun _ => fun
  | [d1, d2, d3] => { results := [.lit (.bool false)], args := [d1, d2, d3] }
  | _ => none }
def ViewToldWrongFalsely : Prop := viewToldRow.holds Tryd.pinned (OpenSpec.ofChange viewToldWrong)

/-- 'seisinlaw19.ViewTells': WHATEVER THE INPUT: true; the input reads as it did. -/
def viewTellsSpec : ChangeSpec := { name := "viewTells", fn := fun _ => fun
  | [d1, d2, d3] => { results := [.lit (.bool true)], args := [d1, d2, d3] }
  | _ => none }
def viewTellsRow : OpenClaim := { program := "ytjijgncahonfhaadoor", sum := "fcdecc94d0bd7a88b32def5aec9c314a700ad0dc1d930b1f31283ad4660d6caf", func := "seisin/seisinlaw19.ViewTells", spec := "viewTells", unfollowed := true, recurses := true, named := ["math/bits.deBruijn64tab"], apart := false, laid := [("math/bits.deBruijn64tab", laid_math_bits_deBruijn64tab)] }
def ViewTellsSaid : Prop := viewTellsRow.holds Tryd.pinned (OpenSpec.ofChange viewTellsSpec)

/-- ITS FALSE NEIGHBOUR: 'it returns false'. Refute it at one input. -/
def viewTellsWrong : ChangeSpec := { name := "viewTells", fn := fun _ => fun
  | [d1, d2, d3] => { results := [.lit (.bool false)], args := [d1, d2, d3] }
  | _ => none }
def ViewTellsWrongFalsely : Prop := viewTellsRow.holds Tryd.pinned (OpenSpec.ofChange viewTellsWrong)

/-- 'seisinlaw19.ViewCleared': WHATEVER THE INPUT: true; the input reads as it did. -/
def viewClearedSpec : ChangeSpec := { name := "viewCleared", fn := fun _ => fun
  | [d1, d2, d3] => { results := [.lit (.bool true)], args := [d1, d2, d3] }
  | _ => none }
def viewClearedRow : OpenClaim := { program := "ytjijgncahonfhaadoor", sum := "fcdecc94d0bd7a88b32def5aec9c314a700ad0dc1d930b1f31283ad4660d6caf", func := "seisin/seisinlaw19.ViewCleared", spec := "viewCleared", unfollowed := true, recurses := true, named := ["math/bits.deBruijn64tab"], apart := false, laid := [("math/bits.deBruijn64tab", laid_math_bits_deBruijn64tab)] }
def ViewClearedSaid : Prop := viewClearedRow.holds Tryd.pinned (OpenSpec.ofChange viewClearedSpec)

/-- ITS FALSE NEIGHBOUR: 'it returns false'. Refute it at one input. -/
def viewClearedWrong : ChangeSpec := { name := "viewCleared", fn := fun _ => fun
  | [d1, d2, d3] => { results := [.lit (.bool false)], args := [d1, d2, d3] }
  | _ => none }
def ViewClearedWrongFalsely : Prop := viewClearedRow.holds Tryd.pinned (OpenSpec.ofChange viewClearedWrong)

/-- 'seisinlaw19.ViewEnds': WHATEVER THE INPUT: true; the input reads as it did. -/
def viewEndsSpec : ChangeSpec := { name := "viewEnds", fn := fun _ => fun
  | [] => { results := [.lit (.bool true)], args := [] }
  | _ => none }
def viewEndsRow : OpenClaim := { program := "ytjijgncahonfhaadoor", sum := "fcdecc94d0bd7a88b32def5aec9c314a700ad0dc1d930b1f31283ad4660d6caf", func := "seisin/seisinlaw19.ViewEnds", spec := "viewEnds", unfollowed := true, recurses := true, named := ["math/bits.deBruijn64tab"], apart := false, laid := [("math/bits.deBruijn64tab", laid_math_bits_deBruijn64tab)] }
def ViewEndsSaid : Prop := viewEndsRow.holds Tryd.pinned (OpenSpec.ofChange viewEndsSpec)

/-- ITS FALSE NEIGHBOUR: 'it returns false'. Refute it at one input. -/
def viewEndsWrong : ChangeSpec := { name := "viewEnds", fn := fun _ => fun
  | [] => { results := [.lit (.bool false)], args := [] }
  | _ => none }
def ViewEndsWrongFalsely : Prop := viewEndsRow.holds Tryd.pinned (OpenSpec.ofChange viewEndsWrong)

/- THE SECOND FORM. 'bulk': how many values and letters a reading holds, each counted each time it is reached (what is shared counts as often as it is met; a slice's spare places count too). A statement '..UptoSaid' is the law's where the arguments, and the package variables that the reading takes, are together of bulk at most 1048576: NARROWER than '..Said'. Prove '..Said' where nothing that the law and all that it calls make is longer than what came in: it says more and counts as full. Else prove '..UptoSaid'. A law counts once. -/
mutual
def uptoBulk {H : Type} : DataW H → Nat
  | .lit (.string bytes) => bytes.length + 1
  | .lit _ => 1
  | .nil => 1
  | .ptr d => uptoBulk d + 1
  | .slice elems spare => uptoBulkAll elems + uptoBulkAll spare + 1
  | .agg parts => uptoBulkAll parts + 1
  | .iface _ d => uptoBulk d + 1
  | .map entries => uptoBulkEntries entries + 1
  | .held _ => 1
def uptoBulkAll {H : Type} : List (DataW H) → Nat
  | [] => 0
  | d :: r => uptoBulk d + uptoBulkAll r
def uptoBulkEntries {H : Type} : List (Lit × DataW H) → Nat
  | [] => 0
  | x :: r => uptoBulkEntry x + uptoBulkEntries r
def uptoBulkEntry {H : Type} : Lit × DataW H → Nat
  | (.string bytes, d) => bytes.length + uptoBulk d + 1
  | (_, d) => uptoBulk d + 1
 end
def uptoSmall : (H : Type) → List (DataW H) → Bool := fun _ ds => decide (uptoBulkAll ds ≤ 1048576)
def OpenSpec.upto (s : _root_.Go.ChangeSpec) : _root_.Go.OpenSpec := { _root_.Go.OpenSpec.ofChange s with cond := some uptoSmall }

/-- 'seisinlaw19.ViewMakes', WHERE WHAT IT READS IS OF BULK AT MOST 1048576: true; the input reads as it did. -/
def viewMakesUptoRow : OpenClaim := { program := "ytjijgncahonfhaadoor", sum := "fcdecc94d0bd7a88b32def5aec9c314a700ad0dc1d930b1f31283ad4660d6caf", func := "seisin/seisinlaw19.ViewMakes", spec := "viewMakes", unfollowed := true, recurses := true, named := ["math/bits.deBruijn64tab"], apart := false, laid := [("math/bits.deBruijn64tab", laid_math_bits_deBruijn64tab)], narrowed := true }
def ViewMakesUptoSaid : Prop := viewMakesUptoRow.holds Tryd.pinned (OpenSpec.upto viewMakesSpec)

/-- 'seisinlaw19.ViewOrder', WHERE WHAT IT READS IS OF BULK AT MOST 1048576: true; the input reads as it did. -/
def viewOrderUptoRow : OpenClaim := { program := "ytjijgncahonfhaadoor", sum := "fcdecc94d0bd7a88b32def5aec9c314a700ad0dc1d930b1f31283ad4660d6caf", func := "seisin/seisinlaw19.ViewOrder", spec := "viewOrder", unfollowed := true, recurses := true, named := ["math/bits.deBruijn64tab"], apart := false, laid := [("math/bits.deBruijn64tab", laid_math_bits_deBruijn64tab)], narrowed := true }
def ViewOrderUptoSaid : Prop := viewOrderUptoRow.holds Tryd.pinned (OpenSpec.upto viewOrderSpec)

/-- 'seisinlaw19.ViewTold', WHERE WHAT IT READS IS OF BULK AT MOST 1048576: true; the input reads as it did. -/
def viewToldUptoRow : OpenClaim := { program := "ytjijgncahonfhaadoor", sum := "fcdecc94d0bd7a88b32def5aec9c314a700ad0dc1d930b1f31283ad4660d6caf", func := "seisin/seisinlaw19.ViewTold", spec := "viewTold", unfollowed := true, recurses := true, named := ["math/bits.deBruijn64tab"], apart := false, laid := [("math/bits.deBruijn64tab", laid_math_bits_deBruijn64tab)], narrowed := true }
def ViewToldUptoSaid : Prop := viewToldUptoRow.holds Tryd.pinned (OpenSpec.upto viewToldSpec)

/-- 'seisinlaw19.ViewTells', WHERE WHAT IT READS IS OF BULK AT MOST 1048576: true; the input reads as it did. -/
def viewTellsUptoRow : OpenClaim := { program := "ytjijgncahonfhaadoor", sum := "fcdecc94d0bd7a88b32def5aec9c314a700ad0dc1d930b1f31283ad4660d6caf", func := "seisin/seisinlaw19.ViewTells", spec := "viewTells", unfollowed := true, recurses := true, named := ["math/bits.deBruijn64tab"], apart := false, laid := [("math/bits.deBruijn64tab", laid_math_bits_deBruijn64tab)], narrowed := true }
def ViewTellsUptoSaid : Prop := viewTellsUptoRow.holds Tryd.pinned (OpenSpec.upto viewTellsSpec)

/-- 'seisinlaw19.ViewCleared', WHERE WHAT IT READS IS OF BULK AT MOST 1048576: true; the input reads as it did. -/
def viewClearedUptoRow : OpenClaim := { program := "ytjijgncahonfhaadoor", sum := "fcdecc94d0bd7a88b32def5aec9c314a700ad0dc1d930b1f31283ad4660d6caf", func := "seisin/seisinlaw19.ViewCleared", spec := "viewCleared", unfollowed := true, recurses := true, named := ["math/bits.deBruijn64tab"], apart := false, laid := [("math/bits.deBruijn64tab", laid_math_bits_deBruijn64tab)], narrowed := true }
def ViewClearedUptoSaid : Prop := viewClearedUptoRow.holds Tryd.pinned (OpenSpec.upto viewClearedSpec)

/-- 'seisinlaw19.ViewEnds', WHERE WHAT IT READS IS OF BULK AT MOST 1048576: true; the input reads as it did. -/
def viewEndsUptoRow : OpenClaim := { program := "ytjijgncahonfhaadoor", sum := "fcdecc94d0bd7a88b32def5aec9c314a700ad0dc1d930b1f31283ad4660d6caf", func := "seisin/seisinlaw19.ViewEnds", spec := "viewEnds", unfollowed := true, recurses := true, named := ["math/bits.deBruijn64tab"], apart := false, laid := [("math/bits.deBruijn64tab", laid_math_bits_deBruijn64tab)], narrowed := true }
def ViewEndsUptoSaid : Prop := viewEndsUptoRow.holds Tryd.pinned (OpenSpec.upto viewEndsSpec)

end Rows
end Go.Proofs.YtjijgncahonfhaaDoor
