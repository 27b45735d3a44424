/- what every card of this seat needs: the table, a world for the witness. -/
import Derived.Test.YtknjdfgmejobfaaDoorCards
import Derived.Test.YtknjdfgmejobfaaDoorTie
import Derived.Test.YtknjdfgmejobfaaDoorNb
import Derived.ProofKit
import Derived.OpenShut
import Derived.Deep.DeepHandedRow
import Derived.Lib.LaidTab
import Derived.Lib.SmallJoins
namespace Go.Proofs.YtknjdfgmejobfaaDoor
open Go.ChangeShapes Go.WideShapes Go.ChangeAt Go.RowKit

theorem own : ownKnob Tryd.prog.godebug = none := by kernel_rfl
theorem gTab : Tryd.prog.globalNamed "math/bits.deBruijn64tab" = some 0 := by kernel_rfl
theorem gTabType : (Tryd.prog.globals[0]?).map (·.type) = some 115 := by kernel_rfl
theorem cellsTab : Tryd.prog.cellsOf 115 = 64 := by kernel_rfl
theorem cellsU8 : Tryd.prog.cellsOf 5 = 1 := by kernel_rfl

def zsTab : List Int := Lib.deBruijn64tab.map (fun n : Nat => (n : Int))
theorem zsTab_get : ∀ i, i < 64 → zsTab.getD i 0 = (Lib.deBruijn64tab.getD i 0 : Nat) := by decide +kernel

/-- what the rows' list gives: the table's cells -/
theorem tab_of {W : World} (h : laidMetH Tryd.prog [("math/bits.deBruijn64tab", Rows.laid_math_bits_deBruijn64tab)] W) : Tab W := by
  have hT : Lib.TabIs Tryd.prog W "math/bits.deBruijn64tab" .u8 zsTab := Lib.tabIs_of_head (rest := []) gTab gTabType Tryd.underlying115 Tryd.underlying5 cellsU8 cellsTab h
  intro i hi
  have hc := hT.cell gTab i (by show i < zsTab.length; exact hi)
  rw [zsTab_get i hi] at hc
  exact hc

/-- a world for the witnesses: the settled one, the table holding what its initialiser lays -/
noncomputable def laidWorld (os : Os) : World :=
  { World.holding Tryd.prog os ⟨#[], #[], []⟩ with heap := (World.holding Tryd.prog os ⟨#[], #[], []⟩).heap.modify 0 fun
      | .cells _ t frozen => .cells (zsTab.map (Value.int .u8)).toArray t frozen
      | o => o }
end Go.Proofs.YtknjdfgmejobfaaDoor
