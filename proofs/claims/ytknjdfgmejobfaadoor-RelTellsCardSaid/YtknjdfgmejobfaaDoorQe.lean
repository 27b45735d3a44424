/- layer 2's law: RelTells at any input. -/
import Derived.Test.YtknjdfgmejobfaaDoorQd
namespace Go.Proofs.YtknjdfgmejobfaaDoor
open Go.RowKit Go.Shelf
theorem relTells_con (n : Int) (f : Rl.Rows) (m : Int) (g : Rl.Rows) (c : Int) (s t : BitVec 64) (A : Option Addr) (l : List (Int × Int)) (cap : Nat) (w : World) (zf : Rl.Z f) (zg : Rl.Z g) (hA : PairsAt w A l) (hT : Tab w) (hw : 0 < w.heap.size) :
    Calls Tryd.prog 12 #[.agg (relC n f), .agg (relC m g), .int .i64 c, .int .u64 (Bv.U s), .int .u64 (Bv.U t), .slice A l.length cap] w fun e w' => e = .returned (.bool true) ∧ Below w.heap.size w w' := by
  by_cases h : 60 < l.length
  · exact relTells_long n f m g c s t A l.length cap w h hT hw
  · cases hob : ofB c l
    · exact relTells_d n f m g c s t A l l.length cap w zf zg rfl (by omega) hA hob hT hw
    · exact relTells_c n f m g c s t A l l.length cap w zf zg rfl (by omega) hA hob hT hw
end Go.Proofs.YtknjdfgmejobfaaDoor
