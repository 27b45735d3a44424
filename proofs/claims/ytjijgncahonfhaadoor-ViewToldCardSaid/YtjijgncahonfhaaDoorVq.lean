/- layer 19: what opens and shuts a view that comes in. -/
import Derived.Test.YtjijgncahonfhaaDoorVp
namespace Go.Proofs.YtjijgncahonfhaaDoor
open Go.ChangeShapes Go.WideShapes Go.ChangeAt Go.RowKit Go.Joins
theorem cellsView : Tryd.prog.cellsOf 25 = 3 := by kernel_rfl
end Go.Proofs.YtjijgncahonfhaaDoor
