/- layer 2's law: RelRounds at any relation. -/
import Derived.Test.YtknjdfgmejobfaaDoorQa
namespace Go.Proofs.YtknjdfgmejobfaaDoor
open Go.RowKit Go.Shelf

set_option maxRecDepth 100000 in
set_option maxHeartbeats 1000000 in
theorem relRounds_big (n : Int) (f : Rl.Rows) (w : World) (h12 : 12 < n) (hT : Tab w) (hw : 0 < w.heap.size) :
    Calls Tryd.prog 6 #[.agg (relC n f)] w fun e w' => e = .returned (.bool true) ∧ Below w.heap.size w w' := by
  have hR := RelAt.new w n f
  have c0 := hR.num
  have d0 : decide (12 < n) = true := decide_eq_true h12
  have hB := (Below.refl w.heap.size w).alloc (Nat.le_refl _) (.cells (relC n f) 26)
  have H := Lib.hid (And.intro hB (And.intro (hT.below hB hw) (Nat.lt_of_lt_of_le hw hB.size)))
  clear hR hB h12
  go_enter Tryd.func6, Tryd.ntmps6
  go_wp2_with fail
  with_reducible refine (awake_any _ H.out.2.1 H.out.2.2).mono ?_
  rintro e w1 ⟨rfl, hb⟩
  have H1 := Lib.hid (H.out.1.trans (hb.mono H.out.1.size))
  clear hb
  go_wp2_with fail
  go_ret
  exact ⟨rfl, H1.out⟩
theorem relRounds_con (n : Int) (f : Rl.Rows) (w : World) (zf : Rl.Z f) (hT : Tab w) (hw : 0 < w.heap.size) :
    Calls Tryd.prog 6 #[.agg (relC n f)] w fun e w' => e = .returned (.bool true) ∧ Below w.heap.size w w' := by
  by_cases h12 : 12 < n
  · exact relRounds_big n f w h12 hT hw
  · cases hr : Rl.rightB n f
    · exact relRounds_c n f w zf h12 hr _ rfl hT hw
    · by_cases h0 : (pairsR n f).length = 0
      · exact relRounds_a n f w zf h12 hr h0 hT hw
      · exact relRounds_b n f w zf h12 hr _ rfl h0 hT hw
end Go.Proofs.YtknjdfgmejobfaaDoor
