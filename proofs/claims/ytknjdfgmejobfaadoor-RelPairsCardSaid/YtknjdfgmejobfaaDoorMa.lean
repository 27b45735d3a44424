/- math/bits.TrailingZeros64, its table (marks, rel, order). -/
import Derived.RangeFuncNested
import Derived.RangeFuncBound
import Derived.RangeFuncCalls
import Derived.RangeFuncLeaves
import Derived.Shelf.Abstract
import Derived.Shelf.RegionOpen
import Derived.WalkKit
import Derived.WalkLawsBesides
import Derived.WalkSpells
import Derived.OwnWalkIn
import Derived.TacticsInMore
import Derived.LoopNIn
import Derived.LoopIn
import Derived.BigQuiet
import Derived.Deep.QuietTactic
import Derived.Lib.TrailingZeros
import Derived.Test.YtknjdfgmejobfaaDoorChecked
import Derived.Test.YtknjdfgmejobfaaDoorBs
import Derived.Test.YtknjdfgmejobfaaDoorBv
import Derived.Test.YtknjdfgmejobfaaDoorPop
namespace Go.Proofs.YtknjdfgmejobfaaDoor
open Go.RowKit Go.Shelf

attribute [local go_sem] Bv.and_u Bv.or_u Bv.andNot_u Bv.wrap_sub1 Bv.eq0 Bv.wrap_pow Bv.wrap_powmin Bv.wrap_neg

/-- the table of math/bits.TrailingZeros64, as its initialiser lays it -/
def Tab (w : World) : Prop := ∀ i, i < 64 → w.cell? ⟨0, i, none⟩ = some (.int .u8 (Lib.deBruijn64tab.getD i 0 : Nat))

theorem Tab.below {n : Nat} {w w' : World} (h : Tab w) (hb : Below n w w') (hn : 0 < n) : Tab w' :=
  fun i hi => (hb.cell (p := ⟨0, i, none⟩) hn).trans (h i hi)

theorem bcell {W w1 : World} (hb : Below W.heap.size W w1) : (∀ b o, b < W.heap.size → w1.cell? ⟨b, o, none⟩ = W.cell? ⟨b, o, none⟩) ∧ (∀ b o, b < W.heap.size → w1.frozen? ⟨b, o, none⟩ = W.frozen? ⟨b, o, none⟩) :=
  ⟨fun b o h => hb.cell (p := ⟨b, o, none⟩) h, fun b o h => hb.frozen (p := ⟨b, o, none⟩) h⟩

set_option maxHeartbeats 400000 in
theorem tz_any (s : BitVec 64) (w : World) (hs : s ≠ 0) (hT : Tab w) :
    Calls Tryd.prog 103 #[.int .u64 (Bv.U s)] w fun e w' => e = .returned (.int .i64 (Bs.low s : Nat)) ∧ w' = w := by
  have hz : (s == 0#64) = false := by simpa using hs
  obtain ⟨k, hk⟩ : ∃ k : Nat, k = 2 ^ Bs.low s * 285870213051353865 % 18446744073709551616 / 288230376151711744 := ⟨_, rfl⟩
  have hl := Bs.low_lt hs
  obtain ⟨hk64, htab⟩ := Lib.deBruijn64_at (Bs.low s) hl
  rw [← hk] at hk64 htab
  have he : IntKind.u64.wrap (Bv.U (s &&& -s) * 285870213051353865) / 288230376151711744 = (k : Int) := by
    have h1 := Bs.tz_key s hs
    have h2 := Bv.wrap_mul (s &&& -s) 285870213051353865#64
    rw [← hk] at h1
    have h3 : Bv.U 285870213051353865#64 = 285870213051353865 := rfl
    rw [h3] at h2
    rw [h2]; unfold Bv.U; omega
  have hc := hT k hk64
  rw [htab] at hc
  obtain ⟨d, hd⟩ : ∃ d, d = Bs.low s := ⟨_, rfl⟩
  rw [← hd] at hc hl ⊢
  clear hk htab hT hd hs
  go_enter Tryd.func103, Tryd.ntmps103
  go_wp2
  go_ret
  exact ⟨rfl, rfl⟩
end Go.Proofs.YtknjdfgmejobfaaDoor
