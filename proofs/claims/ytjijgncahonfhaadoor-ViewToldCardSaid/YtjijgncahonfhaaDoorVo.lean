/- layer 19: same; the walks of ViewMakes, ViewTells. -/
import Derived.Test.YtjijgncahonfhaaDoorVn
namespace Go.Proofs.YtjijgncahonfhaaDoor
open Go.RowKit Go.Shelf

theorem rnote_any' (k : Int) (m : BitVec 64) (a : Bool) (c : Int) (w : World) (h0 : 0 ≤ c) :
    Calls Tryd.prog 27 #[.agg #[.int .u8 k, .int .u64 (Bv.U m), .bool a], .int .u8 c] w fun e w' => e = .returned (.agg #[.int .u8 k, .int .u64 (Bv.U (noteM k m a c)), .bool (noteA k m a c)]) ∧ Below w.heap.size w w' := by
  have h := rnote_any k m a c w h0
  rw [(note_same k m a c h0).1, (note_same k m a c h0).2] at h; exact h
theorem rright_any' (k : Int) (m : BitVec 64) (a : Bool) (n : Int) (w : World) :
    Calls Tryd.prog 30 #[.agg #[.int .u8 k, .int .u64 (Bv.U m), .bool a], .int .i64 n] w fun e w' => e = .returned (.bool (rightB k m a n)) ∧ Below w.heap.size w w' := by
  have h := rright_any k m a n w
  rw [right_same] at h; exact h
theorem rtold_any' (k : Int) (m : BitVec 64) (a : Bool) (n : Int) (w : World) :
    Calls Tryd.prog 31 #[.agg #[.int .u8 k, .int .u64 (Bv.U m), .bool a], .int .i64 n] w fun e w' => e = .returned (.int .u64 (Bv.U (toldS k m a n))) ∧ Below w.heap.size w w' := by
  have h := rtold_any k m a n w
  rw [told_same] at h; exact h
theorem rleast_any' (k n : Int) (s : BitVec 64) (w : World) :
    Calls Tryd.prog 12 #[.int .u8 k, .int .i64 n, .int .u64 (Bv.U s)] w fun e w' => e = .returned (.agg #[.int .u8 (newK k n), .int .u64 (Bv.U (leastSt k n s).1), .bool (leastSt k n s).2]) ∧ Below w.heap.size w w' := by
  have h := rleast_any k n s w
  rw [least_same] at h; exact h

set_option maxRecDepth 100000 in
set_option maxHeartbeats 2000000 in
theorem viewMakes_any (k n : Int) (s : BitVec 64) (w : World) (hT : Tab w) (hw : 0 < w.heap.size) :
    Calls Tryd.prog 3 #[.int .u8 k, .int .i64 n, .int .u64 (Bv.U s)] w fun e w' => e = .returned (.bool true) ∧ Below w.heap.size w w' := by
  go_enter Tryd.func3, Tryd.ntmps3
  go_wp2_with fail
  refine (new_any _ _ _).mono ?_; rintro e w1 ⟨rfl, h1⟩
  go_wp2_with fail
  refine (rnew_any _ _ _).mono ?_; rintro e w2 ⟨rfl, h2⟩
  have b2 := h1.trans (h2.mono h1.size)
  have T2 := hT.below b2 hw
  have z2 : 0 < w2.heap.size := Nat.lt_of_lt_of_le hw b2.size
  have B2 := Lib.hid b2
  clear h1 h2 b2
  go_wp2_with fail
  refine (least_any _ _ _ _ T2 z2).mono ?_; rintro e w3 ⟨rfl, h3⟩
  go_wp2_with fail
  refine (rleast_any' _ _ _ _).mono ?_; rintro e w4 ⟨rfl, h4⟩
  have b4 := (B2.out.trans (h3.mono B2.out.size)).trans (h4.mono (B2.out.trans (h3.mono B2.out.size)).size)
  have T4 := hT.below b4 hw
  have z4 : 0 < w4.heap.size := Nat.lt_of_lt_of_le hw b4.size
  have B4 := Lib.hid b4
  clear h3 h4 b4 T2
  go_wp2_with fail
  refine (awake_any _ T4 z4).mono ?_; rintro e w5 ⟨rfl, h5⟩
  go_wp2_with fail
  go_ret
  exact ⟨rfl, B4.out.trans (h5.mono B4.out.size)⟩

theorem keep3 {b : Nat} {W0 W w1 : World} {x y z : Value} (hb : Below W.heap.size W w1) (h : Below (b + 1) W0 W) (hz : b < W0.heap.size) (hx : W.cell? ⟨b, 0, none⟩ = some x) (hy : W.cell? ⟨b, 1, none⟩ = some y) (hw : W.cell? ⟨b, 2, none⟩ = some z) :
    Below (b + 1) W0 w1 ∧ w1.cell? ⟨b, 0, none⟩ = some x ∧ w1.cell? ⟨b, 1, none⟩ = some y ∧ w1.cell? ⟨b, 2, none⟩ = some z := by
  have hlt : b < W.heap.size := Nat.lt_of_lt_of_le hz h.size
  exact ⟨h.trans (hb.mono hlt), (hb.cell (p := ⟨b, 0, none⟩) hlt).trans hx, (hb.cell (p := ⟨b, 1, none⟩) hlt).trans hy, (hb.cell (p := ⟨b, 2, none⟩) hlt).trans hw⟩

set_option maxRecDepth 100000 in
set_option maxHeartbeats 4000000 in
theorem same_any (k : Int) (m : BitVec 64) (a : Bool) (c n : Int) (w : World) (h0 : 0 ≤ c) (hT : Tab w) (hw : 0 < w.heap.size) :
    Calls Tryd.prog 18 #[.agg #[.int .u8 k, .int .u64 (Bv.U m), .bool a], .int .u8 c, .int .i64 n] w fun e w' => e = .returned (.bool true) ∧ Below w.heap.size w w' := by
  obtain ⟨W0, hW0⟩ : ∃ W0, W0 = w.alloc (.cells #[.int .u8 k, .int .u64 (Bv.U m), .bool a] 25) := ⟨_, rfl⟩
  have hz : w.heap.size < W0.heap.size := by rw [hW0]; simp
  have hB0 : Below w.heap.size w W0 := by rw [hW0]; exact (Below.refl _ _).alloc (Nat.le_refl _) _
  have hTl : ∀ W, Below (w.heap.size + 1) W0 W → Tab W ∧ 0 < W.heap.size := fun W h =>
    ⟨hT.below (hB0.trans (h.mono (by omega))) hw, by have := h.size; omega⟩
  have HT := Lib.hid hTl
  have H0 := Lib.hid (And.intro hW0 hB0)
  have HS : Below (w.heap.size + 1) W0 (w.alloc (.cells #[.int .u8 k, .int .u64 (Bv.U m), .bool a] 25)) := by rw [← hW0]; exact Below.refl _ _
  clear hTl hB0 hW0
  go_enter Tryd.func18, Tryd.ntmps18
  go_wp2_with fail
  go_region_held3 (fun w' => Below (w.heap.size + 1) W0 w' ∧ w'.cell? ⟨w.heap.size, 0, none⟩ = some (.int .u8 k) ∧ w'.cell? ⟨w.heap.size, 1, none⟩ = some (.int .u64 (Bv.U m)) ∧ w'.cell? ⟨w.heap.size, 2, none⟩ = some (.bool a))
    (first
      | (go_split_ands; exact keep3 hbq (by assumption) hz (by assumption) (by assumption) (by assumption))
      | (go_split_ands; refine ⟨?_, by go_keep, by go_keep, by go_keep⟩; first | assumption | exact Below.drew (by assumption)))
    (first
      | (go_at_call 16; refine (right_any _ _ _ _ _).mono ?_; rintro e w1 ⟨rfl, hbq⟩)
      | (go_at_call 30; refine (rright_any' _ _ _ _ _).mono ?_; rintro e w1 ⟨rfl, hbq⟩)
      | (go_at_call 14; refine (note_any _ _ _ _ _ h0).mono ?_; rintro e w1 ⟨rfl, hbq⟩)
      | (go_at_call 27; refine (rnote_any' _ _ _ _ _ h0).mono ?_; rintro e w1 ⟨rfl, hbq⟩)
      | (go_at_call 15; go_split_ands; refine (told_any _ _ _ _ _ (HT.out _ (by assumption)).1 (HT.out _ (by assumption)).2).mono ?_; rintro e w1 ⟨rfl, hbq⟩)
      | (go_at_call 31; refine (rtold_any' _ _ _ _ _).mono ?_; rintro e w1 ⟨rfl, hbq⟩)
      | (go_at_call 19; refine (clear_any _ _ _ _).mono ?_; rintro e w1 ⟨rfl, hbq⟩)
      | (go_at_call 32; refine (rclear_any _ _ _ _).mono ?_; rintro e w1 ⟨rfl, hbq⟩))
  go_split_ands
  have hfin : Below (w.heap.size + 1) W0 w1 := by assumption
  have HF := Lib.hid (H0.out.2.trans (hfin.mono (by omega)))
  clear hfin
  go_wp2
  go_ret
  exact ⟨rfl, HF.out⟩

set_option maxRecDepth 100000 in
set_option maxHeartbeats 2000000 in
theorem viewTells_any (k : Int) (m : BitVec 64) (a : Bool) (c n : Int) (w : World) (h0 : 0 ≤ c) (hT : Tab w) (hw : 0 < w.heap.size) :
    Calls Tryd.prog 6 #[.agg #[.int .u8 k, .int .u64 (Bv.U m), .bool a], .int .u8 c, .int .i64 n] w fun e w' => e = .returned (.bool true) ∧ Below w.heap.size w w' := by
  have hb0 : Below w.heap.size w (w.alloc (.cells #[.int .u8 k, .int .u64 (Bv.U m), .bool a] 25)) := (Below.refl _ _).alloc (Nat.le_refl _) _
  have T0 := hT.below hb0 hw
  have B0 := Lib.hid hb0
  clear hb0
  go_enter Tryd.func6, Tryd.ntmps6
  go_wp2_with fail
  refine (same_any _ _ _ _ _ _ h0 T0 (by simp)).mono ?_; rintro e w1 ⟨rfl, h1⟩
  have b1 := B0.out.trans (h1.mono B0.out.size)
  have T1 := hT.below b1 hw
  have z1 : 0 < w1.heap.size := Nat.lt_of_lt_of_le hw b1.size
  have B1 := Lib.hid b1
  clear h1 b1 T0
  go_wp2_with fail
  refine (awake_any _ T1 z1).mono ?_; rintro e w2 ⟨rfl, h2⟩
  go_wp2_with fail
  go_ret
  exact ⟨rfl, B1.out.trans (h2.mono B1.out.size)⟩
end Go.Proofs.YtjijgncahonfhaaDoor
