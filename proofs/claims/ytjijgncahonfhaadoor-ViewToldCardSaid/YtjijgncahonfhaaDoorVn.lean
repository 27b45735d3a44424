/- layer 19: awake (the chapter's examples), same (program against reference). -/
import Derived.Test.YtjijgncahonfhaaDoorVm
import Derived.WalkSmall
namespace Go.Proofs.YtjijgncahonfhaaDoor
open Go.RowKit Go.Shelf

attribute [local go_sem] Bv.and_u Bv.or_u Bv.andNot_u Bv.wrap_sub1 Bv.eq0 Bv.ne0 Bv.wrap_pow Bv.wrap_powmin Bv.wrap_neg Bv.eq_u

theorem note_lit (k : Int) (m : BitVec 64) (a : Bool) (c : Int) (w : World) (h0 : 0 ≤ c) (m' : BitVec 64) (a' : Bool) (hm : noteM k m a c = m') (ha : noteA k m a c = a') :
    Calls Tryd.prog 14 #[.agg #[.int .u8 k, .int .u64 (Bv.U m), .bool a], .int .u8 c] w fun e w' => e = .returned (.agg #[.int .u8 k, .int .u64 (Bv.U m'), .bool a']) ∧ Below w.heap.size w w' := by
  rw [← hm, ← ha]; exact note_any k m a c w h0
theorem note_lit0 (k : Int) (a : Bool) (c : Int) (w : World) (h0 : 0 ≤ c) (m' : BitVec 64) (a' : Bool) (hm : noteM k 0#64 a c = m') (ha : noteA k 0#64 a c = a') :
    Calls Tryd.prog 14 #[.agg #[.int .u8 k, .int .u64 0, .bool a], .int .u8 c] w fun e w' => e = .returned (.agg #[.int .u8 k, .int .u64 (Bv.U m'), .bool a']) ∧ Below w.heap.size w w' :=
  note_lit k 0#64 a c w h0 m' a' hm ha
theorem new_lit (k : Int) (w : World) (hk : newK k 4 = k) :
    Calls Tryd.prog 9 #[.int .u8 k, .int .i64 4] w fun e w' => e = .returned (.agg #[.int .u8 k, .int .u64 0, .bool false]) ∧ Below w.heap.size w w' := by
  have := new_any k 4 w; rw [hk] at this; exact this
theorem told_lit (k : Int) (m : BitVec 64) (a : Bool) (n : Int) (w : World) (hT : Tab w) (hw : 0 < w.heap.size) (t : Int) (ht : Bv.U (toldS k m a n) = t) :
    Calls Tryd.prog 15 #[.agg #[.int .u8 k, .int .u64 (Bv.U m), .bool a], .int .i64 n] w fun e w' => e = .returned (.int .u64 t) ∧ Below w.heap.size w w' := by
  rw [← ht]; exact told_any k m a n w hT hw

set_option maxRecDepth 100000 in
set_option maxHeartbeats 2000000 in
theorem awake_any (w : World) (hT : Tab w) (hw : 0 < w.heap.size) :
    Calls Tryd.prog 13 #[] w fun e w' => e = .returned (.bool true) ∧ Below w.heap.size w w' := by
  go_enter Tryd.func13, Tryd.ntmps13
  go_wp2_with fail
  refine (new_lit 1 _ (by decide)).mono ?_; rintro e w1 ⟨rfl, h1⟩
  go_wp2_with fail
  refine (note_lit0 1 false 1 _ (by omega) 2#64 false (by decide) (by decide)).mono ?_; rintro e w2 ⟨rfl, h2⟩
  go_wp2_with fail
  refine (note_lit 1 2#64 false 2 _ (by omega) 6#64 false (by decide) (by decide)).mono ?_; rintro e w3 ⟨rfl, h3⟩
  have H3 := Lib.hid ((h1.trans (h2.mono h1.size)).trans (h3.mono (h1.trans (h2.mono h1.size)).size))
  clear h1 h2 h3
  go_wp2_with fail
  refine (new_lit 2 _ (by decide)).mono ?_; rintro e w4 ⟨rfl, h4⟩
  go_wp2_with fail
  refine (note_lit0 2 false 1 _ (by omega) 2#64 false (by decide) (by decide)).mono ?_; rintro e w5 ⟨rfl, h5⟩
  go_wp2_with fail
  refine (note_lit 2 2#64 false 2 _ (by omega) 6#64 false (by decide) (by decide)).mono ?_; rintro e w6 ⟨rfl, h6⟩
  have H6 := Lib.hid ((h4.trans (h5.mono h4.size)).trans (h6.mono (h4.trans (h5.mono h4.size)).size))
  clear h4 h5 h6
  go_wp2_with fail
  refine (new_lit 3 _ (by decide)).mono ?_; rintro e w7 ⟨rfl, h7⟩
  go_wp2_with fail
  refine (note_lit0 3 false 1 _ (by omega) 1#64 false (by decide) (by decide)).mono ?_; rintro e w8 ⟨rfl, h8⟩
  go_wp2_with fail
  refine (note_lit 3 1#64 false 2 _ (by omega) 3#64 false (by decide) (by decide)).mono ?_; rintro e w9 ⟨rfl, h9⟩
  have H9 := Lib.hid ((h7.trans (h8.mono h7.size)).trans (h9.mono (h7.trans (h8.mono h7.size)).size))
  clear h7 h8 h9
  obtain ⟨W, hW⟩ : ∃ W, W = w9.alloc (.cells #[.int .u8 3, .int .u64 (Bv.U 3#64), .bool false] 25) := ⟨_, rfl⟩
  have s36 : w3.heap.size < w6.heap.size := by have := H6.out.size; simp at this; omega
  have s69 : w6.heap.size < w9.heap.size := by have := H9.out.size; simp at this; omega
  have sW : W.heap.size = w9.heap.size + 1 := by rw [hW]; simp
  have b3 : W.heap[w9.heap.size]? = some (.cells #[.int .u8 3, .int .u64 (Bv.U 3#64), .bool false] 25 (0, 0)) := by rw [hW]; exact World.alloc_heap_new w9 _
  have b2 : W.heap[w6.heap.size]? = some (.cells #[.int .u8 2, .int .u64 (Bv.U 6#64), .bool false] 25 (0, 0)) := by
    rw [hW]; exact (Below.heap_alloc _ _ _ s69).trans ((H9.out.block _ (by simp)).trans (World.alloc_heap_new w6 _))
  have b1 : W.heap[w3.heap.size]? = some (.cells #[.int .u8 1, .int .u64 (Bv.U 6#64), .bool false] 25 (0, 0)) := by
    rw [hW]; exact (Below.heap_alloc _ _ _ (by omega)).trans ((H9.out.block _ (by simp; omega)).trans ((Below.heap_alloc _ _ _ s36).trans ((H6.out.block _ (by simp)).trans (World.alloc_heap_new w3 _))))
  have hBW : Below w.heap.size w W := by
    have a3 := H3.out
    have a6 := (a3.alloc a3.size (.cells #[.int .u8 1, .int .u64 (Bv.U 6#64), .bool false] 25)).trans (H6.out.mono (by have := a3.size; simp; omega))
    have a9 := (a6.alloc a6.size (.cells #[.int .u8 2, .int .u64 (Bv.U 6#64), .bool false] 25)).trans (H9.out.mono (by have := a6.size; simp; omega))
    rw [hW]; exact a9.alloc a9.size _
  have HW := Lib.hid hW
  have HB := Lib.hid (And.intro b1 (And.intro b2 (And.intro b3 hBW)))
  have T1 := hT.below hBW hw
  have z1 : 0 < W.heap.size := by omega
  have q1 : w9.heap[w3.heap.size]? = some (.cells #[.int .u8 1, .int .u64 (Bv.U 6#64), .bool false] 25 (0, 0)) :=
    (H9.out.block _ (by simp; omega)).trans ((Below.heap_alloc _ _ _ s36).trans ((H6.out.block _ (by simp)).trans (World.alloc_heap_new w3 _)))
  obtain ⟨c0, c1, c2, f0, f1, f2⟩ := Rf.cells3 q1
  have s39 : w3.heap.size < w9.heap.size := by omega
  have T1' : Tab (w9.alloc (.cells #[.int .u8 3, .int .u64 (Bv.U 3#64), .bool false] 25)) := by rw [← hW]; exact T1
  have z1' : 0 < (w9.alloc (.cells #[.int .u8 3, .int .u64 (Bv.U 3#64), .bool false] 25)).heap.size := by rw [← hW]; exact z1
  clear hW b1 b2 b3 H3 H6 H9 hBW q1
  go_wp2_with fail
  refine (told_lit 1 6#64 false 4 _ T1' z1' 6 (by decide)).mono ?_; rintro e v1 ⟨rfl, k1⟩
  rw [← HW.out] at k1
  clear T1' z1' s39
  have B := (k1.block _ (by omega)).trans HB.out.2.1
  obtain ⟨c0', c1', c2', f0', f1', f2'⟩ := Rf.cells3 B
  have T2 := T1.below k1 z1
  have z2 : 0 < v1.heap.size := Nat.lt_of_lt_of_le z1 k1.size
  have K1 := Lib.hid k1
  clear B k1 c0 c1 c2 f0 f1 f2 T1
  go_wp2_with fail
  refine (told_lit 2 6#64 false 4 _ T2 z2 6 (by decide)).mono ?_; rintro e v2 ⟨rfl, k2⟩
  have k2' := K1.out.trans (k2.mono K1.out.size)
  have B := (k2'.block _ (by omega)).trans HB.out.2.2.1
  obtain ⟨c0, c1, c2, f0, f1, f2⟩ := Rf.cells3 B
  have T3 := T2.below k2 z2
  have z3 : 0 < v2.heap.size := Nat.lt_of_lt_of_le z2 k2.size
  have K2 := Lib.hid k2'
  clear B k2 k2' c0' c1' c2' f0' f1' f2' T2 K1
  go_wp2_with fail
  refine (told_lit 3 3#64 false 4 _ T3 z3 15 (by decide)).mono ?_; rintro e v3 ⟨rfl, k3⟩
  have k3' := K2.out.trans (k3.mono K2.out.size)
  have B := (k3'.block _ (by omega)).trans HB.out.1
  obtain ⟨c0', c1', c2', f0', f1', f2'⟩ := Rf.cells3 B
  have T4 := T3.below k3 z3
  have z4 : 0 < v3.heap.size := Nat.lt_of_lt_of_le z3 k3.size
  have K3 := Lib.hid k3'
  clear B k3 k3' c0 c1 c2 f0 f1 f2 T3 K2
  go_wp2_with fail
  refine (note_lit 1 6#64 false 3 _ (by omega) 14#64 false (by decide) (by decide)).mono ?_; rintro e v4 ⟨rfl, k4⟩
  have k4' := K3.out.trans (k4.mono K3.out.size)
  have T5 := T4.below k4 z4
  have z5 : 0 < v4.heap.size := Nat.lt_of_lt_of_le z4 k4.size
  have K4 := Lib.hid k4'
  clear k4 k4' c0' c1' c2' f0' f1' f2' T4 K3
  go_wp2_with fail
  refine (told_lit 1 14#64 false 4 _ T5 z5 14 (by decide)).mono ?_; rintro e v5 ⟨rfl, k5⟩
  have k5' := K4.out.trans (k5.mono K4.out.size)
  have B := (k5'.block _ (by omega)).trans HB.out.2.1
  obtain ⟨c0', c1', c2', f0', f1', f2'⟩ := Rf.cells3 B
  have T6 := T5.below k5 z5
  have z6 : 0 < v5.heap.size := Nat.lt_of_lt_of_le z5 k5.size
  have K5 := Lib.hid k5'
  clear B k5 k5' T5 K4
  go_wp2_with fail
  refine (note_lit 2 6#64 false 3 _ (by omega) 0#64 true (by decide) (by decide)).mono ?_; rintro e v6 ⟨rfl, k6⟩
  have k6' := K5.out.trans (k6.mono K5.out.size)
  have T7 := T6.below k6 z6
  have z7 : 0 < v6.heap.size := Nat.lt_of_lt_of_le z6 k6.size
  have K6 := Lib.hid k6'
  clear k6 k6' c0' c1' c2' f0' f1' f2' T6 K5
  go_wp2_with fail
  refine (told_lit 2 0#64 true 4 _ T7 z7 15 (by decide)).mono ?_; rintro e v7 ⟨rfl, k7⟩
  have K7 := Lib.hid (K6.out.trans (k7.mono K6.out.size))
  clear k7 T7 K6
  go_wp2_with fail
  go_ret
  exact ⟨rfl, HB.out.2.2.2.trans (K7.out.mono HB.out.2.2.2.size)⟩
end Go.Proofs.YtjijgncahonfhaaDoor
