/- package view: Right. -/
import Derived.Test.YtjijgncahonfhaaDoorVb
namespace Go.Proofs.YtjijgncahonfhaaDoor
open Go.RowKit Go.Shelf

attribute [local go_sem] Bv.and_u Bv.or_u Bv.andNot_u Bv.wrap_sub1 Bv.eq0 Bv.ne0 Bv.wrap_pow Bv.wrap_powmin Bv.wrap_neg

theorem ret_bool {a b : Bool} (h : a = b) : Ending.returned (.bool a) = .returned (.bool b) := by rw [h]

set_option maxHeartbeats 400000 in
theorem right_no (k : Int) (m : Int) (a : Bool) (n : Int) (w : World) (hn : ¬ (1 ≤ n ∧ n ≤ 4)) :
    Calls Tryd.prog 16 #[.agg #[.int .u8 k, .int .u64 m, .bool a], .int .i64 n] w fun e w' => e = .returned (.bool false) ∧ Below w.heap.size w w' := by
  have e2 : decide (1 ≤ n ∧ n ≤ 4) = false := by simpa using hn
  clear hn
  go_enter Tryd.func16, Tryd.ntmps16
  go_wp2_with (go_at_call 21; refine (counts_any _ _).mono ?_; rintro e w' ⟨rfl, rfl⟩)
  go_ret
  exact ⟨rfl, (Below.refl _ _).alloc (Nat.le_refl _) _⟩

set_option maxHeartbeats 400000 in
theorem right_1 (m : BitVec 64) (a : Bool) (n : Int) (w : World) (h1 : 1 ≤ n) (h2 : n ≤ 4) :
    Calls Tryd.prog 16 #[.agg #[.int .u8 1, .int .u64 (Bv.U m), .bool a], .int .i64 n] w fun e w' => e = .returned (.bool (!a && (m &&& ~~~ (Bv.bit n.toNat - 1#64) == 0#64))) ∧ Below w.heap.size w w' := by
  have e2 : decide (1 ≤ n ∧ n ≤ 4) = true := by simpa using ⟨h1, h2⟩
  cases a
  all_goals
    go_enter Tryd.func16, Tryd.ntmps16
    go_wp2_with (go_at_call 21; refine (counts_any _ _).mono ?_; rintro e w' ⟨rfl, rfl⟩)
    go_quiet ((go_at_call 25; exact Calls.quiet_of_same (below_any _ _ (by omega) (by omega))))
    go_wp2
    go_ret
    exact ⟨rfl, by repeat (first | exact (Below.refl _ _).alloc (Nat.le_refl _) _ | exact below_drewN ((Below.refl _ _).alloc (Nat.le_refl _) _) _ | refine Below.drew ?_)⟩

set_option maxHeartbeats 400000 in
theorem right_3 (m : BitVec 64) (a : Bool) (n : Int) (w : World) (h1 : 1 ≤ n) (h2 : n ≤ 4) :
    Calls Tryd.prog 16 #[.agg #[.int .u8 3, .int .u64 (Bv.U m), .bool a], .int .i64 n] w fun e w' => e = .returned (.bool (!a && (m &&& ~~~ (Bv.bit ((n + 1) / 2).toNat - 1#64) == 0#64))) ∧ Below w.heap.size w w' := by
  have e2 : decide (1 ≤ n ∧ n ≤ 4) = true := by simpa using ⟨h1, h2⟩
  have q1 : IntKind.i64.wrap (n + 1) = n + 1 := IntWalk.i64_in _ (by omega)
  have q2 : IntKind.i64.wrap ((n + 1).tdiv 2) = (n + 1) / 2 := IntWalk.i64_quo _ _ (by omega)
  cases a
  all_goals
    go_enter Tryd.func16, Tryd.ntmps16
    go_wp2_with (go_at_call 21; refine (counts_any _ _).mono ?_; rintro e w' ⟨rfl, rfl⟩)
    go_quiet ((go_at_call 25; exact Calls.quiet_of_same (below_any _ _ (by omega) (by omega))))
    go_wp2
    go_ret
    exact ⟨rfl, by repeat (first | exact (Below.refl _ _).alloc (Nat.le_refl _) _ | exact below_drewN ((Below.refl _ _).alloc (Nat.le_refl _) _) _ | refine Below.drew ?_)⟩

set_option maxHeartbeats 400000 in
theorem right_2a (m : BitVec 64) (n : Int) (w : World) (h1 : 1 ≤ n) (h2 : n ≤ 4) :
    Calls Tryd.prog 16 #[.agg #[.int .u8 2, .int .u64 (Bv.U m), .bool true], .int .i64 n] w fun e w' => e = .returned (.bool (m == 0#64)) ∧ Below w.heap.size w w' := by
  have e2 : decide (1 ≤ n ∧ n ≤ 4) = true := by simpa using ⟨h1, h2⟩
  go_enter Tryd.func16, Tryd.ntmps16
  go_wp2_with (go_at_call 21; refine (counts_any _ _).mono ?_; rintro e w' ⟨rfl, rfl⟩)
  go_ret
  exact ⟨rfl, (Below.refl _ _).alloc (Nat.le_refl _) _⟩
set_option maxHeartbeats 400000 in
theorem right_2b (m : BitVec 64) (n : Int) (w : World) (h1 : 1 ≤ n) (h2 : n ≤ 4) :
    Calls Tryd.prog 16 #[.agg #[.int .u8 2, .int .u64 (Bv.U m), .bool false], .int .i64 n] w fun e w' => e = .returned (.bool ((m &&& ~~~ (Bv.bit n.toNat - 1#64) == 0#64) && decide ((Bs.elems m).length ≤ 2))) ∧ Below w.heap.size w w' := by
  have e2 : decide (1 ≤ n ∧ n ≤ 4) = true := by simpa using ⟨h1, h2⟩
  by_cases hm : (m &&& ~~~ (Bv.bit n.toNat - 1#64) == 0#64) = true
  · rw [hm, Bool.true_and]
    go_enter Tryd.func16, Tryd.ntmps16
    go_wp2_with (go_at_call 21; refine (counts_any _ _).mono ?_; rintro e w' ⟨rfl, rfl⟩)
    go_quiet ((first | (go_at_call 25; exact Calls.quiet_of_same (below_any _ _ (by omega) (by omega))) | (go_at_call 29; exact Calls.quiet_of_same (ones_any _ _))))
    go_wp2
    go_ret
    exact ⟨by simp; omega, by repeat (first | exact (Below.refl _ _).alloc (Nat.le_refl _) _ | exact below_drewN ((Below.refl _ _).alloc (Nat.le_refl _) _) _ | refine Below.drew ?_)⟩
  · have hm' : (m &&& ~~~ (Bv.bit n.toNat - 1#64) == 0#64) = false := by simpa using hm
    clear hm
    rw [hm', Bool.false_and]
    go_enter Tryd.func16, Tryd.ntmps16
    go_wp2_with (go_at_call 21; refine (counts_any _ _).mono ?_; rintro e w' ⟨rfl, rfl⟩)
    go_quiet ((first | (go_at_call 25; exact Calls.quiet_of_same (below_any _ _ (by omega) (by omega))) | (go_at_call 29; exact Calls.quiet_of_same (ones_any _ _))))
    go_wp2
    go_ret
    exact ⟨rfl, by repeat (first | exact (Below.refl _ _).alloc (Nat.le_refl _) _ | exact below_drewN ((Below.refl _ _).alloc (Nat.le_refl _) _) _ | refine Below.drew ?_)⟩
set_option maxHeartbeats 400000 in
theorem right_other (k m : Int) (a : Bool) (n : Int) (w : World) (h1 : 1 ≤ n) (h2 : n ≤ 4) (hk : ¬ (k = 1 ∨ k = 2 ∨ k = 3)) :
    Calls Tryd.prog 16 #[.agg #[.int .u8 k, .int .u64 m, .bool a], .int .i64 n] w fun e w' => e = .returned (.bool false) ∧ Below w.heap.size w w' := by
  have e2 : decide (1 ≤ n ∧ n ≤ 4) = true := by simpa using ⟨h1, h2⟩
  have k1 : (k == 1) = false := by simp; omega
  have k2 : (k == 2) = false := by simp; omega
  have k3 : (k == 3) = false := by simp; omega
  clear hk
  go_enter Tryd.func16, Tryd.ntmps16
  go_wp2_with (go_at_call 21; refine (counts_any _ _).mono ?_; rintro e w' ⟨rfl, rfl⟩)
  go_ret
  exact ⟨rfl, (Below.refl _ _).alloc (Nat.le_refl _) _⟩

/-- is a view valid? -/
def rightB (k : Int) (m : BitVec 64) (a : Bool) (n : Int) : Bool :=
  decide (1 ≤ n ∧ n ≤ 4) &&
    (if k = 1 then !a && (m &&& ~~~ (Bv.bit n.toNat - 1#64) == 0#64)
     else if k = 2 then (if a then m == 0#64 else (m &&& ~~~ (Bv.bit n.toNat - 1#64) == 0#64) && decide ((Bs.elems m).length ≤ 2))
     else if k = 3 then !a && (m &&& ~~~ (Bv.bit ((n + 1) / 2).toNat - 1#64) == 0#64) else false)
theorem right_any (k : Int) (m : BitVec 64) (a : Bool) (n : Int) (w : World) :
    Calls Tryd.prog 16 #[.agg #[.int .u8 k, .int .u64 (Bv.U m), .bool a], .int .i64 n] w fun e w' => e = .returned (.bool (rightB k m a n)) ∧ Below w.heap.size w w' := by
  unfold rightB
  by_cases hn : 1 ≤ n ∧ n ≤ 4
  · have e2 : decide (1 ≤ n ∧ n ≤ 4) = true := by simpa using hn
    rw [e2, Bool.true_and]
    by_cases k1 : k = 1
    · subst k1; simp only [if_true]; exact right_1 m a n w hn.1 hn.2
    · by_cases k2 : k = 2
      · subst k2
        rw [if_neg (by omega), if_pos rfl]
        cases a
        · exact right_2b m n w hn.1 hn.2
        · exact right_2a m n w hn.1 hn.2
      · by_cases k3 : k = 3
        · subst k3
          rw [if_neg (by omega), if_neg (by omega), if_pos rfl]
          exact right_3 m a n w hn.1 hn.2
        · rw [if_neg k1, if_neg k2, if_neg k3]; exact right_other k _ a n w hn.1 hn.2 (by omega)
  · have e2 : decide (1 ≤ n ∧ n ≤ 4) = false := by simpa using hn
    rw [e2, Bool.false_and]; exact right_no k _ a n w hn
end Go.Proofs.YtjijgncahonfhaaDoor
