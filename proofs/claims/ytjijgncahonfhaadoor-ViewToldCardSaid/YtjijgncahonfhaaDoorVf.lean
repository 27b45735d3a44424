/- the reference of layer 19: Right, Note. -/
import Derived.Test.YtjijgncahonfhaaDoorVe
namespace Go.Proofs.YtjijgncahonfhaaDoor
open Go.RowKit Go.Shelf

attribute [local go_sem] Bv.and_u Bv.or_u Bv.andNot_u Bv.wrap_sub1 Bv.eq0 Bv.ne0 Bv.wrap_pow Bv.wrap_powmin Bv.wrap_neg Bv.shr_min Bv.shr_pow Bv.tmod2 Bv.wrap_add Bv.B1_eq1 Bv.B1_eq0 Bv.B1_ne1 Bv.B1_ne0

set_option maxHeartbeats 400000 in
theorem rright_no (k : Int) (m : Int) (a : Bool) (n : Int) (w : World) (h : ¬ ((k = 1 ∨ k = 2 ∨ k = 3) ∧ 1 ≤ n ∧ n ≤ 4)) :
    Calls Tryd.prog 30 #[.agg #[.int .u8 k, .int .u64 m, .bool a], .int .i64 n] w fun e w' => e = .returned (.bool false) ∧ Below w.heap.size w w' := by
  by_cases hk : k = 1 ∨ k = 2 ∨ k = 3
  · have e1 : decide (k = 1 ∨ k = 2 ∨ k = 3) = true := by simpa using hk
    have e2 : decide (1 ≤ n ∧ n ≤ 4) = false := decide_eq_false (fun h2 => h ⟨hk, h2⟩)
    clear h hk
    go_enter Tryd.func30, Tryd.ntmps30
    go_wp2_with (first | (go_at_call 22; refine (rkind_any _ _).mono ?_; rintro e w' ⟨rfl, rfl⟩) | (go_at_call 23; refine (rcaches_any _ _).mono ?_; rintro e w' ⟨rfl, rfl⟩))
    go_ret
    exact ⟨rfl, (Below.refl _ _).alloc (Nat.le_refl _) _⟩
  · have e1 : decide (k = 1 ∨ k = 2 ∨ k = 3) = false := by simpa using hk
    clear h hk
    go_enter Tryd.func30, Tryd.ntmps30
    go_wp2_with (first | (go_at_call 22; refine (rkind_any _ _).mono ?_; rintro e w' ⟨rfl, rfl⟩) | (go_at_call 23; refine (rcaches_any _ _).mono ?_; rintro e w' ⟨rfl, rfl⟩))
    go_ret
    exact ⟨rfl, (Below.refl _ _).alloc (Nat.le_refl _) _⟩

set_option maxHeartbeats 800000 in
theorem rright_1 (m : BitVec 64) (a : Bool) (n : Int) (w : World) (h1 : 1 ≤ n) (h2 : n ≤ 4) :
    Calls Tryd.prog 30 #[.agg #[.int .u8 1, .int .u64 (Bv.U m), .bool a], .int .i64 n] w fun e w' => e = .returned (.bool (!moreB (Bs.elems m) n && !a)) ∧ Below w.heap.size w w' := by
  have e2 : decide (1 ≤ n ∧ n ≤ 4) = true := decide_eq_true ⟨h1, h2⟩
  cases a <;> cases hm : moreB (Bs.elems m) n
  all_goals
    go_enter Tryd.func30, Tryd.ntmps30
    go_wp2_with (first | (go_at_call 22; refine (rkind_any _ _).mono ?_; rintro e w' ⟨rfl, rfl⟩) | (go_at_call 23; refine (rcaches_any _ _).mono ?_; rintro e w' ⟨rfl, rfl⟩) | (go_at_call 35; refine (rbits_any _ _ _).mono ?_; rintro e w' ⟨rfl, rfl⟩))
    go_ret
    exact ⟨rfl, (Below.refl _ _).alloc (Nat.le_refl _) _⟩
set_option maxHeartbeats 800000 in
theorem rright_2 (m : BitVec 64) (a : Bool) (n : Int) (w : World) (h1 : 1 ≤ n) (h2 : n ≤ 4) :
    Calls Tryd.prog 30 #[.agg #[.int .u8 2, .int .u64 (Bv.U m), .bool a], .int .i64 n] w fun e w' => e = .returned (.bool (!moreB (Bs.elems m) n && decide ((Bs.elems m).length ≤ 2) && (!a || decide ((Bs.elems m).length = 0)))) ∧ Below w.heap.size w w' := by
  have e2 : decide (1 ≤ n ∧ n ≤ 4) = true := decide_eq_true ⟨h1, h2⟩
  obtain ⟨c, hc⟩ : ∃ c, c = (Bs.elems m).length := ⟨_, rfl⟩
  have hcon := fun w => rbits_any m n w
  rw [← hc] at hcon ⊢
  clear hc
  have HC := Lib.hid hcon
  clear hcon
  obtain ⟨b2, hb2⟩ : ∃ b2, b2 = decide (c ≤ 2) := ⟨_, rfl⟩
  obtain ⟨b0, hb0⟩ : ∃ b0, b0 = decide (c = 0) := ⟨_, rfl⟩
  have q2 : decide ((c : Int) ≤ 2) = b2 := by rw [hb2]; simp; omega
  have q0 : ((c : Int) == 0) = b0 := by rw [hb0, Bool.eq_iff_iff]; simp
  rw [← hb2, ← hb0]
  clear hb2 hb0
  cases a <;> cases hm : moreB (Bs.elems m) n <;> cases b2 <;> cases b0
  all_goals
    go_enter Tryd.func30, Tryd.ntmps30
    go_wp2_with (first | (go_at_call 22; refine (rkind_any _ _).mono ?_; rintro e w' ⟨rfl, rfl⟩) | (go_at_call 23; refine (rcaches_any _ _).mono ?_; rintro e w' ⟨rfl, rfl⟩) | (go_at_call 35; refine (HC.out _).mono ?_; rintro e w' ⟨rfl, rfl⟩))
    go_ret
    exact ⟨rfl, (Below.refl _ _).alloc (Nat.le_refl _) _⟩
set_option maxHeartbeats 800000 in
theorem rright_3 (m : BitVec 64) (a : Bool) (n : Int) (w : World) (h1 : 1 ≤ n) (h2 : n ≤ 4) :
    Calls Tryd.prog 30 #[.agg #[.int .u8 3, .int .u64 (Bv.U m), .bool a], .int .i64 n] w fun e w' => e = .returned (.bool (!moreB (Bs.elems m) ((n + 1) / 2) && !a)) ∧ Below w.heap.size w w' := by
  have e2 : decide (1 ≤ n ∧ n ≤ 4) = true := decide_eq_true ⟨h1, h2⟩
  cases a <;> cases hm : moreB (Bs.elems m) ((n + 1) / 2)
  all_goals
    go_enter Tryd.func30, Tryd.ntmps30
    go_wp2_with (first | (go_at_call 22; refine (rkind_any _ _).mono ?_; rintro e w' ⟨rfl, rfl⟩) | (go_at_call 23; refine (rcaches_any _ _).mono ?_; rintro e w' ⟨rfl, rfl⟩) | (go_at_call 35; refine (rbits_any _ _ _).mono ?_; rintro e w' ⟨rfl, rfl⟩))
    go_ret
    exact ⟨rfl, (Below.refl _ _).alloc (Nat.le_refl _) _⟩

/-- the reference's Right -/
def rrightB (k : Int) (m : BitVec 64) (a : Bool) (n : Int) : Bool :=
  if (k = 1 ∨ k = 2 ∨ k = 3) ∧ 1 ≤ n ∧ n ≤ 4 then
    (if k = 1 then !moreB (Bs.elems m) n && !a
     else if k = 2 then !moreB (Bs.elems m) n && decide ((Bs.elems m).length ≤ 2) && (!a || decide ((Bs.elems m).length = 0))
     else !moreB (Bs.elems m) ((n + 1) / 2) && !a)
  else false
theorem rright_any (k : Int) (m : BitVec 64) (a : Bool) (n : Int) (w : World) :
    Calls Tryd.prog 30 #[.agg #[.int .u8 k, .int .u64 (Bv.U m), .bool a], .int .i64 n] w fun e w' => e = .returned (.bool (rrightB k m a n)) ∧ Below w.heap.size w w' := by
  unfold rrightB
  split
  · rename_i h
    obtain ⟨hk, h1, h2⟩ := h
    rcases hk with rfl | rfl | rfl
    · exact rright_1 m a n w h1 h2
    · exact rright_2 m a n w h1 h2
    · exact rright_3 m a n w h1 h2
  · rename_i h
    exact rright_no k _ a n w h
end Go.Proofs.YtjijgncahonfhaaDoor
