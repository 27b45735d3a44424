/- the reference of layer 19: Told. -/
import Derived.Test.YtjijgncahonfhaaDoorVe
namespace Go.Proofs.YtjijgncahonfhaaDoor
open Go.RowKit Go.Shelf

attribute [local go_sem] Bv.and_u Bv.or_u Bv.andNot_u Bv.wrap_sub1 Bv.eq0 Bv.ne0 Bv.wrap_pow Bv.wrap_powmin Bv.wrap_neg Bv.shr_min Bv.shr_pow Bv.tmod2 Bv.wrap_add Bv.B1_eq1 Bv.B1_eq0 Bv.B1_ne1 Bv.B1_ne0

/-- may cache i have a copy? -/
def condB (k : Int) (m : BitVec 64) (a : Bool) (i : Nat) : Bool := hasB m (if k = 3 then (i : Int) / 2 else i) || a
/-- the caches below c that may -/
def toldTo (k : Int) (m : BitVec 64) (a : Bool) : Nat → BitVec 64
  | 0 => 0#64
  | c + 1 => if condB k m a c then toldTo k m a c + Bv.bit c else toldTo k m a c

set_option maxHeartbeats 400000 in
theorem rtold_no (k : Int) (m : Int) (a : Bool) (n : Int) (w : World) (h : ¬ ((k = 1 ∨ k = 2 ∨ k = 3) ∧ 1 ≤ n ∧ n ≤ 4)) :
    Calls Tryd.prog 31 #[.agg #[.int .u8 k, .int .u64 m, .bool a], .int .i64 n] w fun e w' => e = .returned (.int .u64 0) ∧ Below w.heap.size w w' := by
  by_cases hn : 0 < n
  · by_cases hk : k = 1 ∨ k = 2 ∨ k = 3
    · have e1 : decide (k = 1 ∨ k = 2 ∨ k = 3) = true := by simpa using hk
      have e2 : decide (1 ≤ n ∧ n ≤ 4) = false := decide_eq_false (fun h2 => h ⟨hk, h2⟩)
      clear h hk
      go_enter Tryd.func31, Tryd.ntmps31
      go_wp2
      refine wp_loop_rounds 1 ?_
      rw [rounds_succ]
      go_wp2_with (first | (go_at_call 22; refine (rkind_any _ _).mono ?_; rintro e w' ⟨rfl, rfl⟩) | (go_at_call 23; refine (rcaches_any _ _).mono ?_; rintro e w' ⟨rfl, rfl⟩))
      go_ret
      exact ⟨rfl, (Below.refl _ _).alloc (Nat.le_refl _) _⟩
    · have e1 : decide (k = 1 ∨ k = 2 ∨ k = 3) = false := by simpa using hk
      clear h hk
      go_enter Tryd.func31, Tryd.ntmps31
      go_wp2
      refine wp_loop_rounds 1 ?_
      rw [rounds_succ]
      go_wp2_with (first | (go_at_call 22; refine (rkind_any _ _).mono ?_; rintro e w' ⟨rfl, rfl⟩) | (go_at_call 23; refine (rcaches_any _ _).mono ?_; rintro e w' ⟨rfl, rfl⟩))
      go_ret
      exact ⟨rfl, (Below.refl _ _).alloc (Nat.le_refl _) _⟩
  · clear h
    go_enter Tryd.func31, Tryd.ntmps31
    go_wp2
    refine wp_loop_rounds 1 ?_
    rw [rounds_succ]
    go_wp2
    go_ret
    exact ⟨rfl, (Below.refl _ _).alloc (Nat.le_refl _) _⟩

set_option maxHeartbeats 1600000 in
theorem rtold_yes (k : Int) (m : BitVec 64) (a : Bool) (n : Int) (w : World) (hk : k = 1 ∨ k = 2 ∨ k = 3) (h1 : 1 ≤ n) (h2 : n ≤ 4) :
    Calls Tryd.prog 31 #[.agg #[.int .u8 k, .int .u64 (Bv.U m), .bool a], .int .i64 n] w fun e w' => e = .returned (.int .u64 (Bv.U (toldTo k m a n.toNat))) ∧ Below w.heap.size w w' := by
  have e1 : decide (k = 1 ∨ k = 2 ∨ k = 3) = true := by simpa using hk
  have e2 : decide (1 ≤ n ∧ n ≤ 4) = true := decide_eq_true ⟨h1, h2⟩
  have HK := Lib.hid hk
  clear hk
  obtain ⟨b3, hb3⟩ : ∃ b3, b3 = decide (k = 3) := ⟨_, rfl⟩
  have q3 : (k == 3) = b3 := by rw [hb3, Bool.eq_iff_iff]; simp
  have HB := Lib.hid hb3
  clear hb3
  go_enter Tryd.func31, Tryd.ntmps31
  go_wp2
  go_loop [5, 6] (fun o i => ∃ c : Nat, (c : Int) ≤ n ∧ i = .int .i64 c ∧ o = .int .u64 (Bv.U (toldTo k m a c))) (fun _ i => (n - intOf i).toNat)
  case atStart => exact ⟨0, by omega, rfl, rfl⟩
  case round =>
    obtain ⟨c, hc, rfl, rfl⟩ := hrel
    by_cases hlt : (c : Int) < n
    · have hcd : condB k m a c = (hasB m (if b3 = true then (c : Int) / 2 else c) || a) := by
        unfold condB; rw [HB.out]; simp only [decide_eq_true_eq]
      have hs : toldTo k m a (c + 1) = if condB k m a c then toldTo k m a c + Bv.bit c else toldTo k m a c := rfl
      rw [hcd] at hs
      have HS := Lib.hid hs
      clear hcd hs
      have arm := True.intro
      cases b3
      · cases a <;> cases hb : hasB m (c : Int)
        all_goals
          go_wp2_with (first | (go_at_call 22; refine (rkind_any _ _).mono ?_; rintro e w' ⟨rfl, rfl⟩) | (go_at_call 23; refine (rcaches_any _ _).mono ?_; rintro e w' ⟨rfl, rfl⟩) | (go_at_call 26; refine (rhas_any _ _ _).mono ?_; rintro e w' ⟨rfl, rfl⟩))
          go_round
          case rel => exact ⟨c + 1, by omega, by go_num, by rw [HS.out]; simp [hb]⟩
          case measure => simp [intOf]; omega
      · cases a <;> cases hb0 : hasB m (c : Int) <;> cases hb : hasB m ((c : Int) / 2)
        all_goals
          go_wp2_with (first | (go_at_call 22; refine (rkind_any _ _).mono ?_; rintro e w' ⟨rfl, rfl⟩) | (go_at_call 23; refine (rcaches_any _ _).mono ?_; rintro e w' ⟨rfl, rfl⟩) | (go_at_call 26; refine (rhas_any _ _ _).mono ?_; rintro e w' ⟨rfl, rfl⟩))
          go_round
          case rel => exact ⟨c + 1, by omega, by go_num, by rw [HS.out]; simp [hb]⟩
          case measure => simp [intOf]; omega
    · have hcn : c = n.toNat := by omega
      go_wp2
      go_ret
      exact ⟨by rw [← hcn]; rfl, (Below.refl _ _).alloc (Nat.le_refl _) _⟩

/-- the reference's Told -/
def rtoldS (k : Int) (m : BitVec 64) (a : Bool) (n : Int) : BitVec 64 := if (k = 1 ∨ k = 2 ∨ k = 3) ∧ 1 ≤ n ∧ n ≤ 4 then toldTo k m a n.toNat else 0#64
theorem rtold_any (k : Int) (m : BitVec 64) (a : Bool) (n : Int) (w : World) :
    Calls Tryd.prog 31 #[.agg #[.int .u8 k, .int .u64 (Bv.U m), .bool a], .int .i64 n] w fun e w' => e = .returned (.int .u64 (Bv.U (rtoldS k m a n))) ∧ Below w.heap.size w w' := by
  unfold rtoldS
  split
  · rename_i h; exact rtold_yes k m a n w h.1 h.2.1 h.2.2
  · rename_i h; exact rtold_no k _ a n w h
end Go.Proofs.YtjijgncahonfhaaDoor
