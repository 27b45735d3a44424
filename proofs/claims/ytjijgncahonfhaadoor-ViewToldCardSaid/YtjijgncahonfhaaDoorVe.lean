/- the reference of layer 19: kind, caches, Has, New, Clear, bits. -/
import Derived.Test.YtjijgncahonfhaaDoorVb
import Derived.Lib.Hide
namespace Go.Proofs.YtjijgncahonfhaaDoor
open Go.RowKit Go.Shelf

attribute [local go_sem] Bv.and_u Bv.or_u Bv.andNot_u Bv.wrap_sub1 Bv.eq0 Bv.ne0 Bv.wrap_pow Bv.wrap_powmin Bv.wrap_neg Bv.shr_min Bv.shr_pow Bv.tmod2 Bv.wrap_add Bv.B1_eq1 Bv.B1_eq0 Bv.B1_ne1 Bv.B1_ne0

set_option maxHeartbeats 400000 in
theorem rkind_any (k : Int) (w : World) :
    Calls Tryd.prog 22 #[.int .u8 k] w fun e w' => e = .returned (.bool (decide (k = 1 ∨ k = 2 ∨ k = 3))) ∧ w' = w := by
  by_cases h1 : 1 ≤ k <;> by_cases h3 : k ≤ 3
  all_goals
    go_enter Tryd.func22, Tryd.ntmps22
    go_wp2
    go_ret
    exact ⟨congrArg (fun b => Ending.returned (.bool b)) (by first | rfl | (symm; simp; omega)), rfl⟩
set_option maxHeartbeats 400000 in
theorem rcaches_any (n : Int) (w : World) :
    Calls Tryd.prog 23 #[.int .i64 n] w fun e w' => e = .returned (.bool (decide (1 ≤ n ∧ n ≤ 4))) ∧ w' = w := by
  by_cases h1 : 1 ≤ n <;> by_cases h2 : n ≤ 4
  all_goals
    go_enter Tryd.func23, Tryd.ntmps23
    go_wp2
    go_ret
    exact ⟨by simp [h1, h2], rfl⟩

/-- is a number in a set? -/
def hasB (s : BitVec 64) (i : Int) : Bool := decide (0 ≤ i ∧ i < 64) && Bv.G s i.toNat
set_option maxHeartbeats 400000 in
theorem rhas_any (s : BitVec 64) (i : Int) (w : World) :
    Calls Tryd.prog 26 #[.int .u64 (Bv.U s), .int .i64 i] w fun e w' => e = .returned (.bool (hasB s i)) ∧ w' = w := by
  by_cases h0 : 0 ≤ i
  · by_cases h1 : i < 64
    · have hd : hasB s i = Bv.G s i.toNat := by unfold hasB; simp [h0, h1]
      rw [hd]
      cases hb : Bv.G s i.toNat
      all_goals
        go_enter Tryd.func26, Tryd.ntmps26
        go_wp2
        go_ret
        exact ⟨rfl, rfl⟩
    · have hd : hasB s i = false := by unfold hasB; simp [h1]
      rw [hd]
      go_enter Tryd.func26, Tryd.ntmps26
      go_wp2
      go_ret
      exact ⟨rfl, rfl⟩
  · have hd : hasB s i = false := by unfold hasB; simp [h0]
    rw [hd]
    go_enter Tryd.func26, Tryd.ntmps26
    go_wp2
    go_ret
    exact ⟨rfl, rfl⟩

set_option maxHeartbeats 400000 in
theorem rnew_any (k n : Int) (w : World) :
    Calls Tryd.prog 10 #[.int .u8 k, .int .i64 n] w fun e w' => e = .returned (.agg #[.int .u8 (newK k n), .int .u64 0, .bool false]) ∧ Below w.heap.size w w' := by
  unfold newK
  by_cases hk : k = 1 ∨ k = 2 ∨ k = 3
  · have e1 : decide (k = 1 ∨ k = 2 ∨ k = 3) = true := by simpa using hk
    by_cases hn : 1 ≤ n ∧ n ≤ 4
    · have e2 : decide (1 ≤ n ∧ n ≤ 4) = true := by simpa using hn
      rw [if_pos ⟨hk, hn⟩]; clear hk hn
      go_enter Tryd.func10, Tryd.ntmps10
      go_wp2_with (first | (go_at_call 22; refine (rkind_any _ _).mono ?_; rintro e w' ⟨rfl, rfl⟩) | (go_at_call 23; refine (rcaches_any _ _).mono ?_; rintro e w' ⟨rfl, rfl⟩))
      exact bodyPost_ret (v := .agg #[.int .u8 k, .int .u64 0, .bool false]) (by simp [results, Tryd.results10, go_sem]) rfl ⟨rfl, (Below.refl _ _).alloc (Nat.le_refl _) _⟩
    · have e2 : decide (1 ≤ n ∧ n ≤ 4) = false := by simpa using hn
      rw [if_neg (fun h => hn h.2)]; clear hk hn
      go_enter Tryd.func10, Tryd.ntmps10
      go_wp2_with (first | (go_at_call 22; refine (rkind_any _ _).mono ?_; rintro e w' ⟨rfl, rfl⟩) | (go_at_call 23; refine (rcaches_any _ _).mono ?_; rintro e w' ⟨rfl, rfl⟩))
      exact bodyPost_ret (v := .agg #[.int .u8 0, .int .u64 0, .bool false]) (by simp [results, Tryd.results10, go_sem]) rfl ⟨rfl, (Below.refl _ _).alloc (Nat.le_refl _) _⟩
  · have e1 : decide (k = 1 ∨ k = 2 ∨ k = 3) = false := by simpa using hk
    rw [if_neg (fun h => hk h.1)]; clear hk
    go_enter Tryd.func10, Tryd.ntmps10
    go_wp2_with (first | (go_at_call 22; refine (rkind_any _ _).mono ?_; rintro e w' ⟨rfl, rfl⟩) | (go_at_call 23; refine (rcaches_any _ _).mono ?_; rintro e w' ⟨rfl, rfl⟩))
    exact bodyPost_ret (v := .agg #[.int .u8 0, .int .u64 0, .bool false]) (by simp [results, Tryd.results10, go_sem]) rfl ⟨rfl, (Below.refl _ _).alloc (Nat.le_refl _) _⟩

set_option maxHeartbeats 400000 in
theorem rclear_any (k m : Int) (a : Bool) (w : World) :
    Calls Tryd.prog 32 #[.agg #[.int .u8 k, .int .u64 m, .bool a]] w fun e w' => e = .returned (.agg #[.int .u8 k, .int .u64 0, .bool false]) ∧ Below w.heap.size w w' := by
  go_enter Tryd.func32, Tryd.ntmps32
  go_wp2
  exact bodyPost_ret (v := .agg #[.int .u8 k, .int .u64 0, .bool false]) (by simp [results, Tryd.results32, go_sem]) rfl ⟨rfl, by repeat (first | exact Below.refl _ _ | (refine Below.alloc ?_ (by simp; try omega) _))⟩

/-- is an element n or greater? -/
def moreB (l : List Nat) (n : Int) : Bool := l.any (fun b => decide (n ≤ (b : Int)))
theorem moreB_snoc (l : List Nat) (k : Nat) (n : Int) : moreB (l ++ [k]) n = (moreB l n || decide (n ≤ (k : Int))) := by
  unfold moreB; simp [List.any_append]

set_option maxHeartbeats 400000 in
theorem rbits_any (s : BitVec 64) (n : Int) (w : World) :
    Calls Tryd.prog 35 #[.int .u64 (Bv.U s), .int .i64 n] w fun e w' => e = .returned (.tuple #[.int .i64 ((Bs.elems s).length : Nat), .bool (moreB (Bs.elems s) n)]) ∧ w' = w := by
  go_enter Tryd.func35, Tryd.ntmps35
  go_wp2
  go_loop [6, 7, 8] (fun c mo i => ∃ k : Nat, k ≤ 64 ∧ i = .int .i64 k ∧ c = .int .i64 ((Bs.upto s k).length : Nat) ∧ mo = .bool (moreB (Bs.upto s k) n)) (fun _ _ i => 64 - (intOf i).toNat)
  case atStart => exact ⟨0, by omega, rfl, rfl, rfl⟩
  case round =>
    obtain ⟨k, hk, rfl, rfl, rfl⟩ := hrel
    have hle := Bs.upto_le s k
    by_cases hlt : k < 64
    · have hh : hasB s (k : Int) = s.getLsbD k := by unfold hasB; rw [decide_eq_true (by omega), Bool.true_and, Bv.G_eq, Int.toNat_natCast]
      by_cases hb : s.getLsbD k = true
      · have HS := Lib.hid (Bs.upto_hit s k hb)
        have hb' : hasB s (k : Int) = true := by rw [hh, hb]
        clear hh hb
        cases hm : moreB (Bs.upto s k) n <;> by_cases hn : n ≤ (k : Int)
        all_goals
          go_wp2_with (go_at_call 26; refine (rhas_any _ _ _).mono ?_; rintro e w' ⟨rfl, rfl⟩)
          go_round
          case rel => exact ⟨k + 1, by omega, by go_num, by rw [HS.out]; simp, by rw [HS.out, moreB_snoc, hm]; simp [hn]⟩
          case measure => simp [intOf]; omega
      · have hb0 : s.getLsbD k = false := by simpa using hb
        have HS := Lib.hid (Bs.upto_miss s k hb0)
        have hb' : hasB s (k : Int) = false := by rw [hh, hb0]
        clear hh hb hb0
        go_wp2_with (go_at_call 26; refine (rhas_any _ _ _).mono ?_; rintro e w' ⟨rfl, rfl⟩)
        go_round
        case rel => exact ⟨k + 1, by omega, by go_num, by rw [HS.out], by rw [HS.out]⟩
        case measure => simp [intOf]; omega
    · obtain rfl : k = 64 := by omega
      go_wp2
      go_ret2
      exact ⟨rfl, rfl⟩
end Go.Proofs.YtjijgncahonfhaaDoor
