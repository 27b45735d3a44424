/- package rel: Right. -/
import Derived.Test.YtknjdfgmejobfaaDoorNb
namespace Go.Proofs.YtknjdfgmejobfaaDoor
open Go.RowKit Go.Shelf

attribute [local go_sem] Bv.and_u Bv.or_u Bv.andNot_u Bv.wrap_sub1 Bv.eq0 Bv.ne0 Bv.wrap_pow Bv.wrap_powmin Bv.wrap_neg

theorem run_part_set (w : World) (cs : Array Value) (off : Nat) (v : Value) (h : cs[off]? = some v) : (part 23 cs off).run Tryd.prog w = .ok v w := by
  have hu := Tryd.underlying23
  unfold part isAgg
  simp [Sem.run_bind, run_underlying hu, Result.andThen, h]
theorem run_index_row (f : Rl.Rows) (k : Nat) (hk : k < 48) (w : World) : (Instr.index 24 (.agg (rowsC f).toArray) (.int .i64 k)).run Tryd.prog w = .ok (.int .u64 (Bv.U (f k))) w := by
  have hp := run_part_set w (rowsC f).toArray k (.int .u64 (Bv.U (f k))) (by simpa using rowsC_get f k hk)
  have hs : (sizeOf 23).run Tryd.prog w = .ok 1 w := by kernel_rfl
  have hlt : (k : Int) < 48 := by omega
  simp [Instr.index, asIntOf, run_underlying uArr, Result.andThen, hs, hp, hlt]
  intro h; omega

theorem rowsB_mono (n : Int) (f : Rl.Rows) {k : Nat} (hk : k < 48) (h : Rl.rowsB n f (k + 1) = false) : Rl.rowsB n f 48 = false := by
  rw [Bool.eq_false_iff] at h ⊢
  intro h2
  apply h
  unfold Rl.rowsB at h2 ⊢
  rw [List.all_eq_true] at h2 ⊢
  intro a ha
  rw [List.mem_range] at ha
  exact h2 a (by rw [List.mem_range]; omega)
set_option maxRecDepth 100000 in
set_option maxHeartbeats 1000000 in
theorem right_out (n : Int) (f : Rl.Rows) (w : World) (h : n < 0 ∨ 48 < n) :
    Calls Tryd.prog 58 #[.agg (relC n f)] w fun e w' => e = .returned (.bool false) ∧ Below w.heap.size w w' := by
  have c0 := (RelAt.new w n f).num
  rcases h with h | h
  all_goals
    go_enter Tryd.func58, Tryd.ntmps58
    go_wp2_with fail
    go_ret
    exact ⟨rfl, (Below.refl _ _).alloc (Nat.le_refl _) _⟩

set_option maxRecDepth 100000 in
set_option maxHeartbeats 2000000 in
theorem right_in (n : Int) (f : Rl.Rows) (w : World) (h0 : 0 ≤ n) (h1 : n ≤ 48) :
    Calls Tryd.prog 58 #[.agg (relC n f)] w fun e w' => e = .returned (.bool (Rl.rowsB n f 48)) ∧ Below w.heap.size w w' := by
  have hR := RelAt.new w n f
  have c0 := hR.num
  have HR := Lib.hid hR.range
  clear hR
  go_enter Tryd.func58, Tryd.ntmps58
  go_wp2_with fail
  refine (all_is _ _ (allS_below n) _).mono ?_
  rintro e w1 ⟨rfl, rfl⟩
  go_wp2_with (refine wpList_load_mid (by rfl) 24 (.tmp 17) (by rfl) w.heap.size 1 (by rfl) (rowsC f) _ HR.out uArr rfl (by rw [sArr, rowsC_len]) ?_)
  clear HR
  go_loop [19] (fun c => ∃ k : Nat, k ≤ 48 ∧ c = .int .i64 k ∧ Rl.rowsB n f k = true) (fun c => 48 - (intOf c).toNat)
  case atStart => exact ⟨0, Nat.zero_le _, rfl, rfl⟩
  case round =>
    obtain ⟨k, hk, rfl, hok⟩ := hrel
    by_cases hlt : k < 48
    · have hix := run_index_row f k hlt
      have hsucc := Rl.rowsB_succ n f k
      rw [hok, Bool.true_and] at hsucc
      obtain ⟨s, hs⟩ : ∃ s, s = f k := ⟨_, rfl⟩
      rw [← hs] at hix hsucc
      unfold Rl.rowB at hsucc
      clear hs hok
      have q1 : (s &&& ~~~ (Rl.below n) != 0#64) = !(s &&& ~~~ (Rl.below n) == 0#64) := rfl
      have q2 : (s != 0#64) = !(s == 0#64) := rfl
      cases b1 : (s &&& ~~~ (Rl.below n) == 0#64)
      · rw [b1] at hsucc q1
        have HS := Lib.hid hsucc
        clear hsucc
        go_wp2_with fail
        go_ret
        exact ⟨by rw [rowsB_mono n f hlt HS.out]; rfl, (Below.refl _ _).alloc (Nat.le_refl _) _⟩
      · rw [b1, Bool.true_and] at hsucc
        rw [b1] at q1
        by_cases hkn : (k : Int) < n
        · rw [decide_eq_true hkn, Bool.true_or] at hsucc
          have HS := Lib.hid hsucc
          clear hsucc
          go_wp2_with fail
          go_round
          case rel => exact ⟨k + 1, by omega, by go_num, HS.out⟩
          case measure => simp [intOf]; omega
        · rw [decide_eq_false hkn, Bool.false_or] at hsucc
          cases b2 : (s == 0#64)
          all_goals
            rw [b2] at hsucc q2
            have HS := Lib.hid hsucc
            clear hsucc
          · go_wp2_with fail
            go_ret
            exact ⟨by rw [rowsB_mono n f hlt HS.out]; rfl, (Below.refl _ _).alloc (Nat.le_refl _) _⟩
          · go_wp2_with fail
            go_round
            case rel => exact ⟨k + 1, by omega, by go_num, HS.out⟩
            case measure => simp [intOf]; omega
    · have hk48 : k = 48 := by omega
      subst hk48
      have HS := Lib.hid hok
      clear hok
      go_wp2_with fail
      go_ret
      exact ⟨by rw [HS.out]; rfl, (Below.refl _ _).alloc (Nat.le_refl _) _⟩
theorem right_any (n : Int) (f : Rl.Rows) (w : World) :
    Calls Tryd.prog 58 #[.agg (relC n f)] w fun e w' => e = .returned (.bool (Rl.rightB n f)) ∧ Below w.heap.size w w' := by
  by_cases h : 0 ≤ n ∧ n ≤ 48
  · have e : Rl.rightB n f = Rl.rowsB n f 48 := by unfold Rl.rightB; rw [decide_eq_true h, Bool.true_and]
    rw [e]; exact right_in n f w h.1 h.2
  · have e : Rl.rightB n f = false := by unfold Rl.rightB; rw [decide_eq_false h, Bool.false_and]
    rw [e]; exact right_out n f w (by omega)
theorem right_is (n : Int) (f : Rl.Rows) (b : Bool) (hb : Rl.rightB n f = b) (w : World) :
    Calls Tryd.prog 58 #[.agg (relC n f)] w fun e w' => e = .returned (.bool b) ∧ Below w.heap.size w w' := by subst hb; exact right_any n f w
end Go.Proofs.YtknjdfgmejobfaaDoor
