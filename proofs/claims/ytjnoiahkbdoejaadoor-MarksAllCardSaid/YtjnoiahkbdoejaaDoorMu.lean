/- the reference of layer 1: Next, Pick, Rank, Subsets. -/
import Derived.Test.YtjnoiahkbdoejaaDoorMt
namespace Go.Proofs.YtjnoiahkbdoejaaDoor
open Go.RowKit Go.Shelf

attribute [local go_sem] Bv.and_u Bv.or_u Bv.andNot_u Bv.wrap_sub1 Bv.eq0 Bv.ne0 Bv.wrap_pow Bv.wrap_powmin Bv.wrap_neg Bv.eq_u Bv.ne_u Bv.shr_min Bv.shr_pow Bv.tmod2 Bv.wrap_add Bv.B1_eq1 Bv.B1_eq0 Bv.B1_ne1 Bv.B1_ne0

theorem above_get (s : BitVec 64) (i : Int) (x : Nat) (hx : x < 64) : (aboveS s i).getLsbD x = (s.getLsbD x && decide (i < (x : Int))) := by
  unfold aboveS
  split
  · rw [Bv.zero_get]
    have : decide (i < (x : Int)) = false := by simp; omega
    rw [this]; simp
  · rw [BitVec.getLsbD_and, Bv.not_get _ _ hx, allS_get _ _ hx]
    congr 1
    rw [Bool.eq_iff_iff]; simp; omega
theorem above_first (s : BitVec 64) (i : Int) (k : Nat) (hk : k < 64) (hb : Bv.G s k = true) (hi : i < (k : Int)) (hlow : ∀ j : Nat, j < k → ¬ (i < (j : Int) ∧ Bv.G s j = true)) : firstN (aboveS s i) = (k : Int) ∧ someB (aboveS s i) = true := by
  have hbk : (aboveS s i).getLsbD k = true := by
    rw [above_get s i k hk, show s.getLsbD k = true from hb, decide_eq_true hi]; rfl
  have hne := Bx.ne_of_bit hbk
  have hl : Bs.low (aboveS s i) = k := Bx.low_unique hbk (fun j hj => by
    rw [above_get s i j (by omega)]
    cases h1 : s.getLsbD j
    · rfl
    · have := hlow j hj
      have h2 : ¬ i < (j : Int) := fun h => this ⟨h, h1⟩
      rw [decide_eq_false h2]; rfl)
  unfold firstN someB
  rw [if_neg hne, hl]
  exact ⟨rfl, by simpa using hne⟩
theorem above_nil (s : BitVec 64) (i : Int) (hlow : ∀ j : Nat, j < 64 → ¬ (i < (j : Int) ∧ Bv.G s j = true)) : firstN (aboveS s i) = 0 ∧ someB (aboveS s i) = false := by
  have h0 : aboveS s i = 0#64 := by
    apply Bv.ext_get
    intro j hj
    rw [above_get s i j hj, Bv.zero_get]
    cases h1 : s.getLsbD j
    · rfl
    · have := hlow j hj
      have h2 : ¬ i < (j : Int) := fun h => this ⟨h, h1⟩
      rw [decide_eq_false h2]; rfl
  unfold firstN someB
  rw [h0]; simp

set_option maxRecDepth 100000 in
set_option maxHeartbeats 1000000 in
theorem rnext_any (s : BitVec 64) (i : Int) (w : World) :
    Calls Tryd.prog 22 #[.int .u64 (Bv.U s), .int .i64 i] w fun e w' => e = .returned (.tuple #[.int .i64 (firstN (aboveS s i)), .bool (someB (aboveS s i))]) ∧ w = w' := by
  go_enter Tryd.func22, Tryd.ntmps22
  go_wp2_with fail
  go_loop [6] (fun c => ∃ k : Nat, k ≤ 64 ∧ c = .int .i64 k ∧ ∀ j : Nat, j < k → ¬ (i < (j : Int) ∧ Bv.G s j = true)) (fun c => 64 - (intOf c).toNat)
  case atStart => exact ⟨0, Nat.zero_le _, rfl, fun j hj => by omega⟩
  case round =>
    obtain ⟨k, hk, rfl, hlow⟩ := hrel
    by_cases hlt : k < 64
    · by_cases hik : i < (k : Int)
      · have hh := hasB_nat s k hlt
        cases hb : Bv.G s k
        · rw [hb] at hh
          have H := Lib.hid hh
          have HL := Lib.hid (And.intro hlow hb)
          clear hh hb hlow
          go_wp2_with fail
          refine (rhas_is _ _ _ H.out _).mono ?_
          rintro e w' ⟨rfl, rfl⟩
          go_wp2_with fail
          go_round
          case rel =>
            refine ⟨k + 1, by omega, by go_num, fun j hj => ?_⟩
            by_cases e : j = k
            · subst e; rintro ⟨_, h2⟩; rw [HL.out.2] at h2; cases h2
            · exact HL.out.1 j (by omega)
          case measure => simp [intOf]; omega
        · rw [hb] at hh
          have H := Lib.hid hh
          have HF := Lib.hid (above_first s i k hlt hb hik hlow)
          clear hh hb hlow
          go_wp2_with fail
          refine (rhas_is _ _ _ H.out _).mono ?_
          rintro e w' ⟨rfl, rfl⟩
          go_wp2_with fail
          go_ret2
          exact ⟨by rw [HF.out.1, HF.out.2]; rfl, rfl⟩
      · have HL := Lib.hid hlow
        clear hlow
        go_wp2_with fail
        go_round
        case rel =>
          refine ⟨k + 1, by omega, by go_num, fun j hj => ?_⟩
          by_cases e : j = k
          · subst e; rintro ⟨h1, _⟩; exact hik h1
          · exact HL.out j (by omega)
        case measure => simp [intOf]; omega
    · have hk64 : k = 64 := by omega
      subst hk64
      have HF := Lib.hid (above_nil s i hlow)
      clear hlow
      go_wp2_with fail
      go_ret2
      exact ⟨by rw [HF.out.1, HF.out.2]; rfl, rfl⟩

set_option maxRecDepth 100000 in
set_option maxHeartbeats 1000000 in
theorem rrank_any (s : BitVec 64) (i : Int) (w : World) :
    Calls Tryd.prog 20 #[.int .u64 (Bv.U s), .int .i64 i] w fun e w' => e = .returned (.int .i64 (Bs.elems (s &&& allS i)).length) ∧ w = w' := by
  go_enter Tryd.func20, Tryd.ntmps20
  go_wp2_with fail
  go_loop [5, 6] (fun v c => ∃ k : Nat, k ≤ 64 ∧ c = .int .i64 k ∧ v = .int .i64 (Bs.upto (s &&& allS i) k).length) (fun _ c => 64 - (intOf c).toNat)
  case atStart => exact ⟨0, Nat.zero_le _, rfl, rfl⟩
  case round =>
    obtain ⟨k, hk, rfl, rfl⟩ := hrel
    by_cases hlt : k < 64
    · have hg : (s &&& allS i).getLsbD k = (Bv.G s k && decide ((k : Int) < i)) := by rw [BitVec.getLsbD_and, allS_get _ _ hlt]; rfl
      have hul := Bs.upto_le (s &&& allS i) k
      have hhit := fun h => congrArg List.length (Bs.upto_hit (s &&& allS i) k h)
      have hmiss := fun h => congrArg List.length (Bs.upto_miss (s &&& allS i) k h)
      rw [List.length_append] at hhit
      obtain ⟨N, hN⟩ : ∃ N, N = (Bs.upto (s &&& allS i) k).length := ⟨_, rfl⟩
      rw [← hN] at hhit hmiss hul ⊢
      have HG := Lib.hid (And.intro hg (And.intro hhit hmiss))
      clear hN hg hhit hmiss
      by_cases hki : (k : Int) < i
      · have hh := hasB_nat s k hlt
        cases hb : Bv.G s k
        · rw [hb] at hh
          have H := Lib.hid (And.intro hh hb)
          clear hh hb
          go_wp2_with fail
          refine (rhas_is _ _ _ H.out.1 _).mono ?_
          rintro e w' ⟨rfl, rfl⟩
          go_wp2_with fail
          go_round
          case rel => exact ⟨k + 1, by omega, by go_num, by rw [HG.out.2.2 (by rw [HG.out.1, H.out.2]; rfl)]⟩
          case measure => simp [intOf]; omega
        · rw [hb] at hh
          have H := Lib.hid (And.intro hh hb)
          clear hh hb
          go_wp2_with fail
          refine (rhas_is _ _ _ H.out.1 _).mono ?_
          rintro e w' ⟨rfl, rfl⟩
          go_wp2_with fail
          go_round
          case rel => exact ⟨k + 1, by omega, by go_num, by rw [HG.out.2.1 (by rw [HG.out.1, H.out.2, decide_eq_true hki]; rfl)]; rfl⟩
          case measure => simp [intOf]; omega
      · go_wp2_with fail
        go_round
        case rel => exact ⟨k + 1, by omega, by go_num, by rw [HG.out.2.2 (by rw [HG.out.1, decide_eq_false hki]; simp)]⟩
        case measure => simp [intOf]; omega
    · have hk64 : k = 64 := by omega
      subst hk64
      rw [Bs.upto_all]
      go_wp2_with fail
      go_ret
      exact ⟨rfl, rfl⟩

set_option maxRecDepth 100000 in
set_option maxHeartbeats 1000000 in
theorem rpick_any (s : BitVec 64) (k : Int) (w : World) :
    Calls Tryd.prog 25 #[.int .u64 (Bv.U s), .int .i64 k] w fun e W' => e = .returned (.tuple #[.int .i64 (pickN s k), .bool (pickB s k)]) ∧ Below w.heap.size w W' := by
  have hL := Bs.elems_le s
  by_cases h0 : k < 0
  · have h1 : pickN s k = 0 := by unfold pickN; rw [if_neg (by omega)]
    have h2 : pickB s k = false := by unfold pickB; exact decide_eq_false (by omega)
    rw [h1, h2]
    clear h1 h2
    go_enter Tryd.func25, Tryd.ntmps25
    go_wp2_with fail
    refine (rlist_any _ _).mono ?_
    rintro e w1 ⟨v, rfl, hrow, hb⟩
    obtain ⟨A, cap, rfl, _, _, hat⟩ := row_nums hrow
    have B1 := Lib.hid hb
    clear hb hrow hat
    go_wp2_with fail
    go_ret2
    exact ⟨rfl, B1.out⟩
  · obtain ⟨m, rfl⟩ : ∃ m : Nat, k = (m : Int) := ⟨k.toNat, by omega⟩
    by_cases h1 : m < (Bs.elems s).length
    · obtain ⟨x, hx, hx64, _, hg⟩ := nth_nat s h1
      have e1 : pickN s (m : Int) = (x : Int) := by unfold pickN; rw [if_pos (by omega), Int.toNat_natCast, hg]; rfl
      have e2 : pickB s (m : Int) = true := by unfold pickB; exact decide_eq_true ⟨by omega, by omega⟩
      rw [e1, e2]
      clear e1 e2 hg
      have HX := Lib.hid hx
      clear hx
      go_enter Tryd.func25, Tryd.ntmps25
      go_wp2_with fail
      refine (rlist_any _ _).mono ?_
      rintro e w1 ⟨v, rfl, hrow, hb⟩
      obtain ⟨A, cap, rfl, _, _, hat⟩ := row_nums hrow
      obtain ⟨b, off, rfl, hcell⟩ := hat.nth h1
      rw [HX.out] at hcell
      have B1 := Lib.hid hb
      clear hb hrow hat
      go_wp2_with fail
      go_ret2
      exact ⟨rfl, B1.out⟩
    · have e1 : pickN s (m : Int) = 0 := by unfold pickN; rw [if_pos (by omega), List.getElem?_eq_none (by omega)]; rfl
      have e2 : pickB s (m : Int) = false := by unfold pickB; exact decide_eq_false (by omega)
      rw [e1, e2]
      clear e1 e2
      go_enter Tryd.func25, Tryd.ntmps25
      go_wp2_with fail
      refine (rlist_any _ _).mono ?_
      rintro e w1 ⟨v, rfl, hrow, hb⟩
      obtain ⟨A, cap, rfl, _, _, hat⟩ := row_nums hrow
      have B1 := Lib.hid hb
      clear hb hrow hat
      go_wp2_with fail
      go_ret2
      exact ⟨rfl, B1.out⟩
end Go.Proofs.YtjnoiahkbdoejaaDoor
