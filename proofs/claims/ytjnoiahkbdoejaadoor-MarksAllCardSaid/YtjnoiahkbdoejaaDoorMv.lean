/- the reference of layer 1: Subsets. -/
import Derived.Test.YtjnoiahkbdoejaaDoorMu
namespace Go.Proofs.YtjnoiahkbdoejaaDoor
open Go.RowKit Go.Shelf

attribute [local go_sem] Bv.and_u Bv.or_u Bv.andNot_u Bv.wrap_sub1 Bv.eq0 Bv.ne0 Bv.wrap_pow Bv.wrap_powmin Bv.wrap_neg Bv.eq_u Bv.ne_u Bv.shr_min Bv.shr_pow Bv.tmod2 Bv.wrap_add Bv.B1_eq1 Bv.B1_eq0 Bv.B1_ne1 Bv.B1_ne0

/-- the part of the subset j that the first k elements make -/
def depK (s : BitVec 64) (j k : Nat) : BitVec 64 := Bx.mk (fun x => (s.getLsbD x && j.testBit (Bx.rank s x)) && decide (Bx.rank s x < k))
theorem depK_zero (s : BitVec 64) (j : Nat) : depK s j 0 = 0#64 := by
  apply Bv.ext_get; intro i hi; unfold depK; rw [Bx.mk_get _ i hi, Bv.zero_get]; simp
theorem depK_all (s : BitVec 64) (j : Nat) : depK s j (Bs.elems s).length = Bx.dep s j := by
  apply Bv.ext_get; intro i hi
  unfold depK
  rw [Bx.mk_get _ i hi, Bx.dep_get s j i hi]
  cases hb : s.getLsbD i
  · rfl
  · have := Bx.rank_lt s hi hb
    rw [Bx.rank_all] at this
    rw [decide_eq_true this, Bool.and_true]
theorem depK_succ (s : BitVec 64) (j k x : Nat) (hx : (Bs.elems s)[k]? = some x) : depK s j (k + 1) = if j.testBit k then depK s j k ||| Bv.bit x else depK s j k := by
  have hr := Bx.rank_get s hx
  have hb := Bx.elems_bit hx
  have hx64 := Bx.lt64 hb
  have huniq : ∀ i, s.getLsbD i = true → Bx.rank s i = k → i = x := by
    intro i hi hk
    have h1 := Bx.get_rank s hi
    rw [hk, hx] at h1
    exact (Option.some.inj h1).symm
  apply Bv.ext_get; intro i hi
  have e1 : (depK s j (k + 1)).getLsbD i = ((s.getLsbD i && j.testBit (Bx.rank s i)) && decide (Bx.rank s i < k + 1)) := Bx.mk_get _ i hi
  have e2 : (depK s j k).getLsbD i = ((s.getLsbD i && j.testBit (Bx.rank s i)) && decide (Bx.rank s i < k)) := Bx.mk_get _ i hi
  have key : (depK s j (k + 1)).getLsbD i = ((depK s j k).getLsbD i || (decide (i = x) && j.testBit k)) := by
    rw [e1, e2]
    cases hbi : s.getLsbD i
    · have hne : i ≠ x := fun e => by rw [e, hb] at hbi; cases hbi
      simp [hne]
    · by_cases hrk : Bx.rank s i = k
      · have := huniq i hbi hrk
        subst this
        rw [hr]; simp
      · have hne : i ≠ x := fun e => hrk (by rw [e]; exact hr)
        have hiff : (Bx.rank s i < k + 1) ↔ (Bx.rank s i < k) := by omega
        simp [hne, hiff]
  rw [key]
  cases hj : j.testBit k
  · simp
  · simp only [if_true]
    rw [BitVec.getLsbD_or, Bv.bit_get x i hx64]; simp

theorem rhas_num (n i : Nat) (u : Int) (hu : u = (n : Int)) (hn : n < 18446744073709551616) (hi : i < 64) (b : Bool) (hb : n.testBit i = b) (w : World) :
    Calls Tryd.prog 32 #[.int .u64 u, .int .i64 i] w fun e w' => e = .returned (.bool b) ∧ w = w' := by
  subst hu hb
  have h := rhas_is (BitVec.ofNat 64 n) i (n.testBit i) (by rw [hasB_nat _ _ hi]; unfold Bv.G; rw [BitVec.getLsbD_ofNat]; simp [hi]) w
  rw [Bv.U_ofNat n hn] at h
  exact h

set_option maxHeartbeats 1000000 in
theorem rsubs_arg (s : BitVec 64) (most : Int) (w : World) (h : 65536 < most) :
    Calls Tryd.prog 27 #[.int .u64 (Bv.U s), .int .i64 most] w fun e w' => e = .returned (.tuple #[.slice none 0 0, .int .i64 2]) ∧ Below w.heap.size w w' := by
  go_enter Tryd.func27, Tryd.ntmps27
  go_wp2_with fail
  refine (rlist_any _ _).mono ?_
  rintro e w1 ⟨v, rfl, hrow, hb⟩
  obtain ⟨A, cap, rfl, _, _, hat⟩ := row_nums hrow
  have B1 := Lib.hid hb
  clear hb hrow hat
  go_wp2_with fail
  go_ret2
  exact ⟨rfl, B1.out⟩

theorem pow_le17 (k : Nat) (h : k ≤ 17) : 2 ^ k ≤ 131072 := by have := Nat.pow_le_pow_right (show 0 < 2 by decide) h; omega
theorem pow_le16 (k : Nat) (h : k ≤ 16) : 2 ^ k ≤ 65536 := by have := Nat.pow_le_pow_right (show 0 < 2 by decide) h; omega
theorem owns_base {w : World} {b b' n : Nat} {e : TypeId} {size : Nat} {v : Value} {xs : List Value} (h : w.ownsRow b e size v n xs) (hb : b' ≤ b) : w.ownsRow b' e size v n xs :=
  ⟨h.1, h.2.imp id fun ⟨g, cap, cur, h1, h2, h3⟩ => ⟨g, cap, cur, h1, Nat.le_trans hb h2, h3⟩⟩
/-- the power that stands in a slot, as its exponent -/
def logOf (v : Value) : Nat := (intOf v).toNat.log2
theorem logOf_pow (k : Nat) : logOf (.int .i64 ((2 ^ k : Nat) : Int)) = k := by
  show (Int.toNat ((2 ^ k : Nat) : Int)).log2 = k
  rw [Int.toNat_natCast]; exact Nat.log2_two_pow

set_option maxRecDepth 100000 in
set_option maxHeartbeats 4000000 in
theorem rsubs_small (s : BitVec 64) (most : Int) (w : World) (hm : most ≤ 4096) :
    Calls Tryd.prog 27 #[.int .u64 (Bv.U s), .int .i64 most] w fun e w' => ∃ v, e = .returned (.tuple #[v, .int .i64 (subsE s most)]) ∧ w'.ownsRow w.heap.size 23 1 v (subsL s most).length (sets (subsL s most)) ∧ Below w.heap.size w w' := by
  obtain ⟨i0, hi, hz0, hz1, hz2⟩ := info_parts infoSet
  have hL := Bs.elems_le s
  obtain ⟨L, hLe⟩ : ∃ L, L = (Bs.elems s).length := ⟨_, rfl⟩
  go_enter Tryd.func27, Tryd.ntmps27
  go_wp2_with fail
  refine (rlist_any _ _).mono ?_
  rintro e w1 ⟨v, rfl, hrow, hb⟩
  obtain ⟨A, cap, rfl, _, _, hat⟩ := row_nums hrow
  rw [← hLe] at hL ⊢
  have HL := Lib.hid hLe
  have HA1 := Lib.hid hat
  have B1 := Lib.hid hb
  clear hb hrow hat hLe
  go_wp2_with fail
  go_loop [7, 8] (fun v c => ∃ k P : Nat, k ≤ L ∧ k ≤ 17 ∧ P = 2 ^ k ∧ c = .int .i64 k ∧ v = .int .i64 P) (fun _ c => L - (intOf c).toNat)
  case atStart => exact ⟨0, 1, Nat.zero_le _, by omega, rfl, rfl, rfl⟩
  case round =>
    obtain ⟨k, P, hkL, hk17, hP, rfl, rfl⟩ := hrel
    have hP17 := pow_le17 k hk17
    rw [← hP] at hP17
    by_cases hgo : k < L ∧ k < 17
    · obtain ⟨h1, h2⟩ := hgo
      have hP16 := pow_le16 k (by omega)
      rw [← hP] at hP16
      have hP2 : 2 * P = 2 ^ (k + 1) := by rw [hP, Nat.pow_succ]; omega
      have HP := Lib.hid hP2
      clear hP hP2
      go_wp2_with fail
      go_round
      case rel => exact ⟨k + 1, 2 * P, by omega, by omega, HP.out, by go_num, by go_num⟩
      case measure => simp [intOf]; omega
    · have hstop : ((k : Int) < (L : Int) ∧ 65536 < (P : Int)) ∨ (¬ (k : Int) < (L : Int)) := by
        by_cases h1 : k < L
        · have : k = 17 := by omega
          subst this
          exact .inl ⟨by omega, by rw [hP]; decide⟩
        · exact .inr (by omega)
      have hcase : (most < (P : Int) ∧ subsE s most = 5) ∨ ((P : Int) ≤ most ∧ k = L ∧ subsE s most = 0 ∧ Bx.size s = P) := by
        have hlen : (Bs.elems s).length = L := HL.out.symm
        have hp1 : 1 ≤ P := by rw [hP]; exact Nat.two_pow_pos k
        by_cases hk : k = L
        · have hsz : Bx.size s = P := by unfold Bx.size; rw [hlen, ← hk, hP]
          by_cases hmp : most < (P : Int)
          · refine .inl ⟨hmp, ?_⟩
            unfold subsE
            rw [if_neg (by omega)]
            by_cases h1 : most < 1
            · rw [if_pos h1]
            · rw [if_neg h1]
              by_cases h17 : 17 ≤ (Bs.elems s).length
              · rw [if_pos h17]
              · rw [if_neg h17, if_pos (by rw [hsz]; exact hmp)]
          · refine .inr ⟨by omega, hk, ?_, hsz⟩
            have hk12 : ¬ 17 ≤ (Bs.elems s).length := by
              intro h17
              have : k = 17 := by omega
              rw [this] at hP
              have : P = 131072 := hP
              omega
            unfold subsE
            rw [if_neg (by omega), if_neg (by omega), if_neg hk12, if_neg (by rw [hsz]; omega)]
        · have hk17e : k = 17 := by omega
          refine .inl ⟨by rw [hP, hk17e]; have : ((2 ^ 17 : Nat) : Int) = 131072 := rfl; omega, ?_⟩
          unfold subsE
          rw [if_neg (by omega)]
          by_cases h1 : most < 1
          · rw [if_pos h1]
          · rw [if_neg h1, if_pos (by omega)]
      clear hP hgo
      rcases hcase with ⟨hmp, hE⟩ | ⟨hmp, hkl, hE, hsz⟩
      · have HE := Lib.hid hE
        clear hE
        rcases hstop with ⟨h1, h2⟩ | h1
        all_goals
          go_wp2_with fail
          go_ret2
          refine ⟨_, by rw [HE.out]; rfl, ?_, B1.out⟩
          have : subsL s most = [] := by unfold subsL; rw [HE.out]; rfl
          rw [this]; exact World.ownsRow_nil _ _ _ _
      · subst hkl
        have HE := Lib.hid (And.intro hE hsz)
        have hstop' : ¬ ((k : Int) < (k : Int)) := by omega
        have hPm : P ≤ 4096 := by omega
        clear hE hsz hstop
        go_wp2_with fail
        go_loopw [9, 10, 11, 12] (fun v c _ _ wr => ∃ j : Nat, j ≤ P ∧ c = .int .i64 j ∧ wr.ownsRow w1.heap.size 23 1 v j (sets (subsK s j)) ∧ Below w1.heap.size w1 wr) (fun _ c _ _ _ => P - (intOf c).toNat)
        case atStart => exact ⟨0, Nat.zero_le _, rfl, World.ownsRow_nil _ _ _ _, Below.refl _ _⟩
        case round =>
          obtain ⟨j, hj, rfl, hrow, hb1⟩ := hrel
          by_cases hlt : j < P
          · have HA2 := Lib.hid (HA1.out.below hb1 (Nat.le_refl _))
            have hs1 : w1.heap.size ≤ wr.heap.size := hb1.size
            have HB := Lib.hid hb1
            clear hb1
            go_wp2_with fail
            go_loop [11, 12] (fun t c => ∃ i : Nat, i ≤ k ∧ c = .int .i64 i ∧ t = .int .u64 (Bv.U (depK s j i))) (fun _ c => k - (intOf c).toNat)
            case atStart => exact ⟨0, Nat.zero_le _, rfl, by rw [depK_zero]; rfl⟩
            case round =>
              obtain ⟨i, hik, rfl, rfl⟩ := hrel
              by_cases hi2 : i < k
              · have hiE : i < (Bs.elems s).length := by rw [← HL.out]; exact hi2
                obtain ⟨x, hx, hx64, _, hg⟩ := nth_nat s hiE
                obtain ⟨b, off, rfl, hcell⟩ := HA2.out.nth hiE
                rw [hx] at hcell
                have hsucc := depK_succ s j i x hg
                obtain ⟨t, ht⟩ : ∃ t, t = depK s j i := ⟨_, rfl⟩
                rw [← ht] at hsucc ⊢
                clear hg hx hiE ht
                cases hbit : j.testBit i
                · rw [hbit] at hsucc
                  have HS := Lib.hid (And.intro hsucc hbit)
                  clear hsucc hbit
                  go_wp2_with fail
                  refine (rhas_num j i _ (by rfl) (by omega) (by omega) false HS.out.2 _).mono ?_
                  rintro e w' ⟨rfl, rfl⟩
                  go_wp2_with fail
                  go_round
                  case rel => exact ⟨i + 1, by omega, by go_num, by rw [HS.out.1]; rfl⟩
                  case measure => simp [intOf]; omega
                · rw [hbit] at hsucc
                  have HS := Lib.hid (And.intro hsucc hbit)
                  clear hsucc hbit
                  go_wp2_with fail
                  refine (rhas_num j i _ (by rfl) (by omega) (by omega) true HS.out.2 _).mono ?_
                  rintro e w' ⟨rfl, rfl⟩
                  go_wp2_with fail
                  refine (rwith_is _ _ _ (withS_nat t x hx64) _).mono ?_
                  rintro e w' ⟨rfl, rfl⟩
                  go_wp2_with fail
                  go_round
                  case rel => exact ⟨i + 1, by omega, by go_num, by rw [HS.out.1]; rfl⟩
                  case measure => simp [intOf]; omega
              · have hik2 : i = k := by omega
                subst hik2
                have hd : depK s j i = Bx.dep s j := by rw [HL.out]; exact depK_all s j
                rw [hd]
                obtain ⟨d, hdd⟩ : ∃ d, d = Bx.dep s j := ⟨_, rfl⟩
                rw [← hdd]
                have HD := Lib.hid hdd
                clear hd hdd
                go_wp2_with (at_builtin; refine wpList_append_own _ rfl _ _ 39 rfl w1.heap.size 23 i0 (.int .u64 0) 1 8 Tryd.underlying39 hi hz0 hz1 hz2 rfl (by decide) _ _ _ rfl (hrow.alloc _) ⟨wr.heap.size, 0, none⟩ 1 1 [.int .u64 (Bv.U d)] rfl rfl (cell_one_new _ _ _) (by simp [Value.oneCell']) (by unfold maxLen; omega) (by omega) (by simp; omega) ?_; intro v' w3 hown' hgrow hnil')
                go_roundw
                case rel =>
                  have hbn : Below w1.heap.size w1 w3 := (HB.out.alloc hs1 _).grown hgrow (by simp; omega) (fun j e => (hrow.lt j e).1)
                  refine ⟨j + 1, by omega, by go_num, ?_, hbn⟩
                  rw [subsK_succ, sets_snoc, ← HD.out]
                  exact hown'
                case measure => simp [intOf]; omega
          · have hjp : j = P := by omega
            subst hjp
            have HB := Lib.hid (And.intro hrow hb1)
            clear hrow hb1
            go_wp2_with fail
            go_ret2
            refine ⟨_, by rw [HE.out.1]; rfl, ?_, B1.out.trans (HB.out.2.mono B1.out.size)⟩
            have : subsL s most = subsK s j := by unfold subsL; rw [HE.out.1, HE.out.2]; rfl
            rw [this, subsK_len]; exact owns_base HB.out.1 B1.out.size
/-- for the limits of which the law speaks -/
theorem rsubs_any (s : BitVec 64) (most : Int) (w : World) (hm : most ≤ 4096 ∨ 65536 < most) :
    Calls Tryd.prog 27 #[.int .u64 (Bv.U s), .int .i64 most] w fun e w' => ∃ v, e = .returned (.tuple #[v, .int .i64 (subsE s most)]) ∧ w'.ownsRow w.heap.size 23 1 v (subsL s most).length (sets (subsL s most)) ∧ Below w.heap.size w w' := by
  rcases hm with h | h
  · exact rsubs_small s most w h
  · have he : subsE s most = 2 := by unfold subsE; rw [if_pos h]
    have hl : subsL s most = [] := by unfold subsL; rw [he]; rfl
    refine (rsubs_arg s most w h).mono fun e w' ⟨h1, h2⟩ => ⟨_, by rw [he]; exact h1, ?_, h2⟩
    rw [hl]; exact World.ownsRow_nil _ _ _ _
end Go.Proofs.YtjnoiahkbdoejaaDoor
