/- layer 1's law: the walk of MarksSubsets. -/
import Derived.Test.YtjnoiahkbdoejaaDoorMr
namespace Go.Proofs.YtjnoiahkbdoejaaDoor
open Go.RowKit Go.Shelf

/-- is t among the first k subsets of s? -/
def fnd (s t : BitVec 64) (k : Nat) : Bool := (List.range k).any (fun j => Bx.dep s j == t)
theorem fnd_succ (s t : BitVec 64) (k : Nat) : fnd s t (k + 1) = (fnd s t k || (Bx.dep s k == t)) := by simp [fnd, List.range_succ]
theorem fnd_all (s o : BitVec 64) : fnd s (o &&& s) (Bx.size s) = true := by
  obtain ⟨j, hj, he⟩ := Bx.dep_all s (o &&& s) (fun i hi h => by rw [BitVec.getLsbD_and] at h; simp at h; exact h.2)
  unfold fnd
  rw [List.any_eq_true]
  exact ⟨j, List.mem_range.2 hj, by simp [he]⟩
theorem dep_in (s : BitVec 64) (j : Nat) : (Bx.dep s j &&& ~~~ s != 0#64) = false := by
  have : Bx.dep s j &&& ~~~ s = 0#64 := by
    apply Bv.ext_get
    intro i hi
    rw [BitVec.getLsbD_and, Bv.not_get s i hi, Bv.zero_get]
    cases h : (Bx.dep s j).getLsbD i
    · rfl
    · rw [Bx.dep_sub s j i hi h]; rfl
  rw [this]; rfl
/-- the first ten elements -/
theorem first_ten (s : BitVec 64) : (pickB s 10 = true → Bx.card (s &&& allS (pickN s 10)) ≤ 10) ∧ (pickB s 10 = false → Bx.card s ≤ 10) := by
  constructor
  · intro h
    unfold pickB at h
    have h := of_decide_eq_true h
    obtain ⟨x, hx⟩ : ∃ x, (Bs.elems s)[10]? = some x := ⟨_, List.getElem?_eq_getElem (by omega)⟩
    have hp : pickN s 10 = (x : Int) := by unfold pickN; rw [if_pos (by omega)]; simp [hx]
    rw [hp, rank_all_eq s x (by have := Bx.lt64 (Bx.elems_bit hx); omega), Bx.rank_get s hx]
    exact Nat.le_refl _
  · intro h
    unfold pickB at h
    have h := of_decide_eq_false h
    unfold Bx.card; omega
theorem subs_e (s : BitVec 64) (h : Bx.card s ≤ 10) : subsE s (Bx.size s : Nat) = 0 ∧ subsE s ((Bx.size s : Nat) - 1) = 5 ∧ subsE s 65537 = 2 ∧ Bx.size s ≤ 1024 := by
  have h' : (Bs.elems s).length ≤ 10 := h
  have hs : Bx.size s ≤ 1024 := by
    unfold Bx.size
    have := Nat.pow_le_pow_right (show 0 < 2 by decide) h'
    omega
  have hp := Bx.size_pos s
  refine ⟨?_, ?_, rfl, hs⟩
  · unfold subsE
    rw [if_neg (by omega), if_neg (by omega), if_neg (by omega), if_neg (by omega)]
  · unfold subsE
    rw [if_neg (by omega)]
    by_cases h1 : ((Bx.size s : Nat) : Int) - 1 < 1
    · rw [if_pos h1]
    · rw [if_neg h1, if_neg (by omega), if_pos (by omega)]
theorem subsets_is (s : BitVec 64) (most e0 : Int) (he : subsE s most = e0) (w : World) (hT : Tab w) (hw : 0 < w.heap.size) :
    Calls Tryd.prog 26 #[.int .u64 (Bv.U s), .int .i64 most] w fun e w' => ∃ v, e = .returned (.tuple #[v, .int .i64 e0]) ∧ w'.ownsRow w.heap.size 23 1 v (subsL s most).length (sets (subsL s most)) ∧ Below w.heap.size w w' := by
  subst he; exact subsets_any s most w hT hw
theorem row_sets' {w : World} {base n : Nat} {e : TypeId} {v : Value} {l : List (BitVec 64)} (h : w.ownsRow base e 1 v n (sets l)) : ∃ A cap, v = .slice A n cap ∧ l.length = n ∧ cap ≤ maxLen ∧ SetsAt w A l := by
  obtain ⟨A, cap, e1, e2, e3, h4⟩ := row_sets h
  exact ⟨A, cap, by rw [e1, e2], e2, e3, h4⟩
theorem SetsAt.nth {w : World} {A : Option Addr} {s : BitVec 64} {n k : Nat} (h : SetsAt w A (subsK s n)) (hk : k < n) :
    ∃ b off, A = some ⟨b, off, none⟩ ∧ w.cell? ⟨b, off + k, none⟩ = some (.int .u64 (Bv.U (Bx.dep s k))) := by
  obtain ⟨b, off, e, _, hc⟩ := h (by rw [subsK_len]; omega)
  refine ⟨b, off, e, ?_⟩
  rw [hc k (by rw [subsK_len]; exact hk)]
  simp [subsK, List.getD_eq_getElem?_getD, hk]

attribute [local go_sem] Bv.and_u Bv.or_u Bv.andNot_u Bv.wrap_sub1 Bv.eq0 Bv.ne0 Bv.wrap_pow Bv.wrap_powmin Bv.wrap_neg Bv.eq_u Bv.ne_u Bv.shr_min Bv.shr_pow Bv.and1 Bv.B1_eq1 Bv.B1_eq0 Bv.B1_ne1 Bv.B1_ne0
set_option maxRecDepth 100000 in
set_option maxHeartbeats 8000000 in
theorem marksSubsets_any (s o : BitVec 64) (w : World) (hT : Tab w) (hw : 0 < w.heap.size) :
    Calls Tryd.prog 8 #[.int .u64 (Bv.U s), .int .u64 (Bv.U o)] w fun e w' => e = .returned (.bool true) ∧ Below w.heap.size w w' := by
  have hTl : ∀ W, Below w.heap.size w W → Tab W ∧ 0 < W.heap.size := fun W h => ⟨hT.below h hw, Nat.lt_of_lt_of_le hw h.size⟩
  have HT := Lib.hid hTl
  have B0 := Lib.hid (Below.refl w.heap.size w)
  clear hTl hT
  obtain ⟨ok, hok⟩ : ∃ b, pickB s 10 = b := ⟨_, rfl⟩
  obtain ⟨pn, hpn⟩ : ∃ n, pickN s 10 = n := ⟨_, rfl⟩
  obtain ⟨t, ht, hcard⟩ : ∃ t, (if ok then s &&& allS pn else s) = t ∧ Bx.card t ≤ 10 := by
    refine ⟨_, rfl, ?_⟩
    have h := first_ten s
    rw [hok, hpn] at h
    cases ok
    · exact h.2 rfl
    · exact h.1 rfl
  have HP := Lib.hid (And.intro hpn hok)
  obtain ⟨he1, he2, he3, hsz⟩ := subs_e t hcard
  have hfa := fnd_all t o
  obtain ⟨N, hN⟩ : ∃ N, Bx.card t = N := ⟨_, rfl⟩
  obtain ⟨p, hp⟩ : ∃ p, Bx.size t = p := ⟨_, rfl⟩
  have hpz : (2 : Int) ^ N = (p : Int) := by rw [← hp, ← hN]; unfold Bx.size Bx.card; simp
  have hp1 : 1 ≤ p := by rw [← hp]; exact Bx.size_pos t
  rw [hp] at he1 he2 hsz hfa
  rw [hN] at hcard
  have HE := Lib.hid (And.intro he1 (And.intro he2 (And.intro he3 (And.intro hN (And.intro hp hfa)))))
  clear hpn hok he1 he2 he3 hN hp hfa
  cases ok
  all_goals
    simp only [if_true, if_false, Bool.false_eq_true] at ht
  · subst ht
    go_enter Tryd.func8, Tryd.ntmps8
    go_wp2_with fail
    refine (pick_is _ _ _ _ HP.out.1 HP.out.2 (by decide) (by decide) _ (HT.out _ B0.out).1 (HT.out _ B0.out).2).mono ?_
    rintro e w1 ⟨rfl, hb⟩
    have B1 := Lib.hid (B0.out.trans (hb.mono B0.out.size))
    clear hb B0
    go_wp2_with fail
    refine (len_card _ N HE.out.2.2.2.1 _ (HT.out _ B1.out).1 (HT.out _ B1.out).2).mono ?_
    rintro e w2 ⟨rfl, hb⟩
    have B2 := Lib.hid (B1.out.trans (hb.mono B1.out.size))
    clear hb B1
    go_wp2_with fail
    refine (subsets_is _ _ _ HE.out.1 _ (HT.out _ B2.out).1 (HT.out _ B2.out).2).mono ?_
    rintro e w3 ⟨v, rfl, hrow, hb⟩
    have hl1 : subsL s (p : Nat) = subsK s p := by unfold subsL; rw [HE.out.1, HE.out.2.2.2.2.1]; rfl
    rw [hl1, subsK_len] at hrow
    obtain ⟨A, cap, rfl, _, _, hat⟩ := row_sets' hrow
    have B3 := Lib.hid (B2.out.trans (hb.mono B2.out.size))
    have HA3 := Lib.hid hat
    clear hb B2 hrow hat hl1
    go_wp2_with fail
    refine (subsets_is _ _ _ HE.out.2.1 _ (HT.out _ B3.out).1 (HT.out _ B3.out).2).mono ?_
    rintro e w4 ⟨v, rfl, hrow, hb⟩
    have hl1 : subsL s ((p : Nat) - 1) = [] := by unfold subsL; rw [HE.out.2.1]; rfl
    rw [hl1] at hrow
    obtain ⟨A4, cap4, rfl, _, _, _⟩ := row_sets' hrow
    have B4 := Lib.hid (B3.out.trans (hb.mono B3.out.size))
    have HA4 := Lib.hid (HA3.out.below hb (Nat.le_refl _))
    clear hb B3 hrow HA3 hl1
    go_wp2_with fail
    refine (subsets_is _ _ _ HE.out.2.2.1 _ (HT.out _ B4.out).1 (HT.out _ B4.out).2).mono ?_
    rintro e w5 ⟨v, rfl, hrow, hb⟩
    obtain ⟨A5, cap5, rfl, _, _, _⟩ := row_sets' hrow
    have B5 := Lib.hid (B4.out.trans (hb.mono B4.out.size))
    have HA5 := Lib.hid (HA4.out.below hb (Nat.le_refl _))
    clear hb B4 hrow HA4
    go_wp2_with fail
    go_loop [14, 73] (fun f c => ∃ k : Nat, k ≤ p ∧ c = .int .i64 k ∧ f = .bool (fnd s (o &&& s) k)) (fun _ c => p - (intOf c).toNat)
    case atStart => exact ⟨0, Nat.zero_le _, rfl, rfl⟩
    case round =>
      obtain ⟨k, hk, rfl, rfl⟩ := hrel
      by_cases hlt : k < p
      · obtain ⟨b, off, hAe, hcell⟩ := HA5.out.nth hlt
        have hin := dep_in s k
        have hsucc := fnd_succ s (o &&& s) k
        obtain ⟨x, hx⟩ : ∃ x, Bx.dep s k = x := ⟨_, rfl⟩
        rw [hx] at hcell hin hsucc
        cases hf : fnd s (o &&& s) k
        all_goals
          cases hq : (x == o &&& s)
          all_goals
            rw [hf, hq] at hsucc
            have HS := Lib.hid hsucc
            clear hf hsucc
            cases k with
            | zero =>
              subst hAe
              rw [Nat.add_zero] at hcell
              clear hx
              go_wp2_with fail
              go_round
              case rel => exact ⟨1, by omega, rfl, by rw [HS.out]; rfl⟩
              case measure => simp [intOf]; omega
            | succ j =>
              obtain ⟨b', off', hA2e, hcell'⟩ := HA5.out.nth (show j < p by omega)
              rw [hAe] at hA2e
              simp only [Option.some.injEq, Addr.mk.injEq, and_true] at hA2e
              obtain ⟨rfl, rfl⟩ := hA2e
              subst hAe
              obtain ⟨y, hy⟩ : ∃ y, Bx.dep s j = y := ⟨_, rfl⟩
              rw [hy] at hcell'
              have hyx : Bv.U y < Bv.U x := by
                have := Bx.dep_lt s (j := j) (by rw [HE.out.2.2.2.2.1]; exact hlt)
                rw [hx, hy] at this
                unfold Bv.U; omega
              clear hx hy
              go_wp2_with fail
              go_round
              case rel => exact ⟨j + 1 + 1, by omega, by go_num, by rw [HS.out]; rfl⟩
              case measure => simp [intOf]; omega
      · have hkp : k = p := by omega
        subst hkp
        rw [HE.out.2.2.2.2.2]
        go_wp2_with fail
        refine (awake_any _ (HT.out _ B5.out).1 (HT.out _ B5.out).2).mono ?_
        rintro e w6 ⟨rfl, hb⟩
        have B6 := Lib.hid (B5.out.trans (hb.mono B5.out.size))
        clear hb B5
        go_wp2_with fail
        go_ret
        exact ⟨rfl, B6.out⟩
  · go_enter Tryd.func8, Tryd.ntmps8
    go_wp2_with fail
    refine (pick_is _ _ _ _ HP.out.1 HP.out.2 (by decide) (by decide) _ (HT.out _ B0.out).1 (HT.out _ B0.out).2).mono ?_
    rintro e w1 ⟨rfl, hb⟩
    have B1 := Lib.hid (B0.out.trans (hb.mono B0.out.size))
    clear hb B0
    go_wp2_with fail
    refine (all_any _ _).mono ?_
    rintro e w1 ⟨rfl, rfl⟩
    go_wp2_with fail
    refine (len_card _ N HE.out.2.2.2.1 _ (HT.out _ B1.out).1 (HT.out _ B1.out).2).mono ?_
    rintro e w2 ⟨rfl, hb⟩
    have B2 := Lib.hid (B1.out.trans (hb.mono B1.out.size))
    clear hb B1
    go_wp2_with fail
    refine (subsets_is _ _ _ HE.out.1 _ (HT.out _ B2.out).1 (HT.out _ B2.out).2).mono ?_
    rintro e w3 ⟨v, rfl, hrow, hb⟩
    have hl1 : subsL t (p : Nat) = subsK t p := by unfold subsL; rw [HE.out.1, HE.out.2.2.2.2.1]; rfl
    rw [hl1, subsK_len] at hrow
    obtain ⟨A, cap, rfl, _, _, hat⟩ := row_sets' hrow
    have B3 := Lib.hid (B2.out.trans (hb.mono B2.out.size))
    have HA3 := Lib.hid hat
    clear hb B2 hrow hat hl1
    go_wp2_with fail
    refine (subsets_is _ _ _ HE.out.2.1 _ (HT.out _ B3.out).1 (HT.out _ B3.out).2).mono ?_
    rintro e w4 ⟨v, rfl, hrow, hb⟩
    have hl1 : subsL t ((p : Nat) - 1) = [] := by unfold subsL; rw [HE.out.2.1]; rfl
    rw [hl1] at hrow
    obtain ⟨A4, cap4, rfl, _, _, _⟩ := row_sets' hrow
    have B4 := Lib.hid (B3.out.trans (hb.mono B3.out.size))
    have HA4 := Lib.hid (HA3.out.below hb (Nat.le_refl _))
    clear hb B3 hrow HA3 hl1
    go_wp2_with fail
    refine (subsets_is _ _ _ HE.out.2.2.1 _ (HT.out _ B4.out).1 (HT.out _ B4.out).2).mono ?_
    rintro e w5 ⟨v, rfl, hrow, hb⟩
    obtain ⟨A5, cap5, rfl, _, _, _⟩ := row_sets' hrow
    have B5 := Lib.hid (B4.out.trans (hb.mono B4.out.size))
    have HA5 := Lib.hid (HA4.out.below hb (Nat.le_refl _))
    clear hb B4 hrow HA4
    go_wp2_with fail
    go_loop [14, 73] (fun f c => ∃ k : Nat, k ≤ p ∧ c = .int .i64 k ∧ f = .bool (fnd t (o &&& t) k)) (fun _ c => p - (intOf c).toNat)
    case atStart => exact ⟨0, Nat.zero_le _, rfl, rfl⟩
    case round =>
      obtain ⟨k, hk, rfl, rfl⟩ := hrel
      by_cases hlt : k < p
      · obtain ⟨b, off, hAe, hcell⟩ := HA5.out.nth hlt
        have hin := dep_in t k
        have hsucc := fnd_succ t (o &&& t) k
        obtain ⟨x, hx⟩ : ∃ x, Bx.dep t k = x := ⟨_, rfl⟩
        rw [hx] at hcell hin hsucc
        cases hf : fnd t (o &&& t) k
        all_goals
          cases hq : (x == o &&& t)
          all_goals
            rw [hf, hq] at hsucc
            have HS := Lib.hid hsucc
            clear hf hsucc
            cases k with
            | zero =>
              subst hAe
              rw [Nat.add_zero] at hcell
              clear hx
              go_wp2_with fail
              go_round
              case rel => exact ⟨1, by omega, rfl, by rw [HS.out]; rfl⟩
              case measure => simp [intOf]; omega
            | succ j =>
              obtain ⟨b', off', hA2e, hcell'⟩ := HA5.out.nth (show j < p by omega)
              rw [hAe] at hA2e
              simp only [Option.some.injEq, Addr.mk.injEq, and_true] at hA2e
              obtain ⟨rfl, rfl⟩ := hA2e
              subst hAe
              obtain ⟨y, hy⟩ : ∃ y, Bx.dep t j = y := ⟨_, rfl⟩
              rw [hy] at hcell'
              have hyx : Bv.U y < Bv.U x := by
                have := Bx.dep_lt t (j := j) (by rw [HE.out.2.2.2.2.1]; exact hlt)
                rw [hx, hy] at this
                unfold Bv.U; omega
              clear hx hy
              go_wp2_with fail
              go_round
              case rel => exact ⟨j + 1 + 1, by omega, by go_num, by rw [HS.out]; rfl⟩
              case measure => simp [intOf]; omega
      · have hkp : k = p := by omega
        subst hkp
        rw [HE.out.2.2.2.2.2]
        go_wp2_with fail
        refine (awake_any _ (HT.out _ B5.out).1 (HT.out _ B5.out).2).mono ?_
        rintro e w6 ⟨rfl, hb⟩
        have B6 := Lib.hid (B5.out.trans (hb.mono B5.out.size))
        clear hb B5
        go_wp2_with fail
        go_ret
        exact ⟨rfl, B6.out⟩
end Go.Proofs.YtjnoiahkbdoejaaDoor
