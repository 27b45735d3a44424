/- layer 1's law: the walk of MarksRank. -/
import Derived.Test.YtjnoiahkbdoejaaDoorMn
namespace Go.Proofs.YtjnoiahkbdoejaaDoor
open Go.RowKit Go.Shelf

theorem upto_congr {s t : BitVec 64} (n : Nat) (h : ∀ i, i < n → s.getLsbD i = t.getLsbD i) : Bs.upto s n = Bs.upto t n := by
  unfold Bs.upto
  apply List.filter_congr
  intro i hi
  rw [List.mem_range] at hi
  exact h i hi
theorem rank_all_eq (s : BitVec 64) (m : Nat) (hm : m ≤ 64) : Bx.card (s &&& allS (m : Int)) = Bx.rank s m := by
  unfold Bx.card Bx.rank
  have h : ∀ i, i < 64 → (s &&& allS (m : Int)).getLsbD i = (s.getLsbD i && decide (i < m)) := by
    intro i hi
    rw [BitVec.getLsbD_and, allS_get _ _ hi]
    congr 1
    rw [Bool.eq_iff_iff]; simp
  have e : Bs.elems (s &&& allS (m : Int)) = Bs.upto s m := by
    apply Bs.sorted_ext (Bs.elems_sorted _)
    · unfold Bs.upto; exact List.Pairwise.filter _ List.pairwise_lt_range
    · intro i
      rw [Bs.mem_elems, Bs.mem_upto]
      by_cases hi : i < 64
      · rw [h i hi]; simp [and_comm]
      · constructor
        · intro h2; exact absurd (Bx.lt64 h2) hi
        · intro h2; exact absurd (Bx.lt64 h2.2) hi
  rw [e]

theorem rank_is (s : BitVec 64) (i : Int) (n : Int) (hn : ((Bx.card (s &&& allS i) : Nat) : Int) = n) (w : World) (hT : Tab w) (hw : 0 < w.heap.size) :
    Calls Tryd.prog 19 #[.int .u64 (Bv.U s), .int .i64 i] w fun e w' => e = .returned (.int .i64 n) ∧ Below w.heap.size w w' := by
  subst hn; exact rank_any s i w hT hw
theorem pick_is (s : BitVec 64) (k n : Int) (b : Bool) (hn : pickN s k = n) (hb : pickB s k = b) (h0 : -9223372036854775808 ≤ k) (h1 : k ≤ 9223372036854775807) (w : World) (hT : Tab w) (hw : 0 < w.heap.size) :
    Calls Tryd.prog 24 #[.int .u64 (Bv.U s), .int .i64 k] w fun e W' => e = .returned (.tuple #[.int .i64 n, .bool b]) ∧ Below w.heap.size w W' := by
  subst hn hb; exact pick_any s k w hT hw h0 h1

attribute [local go_sem] Bv.and_u Bv.or_u Bv.andNot_u Bv.wrap_sub1 Bv.eq0 Bv.ne0 Bv.wrap_pow Bv.wrap_powmin Bv.wrap_neg Bv.eq_u Bv.ne_u Bv.shr_min Bv.shr_pow Bv.and1 Bv.B1_eq1 Bv.B1_eq0 Bv.B1_ne1 Bv.B1_ne0
set_option maxRecDepth 100000 in
set_option maxHeartbeats 8000000 in
theorem marksRank_any (s : BitVec 64) (c k : Int) (w : World) (h0 : 0 ≤ c) (h1 : c ≤ 255) (k0 : -9223372036854775808 ≤ k) (k1 : k ≤ 9223372036854775807) (hT : Tab w) (hw : 0 < w.heap.size) :
    Calls Tryd.prog 6 #[.int .u64 (Bv.U s), .int .u8 c, .int .i64 k] w fun e w' => e = .returned (.bool true) ∧ Below w.heap.size w w' := by
  have hTl : ∀ W, Below w.heap.size w W → Tab W ∧ 0 < W.heap.size := fun W h => ⟨hT.below h hw, Nat.lt_of_lt_of_le hw h.size⟩
  have HT := Lib.hid hTl
  have B0 := Lib.hid (Below.refl w.heap.size w)
  clear hTl hT
  obtain ⟨m, hm, hm64⟩ : ∃ m : Nat, c % 64 = (m : Int) ∧ m < 64 := ⟨(c % 64).toNat, by omega, by omega⟩
  obtain ⟨r, hr⟩ : ∃ r, Bx.rank s m = r := ⟨_, rfl⟩
  obtain ⟨N, hN⟩ : ∃ N, Bx.card s = N := ⟨_, rfl⟩
  have hN64 : N ≤ 64 := hN ▸ Bx.card_le s
  have hr64 : r ≤ 64 := by rw [← hr]; exact Nat.le_trans (Bs.upto_le s m) (by omega)
  have c1 : ((Bx.card (s &&& allS (m : Int)) : Nat) : Int) = (r : Int) := by rw [rank_all_eq s m (by omega), hr]
  have c64 : ((Bx.card (s &&& allS 64) : Nat) : Int) = (N : Int) := by rw [show (64 : Int) = ((64 : Nat) : Int) from rfl, rank_all_eq s 64 (by omega), ← hN]; rfl
  have c0 : ((Bx.card (s &&& allS 0) : Nat) : Int) = 0 := by rw [show (0 : Int) = ((0 : Nat) : Int) from rfl, rank_all_eq s 0 (by omega)]; rfl
  have hcs : (k < 0 ∧ pickB s k = false) ∨ (0 ≤ k ∧ k < N ∧ pickB s k = true ∧ ((Bx.card (s &&& allS (pickN s k)) : Nat) : Int) = k) ∨ (N ≤ k ∧ pickB s k = false) := by
    unfold pickB
    have hN' : (Bs.elems s).length = N := hN
    rw [hN']
    by_cases h2 : k < 0
    · exact .inl ⟨h2, decide_eq_false (by omega)⟩
    · by_cases h3 : k < N
      · refine .inr (.inl ⟨by omega, h3, decide_eq_true ⟨by omega, h3⟩, ?_⟩)
        obtain ⟨x, hx⟩ : ∃ x, (Bs.elems s)[k.toNat]? = some x := ⟨_, List.getElem?_eq_getElem (by omega)⟩
        have hp : pickN s k = (x : Int) := by unfold pickN; rw [if_pos (by omega), hx]; rfl
        rw [hp, rank_all_eq s x (by have := Bx.lt64 (Bx.elems_bit hx); omega), Bx.rank_get s hx]; omega
      · exact .inr (.inr ⟨by omega, decide_eq_false (by omega)⟩)
  obtain ⟨pn, hpn⟩ : ∃ n, pickN s k = n := ⟨_, rfl⟩
  rw [hpn] at hcs
  have HC := Lib.hid (And.intro c1 (And.intro c64 (And.intro c0 (And.intro hN hpn))))
  clear c64 c0 hN hpn
  cases hbit : Bv.G s m
  all_goals
    have hg := hbit
    unfold Bv.G at hg
  · have c2 : ((Bx.card (s &&& allS ((m : Int) + 1)) : Nat) : Int) = (r : Int) := by rw [show (m : Int) + 1 = ((m + 1 : Nat) : Int) by omega, rank_all_eq s (m + 1) (by omega), Bx.rank_miss s m hg, hr]
    have H2 := Lib.hid c2
    clear hg c1 c2 hr
    rcases hcs with ⟨ka, hb0⟩ | ⟨ka, kb, hb0, hkk⟩ | ⟨ka, hb0⟩
    all_goals
      have HB := Lib.hid hb0
      clear hb0
    · have kf : decide (0 ≤ k) = false := decide_eq_false (by omega)
      go_enter Tryd.func6, Tryd.ntmps6
      go_wp2_with fail
      refine (rank_is _ _ _ HC.out.1 _ (HT.out _ B0.out).1 (HT.out _ B0.out).2).mono ?_
      rintro e w1 ⟨rfl, hb⟩
      have B1 := Lib.hid (B0.out.trans (hb.mono B0.out.size))
      clear hb B0
      go_wp2_with fail
      refine (rank_is _ _ _ H2.out _ (HT.out _ B1.out).1 (HT.out _ B1.out).2).mono ?_
      rintro e w2 ⟨rfl, hb⟩
      have B2 := Lib.hid (B1.out.trans (hb.mono B1.out.size))
      clear hb B1
      go_wp2_with fail
      refine (pick_is _ _ _ _ HC.out.2.2.2.2 HB.out k0 k1 _ (HT.out _ B2.out).1 (HT.out _ B2.out).2).mono ?_
      rintro e w3 ⟨rfl, hb⟩
      have B3 := Lib.hid (B2.out.trans (hb.mono B2.out.size))
      clear hb B2
      go_wp2_with fail
      refine (rank_is _ _ _ HC.out.2.1 _ (HT.out _ B3.out).1 (HT.out _ B3.out).2).mono ?_
      rintro e w4 ⟨rfl, hb⟩
      have B4 := Lib.hid (B3.out.trans (hb.mono B3.out.size))
      clear hb B3
      go_wp2_with fail
      refine (len_card _ _ HC.out.2.2.2.1 _ (HT.out _ B4.out).1 (HT.out _ B4.out).2).mono ?_
      rintro e w5 ⟨rfl, hb⟩
      have B5 := Lib.hid (B4.out.trans (hb.mono B4.out.size))
      clear hb B4
      go_wp2_with fail
      refine (rank_is _ _ _ HC.out.2.2.1 _ (HT.out _ B5.out).1 (HT.out _ B5.out).2).mono ?_
      rintro e w6 ⟨rfl, hb⟩
      have B6 := Lib.hid (B5.out.trans (hb.mono B5.out.size))
      clear hb B5
      go_wp2_with fail
      refine (awake_any _ (HT.out _ B6.out).1 (HT.out _ B6.out).2).mono ?_
      rintro e w7 ⟨rfl, hb⟩
      have B7 := Lib.hid (B6.out.trans (hb.mono B6.out.size))
      clear hb B6
      go_wp2_with fail
      go_ret
      exact ⟨rfl, B7.out⟩
    · have HK := Lib.hid hkk
      clear hkk
      go_enter Tryd.func6, Tryd.ntmps6
      go_wp2_with fail
      refine (rank_is _ _ _ HC.out.1 _ (HT.out _ B0.out).1 (HT.out _ B0.out).2).mono ?_
      rintro e w1 ⟨rfl, hb⟩
      have B1 := Lib.hid (B0.out.trans (hb.mono B0.out.size))
      clear hb B0
      go_wp2_with fail
      refine (rank_is _ _ _ H2.out _ (HT.out _ B1.out).1 (HT.out _ B1.out).2).mono ?_
      rintro e w2 ⟨rfl, hb⟩
      have B2 := Lib.hid (B1.out.trans (hb.mono B1.out.size))
      clear hb B1
      go_wp2_with fail
      refine (pick_is _ _ _ _ HC.out.2.2.2.2 HB.out k0 k1 _ (HT.out _ B2.out).1 (HT.out _ B2.out).2).mono ?_
      rintro e w3 ⟨rfl, hb⟩
      have B3 := Lib.hid (B2.out.trans (hb.mono B2.out.size))
      clear hb B2
      go_wp2_with fail
      refine (len_card _ _ HC.out.2.2.2.1 _ (HT.out _ B3.out).1 (HT.out _ B3.out).2).mono ?_
      rintro e w4 ⟨rfl, hb⟩
      have B4 := Lib.hid (B3.out.trans (hb.mono B3.out.size))
      clear hb B3
      go_wp2_with fail
      refine (rank_is _ _ _ HK.out _ (HT.out _ B4.out).1 (HT.out _ B4.out).2).mono ?_
      rintro e w5 ⟨rfl, hb⟩
      have B5 := Lib.hid (B4.out.trans (hb.mono B4.out.size))
      clear hb B4
      go_wp2_with fail
      refine (rank_is _ _ _ HC.out.2.1 _ (HT.out _ B5.out).1 (HT.out _ B5.out).2).mono ?_
      rintro e w6 ⟨rfl, hb⟩
      have B6 := Lib.hid (B5.out.trans (hb.mono B5.out.size))
      clear hb B5
      go_wp2_with fail
      refine (len_card _ _ HC.out.2.2.2.1 _ (HT.out _ B6.out).1 (HT.out _ B6.out).2).mono ?_
      rintro e w7 ⟨rfl, hb⟩
      have B7 := Lib.hid (B6.out.trans (hb.mono B6.out.size))
      clear hb B6
      go_wp2_with fail
      refine (rank_is _ _ _ HC.out.2.2.1 _ (HT.out _ B7.out).1 (HT.out _ B7.out).2).mono ?_
      rintro e w8 ⟨rfl, hb⟩
      have B8 := Lib.hid (B7.out.trans (hb.mono B7.out.size))
      clear hb B7
      go_wp2_with fail
      refine (awake_any _ (HT.out _ B8.out).1 (HT.out _ B8.out).2).mono ?_
      rintro e w9 ⟨rfl, hb⟩
      have B9 := Lib.hid (B8.out.trans (hb.mono B8.out.size))
      clear hb B8
      go_wp2_with fail
      go_ret
      exact ⟨rfl, B9.out⟩
    · have kf : decide (k < (N : Int)) = false := decide_eq_false (by omega)
      go_enter Tryd.func6, Tryd.ntmps6
      go_wp2_with fail
      refine (rank_is _ _ _ HC.out.1 _ (HT.out _ B0.out).1 (HT.out _ B0.out).2).mono ?_
      rintro e w1 ⟨rfl, hb⟩
      have B1 := Lib.hid (B0.out.trans (hb.mono B0.out.size))
      clear hb B0
      go_wp2_with fail
      refine (rank_is _ _ _ H2.out _ (HT.out _ B1.out).1 (HT.out _ B1.out).2).mono ?_
      rintro e w2 ⟨rfl, hb⟩
      have B2 := Lib.hid (B1.out.trans (hb.mono B1.out.size))
      clear hb B1
      go_wp2_with fail
      refine (pick_is _ _ _ _ HC.out.2.2.2.2 HB.out k0 k1 _ (HT.out _ B2.out).1 (HT.out _ B2.out).2).mono ?_
      rintro e w3 ⟨rfl, hb⟩
      have B3 := Lib.hid (B2.out.trans (hb.mono B2.out.size))
      clear hb B2
      go_wp2_with fail
      refine (len_card _ _ HC.out.2.2.2.1 _ (HT.out _ B3.out).1 (HT.out _ B3.out).2).mono ?_
      rintro e w4 ⟨rfl, hb⟩
      have B4 := Lib.hid (B3.out.trans (hb.mono B3.out.size))
      clear hb B3
      go_wp2_with fail
      refine (rank_is _ _ _ HC.out.2.1 _ (HT.out _ B4.out).1 (HT.out _ B4.out).2).mono ?_
      rintro e w5 ⟨rfl, hb⟩
      have B5 := Lib.hid (B4.out.trans (hb.mono B4.out.size))
      clear hb B4
      go_wp2_with fail
      refine (len_card _ _ HC.out.2.2.2.1 _ (HT.out _ B5.out).1 (HT.out _ B5.out).2).mono ?_
      rintro e w6 ⟨rfl, hb⟩
      have B6 := Lib.hid (B5.out.trans (hb.mono B5.out.size))
      clear hb B5
      go_wp2_with fail
      refine (rank_is _ _ _ HC.out.2.2.1 _ (HT.out _ B6.out).1 (HT.out _ B6.out).2).mono ?_
      rintro e w7 ⟨rfl, hb⟩
      have B7 := Lib.hid (B6.out.trans (hb.mono B6.out.size))
      clear hb B6
      go_wp2_with fail
      refine (awake_any _ (HT.out _ B7.out).1 (HT.out _ B7.out).2).mono ?_
      rintro e w8 ⟨rfl, hb⟩
      have B8 := Lib.hid (B7.out.trans (hb.mono B7.out.size))
      clear hb B7
      go_wp2_with fail
      go_ret
      exact ⟨rfl, B8.out⟩
  · have c2 : ((Bx.card (s &&& allS ((m : Int) + 1)) : Nat) : Int) = (r : Int) + 1 := by rw [show (m : Int) + 1 = ((m + 1 : Nat) : Int) by omega, rank_all_eq s (m + 1) (by omega), Bx.rank_hit s m hg, hr]; omega
    have hgr := Bx.get_rank s hg
    rw [hr] at hgr
    have hp1 : pickN s (r : Int) = (m : Int) := by unfold pickN; rw [if_pos (by omega)]; simp [hgr]
    have hp2 : pickB s (r : Int) = true := by
      unfold pickB
      have := (List.getElem?_eq_some_iff.1 hgr).1
      exact decide_eq_true ⟨by omega, by omega⟩
    have H2 := Lib.hid c2
    have HP := Lib.hid (And.intro hp1 hp2)
    clear hg c1 c2 hr hgr hp1 hp2
    rcases hcs with ⟨ka, hb0⟩ | ⟨ka, kb, hb0, hkk⟩ | ⟨ka, hb0⟩
    all_goals
      have HB := Lib.hid hb0
      clear hb0
    · go_enter Tryd.func6, Tryd.ntmps6
      go_wp2_with fail
      refine (rank_is _ _ _ HC.out.1 _ (HT.out _ B0.out).1 (HT.out _ B0.out).2).mono ?_
      rintro e w1 ⟨rfl, hb⟩
      have B1 := Lib.hid (B0.out.trans (hb.mono B0.out.size))
      clear hb B0
      go_wp2_with fail
      refine (rank_is _ _ _ H2.out _ (HT.out _ B1.out).1 (HT.out _ B1.out).2).mono ?_
      rintro e w2 ⟨rfl, hb⟩
      have B2 := Lib.hid (B1.out.trans (hb.mono B1.out.size))
      clear hb B1
      go_wp2_with fail
      refine (pick_is _ _ _ _ HP.out.1 HP.out.2 (by omega) (by omega) _ (HT.out _ B2.out).1 (HT.out _ B2.out).2).mono ?_
      rintro e w3 ⟨rfl, hb⟩
      have B3 := Lib.hid (B2.out.trans (hb.mono B2.out.size))
      clear hb B2
      go_wp2_with fail
      refine (pick_is _ _ _ _ HC.out.2.2.2.2 HB.out k0 k1 _ (HT.out _ B3.out).1 (HT.out _ B3.out).2).mono ?_
      rintro e w4 ⟨rfl, hb⟩
      have B4 := Lib.hid (B3.out.trans (hb.mono B3.out.size))
      clear hb B3
      go_wp2_with fail
      refine (rank_is _ _ _ HC.out.2.1 _ (HT.out _ B4.out).1 (HT.out _ B4.out).2).mono ?_
      rintro e w5 ⟨rfl, hb⟩
      have B5 := Lib.hid (B4.out.trans (hb.mono B4.out.size))
      clear hb B4
      go_wp2_with fail
      refine (len_card _ _ HC.out.2.2.2.1 _ (HT.out _ B5.out).1 (HT.out _ B5.out).2).mono ?_
      rintro e w6 ⟨rfl, hb⟩
      have B6 := Lib.hid (B5.out.trans (hb.mono B5.out.size))
      clear hb B5
      go_wp2_with fail
      refine (rank_is _ _ _ HC.out.2.2.1 _ (HT.out _ B6.out).1 (HT.out _ B6.out).2).mono ?_
      rintro e w7 ⟨rfl, hb⟩
      have B7 := Lib.hid (B6.out.trans (hb.mono B6.out.size))
      clear hb B6
      go_wp2_with fail
      refine (awake_any _ (HT.out _ B7.out).1 (HT.out _ B7.out).2).mono ?_
      rintro e w8 ⟨rfl, hb⟩
      have B8 := Lib.hid (B7.out.trans (hb.mono B7.out.size))
      clear hb B7
      go_wp2_with fail
      go_ret
      exact ⟨rfl, B8.out⟩
    · have HK := Lib.hid hkk
      clear hkk
      go_enter Tryd.func6, Tryd.ntmps6
      go_wp2_with fail
      refine (rank_is _ _ _ HC.out.1 _ (HT.out _ B0.out).1 (HT.out _ B0.out).2).mono ?_
      rintro e w1 ⟨rfl, hb⟩
      have B1 := Lib.hid (B0.out.trans (hb.mono B0.out.size))
      clear hb B0
      go_wp2_with fail
      refine (rank_is _ _ _ H2.out _ (HT.out _ B1.out).1 (HT.out _ B1.out).2).mono ?_
      rintro e w2 ⟨rfl, hb⟩
      have B2 := Lib.hid (B1.out.trans (hb.mono B1.out.size))
      clear hb B1
      go_wp2_with fail
      refine (pick_is _ _ _ _ HP.out.1 HP.out.2 (by omega) (by omega) _ (HT.out _ B2.out).1 (HT.out _ B2.out).2).mono ?_
      rintro e w3 ⟨rfl, hb⟩
      have B3 := Lib.hid (B2.out.trans (hb.mono B2.out.size))
      clear hb B2
      go_wp2_with fail
      refine (pick_is _ _ _ _ HC.out.2.2.2.2 HB.out k0 k1 _ (HT.out _ B3.out).1 (HT.out _ B3.out).2).mono ?_
      rintro e w4 ⟨rfl, hb⟩
      have B4 := Lib.hid (B3.out.trans (hb.mono B3.out.size))
      clear hb B3
      go_wp2_with fail
      refine (len_card _ _ HC.out.2.2.2.1 _ (HT.out _ B4.out).1 (HT.out _ B4.out).2).mono ?_
      rintro e w5 ⟨rfl, hb⟩
      have B5 := Lib.hid (B4.out.trans (hb.mono B4.out.size))
      clear hb B4
      go_wp2_with fail
      refine (rank_is _ _ _ HK.out _ (HT.out _ B5.out).1 (HT.out _ B5.out).2).mono ?_
      rintro e w6 ⟨rfl, hb⟩
      have B6 := Lib.hid (B5.out.trans (hb.mono B5.out.size))
      clear hb B5
      go_wp2_with fail
      refine (rank_is _ _ _ HC.out.2.1 _ (HT.out _ B6.out).1 (HT.out _ B6.out).2).mono ?_
      rintro e w7 ⟨rfl, hb⟩
      have B7 := Lib.hid (B6.out.trans (hb.mono B6.out.size))
      clear hb B6
      go_wp2_with fail
      refine (len_card _ _ HC.out.2.2.2.1 _ (HT.out _ B7.out).1 (HT.out _ B7.out).2).mono ?_
      rintro e w8 ⟨rfl, hb⟩
      have B8 := Lib.hid (B7.out.trans (hb.mono B7.out.size))
      clear hb B7
      go_wp2_with fail
      refine (rank_is _ _ _ HC.out.2.2.1 _ (HT.out _ B8.out).1 (HT.out _ B8.out).2).mono ?_
      rintro e w9 ⟨rfl, hb⟩
      have B9 := Lib.hid (B8.out.trans (hb.mono B8.out.size))
      clear hb B8
      go_wp2_with fail
      refine (awake_any _ (HT.out _ B9.out).1 (HT.out _ B9.out).2).mono ?_
      rintro e w10 ⟨rfl, hb⟩
      have B10 := Lib.hid (B9.out.trans (hb.mono B9.out.size))
      clear hb B9
      go_wp2_with fail
      go_ret
      exact ⟨rfl, B10.out⟩
    · have kf : decide (k < (N : Int)) = false := decide_eq_false (by omega)
      go_enter Tryd.func6, Tryd.ntmps6
      go_wp2_with fail
      refine (rank_is _ _ _ HC.out.1 _ (HT.out _ B0.out).1 (HT.out _ B0.out).2).mono ?_
      rintro e w1 ⟨rfl, hb⟩
      have B1 := Lib.hid (B0.out.trans (hb.mono B0.out.size))
      clear hb B0
      go_wp2_with fail
      refine (rank_is _ _ _ H2.out _ (HT.out _ B1.out).1 (HT.out _ B1.out).2).mono ?_
      rintro e w2 ⟨rfl, hb⟩
      have B2 := Lib.hid (B1.out.trans (hb.mono B1.out.size))
      clear hb B1
      go_wp2_with fail
      refine (pick_is _ _ _ _ HP.out.1 HP.out.2 (by omega) (by omega) _ (HT.out _ B2.out).1 (HT.out _ B2.out).2).mono ?_
      rintro e w3 ⟨rfl, hb⟩
      have B3 := Lib.hid (B2.out.trans (hb.mono B2.out.size))
      clear hb B2
      go_wp2_with fail
      refine (pick_is _ _ _ _ HC.out.2.2.2.2 HB.out k0 k1 _ (HT.out _ B3.out).1 (HT.out _ B3.out).2).mono ?_
      rintro e w4 ⟨rfl, hb⟩
      have B4 := Lib.hid (B3.out.trans (hb.mono B3.out.size))
      clear hb B3
      go_wp2_with fail
      refine (len_card _ _ HC.out.2.2.2.1 _ (HT.out _ B4.out).1 (HT.out _ B4.out).2).mono ?_
      rintro e w5 ⟨rfl, hb⟩
      have B5 := Lib.hid (B4.out.trans (hb.mono B4.out.size))
      clear hb B4
      go_wp2_with fail
      refine (rank_is _ _ _ HC.out.2.1 _ (HT.out _ B5.out).1 (HT.out _ B5.out).2).mono ?_
      rintro e w6 ⟨rfl, hb⟩
      have B6 := Lib.hid (B5.out.trans (hb.mono B5.out.size))
      clear hb B5
      go_wp2_with fail
      refine (len_card _ _ HC.out.2.2.2.1 _ (HT.out _ B6.out).1 (HT.out _ B6.out).2).mono ?_
      rintro e w7 ⟨rfl, hb⟩
      have B7 := Lib.hid (B6.out.trans (hb.mono B6.out.size))
      clear hb B6
      go_wp2_with fail
      refine (rank_is _ _ _ HC.out.2.2.1 _ (HT.out _ B7.out).1 (HT.out _ B7.out).2).mono ?_
      rintro e w8 ⟨rfl, hb⟩
      have B8 := Lib.hid (B7.out.trans (hb.mono B7.out.size))
      clear hb B7
      go_wp2_with fail
      refine (awake_any _ (HT.out _ B8.out).1 (HT.out _ B8.out).2).mono ?_
      rintro e w9 ⟨rfl, hb⟩
      have B9 := Lib.hid (B8.out.trans (hb.mono B8.out.size))
      clear hb B8
      go_wp2_with fail
      go_ret
      exact ⟨rfl, B9.out⟩
end Go.Proofs.YtjnoiahkbdoejaaDoor
