/- layer 19, plain: the program's answers are the reference's. -/
import Derived.Test.YtjijgncahonfhaaDoorVc
import Derived.Test.YtjijgncahonfhaaDoorVf
import Derived.Test.YtjijgncahonfhaaDoorVh
import Derived.Test.YtjijgncahonfhaaDoorVj
import Derived.Test.YtjijgncahonfhaaDoorVk
import Derived.Test.YtjijgncahonfhaaDoorVl
namespace Go.Proofs.YtjijgncahonfhaaDoor

theorem hasB_nat (m : BitVec 64) (c : Int) (h0 : 0 ≤ c) (h1 : c < 64) : hasB m c = m.getLsbD c.toNat := by
  unfold hasB; rw [decide_eq_true ⟨h0, h1⟩, Bool.true_and]; rfl

theorem note_bit (m : BitVec 64) (c : Int) (h0 : 0 ≤ c) (h1 : c < 64) : (if hasB m c = true then m else m + Bv.bit c.toNat) = m ||| Bv.bit c.toNat := by
  rw [hasB_nat m c h0 h1]
  by_cases hb : m.getLsbD c.toNat = true
  · rw [if_pos hb, Bv.or_bit_same _ _ hb]
  · rw [if_neg hb, Bv.add_bit _ _ (by simpa using hb)]

theorem note_same (k : Int) (m : BitVec 64) (a : Bool) (c : Int) (h0 : 0 ≤ c) : rnoteM k m a c = noteM k m a c ∧ rnoteA k m a c = noteA k m a c := by
  by_cases h1 : c ≤ 3
  · by_cases k1 : k = 1
    · subst k1
      have nb := note_bit m c h0 (by omega)
      simp [rnoteM, rnoteA, noteM, noteA, h1, nb]
    · by_cases k2 : k = 2
      · subst k2
        have nb := note_bit m c h0 (by omega)
        have hz : (m &&& Bv.bit c.toNat = 0#64) ↔ hasB m c = false := by
          rw [hasB_nat m c h0 (by omega), Bv.and_bit_zero m c.toNat (by omega)]
        cases a
        · cases hb : hasB m c
          · have hz' := hz.2 hb
            rw [hb] at nb
            by_cases hl : 2 ≤ (Bs.elems m).length
            · simp [rnoteM, rnoteA, noteM, noteA, twoM, twoA, h1, hb, hl, hz']
            · simp [rnoteM, rnoteA, noteM, noteA, twoM, twoA, h1, hb, hl, hz']
              simpa using nb
          · have hz' : ¬ (m &&& Bv.bit c.toNat = 0#64) := fun h => by rw [hz.1 h] at hb; cases hb
            simp [rnoteM, rnoteA, noteM, noteA, twoM, twoA, h1, hb, hz']
        · simp [rnoteM, rnoteA, noteM, noteA, twoM, twoA, h1]
      · by_cases k3 : k = 3
        · subst k3
          have nb := note_bit m (c / 2) (by omega) (by omega)
          simp [rnoteM, rnoteA, noteM, noteA, h1, nb]
        · simp [rnoteM, rnoteA, noteM, noteA, k1, k2, k3]
  · simp [rnoteM, rnoteA, noteM, noteA, h1]

theorem more_iff (m : BitVec 64) (n : Int) (h0 : 0 ≤ n) (h1 : n ≤ 64) : moreB (Bs.elems m) n = !(m &&& ~~~ (Bv.bit n.toNat - 1#64) == 0#64) := by
  rw [Bool.eq_iff_iff]
  unfold moreB
  rw [List.any_eq_true, Bool.not_eq_true', beq_eq_false_iff_ne]
  constructor
  · rintro ⟨b, hb, hn⟩ he
    rw [Bs.mem_elems] at hb
    have hb64 : b < 64 := by
      apply Nat.lt_of_not_le; intro hle
      rw [BitVec.getLsbD_of_ge _ _ hle] at hb; cases hb
    have h2 := congrArg (fun t => BitVec.getLsbD t b) he
    simp only [BitVec.getLsbD_and, Bv.zero_get, Bv.not_get _ _ hb64, hb, Bool.true_and, Bool.not_eq_false'] at h2
    rw [Bv.ones_get _ _ (by omega) hb64] at h2
    have h3 := of_decide_eq_true h2
    have h4 := of_decide_eq_true hn
    omega
  · intro hne
    apply Classical.byContradiction
    intro hno
    apply hne
    apply Bv.ext_get
    intro i hi
    rw [BitVec.getLsbD_and, Bv.zero_get, Bv.not_get _ _ hi, Bv.ones_get _ _ (by omega) hi]
    by_cases hb : m.getLsbD i = true
    · by_cases hlt : i < n.toNat
      · simp [hlt]
      · exact absurd ⟨i, Bs.mem_elems.2 hb, decide_eq_true (by omega)⟩ hno
    · have : m.getLsbD i = false := by simpa using hb
      simp [this]

theorem elems_nil (m : BitVec 64) : Bs.elems m = [] ↔ m = 0#64 := by
  constructor
  · intro h
    apply Classical.byContradiction
    intro hne
    rw [Bs.elems_step hne] at h; cases h
  · rintro rfl; exact Bs.elems_zero

theorem right_same (k : Int) (m : BitVec 64) (a : Bool) (n : Int) : rrightB k m a n = rightB k m a n := by
  unfold rrightB rightB
  by_cases hn : 1 ≤ n ∧ n ≤ 4
  · rw [decide_eq_true hn, Bool.true_and]
    by_cases k1 : k = 1
    · subst k1
      simp only [true_or, hn, and_self, if_true]
      rw [more_iff m n (by omega) (by omega), Bool.not_not, Bool.and_comm]
    · by_cases k2 : k = 2
      · subst k2
        simp only [true_or, or_true, hn, and_self, if_true, (by omega : ¬ (2 : Int) = 1), if_false]
        rw [more_iff m n (by omega) (by omega), Bool.not_not]
        cases a
        · simp
        · simp only [Bool.not_true, Bool.false_or, if_true]
          rw [Bool.eq_iff_iff]
          simp only [Bool.and_eq_true, beq_iff_eq, decide_eq_true_eq, List.length_eq_zero_iff, elems_nil]
          constructor
          · exact fun h => h.2
          · rintro rfl
            have e : Bs.elems 0#64 = [] := Bs.elems_zero
            simp [e]
      · by_cases k3 : k = 3
        · subst k3
          simp only [or_true, hn, and_self, if_true, (by omega : ¬ (3 : Int) = 1), (by omega : ¬ (3 : Int) = 2), if_false]
          rw [more_iff m ((n + 1) / 2) (by omega) (by omega), Bool.not_not, Bool.and_comm]
        · rw [if_neg (by omega), if_neg k1, if_neg k2, if_neg k3]
  · rw [decide_eq_false hn, Bool.false_and, if_neg (fun h => hn h.2)]

theorem toldTo_get (k : Int) (m : BitVec 64) (a : Bool) : ∀ (c i : Nat), c ≤ 64 → i < 64 → (toldTo k m a c).getLsbD i = (decide (i < c) && condB k m a i)
  | 0, i, _, _ => by simp [toldTo]
  | c + 1, i, hc, hi => by
    have ih := toldTo_get k m a c
    unfold toldTo
    have hcc : (toldTo k m a c).getLsbD c = false := by rw [ih c (by omega) (by omega)]; simp
    split
    · rename_i h
      rw [Bv.add_bit _ _ hcc, BitVec.getLsbD_or, Bv.bit_get _ _ (by omega), ih i (by omega) hi]
      by_cases e : i = c
      · subst e; simp [h]
      · have : decide (i < c + 1) = decide (i < c) := by rw [Bool.eq_iff_iff]; simp; omega
        simp [e, this]
    · rename_i h
      rw [ih i (by omega) hi]
      by_cases e : i = c
      · subst e; simp [h]
      · have : decide (i < c + 1) = decide (i < c) := by rw [Bool.eq_iff_iff]; simp; omega
        rw [this]

theorem elems_two (m : BitVec 64) : Bs.elems (m &&& 3#64) = (if m.getLsbD 0 then [0] else []) ++ (if m.getLsbD 1 then [1] else []) := by
  apply Bs.sorted_ext (Bs.elems_sorted _)
  · cases m.getLsbD 0 <;> cases m.getLsbD 1 <;> decide
  · intro i
    rw [Bs.mem_elems, BitVec.getLsbD_and]
    have h3 : (3#64).getLsbD i = decide (i < 2) := by
      by_cases h : i < 64
      · have e : (3#64) = Bv.bit 2 - 1#64 := rfl
        rw [e, Bv.ones_get 2 i (by omega) h]
      · rw [BitVec.getLsbD_of_ge _ _ (by omega)]; simp; omega
    rw [h3]
    by_cases h : i < 2
    · obtain rfl | rfl : i = 0 ∨ i = 1 := by omega
      · cases m.getLsbD 0 <;> cases m.getLsbD 1 <;> simp
      · cases m.getLsbD 0 <;> cases m.getLsbD 1 <;> simp
    · have hl : ¬ (i = 0) := by omega
      have hl2 : ¬ (i = 1) := by omega
      cases m.getLsbD 0 <;> cases m.getLsbD 1 <;> simp [h, hl, hl2]

theorem fold_pairs (m : BitVec 64) (i : Nat) (hi : i < 4) : ((Bs.elems (m &&& 3#64)).foldl pairs 0#64).getLsbD i = m.getLsbD (i / 2) := by
  rw [elems_two]
  cases h0 : m.getLsbD 0 <;> cases h1 : m.getLsbD 1
  all_goals
    obtain rfl | rfl | rfl | rfl : i = 0 ∨ i = 1 ∨ i = 2 ∨ i = 3 := by omega
    all_goals
      first
        | (rw [show (0 : Nat) / 2 = 0 from rfl, h0]; decide)
        | (rw [show (1 : Nat) / 2 = 0 from rfl, h0]; decide)
        | (rw [show (2 : Nat) / 2 = 1 from rfl, h1]; decide)
        | (rw [show (3 : Nat) / 2 = 1 from rfl, h1]; decide)

theorem told_same (k : Int) (m : BitVec 64) (a : Bool) (n : Int) : rtoldS k m a n = toldS k m a n := by
  unfold rtoldS toldS
  by_cases h : (k = 1 ∨ k = 2 ∨ k = 3) ∧ 1 ≤ n ∧ n ≤ 4
  · rw [if_pos h, if_pos h]
    obtain ⟨hk, h1, h2⟩ := h
    apply Bv.ext_get
    intro i hi
    rw [toldTo_get k m a _ i (by omega) hi]
    cases a
    · rw [if_neg (by simp)]
      by_cases k3 : k = 3
      · rw [if_pos k3, BitVec.getLsbD_and, Bv.ones_get _ _ (by omega) hi]
        by_cases hlt : i < n.toNat
        · rw [fold_pairs m i (by omega)]
          unfold condB
          rw [if_pos k3, hasB_nat _ _ (by omega) (by omega)]
          have e : ((i : Int) / 2).toNat = i / 2 := by omega
          rw [e]; simp [hlt]
        · simp [hlt]
      · rw [if_neg k3, BitVec.getLsbD_and, Bv.ones_get _ _ (by omega) hi]
        unfold condB
        rw [if_neg k3, hasB_nat _ _ (by omega) (by omega)]
        rw [Int.toNat_natCast, Bool.or_false, Bool.and_comm]
    · rw [if_pos rfl, Bv.ones_get _ _ (by omega) hi]
      unfold condB; simp
  · rw [if_neg h, if_neg h]

theorem elems_below (s : BitVec 64) (n : Nat) (h : n ≤ 64) : Bs.elems (s &&& (Bv.bit n - 1#64)) = Bs.upto s n := by
  apply Bs.sorted_ext (Bs.elems_sorted _)
  · unfold Bs.upto; exact List.Pairwise.filter _ List.pairwise_lt_range
  · intro i
    rw [Bs.mem_elems, Bs.mem_upto, BitVec.getLsbD_and]
    by_cases hi : i < 64
    · rw [Bv.ones_get _ _ h hi]; simp; exact And.comm
    · rw [BitVec.getLsbD_of_ge s i (by omega)]; simp

theorem least_zero (s : BitVec 64) : ∀ c, rleastTo 0 s c = (0#64, false)
  | 0 => rfl
  | c + 1 => by
    unfold rleastTo
    rw [least_zero s c]
    split
    · simp [rnoteM, rnoteA]
    · rfl
theorem least_fold (k : Int) (s : BitVec 64) : ∀ c, c ≤ 64 → rleastTo k s c = (Bs.upto s c).foldl (noteStep k) (0#64, false)
  | 0, _ => rfl
  | c + 1, h => by
    have ih := least_fold k s c (by omega)
    unfold rleastTo
    rw [hasB_nat s c (by omega) (by omega), Int.toNat_natCast]
    by_cases hb : s.getLsbD c = true
    · rw [if_pos hb, Bs.upto_hit s c hb, List.foldl_append, ← ih]
      have h2 := note_same k (rleastTo k s c).1 (rleastTo k s c).2 c (by omega)
      rw [h2.1, h2.2]; rfl
    · rw [if_neg hb, Bs.upto_miss s c (by simpa using hb), ih]
theorem least_same (k n : Int) (s : BitVec 64) : rleastTo (newK k n) s (min n 4).toNat = leastSt k n s := by
  unfold leastSt
  by_cases h : newK k n = 0
  · rw [if_pos h, h, least_zero]
  · rw [if_neg h]
    by_cases h2 : (k = 1 ∨ k = 2 ∨ k = 3) ∧ 1 ≤ n ∧ n ≤ 4
    · have hk : newK k n = k := if_pos h2
      rw [hk, least_fold _ _ _ (by omega), elems_below s n.toNat (by omega)]
      have e : (min n 4).toNat = n.toNat := by omega
      rw [e]
    · exact absurd (if_neg h2) h

end Go.Proofs.YtjijgncahonfhaaDoor
