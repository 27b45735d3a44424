import Derived.Lib.TrailingZeros
namespace Go.Bs

abbrev Set64 := BitVec 64

/-- the elements of s that are at least k, increasing -/
def elems (s : BitVec 64) : List Nat := (List.range 64).filter (fun i => s.getLsbD i)

theorem mem_elems {s : BitVec 64} {i : Nat} : i ∈ elems s ↔ s.getLsbD i = true := by
  unfold elems
  simp only [List.mem_filter, List.mem_range]
  constructor
  · exact fun h => h.2
  · intro h
    refine ⟨?_, h⟩
    apply Nat.lt_of_not_le
    intro hle
    rw [BitVec.getLsbD_of_ge _ _ hle] at h
    cases h

theorem elems_zero : elems 0 = [] := by
  simp [elems]

theorem elems_sorted (s : BitVec 64) : (elems s).Pairwise (· < ·) := by
  unfold elems
  exact List.Pairwise.filter _ List.pairwise_lt_range

theorem eq_of_elems {s t : BitVec 64} (h : ∀ i, i < 64 → s.getLsbD i = t.getLsbD i) : s = t :=
  BitVec.eq_of_getLsbD_eq h

/-- two increasing lists with the same members are the same -/
theorem sorted_ext : ∀ {a b : List Nat}, a.Pairwise (· < ·) → b.Pairwise (· < ·) → (∀ i, i ∈ a ↔ i ∈ b) → a = b
  | [], [], _, _, _ => rfl
  | [], y :: _, _, _, h => by have := (h y).2 (by simp); simp at this
  | x :: _, [], _, _, h => by have := (h x).1 (by simp); simp at this
  | x :: xs, y :: ys, ha, hb, h => by
    rw [List.pairwise_cons] at ha hb
    have hxy : x = y := by
      have h1 := (h x).1 (by simp)
      have h2 := (h y).2 (by simp)
      simp only [List.mem_cons] at h1 h2
      rcases h1 with h1 | h1
      · exact h1
      · rcases h2 with h2 | h2
        · exact h2.symm
        · have := hb.1 x h1; have := ha.1 y h2; omega
    subst hxy
    rw [sorted_ext ha.2 hb.2 (fun i => ?_)]
    have hi := h i
    simp only [List.mem_cons] at hi
    constructor
    · intro hm
      have hlt := ha.1 i hm
      rcases hi.1 (Or.inr hm) with e | e
      · omega
      · exact e
    · intro hm
      have hlt := hb.1 i hm
      rcases hi.2 (Or.inr hm) with e | e
      · omega
      · exact e

/-- the lowest element -/
def low (s : BitVec 64) : Nat := Lib.ctz 64 s.toNat

theorem low_spec {s : BitVec 64} (h : s ≠ 0) : ∃ m, s.toNat = 2 ^ low s * (2 * m + 1) ∧ low s < 64 := by
  have h0 : s.toNat ≠ 0 := fun e => h (BitVec.eq_of_toNat_eq (by simpa using e))
  have e : low s = Lib.ctzFrom 64 s.toNat := by simp [low, Lib.ctz, h0]
  rw [e]
  exact Lib.ctzFrom_spec 64 s.toNat (by omega) s.isLt

theorem low_lt {s : BitVec 64} (h : s ≠ 0) : low s < 64 := (low_spec h).choose_spec.2

/-- the bits of 2^k (2m+1) -/
theorem bit_odd (k m i : Nat) : (2 ^ k * (2 * m + 1)).testBit i = (decide (i = k) || (decide (k < i) && m.testBit (i - k - 1))) := by
  rw [Nat.mul_comm, Nat.testBit_mul_two_pow]
  by_cases h1 : k ≤ i
  · by_cases h2 : i = k
    · subst h2; simp
    · obtain ⟨j, rfl⟩ : ∃ j, i = k + (j + 1) := ⟨i - k - 1, by omega⟩
      have e : k + (j + 1) - k = j + 1 := by omega
      have e3 : (2 * m + 1) / 2 = m := by omega
      have e2' : j + 1 - 1 = j := by omega
      rw [e, e2', Nat.testBit_succ, e3]
      have h3 : k < k + (j + 1) := by omega
      simp [h1, h3]
  · have h2 : ¬ i = k := by omega
    have h3 : ¬ k < i := by omega
    simp [h1, h2, h3]

theorem low_bit {s : BitVec 64} (h : s ≠ 0) : s.getLsbD (low s) = true := by
  obtain ⟨m, hm, _⟩ := low_spec h
  rw [← BitVec.testBit_toNat, hm, bit_odd]; simp

theorem low_least {s : BitVec 64} (h : s ≠ 0) {i : Nat} (hi : i < low s) : s.getLsbD i = false := by
  obtain ⟨m, hm, _⟩ := low_spec h
  rw [← BitVec.testBit_toNat, hm, bit_odd]
  have h1 : ¬ i = low s := by omega
  have h2 : ¬ low s < i := by omega
  simp [h1, h2]

/-- s & (s-1) -/
def rest (s : BitVec 64) : BitVec 64 := s &&& (s - 1)

theorem bit_ones (k i : Nat) : (2 ^ k - 1).testBit i = decide (i < k) := by
  exact Nat.testBit_two_pow_sub_one k i

theorem pred_odd (k m : Nat) : 2 ^ k * (2 * m + 1) - 1 = 2 ^ (k + 1) * m + (2 ^ k - 1) := by
  have h1 : 2 ^ k * (2 * m + 1) = 2 ^ (k + 1) * m + 2 ^ k := by
    rw [Nat.mul_add, Nat.pow_succ, Nat.mul_one, Nat.mul_assoc]
  have := Nat.two_pow_pos k
  omega

theorem rest_bit {s : BitVec 64} (h : s ≠ 0) (i : Nat) : (rest s).getLsbD i = (s.getLsbD i && decide (i ≠ low s)) := by
  obtain ⟨m, hm, hk⟩ := low_spec h
  have hs : (s - 1).toNat = s.toNat - 1 := by
    have h0 : s.toNat ≠ 0 := fun e => h (BitVec.eq_of_toNat_eq (by simpa using e))
    rw [BitVec.toNat_sub]
    have := s.isLt
    simp
    omega
  unfold rest
  rw [BitVec.getLsbD_and, ← BitVec.testBit_toNat, ← BitVec.testBit_toNat, hs, hm, pred_odd, bit_odd]
  have hb : (2 ^ (low s + 1) * m + (2 ^ low s - 1)).testBit i = (if i < low s + 1 then decide (i < low s) else m.testBit (i - (low s + 1))) := by
    have hlt : 2 ^ low s - 1 < 2 ^ (low s + 1) := by
      have := Nat.two_pow_pos (low s); rw [Nat.pow_succ]; omega
    rw [Nat.testBit_two_pow_mul_add _ hlt, bit_ones]
  rw [hb]
  by_cases h1 : i = low s
  · simp [h1]
  · by_cases h2 : i < low s
    · have h3 : ¬ low s < i := by omega
      simp [h1, h3]
    · have h3 : low s < i := by omega
      have h4 : ¬ i < low s + 1 := by omega
      have e : i - low s - 1 = i - (low s + 1) := by omega
      simp [h1, h3, h4, e]

theorem elems_step {s : BitVec 64} (h : s ≠ 0) : elems s = low s :: elems (rest s) := by
  apply sorted_ext (elems_sorted s)
  · rw [List.pairwise_cons]
    refine ⟨?_, elems_sorted _⟩
    intro j hj
    rw [mem_elems, rest_bit h] at hj
    simp at hj
    apply Nat.lt_of_not_le
    intro hle
    have : j < low s := by omega
    rw [low_least h this] at hj
    simp at hj
  · intro i
    rw [mem_elems, List.mem_cons, mem_elems, rest_bit h]
    by_cases e : i = low s
    · subst e; simp [low_bit h]
    · simp [e]

theorem rest_lt {s : BitVec 64} (h : s ≠ 0) : (elems (rest s)).length < (elems s).length := by
  rw [elems_step h]; simp

/-- the elements below k -/
def upto (s : BitVec 64) (k : Nat) : List Nat := (List.range k).filter (fun i => s.getLsbD i)
theorem upto_zero (s : BitVec 64) : upto s 0 = [] := rfl
theorem upto_all (s : BitVec 64) : upto s 64 = elems s := rfl
theorem upto_hit (s : BitVec 64) (k : Nat) (h : s.getLsbD k = true) : upto s (k + 1) = upto s k ++ [k] := by
  unfold upto; rw [List.range_succ, List.filter_append]; simp [h]
theorem upto_miss (s : BitVec 64) (k : Nat) (h : s.getLsbD k = false) : upto s (k + 1) = upto s k := by
  unfold upto; rw [List.range_succ, List.filter_append]; simp [h]
theorem upto_le (s : BitVec 64) (k : Nat) : (upto s k).length ≤ k := by
  unfold upto
  have := List.length_filter_le (fun i => s.getLsbD i) (List.range k)
  simpa using this
theorem mem_upto {s : BitVec 64} {k i : Nat} : i ∈ upto s k ↔ i < k ∧ s.getLsbD i = true := by
  unfold upto; simp [List.mem_filter]
theorem elems_le (s : BitVec 64) : (elems s).length ≤ 64 := upto_le s 64

/-- what math/bits.TrailingZeros64 reckons -/
theorem tz_key (s : BitVec 64) (h : s ≠ 0) : ((s &&& -s) * 285870213051353865#64).toNat / 288230376151711744 = 2 ^ low s * 285870213051353865 % 18446744073709551616 / 288230376151711744 := by
  have h0 : s.toNat ≠ 0 := fun e => h (BitVec.eq_of_toNat_eq (by simpa using e))
  have hl := (Lib.lowest_bit 64 s.toNat h0 s.isLt).1
  have e : (s &&& -s).toNat = 2 ^ low s := by
    rw [BitVec.toNat_and, BitVec.toNat_neg, Nat.mod_eq_of_lt (by omega)]
    exact hl
  rw [BitVec.toNat_mul, e]
  rfl

end Go.Bs
