/- Texts that stand together: Bs, Bv, Pop, Ma, Rf, Mb, Mc, Bx, Bz. -/
import Derived.Lib.TrailingZeros
import Derived.Laws.Bits64
import Derived.Laws.Entries
import Derived.Laws.Bits64b
import Derived.Laws.Bits128
import Derived.RangeFuncNested
import Derived.RangeFuncBound
import Derived.RangeFuncCalls
import Derived.RangeFuncLeaves
import Derived.Shelf.Abstract
import Derived.Shelf.RegionOpen
import Derived.WalkKit
import Derived.WalkLawsBesides
import Derived.WalkSpells
import Derived.OwnWalkIn
import Derived.TacticsInMore
import Derived.LoopNIn
import Derived.LoopIn
import Derived.BigQuiet
import Derived.Deep.QuietTactic
import Derived.Test.YtknjdfgmejobfaaDoorChecked
import Derived.Deep.RegionHeld3
import Derived.OneCell
import Derived.Lib.Hide
import Derived.Maps.AppendAt
namespace Go.Bs

abbrev Set64 := BitVec 64

/-- the elements of s that are at least k, increasing -/
def elems (s : BitVec 64) : List Nat := (List.range 64).filter (fun i => s.getLsbD i)

theorem mem_elems {s : BitVec 64} {i : Nat} : i ∈ elems s ↔ s.getLsbD i = true := by
  unfold elems
  simp only [List.mem_filter, List.mem_range]
  constructor
  · exact fun h => h.2
  · intro h
    refine ⟨?_, h⟩
    apply Nat.lt_of_not_le
    intro hle
    rw [BitVec.getLsbD_of_ge _ _ hle] at h
    cases h

theorem elems_zero : elems 0 = [] := by
  simp [elems]

theorem elems_sorted (s : BitVec 64) : (elems s).Pairwise (· < ·) := by
  unfold elems
  exact List.Pairwise.filter _ List.pairwise_lt_range

theorem eq_of_elems {s t : BitVec 64} (h : ∀ i, i < 64 → s.getLsbD i = t.getLsbD i) : s = t :=
  BitVec.eq_of_getLsbD_eq h

/-- two increasing lists with the same members are the same -/
theorem sorted_ext : ∀ {a b : List Nat}, a.Pairwise (· < ·) → b.Pairwise (· < ·) → (∀ i, i ∈ a ↔ i ∈ b) → a = b
  | [], [], _, _, _ => rfl
  | [], y :: _, _, _, h => by have := (h y).2 (by simp); simp at this
  | x :: _, [], _, _, h => by have := (h x).1 (by simp); simp at this
  | x :: xs, y :: ys, ha, hb, h => by
    rw [List.pairwise_cons] at ha hb
    have hxy : x = y := by
      have h1 := (h x).1 (by simp)
      have h2 := (h y).2 (by simp)
      simp only [List.mem_cons] at h1 h2
      rcases h1 with h1 | h1
      · exact h1
      · rcases h2 with h2 | h2
        · exact h2.symm
        · have := hb.1 x h1; have := ha.1 y h2; omega
    subst hxy
    rw [sorted_ext ha.2 hb.2 (fun i => ?_)]
    have hi := h i
    simp only [List.mem_cons] at hi
    constructor
    · intro hm
      have hlt := ha.1 i hm
      rcases hi.1 (Or.inr hm) with e | e
      · omega
      · exact e
    · intro hm
      have hlt := hb.1 i hm
      rcases hi.2 (Or.inr hm) with e | e
      · omega
      · exact e

/-- the lowest element -/
def low (s : BitVec 64) : Nat := Lib.ctz 64 s.toNat

theorem low_spec {s : BitVec 64} (h : s ≠ 0) : ∃ m, s.toNat = 2 ^ low s * (2 * m + 1) ∧ low s < 64 := by
  have h0 : s.toNat ≠ 0 := fun e => h (BitVec.eq_of_toNat_eq (by simpa using e))
  have e : low s = Lib.ctzFrom 64 s.toNat := by simp [low, Lib.ctz, h0]
  rw [e]
  exact Lib.ctzFrom_spec 64 s.toNat (by omega) s.isLt

theorem low_lt {s : BitVec 64} (h : s ≠ 0) : low s < 64 := (low_spec h).choose_spec.2

/-- the bits of 2^k (2m+1) -/
theorem bit_odd (k m i : Nat) : (2 ^ k * (2 * m + 1)).testBit i = (decide (i = k) || (decide (k < i) && m.testBit (i - k - 1))) := by
  rw [Nat.mul_comm, Nat.testBit_mul_two_pow]
  by_cases h1 : k ≤ i
  · by_cases h2 : i = k
    · subst h2; simp
    · obtain ⟨j, rfl⟩ : ∃ j, i = k + (j + 1) := ⟨i - k - 1, by omega⟩
      have e : k + (j + 1) - k = j + 1 := by omega
      have e3 : (2 * m + 1) / 2 = m := by omega
      have e2' : j + 1 - 1 = j := by omega
      rw [e, e2', Nat.testBit_succ, e3]
      have h3 : k < k + (j + 1) := by omega
      simp [h1, h3]
  · have h2 : ¬ i = k := by omega
    have h3 : ¬ k < i := by omega
    simp [h1, h2, h3]

theorem low_bit {s : BitVec 64} (h : s ≠ 0) : s.getLsbD (low s) = true := by
  obtain ⟨m, hm, _⟩ := low_spec h
  rw [← BitVec.testBit_toNat, hm, bit_odd]; simp

theorem low_least {s : BitVec 64} (h : s ≠ 0) {i : Nat} (hi : i < low s) : s.getLsbD i = false := by
  obtain ⟨m, hm, _⟩ := low_spec h
  rw [← BitVec.testBit_toNat, hm, bit_odd]
  have h1 : ¬ i = low s := by omega
  have h2 : ¬ low s < i := by omega
  simp [h1, h2]

/-- s & (s-1) -/
def rest (s : BitVec 64) : BitVec 64 := s &&& (s - 1)

theorem bit_ones (k i : Nat) : (2 ^ k - 1).testBit i = decide (i < k) := by
  exact Nat.testBit_two_pow_sub_one k i

theorem pred_odd (k m : Nat) : 2 ^ k * (2 * m + 1) - 1 = 2 ^ (k + 1) * m + (2 ^ k - 1) := by
  have h1 : 2 ^ k * (2 * m + 1) = 2 ^ (k + 1) * m + 2 ^ k := by
    rw [Nat.mul_add, Nat.pow_succ, Nat.mul_one, Nat.mul_assoc]
  have := Nat.two_pow_pos k
  omega

theorem rest_bit {s : BitVec 64} (h : s ≠ 0) (i : Nat) : (rest s).getLsbD i = (s.getLsbD i && decide (i ≠ low s)) := by
  obtain ⟨m, hm, hk⟩ := low_spec h
  have hs : (s - 1).toNat = s.toNat - 1 := by
    have h0 : s.toNat ≠ 0 := fun e => h (BitVec.eq_of_toNat_eq (by simpa using e))
    rw [BitVec.toNat_sub]
    have := s.isLt
    simp
    omega
  unfold rest
  rw [BitVec.getLsbD_and, ← BitVec.testBit_toNat, ← BitVec.testBit_toNat, hs, hm, pred_odd, bit_odd]
  have hb : (2 ^ (low s + 1) * m + (2 ^ low s - 1)).testBit i = (if i < low s + 1 then decide (i < low s) else m.testBit (i - (low s + 1))) := by
    have hlt : 2 ^ low s - 1 < 2 ^ (low s + 1) := by
      have := Nat.two_pow_pos (low s); rw [Nat.pow_succ]; omega
    rw [Nat.testBit_two_pow_mul_add _ hlt, bit_ones]
  rw [hb]
  by_cases h1 : i = low s
  · simp [h1]
  · by_cases h2 : i < low s
    · have h3 : ¬ low s < i := by omega
      simp [h1, h3]
    · have h3 : low s < i := by omega
      have h4 : ¬ i < low s + 1 := by omega
      have e : i - low s - 1 = i - (low s + 1) := by omega
      simp [h1, h3, h4, e]

theorem elems_step {s : BitVec 64} (h : s ≠ 0) : elems s = low s :: elems (rest s) := by
  apply sorted_ext (elems_sorted s)
  · rw [List.pairwise_cons]
    refine ⟨?_, elems_sorted _⟩
    intro j hj
    rw [mem_elems, rest_bit h] at hj
    simp at hj
    apply Nat.lt_of_not_le
    intro hle
    have : j < low s := by omega
    rw [low_least h this] at hj
    simp at hj
  · intro i
    rw [mem_elems, List.mem_cons, mem_elems, rest_bit h]
    by_cases e : i = low s
    · subst e; simp [low_bit h]
    · simp [e]

theorem rest_lt {s : BitVec 64} (h : s ≠ 0) : (elems (rest s)).length < (elems s).length := by
  rw [elems_step h]; simp

/-- the elements below k -/
def upto (s : BitVec 64) (k : Nat) : List Nat := (List.range k).filter (fun i => s.getLsbD i)
theorem upto_zero (s : BitVec 64) : upto s 0 = [] := rfl
theorem upto_all (s : BitVec 64) : upto s 64 = elems s := rfl
theorem upto_hit (s : BitVec 64) (k : Nat) (h : s.getLsbD k = true) : upto s (k + 1) = upto s k ++ [k] := by
  unfold upto; rw [List.range_succ, List.filter_append]; simp [h]
theorem upto_miss (s : BitVec 64) (k : Nat) (h : s.getLsbD k = false) : upto s (k + 1) = upto s k := by
  unfold upto; rw [List.range_succ, List.filter_append]; simp [h]
theorem upto_le (s : BitVec 64) (k : Nat) : (upto s k).length ≤ k := by
  unfold upto
  have := List.length_filter_le (fun i => s.getLsbD i) (List.range k)
  simpa using this
theorem mem_upto {s : BitVec 64} {k i : Nat} : i ∈ upto s k ↔ i < k ∧ s.getLsbD i = true := by
  unfold upto; simp [List.mem_filter]
theorem elems_le (s : BitVec 64) : (elems s).length ≤ 64 := upto_le s 64

/-- what math/bits.TrailingZeros64 reckons -/
theorem tz_key (s : BitVec 64) (h : s ≠ 0) : ((s &&& -s) * 285870213051353865#64).toNat / 288230376151711744 = 2 ^ low s * 285870213051353865 % 18446744073709551616 / 288230376151711744 := by
  have h0 : s.toNat ≠ 0 := fun e => h (BitVec.eq_of_toNat_eq (by simpa using e))
  have hl := (Lib.lowest_bit 64 s.toNat h0 s.isLt).1
  have e : (s &&& -s).toNat = 2 ^ low s := by
    rw [BitVec.toNat_and, BitVec.toNat_neg, Nat.mod_eq_of_lt (by omega)]
    exact hl
  rw [BitVec.toNat_mul, e]
  rfl

end Go.Bs

/- Numbers of 64 bits as bit vectors: what the operations of a walk give. 'U s' is the number, kept apart from simp's own rules. -/
namespace Go.Bv

/-- the number of a vector of 64 bits -/
def U (s : BitVec 64) : Int := s.toNat

theorem U_eq (s : BitVec 64) : U s = (s.toNat : Int) := rfl
theorem U_nonneg (s : BitVec 64) : 0 ≤ U s := by unfold U; omega
theorem U_lt (s : BitVec 64) : U s < 18446744073709551616 := by unfold U; have := s.isLt; omega
theorem U_inj {s t : BitVec 64} : U s = U t ↔ s = t :=
  ⟨fun h => BitVec.eq_of_toNat_eq (by unfold U at h; omega), fun h => by rw [h]⟩
theorem U_of (x : Int) (h0 : 0 ≤ x) (h1 : x < 18446744073709551616) : ∃ s, x = U s := by
  refine ⟨BitVec.ofNat 64 x.toNat, ?_⟩
  unfold U
  rw [BitVec.toNat_ofNat]; omega
theorem U_ofNat (n : Nat) (h : n < 18446744073709551616) : U (BitVec.ofNat 64 n) = n := by
  unfold U; rw [BitVec.toNat_ofNat]; omega
theorem U_zero : U 0#64 = 0 := rfl
theorem U_one : U 1#64 = 1 := rfl

theorem ofInt_U (s : BitVec 64) : BitVec.ofInt 64 (U s) = s := by
  unfold U; rw [BitVec.ofInt_natCast]; simp

theorem U_ofInt (x : Int) : U (BitVec.ofInt 64 x) = x % 18446744073709551616 := by
  unfold U; rw [BitVec.toNat_ofInt]; simp; omega

theorem wrap_eq (x : Int) : IntKind.u64.wrap x = U (BitVec.ofInt 64 x) := by
  rw [U_ofInt, IntKind.wrap_u64]

theorem wrap_U (s : BitVec 64) : IntKind.u64.wrap (U s) = U s := by rw [wrap_eq, ofInt_U]

theorem and_any (x y : Int) : bits .and .u64 x y = U (BitVec.ofInt 64 x &&& BitVec.ofInt 64 y) := by
  show IntKind.u64.wrap ((BitVec.ofInt 64 x &&& BitVec.ofInt 64 y).toNat : Int) = _
  exact wrap_U _
theorem or_any (x y : Int) : bits .or .u64 x y = U (BitVec.ofInt 64 x ||| BitVec.ofInt 64 y) := by
  show IntKind.u64.wrap ((BitVec.ofInt 64 x ||| BitVec.ofInt 64 y).toNat : Int) = _
  exact wrap_U _
theorem xor_any (x y : Int) : bits .xor .u64 x y = U (BitVec.ofInt 64 x ^^^ BitVec.ofInt 64 y) := by
  show IntKind.u64.wrap ((BitVec.ofInt 64 x ^^^ BitVec.ofInt 64 y).toNat : Int) = _
  exact wrap_U _
theorem andNot_any (x y : Int) : bits .andNot .u64 x y = U (BitVec.ofInt 64 x &&& ~~~ BitVec.ofInt 64 y) := by
  show IntKind.u64.wrap ((BitVec.ofInt 64 x &&& ~~~ BitVec.ofInt 64 y).toNat : Int) = _
  exact wrap_U _

theorem and_u (s t : BitVec 64) : bits .and .u64 (U s) (U t) = U (s &&& t) := by rw [and_any, ofInt_U, ofInt_U]
theorem or_u (s t : BitVec 64) : bits .or .u64 (U s) (U t) = U (s ||| t) := by rw [or_any, ofInt_U, ofInt_U]
theorem andNot_u (s t : BitVec 64) : bits .andNot .u64 (U s) (U t) = U (s &&& ~~~ t) := by rw [andNot_any, ofInt_U, ofInt_U]

theorem ofInt_lit (n : Nat) : BitVec.ofInt 64 (OfNat.ofNat n : Int) = BitVec.ofNat 64 n := by
  show BitVec.ofInt 64 ((n : Nat) : Int) = _
  rw [BitVec.ofInt_natCast]

theorem and_lit (s : BitVec 64) (n : Nat) : bits .and .u64 (U s) (OfNat.ofNat n : Int) = U (s &&& BitVec.ofNat 64 n) := by rw [and_any, ofInt_U, ofInt_lit]
theorem and_lit' (s : BitVec 64) (n : Nat) : bits .and .u64 (OfNat.ofNat n : Int) (U s) = U (BitVec.ofNat 64 n &&& s) := by rw [and_any, ofInt_U, ofInt_lit]
theorem or_lit (s : BitVec 64) (n : Nat) : bits .or .u64 (U s) (OfNat.ofNat n : Int) = U (s ||| BitVec.ofNat 64 n) := by rw [or_any, ofInt_U, ofInt_lit]
theorem or_lit' (s : BitVec 64) (n : Nat) : bits .or .u64 (OfNat.ofNat n : Int) (U s) = U (BitVec.ofNat 64 n ||| s) := by rw [or_any, ofInt_U, ofInt_lit]
theorem andNot_lit (s : BitVec 64) (n : Nat) : bits .andNot .u64 (U s) (OfNat.ofNat n : Int) = U (s &&& ~~~ BitVec.ofNat 64 n) := by rw [andNot_any, ofInt_U, ofInt_lit]

theorem wrap_add (s t : BitVec 64) : IntKind.u64.wrap (U s + U t) = U (s + t) := by
  unfold U; rw [IntKind.wrap_u64, BitVec.toNat_add]; omega
theorem wrap_sub (s t : BitVec 64) : IntKind.u64.wrap (U s - U t) = U (s - t) := by
  unfold U; rw [IntKind.wrap_u64, BitVec.toNat_sub]; have := s.isLt; have := t.isLt; omega
theorem wrap_sub1 (s : BitVec 64) : IntKind.u64.wrap (U s - 1) = U (s - 1#64) := wrap_sub s 1#64
theorem wrap_neg (s : BitVec 64) : IntKind.u64.wrap (-(U s)) = U (-s) := by
  unfold U; rw [IntKind.wrap_u64, BitVec.toNat_neg]; have := s.isLt; omega
theorem wrap_mul (s t : BitVec 64) : IntKind.u64.wrap (U s * U t) = U (s * t) := by
  unfold U; rw [IntKind.wrap_u64, BitVec.toNat_mul, ← Int.natCast_mul]; omega
theorem wrap_not (s : BitVec 64) : IntKind.u64.wrap (-1 - U s) = U (~~~ s) := by
  unfold U; rw [IntKind.wrap_u64, BitVec.toNat_not]; have := s.isLt; omega

/-- x == 0, x == y -/
theorem eq0 (s : BitVec 64) : (U s == 0) = (s == 0#64) := by
  rw [Bool.eq_iff_iff]
  simp only [beq_iff_eq]
  exact ⟨fun h => U_inj.1 h, fun h => by rw [h]; rfl⟩
theorem eq_u (s t : BitVec 64) : (U s == U t) = (s == t) := by
  rw [Bool.eq_iff_iff]
  simp only [beq_iff_eq]
  exact U_inj
theorem ne0 (s : BitVec 64) : (U s != 0) = (s != 0#64) := by simp only [bne, eq0]
theorem ne_u (s t : BitVec 64) : (U s != U t) = (s != t) := by simp only [bne, eq_u]

/-- a single bit -/
def bit (i : Nat) : BitVec 64 := BitVec.ofNat 64 (2 ^ i)
theorem bit_get (i k : Nat) (hi : i < 64) : (bit i).getLsbD k = decide (k = i) := by
  unfold bit
  rw [BitVec.getLsbD_ofNat, Nat.testBit_two_pow]
  by_cases h : i = k
  · subst h; simp [hi]
  · have h2 : ¬ k = i := by omega
    simp [h, h2]
theorem bit_big (i : Nat) (hi : 64 ≤ i) : bit i = 0#64 := by
  unfold bit
  apply BitVec.eq_of_toNat_eq
  rw [BitVec.toNat_ofNat, Nat.mod_eq_zero_of_dvd (Nat.pow_dvd_pow 2 hi)]; rfl

/-- 1 << n at 64 bits -/
theorem wrap_pow (n : Nat) : IntKind.u64.wrap ((2 : Int) ^ n) = U (bit n) := by
  unfold bit U
  rw [IntKind.wrap_u64, BitVec.toNat_ofNat]
  have e : ((2 : Int) ^ n) = ((2 ^ n : Nat) : Int) := by simp
  rw [e]
  have h64 : (2:Nat) ^ 64 = 18446744073709551616 := rfl
  rw [h64]; omega
theorem wrap_powmin (n : Nat) : IntKind.u64.wrap ((2 : Int) ^ min n 64) = U (bit n) := by
  by_cases h : n ≤ 64
  · rw [Nat.min_eq_left h, wrap_pow]
  · rw [Nat.min_eq_right (by omega), wrap_pow, bit_big 64 (by omega), bit_big n (by omega)]

/-- s >> n -/
theorem shr_min (s : BitVec 64) (n : Nat) : U s / 2 ^ min n 64 = U (s >>> n) := by
  unfold U
  have e : ((2 : Int) ^ min n 64) = ((2 ^ min n 64 : Nat) : Int) := by simp
  rw [e, BitVec.toNat_ushiftRight, Nat.shiftRight_eq_div_pow]
  by_cases h : n ≤ 64
  · rw [Nat.min_eq_left h]; exact (Int.natCast_ediv _ _).symm
  · rw [Nat.min_eq_right (by omega)]
    have hlt : s.toNat < 2 ^ n := Nat.lt_of_lt_of_le s.isLt (Nat.pow_le_pow_right (by decide) (by omega))
    have h64 := s.isLt
    rw [Nat.div_eq_of_lt hlt, ← Int.natCast_ediv, Nat.div_eq_of_lt h64]
theorem shr_pow (s : BitVec 64) (n : Nat) : U s / 2 ^ n = U (s >>> n) := by
  unfold U
  have e : ((2 : Int) ^ n) = ((2 ^ n : Nat) : Int) := by simp
  rw [e, BitVec.toNat_ushiftRight, Nat.shiftRight_eq_div_pow, ← Int.natCast_ediv]
theorem bit_test (s : BitVec 64) (n : Nat) : (s >>> n &&& 1#64) = if s.getLsbD n then 1#64 else 0#64 := by
  apply BitVec.eq_of_toNat_eq
  rw [BitVec.toNat_and, BitVec.toNat_ushiftRight, Nat.shiftRight_eq_div_pow]
  have e1 : (1#64).toNat = 1 := rfl
  rw [e1]
  have e2 : s.toNat / 2 ^ n &&& 1 = s.toNat / 2 ^ n % 2 := Nat.and_two_pow_sub_one_eq_mod _ 1
  have e3 : s.getLsbD n = decide (s.toNat / 2 ^ n % 2 = 1) := by
    rw [← BitVec.testBit_toNat, Nat.testBit_eq_decide_div_mod_eq]
  rw [e2, e3]
  by_cases h : s.toNat / 2 ^ n % 2 = 1
  · simp [h]
  · simp [h]; omega
theorem U_mod2 (s : BitVec 64) (n : Nat) : U (s >>> n) % 2 = if s.getLsbD n then 1 else 0 := by
  have e0 : U (s >>> n) % 2 = ((s.toNat / 2 ^ n % 2 : Nat) : Int) := by
    unfold U
    rw [BitVec.toNat_ushiftRight, Nat.shiftRight_eq_div_pow]; omega
  have e3 : s.getLsbD n = decide (s.toNat / 2 ^ n % 2 = 1) := by
    rw [← BitVec.testBit_toNat, Nat.testBit_eq_decide_div_mod_eq]
  rw [e0, e3]
  by_cases h : s.toNat / 2 ^ n % 2 = 1
  · simp [h]
  · have h2 : s.toNat / 2 ^ n % 2 = 0 := by omega
    simp [h2]

/-- the bit of s at i, kept apart from simp's own rules -/
def G (s : BitVec 64) (i : Nat) : Bool := s.getLsbD i
theorem G_eq (s : BitVec 64) (i : Nat) : G s i = s.getLsbD i := rfl
/-- a bit as a number -/
def B1 (b : Bool) : Int := if b then 1 else 0
theorem B1_eq1 (b : Bool) : (B1 b == 1) = b := by cases b <;> rfl
theorem B1_eq0 (b : Bool) : (B1 b == 0) = !b := by cases b <;> rfl
theorem B1_ne1 (b : Bool) : (B1 b != 1) = !b := by cases b <;> rfl
theorem B1_ne0 (b : Bool) : (B1 b != 0) = b := by cases b <;> rfl
theorem tmod2 (s : BitVec 64) (n : Nat) : (U (s >>> n)).tmod 2 = B1 (G s n) := by
  rw [Int.tmod_eq_emod_of_nonneg (U_nonneg _)]; exact U_mod2 s n
theorem and1 (s : BitVec 64) (n : Nat) : bits .and .u64 (U (s >>> n)) 1 = B1 (G s n) := by
  have h := and_lit (s >>> n) 1
  have e : (OfNat.ofNat 1 : Int) = 1 := rfl
  rw [e] at h
  rw [h, bit_test]
  unfold G
  cases s.getLsbD n <;> rfl

/-- 1<<n - 1 -/
theorem ones_get (n i : Nat) (hn : n ≤ 64) (_hi : i < 64) : (bit n - 1#64).getLsbD i = decide (i < n) := by
  have e : (bit n - 1#64).toNat = 2 ^ n - 1 := by
    rw [BitVec.toNat_sub]
    unfold bit
    have hp := Nat.two_pow_pos n
    have h64 : (2:Nat) ^ 64 = 18446744073709551616 := rfl
    by_cases h : n = 64
    · subst h; rfl
    · have hlt : 2 ^ n < 2 ^ 64 := Nat.pow_lt_pow_right (by decide) (by omega)
      rw [BitVec.toNat_ofNat, BitVec.toNat_ofNat, Nat.mod_eq_of_lt hlt, h64] at *
      omega
  rw [← BitVec.testBit_toNat, e, Nat.testBit_two_pow_sub_one]
theorem ext_get {s t : BitVec 64} (h : ∀ i, i < 64 → s.getLsbD i = t.getLsbD i) : s = t := BitVec.eq_of_getLsbD_eq h
theorem not_get (s : BitVec 64) (i : Nat) (hi : i < 64) : (~~~ s).getLsbD i = !s.getLsbD i := by rw [BitVec.getLsbD_not]; simp [hi]
theorem zero_get (i : Nat) : (0#64).getLsbD i = false := by simp

/-- adding a bit that is not there -/
theorem add_bit (s : BitVec 64) (i : Nat) (h : s.getLsbD i = false) : s + bit i = s ||| bit i := by
  apply BitVec.add_eq_or_of_and_eq_zero
  apply ext_get
  intro k hk
  rw [BitVec.getLsbD_and, zero_get]
  by_cases hi : i < 64
  · rw [bit_get i k hi]
    by_cases e : k = i
    · subst e; simp [h]
    · simp [e]
  · rw [bit_big i (by omega)]; simp
theorem or_bit_same (s : BitVec 64) (i : Nat) (h : s.getLsbD i = true) : s ||| bit i = s := by
  have hi : i < 64 := by
    apply Nat.lt_of_not_le; intro hle
    rw [BitVec.getLsbD_of_ge _ _ hle] at h; cases h
  apply ext_get
  intro k hk
  rw [BitVec.getLsbD_or, bit_get i k hi]
  by_cases e : k = i
  · subst e; simp [h]
  · simp [e]
theorem and_bit_zero (s : BitVec 64) (i : Nat) (hi : i < 64) : (s &&& bit i = 0#64) ↔ s.getLsbD i = false := by
  constructor
  · intro h
    have h2 := congrArg (fun t => BitVec.getLsbD t i) h
    simp only [BitVec.getLsbD_and, bit_get i i hi, zero_get] at h2
    simpa using h2
  · intro h
    apply ext_get
    intro k hk
    rw [BitVec.getLsbD_and, bit_get i k hi, zero_get]
    by_cases e : k = i
    · subst e; simp [h]
    · simp [e]

end Go.Bv

namespace Go.Pop

/-- how many of the n lowest bits are set -/
def cnt (n x : Nat) : Nat := ((List.range n).filter (fun i => x.testBit i)).length

theorem cnt_split (n q r : Nat) (hr : r < 256) : cnt (8 + n) (256 * q + r) = cnt 8 r + cnt n q := by
  unfold cnt
  rw [List.range_add, List.filter_append, List.length_append, List.filter_map, List.length_map]
  have e256 : 256 * q + r = 2 ^ 8 * q + r := by omega
  have h1 : (List.range 8).filter (fun i => (256 * q + r).testBit i) = (List.range 8).filter (fun i => r.testBit i) := by
    apply List.filter_congr
    intro i hi
    rw [List.mem_range] at hi
    rw [e256, Nat.testBit_two_pow_mul_add q (by omega : r < 2 ^ 8), if_pos hi]
  have h2 : (List.range n).filter ((fun i => (256 * q + r).testBit i) ∘ (fun x => 8 + x)) = (List.range n).filter (fun i => q.testBit i) := by
    apply List.filter_congr
    intro i _
    show (256 * q + r).testBit (8 + i) = q.testBit i
    rw [e256, Nat.testBit_two_pow_mul_add q (by omega : r < 2 ^ 8), if_neg (by omega)]
    congr 1; omega
  rw [h1, h2]

/-- (256 a + b) & (256 c + d), digit by digit -/
theorem and_split (a b c d : Nat) (hb : b < 256) (hd : d < 256) : (256 * a + b) &&& (256 * c + d) = 256 * (a &&& c) + (b &&& d) := by
  have e1 : 256 * a + b = 2 ^ 8 * a + b := by omega
  have e2 : 256 * c + d = 2 ^ 8 * c + d := by omega
  have e3 : 256 * (a &&& c) + (b &&& d) = 2 ^ 8 * (a &&& c) + (b &&& d) := by omega
  rw [e1, e2, e3]
  have hbd : b &&& d < 2 ^ 8 := Nat.and_lt_two_pow _ (by omega)
  apply Nat.eq_of_testBit_eq
  intro i
  rw [Nat.testBit_and, Nat.testBit_two_pow_mul_add _ (by omega : b < 2 ^ 8), Nat.testBit_two_pow_mul_add _ (by omega : d < 2 ^ 8), Nat.testBit_two_pow_mul_add _ hbd]
  split
  · rw [Nat.testBit_and]
  · rw [Nat.testBit_and]

/-- n bytes, each m -/
def mask (m : Nat) : Nat → Nat
  | 0 => 0
  | n + 1 => 256 * mask m n + m

def f1 (M x : Nat) : Nat := (x / 2 &&& M) + (x &&& M)
def f2 (M x : Nat) : Nat := (x / 4 &&& M) + (x &&& M)
def f3 (M x : Nat) : Nat := (x / 16 + x) &&& M

theorem f1_byte : ∀ r < 256, ∀ t < 2, ((128 * t + r / 2) &&& 85) + (r &&& 85) = f1 85 r ∧ f1 85 r < 256 := by decide +kernel
theorem f2_byte : ∀ r < 256, ∀ t < 4, ((64 * t + r / 4) &&& 51) + (r &&& 51) = f2 51 r ∧ f2 51 r < 256 := by decide +kernel
theorem all_byte : ∀ r < 256, f3 15 (f2 51 (f1 85 r)) = cnt 8 r ∧ cnt 8 r ≤ 8 ∧ f2 51 (f1 85 r) % 16 ≤ 4 ∧ f2 51 (f1 85 r) / 16 ≤ 4 := by decide +kernel
theorem f3_byte : ∀ y < 256, y % 16 ≤ 4 → y / 16 ≤ 4 → ∀ t < 5, 16 * t + y / 16 + y < 256 ∧ ((16 * t + y / 16 + y) &&& 15) = f3 15 y := by decide +kernel

theorem f1_step (n q r : Nat) (hr : r < 256) : f1 (mask 85 (n + 1)) (256 * q + r) = 256 * f1 (mask 85 n) q + f1 85 r := by
  have e : (256 * q + r) / 2 = 256 * (q / 2) + (128 * (q % 2) + r / 2) := by omega
  have h := f1_byte r hr (q % 2) (by omega)
  show ((256 * q + r) / 2 &&& (256 * mask 85 n + 85)) + ((256 * q + r) &&& (256 * mask 85 n + 85)) = 256 * ((q / 2 &&& mask 85 n) + (q &&& mask 85 n)) + f1 85 r
  rw [e, and_split _ _ _ _ (by omega) (by omega), and_split _ _ _ _ hr (by omega)]
  omega
theorem f2_step (n q r : Nat) (hr : r < 256) : f2 (mask 51 (n + 1)) (256 * q + r) = 256 * f2 (mask 51 n) q + f2 51 r := by
  have e : (256 * q + r) / 4 = 256 * (q / 4) + (64 * (q % 4) + r / 4) := by omega
  have h := f2_byte r hr (q % 4) (by omega)
  show ((256 * q + r) / 4 &&& (256 * mask 51 n + 51)) + ((256 * q + r) &&& (256 * mask 51 n + 51)) = 256 * ((q / 4 &&& mask 51 n) + (q &&& mask 51 n)) + f2 51 r
  rw [e, and_split _ _ _ _ (by omega) (by omega), and_split _ _ _ _ hr (by omega)]
  omega
theorem f3_step (n q y : Nat) (hy : y < 256) (h1 : y % 16 ≤ 4) (h2 : y / 16 ≤ 4) (hq : q % 16 ≤ 4) : f3 (mask 15 (n + 1)) (256 * q + y) = 256 * f3 (mask 15 n) q + f3 15 y := by
  have e : (256 * q + y) / 16 + (256 * q + y) = 256 * (q / 16 + q) + (16 * (q % 16) + y / 16 + y) := by omega
  have h := f3_byte y hy h1 h2 (q % 16) (by omega)
  show ((256 * q + y) / 16 + (256 * q + y)) &&& (256 * mask 15 n + 15) = 256 * ((q / 16 + q) &&& mask 15 n) + f3 15 y
  rw [e, and_split _ _ _ _ h.1 (by omega), h.2]

/-- the three first steps on n bytes: each byte becomes its count -/
def swar (n x : Nat) : Nat := f3 (mask 15 n) (f2 (mask 51 n) (f1 (mask 85 n) x))

theorem mid_low (n q : Nat) : ∀ r, r < 256 → (f2 (mask 51 (n + 1)) (f1 (mask 85 (n + 1)) (256 * q + r))) % 16 ≤ 4 := by
  intro r hr
  have h1 := f1_byte r hr 0 (by omega)
  have h2 := f2_byte (f1 85 r) h1.2 0 (by omega)
  have h3 := all_byte r hr
  rw [f1_step n q r hr, f2_step n _ _ h1.2]
  omega

theorem mid_low' (n x : Nat) : (f2 (mask 51 n) (f1 (mask 85 n) x)) % 16 ≤ 4 := by
  cases n with
  | zero => simp [mask, f2, f1]
  | succ n =>
    have h := mid_low n (x / 256) (x % 256) (by omega)
    have e : 256 * (x / 256) + x % 256 = x := by omega
    rw [e] at h; exact h

theorem swar_step (n q r : Nat) (hr : r < 256) : swar (n + 1) (256 * q + r) = 256 * swar n q + cnt 8 r := by
  have h1 := f1_byte r hr 0 (by omega)
  have h2 := f2_byte (f1 85 r) h1.2 0 (by omega)
  have h3 := all_byte r hr
  unfold swar
  rw [f1_step n q r hr, f2_step n _ _ h1.2, f3_step n _ _ h2.2 h3.2.2.1 h3.2.2.2 (mid_low' n q), h3.1]

theorem cnt8_le (r : Nat) (hr : r < 256) : cnt 8 r ≤ 8 := (all_byte r hr).2.1

/-- eight bytes -/
theorem swar8 (x : Nat) : ∃ c0 c1 c2 c3 c4 c5 c6 c7 : Nat, c0 ≤ 8 ∧ c1 ≤ 8 ∧ c2 ≤ 8 ∧ c3 ≤ 8 ∧ c4 ≤ 8 ∧ c5 ≤ 8 ∧ c6 ≤ 8 ∧ c7 ≤ 8 ∧
    cnt 64 x = c0 + c1 + c2 + c3 + c4 + c5 + c6 + c7 ∧
    swar 8 x = c0 + 256 * (c1 + 256 * (c2 + 256 * (c3 + 256 * (c4 + 256 * (c5 + 256 * (c6 + 256 * c7)))))) := by
  have key : ∀ n q r, r < 256 → cnt (8 + n) (256 * q + r) = cnt 8 r + cnt n q ∧ swar (n + 1) (256 * q + r) = 256 * swar n q + cnt 8 r ∧ cnt 8 r ≤ 8 :=
    fun n q r hr => ⟨cnt_split n q r hr, swar_step n q r hr, cnt8_le r hr⟩
  have step : ∀ n y, cnt (8 + n) y = cnt 8 (y % 256) + cnt n (y / 256) ∧ swar (n + 1) y = 256 * swar n (y / 256) + cnt 8 (y % 256) ∧ cnt 8 (y % 256) ≤ 8 := by
    intro n y
    have h := key n (y / 256) (y % 256) (by omega)
    have e : 256 * (y / 256) + y % 256 = y := by omega
    rw [e] at h
    exact h
  have a0 := step 56 x
  have b0 := step 7 x
  have a1 := step 48 (x / 256)
  have b1 := step 6 (x / 256)
  have a2 := step 40 (x / 256 / 256)
  have b2 := step 5 (x / 256 / 256)
  have a3 := step 32 (x / 256 / 256 / 256)
  have b3 := step 4 (x / 256 / 256 / 256)
  have a4 := step 24 (x / 256 / 256 / 256 / 256)
  have b4 := step 3 (x / 256 / 256 / 256 / 256)
  have a5 := step 16 (x / 256 / 256 / 256 / 256 / 256)
  have b5 := step 2 (x / 256 / 256 / 256 / 256 / 256)
  have a6 := step 8 (x / 256 / 256 / 256 / 256 / 256 / 256)
  have b6 := step 1 (x / 256 / 256 / 256 / 256 / 256 / 256)
  have a7 := step 0 (x / 256 / 256 / 256 / 256 / 256 / 256 / 256)
  have z0 : ∀ y, swar 0 y = 0 := by intro y; simp [swar, f3, mask]
  have z1 : ∀ y, cnt 0 y = 0 := by intro y; simp [cnt]
  rw [z0, z1] at a7
  refine ⟨_, _, _, _, _, _, _, _, a0.2.2, a1.2.2, a2.2.2, a3.2.2, a4.2.2, a5.2.2, a6.2.2, a7.2.2, ?_, ?_⟩
  · rw [show (64 : Nat) = 8 + 56 from rfl, a0.1, show (56 : Nat) = 8 + 48 from rfl, a1.1, show (48 : Nat) = 8 + 40 from rfl, a2.1, show (40 : Nat) = 8 + 32 from rfl, a3.1,
      show (32 : Nat) = 8 + 24 from rfl, a4.1, show (24 : Nat) = 8 + 16 from rfl, a5.1, show (16 : Nat) = 8 + 8 from rfl, a6.1, show (cnt 8 (x / 256 / 256 / 256 / 256 / 256 / 256 / 256)) = cnt (8 + 0) (x / 256 / 256 / 256 / 256 / 256 / 256 / 256) from rfl, a7.1]
    omega
  · rw [b0.2.1, b1.2.1, b2.2.1, b3.2.1, b4.2.1, b5.2.1, b6.2.1, a7.2.1]
    omega

/-- OnesCount64's last steps -/
theorem fold8 (y c0 c1 c2 c3 c4 c5 c6 c7 : Nat) (h0 : c0 ≤ 8) (h1 : c1 ≤ 8) (h2 : c2 ≤ 8) (h3 : c3 ≤ 8) (h4 : c4 ≤ 8) (h5 : c5 ≤ 8) (h6 : c6 ≤ 8) (h7 : c7 ≤ 8)
    (hy : y = c0 + 256 * (c1 + 256 * (c2 + 256 * (c3 + 256 * (c4 + 256 * (c5 + 256 * (c6 + 256 * c7))))))) :
    ∃ y1 y2 y3, y1 = y + y / 256 ∧ y2 = y1 + y1 / 65536 ∧ y3 = y2 + y2 / 4294967296 ∧ y1 < 18446744073709551616 ∧ y2 < 18446744073709551616 ∧ y3 < 18446744073709551616 ∧ y3 % 128 = c0 + c1 + c2 + c3 + c4 + c5 + c6 + c7 := by
  have d1 : y / 256 = c1 + 256 * (c2 + 256 * (c3 + 256 * (c4 + 256 * (c5 + 256 * (c6 + 256 * c7))))) := by omega
  obtain ⟨y1, e1⟩ : ∃ y1, y1 = y + y / 256 := ⟨_, rfl⟩
  have f1 : y1 = (c0 + c1) + 256 * ((c1 + c2) + 256 * ((c2 + c3) + 256 * ((c3 + c4) + 256 * ((c4 + c5) + 256 * ((c5 + c6) + 256 * ((c6 + c7) + 256 * c7)))))) := by omega
  have d2 : y1 / 65536 = (c2 + c3) + 256 * ((c3 + c4) + 256 * ((c4 + c5) + 256 * ((c5 + c6) + 256 * ((c6 + c7) + 256 * c7)))) := by clear d1 hy e1; omega
  obtain ⟨y2, e2⟩ : ∃ y2, y2 = y1 + y1 / 65536 := ⟨_, rfl⟩
  have f2 : y2 = (c0 + c1 + c2 + c3) + 256 * ((c1 + c2 + c3 + c4) + 256 * ((c2 + c3 + c4 + c5) + 256 * ((c3 + c4 + c5 + c6) + 256 * ((c4 + c5 + c6 + c7) + 256 * ((c5 + c6 + c7) + 256 * ((c6 + c7) + 256 * c7)))))) := by clear hy e1 d1; omega
  have d3 : y2 / 4294967296 = (c4 + c5 + c6 + c7) + 256 * ((c5 + c6 + c7) + 256 * ((c6 + c7) + 256 * c7)) := by clear hy e1 d1 f1 d2 e2; omega
  obtain ⟨y3, e3⟩ : ∃ y3, y3 = y2 + y2 / 4294967296 := ⟨_, rfl⟩
  have f3 : y3 = (c0 + c1 + c2 + c3 + c4 + c5 + c6 + c7) + 256 * ((c1 + c2 + c3 + c4 + c5 + c6 + c7) + 256 * ((c2 + c3 + c4 + c5 + c6 + c7) + 256 * ((c3 + c4 + c5 + c6 + c7) + 256 * ((c4 + c5 + c6 + c7) + 256 * ((c5 + c6 + c7) + 256 * ((c6 + c7) + 256 * c7)))))) := by clear hy e1 d1 f1 d2 e2; omega
  refine ⟨y1, y2, y3, e1, e2, e3, ?_, ?_, ?_, ?_⟩
  · clear hy e1 d1 d2 e2 f2 d3 e3 f3; omega
  · clear hy e1 d1 f1 d2 e2 d3 e3 f3; omega
  · clear hy e1 d1 f1 d2 e2 f2 d3 e3; omega
  · clear hy e1 d1 f1 d2 e2 f2 d3 e3; omega

theorem mask_vals : mask 85 8 = 6148914691236517205 ∧ mask 51 8 = 3689348814741910323 ∧ mask 15 8 = 1085102592571150095 := by decide

theorem f1_lt (M x : Nat) (hM : M = 6148914691236517205) : f1 M x < 18446744073709551616 := by
  unfold f1
  have h1 : x / 2 &&& M ≤ M := Nat.and_le_right
  have h2 : x &&& M ≤ M := Nat.and_le_right
  omega
theorem f2_lt (M x : Nat) (hM : M = 3689348814741910323) : f2 M x < 18446744073709551616 ∧ f2 M x ≤ 7378697629483820646 := by
  unfold f2
  have h1 : x / 4 &&& M ≤ M := Nat.and_le_right
  have h2 : x &&& M ≤ M := Nat.and_le_right
  omega

/-- the steps of math/bits.OnesCount64, one equation each, in the walk's own form -/
theorem ones (x : Nat) (hx : x < 18446744073709551616) : ∃ A1 B1 X1 A2 B2 X2 C3 X3 X4 X5 X6 : Int,
    bits .and .u64 ((x : Int) / 2) 6148914691236517205 = A1 ∧ bits .and .u64 (x : Int) 6148914691236517205 = B1 ∧ IntKind.u64.wrap (A1 + B1) = X1 ∧
    bits .and .u64 (X1 / 4) 3689348814741910323 = A2 ∧ bits .and .u64 X1 3689348814741910323 = B2 ∧ IntKind.u64.wrap (A2 + B2) = X2 ∧
    IntKind.u64.wrap (X2 / 16 + X2) = C3 ∧ bits .and .u64 C3 1085102592571150095 = X3 ∧
    IntKind.u64.wrap (X3 + X3 / 256) = X4 ∧ IntKind.u64.wrap (X4 + X4 / 65536) = X5 ∧ IntKind.u64.wrap (X5 + X5 / 4294967296) = X6 ∧
    0 ≤ X6 ∧ X6 ≤ 9223372036854775807 ∧ X6 % 128 = (cnt 64 x : Nat) := by
  obtain ⟨m1, m2, m3⟩ := mask_vals
  obtain ⟨c0, c1, c2, c3, c4, c5, c6, c7, b0, b1, b2, b3, b4, b5, b6, b7, hc, hs⟩ := swar8 x
  obtain ⟨y1, y2, y3, e1, e2, e3, l1, l2, l3, hm⟩ := fold8 _ c0 c1 c2 c3 c4 c5 c6 c7 b0 b1 b2 b3 b4 b5 b6 b7 hs
  have g1 := f1_lt (mask 85 8) x m1
  have g2 := f2_lt (mask 51 8) (f1 (mask 85 8) x) m2
  have wr : ∀ n : Nat, n < 18446744073709551616 → IntKind.u64.wrap (n : Int) = n := fun n h => by rw [IntKind.wrap_u64]; omega
  have y3le : y3 ≤ 9223372036854775807 := by
    clear hm hc g1 g2
    have s3 : swar 8 x ≤ 1085102592571150095 := by unfold swar f3; rw [m3]; exact Nat.and_le_right
    omega
  refine ⟨((x / 2 &&& mask 85 8 : Nat) : Int), ((x &&& mask 85 8 : Nat) : Int), ((f1 (mask 85 8) x : Nat) : Int), ((f1 (mask 85 8) x / 4 &&& mask 51 8 : Nat) : Int), ((f1 (mask 85 8) x &&& mask 51 8 : Nat) : Int),
    ((f2 (mask 51 8) (f1 (mask 85 8) x) : Nat) : Int), ((f2 (mask 51 8) (f1 (mask 85 8) x) / 16 + f2 (mask 51 8) (f1 (mask 85 8) x) : Nat) : Int), ((swar 8 x : Nat) : Int), (y1 : Int), (y2 : Int), (y3 : Int), ?_, ?_, ?_, ?_, ?_, ?_, ?_, ?_, ?_, ?_, ?_, ?_, ?_, ?_⟩
  · rw [m1]; exact bits_and_u64_nat (x / 2) 6148914691236517205 (by omega) (by omega)
  · rw [m1]; exact bits_and_u64_nat x 6148914691236517205 hx (by omega)
  · rw [← Int.natCast_add]; exact wr _ g1
  · rw [m2]; exact bits_and_u64_nat (f1 (mask 85 8) x / 4) 3689348814741910323 (by omega) (by omega)
  · rw [m2]; exact bits_and_u64_nat (f1 (mask 85 8) x) 3689348814741910323 g1 (by omega)
  · rw [← Int.natCast_add]; exact wr _ g2.1
  · generalize f2 (mask 51 8) (f1 (mask 85 8) x) = t at g2 ⊢
    have := wr (t / 16 + t) (by omega)
    rw [← this]; congr 1
  · have h : swar 8 x = (f2 (mask 51 8) (f1 (mask 85 8) x) / 16 + f2 (mask 51 8) (f1 (mask 85 8) x)) &&& 1085102592571150095 := by unfold swar f3; rw [m3]
    rw [h]; exact bits_and_u64_nat _ 1085102592571150095 (by omega) (by omega)
  · rw [e1]; rw [e1] at l1; exact wr (swar 8 x + swar 8 x / 256) l1
  · rw [e2]; rw [e2] at l2; exact wr (y1 + y1 / 65536) l2
  · rw [e3]; rw [e3] at l3; exact wr (y2 + y2 / 4294967296) l3
  · omega
  · omega
  · rw [hc]; omega

end Go.Pop

/- math/bits.TrailingZeros64, its table (marks, rel, order). -/
namespace Go.Proofs.YtknjdfgmejobfaaDoor
open Go.RowKit Go.Shelf

attribute [local go_sem] Bv.and_u Bv.or_u Bv.andNot_u Bv.wrap_sub1 Bv.eq0 Bv.wrap_pow Bv.wrap_powmin Bv.wrap_neg

/-- the table of math/bits.TrailingZeros64, as its initialiser lays it -/
def Tab (w : World) : Prop := ∀ i, i < 64 → w.cell? ⟨0, i, none⟩ = some (.int .u8 (Lib.deBruijn64tab.getD i 0 : Nat))

theorem Tab.below {n : Nat} {w w' : World} (h : Tab w) (hb : Below n w w') (hn : 0 < n) : Tab w' :=
  fun i hi => (hb.cell (p := ⟨0, i, none⟩) hn).trans (h i hi)

theorem bcell {W w1 : World} (hb : Below W.heap.size W w1) : (∀ b o, b < W.heap.size → w1.cell? ⟨b, o, none⟩ = W.cell? ⟨b, o, none⟩) ∧ (∀ b o, b < W.heap.size → w1.frozen? ⟨b, o, none⟩ = W.frozen? ⟨b, o, none⟩) :=
  ⟨fun b o h => hb.cell (p := ⟨b, o, none⟩) h, fun b o h => hb.frozen (p := ⟨b, o, none⟩) h⟩

set_option maxHeartbeats 400000 in
theorem tz_any (s : BitVec 64) (w : World) (hs : s ≠ 0) (hT : Tab w) :
    Calls Tryd.prog 103 #[.int .u64 (Bv.U s)] w fun e w' => e = .returned (.int .i64 (Bs.low s : Nat)) ∧ w' = w := by
  have hz : (s == 0#64) = false := by simpa using hs
  obtain ⟨k, hk⟩ : ∃ k : Nat, k = 2 ^ Bs.low s * 285870213051353865 % 18446744073709551616 / 288230376151711744 := ⟨_, rfl⟩
  have hl := Bs.low_lt hs
  obtain ⟨hk64, htab⟩ := Lib.deBruijn64_at (Bs.low s) hl
  rw [← hk] at hk64 htab
  have he : IntKind.u64.wrap (Bv.U (s &&& -s) * 285870213051353865) / 288230376151711744 = (k : Int) := by
    have h1 := Bs.tz_key s hs
    have h2 := Bv.wrap_mul (s &&& -s) 285870213051353865#64
    rw [← hk] at h1
    have h3 : Bv.U 285870213051353865#64 = 285870213051353865 := rfl
    rw [h3] at h2
    rw [h2]; unfold Bv.U; omega
  have hc := hT k hk64
  rw [htab] at hc
  obtain ⟨d, hd⟩ : ∃ d, d = Bs.low s := ⟨_, rfl⟩
  rw [← hd] at hc hl ⊢
  clear hk htab hT hd hs
  go_enter Tryd.func103, Tryd.ntmps103
  go_wp2
  go_ret
  exact ⟨rfl, rfl⟩
end Go.Proofs.YtknjdfgmejobfaaDoor

/- A range over a function whose iterator keeps its state in a captured variable of its own (one box), the loop's body never leaving early: one law for the caller. -/
namespace Go.Rf
open Go.RowKit

variable {F : Fence} {n : Nat} {P : Program}

/-- the iterator g with what it captured hands xs, in its order, to every loop whose rounds leave its box alone -/
def Gives {α : Type} (F : Fence) (n : Nat) (P : Program) (g : Nat) (lb : Array Value) (encs : α → Array Value) (Bx : Nat) (xs : List α) (box : Obj) (T : World → Prop) : Prop :=
  ∀ (l : Nat) (J : List α → World → Prop) (W : World), W.heap[Bx]? = some box →
    (∀ pre W1, J pre W1 → T W1) →
    (∀ pre W1 v, J pre W1 → J pre (W1.setCell ⟨Bx, 0, none⟩ v)) →
    (∀ pre x W1, J pre W1 → pre ++ [x] <+: xs → YieldAt F (n - 1) P l (encs x) W1 fun e W' => e = .returned (.bool true) ∧ J (pre ++ [x]) W' ∧ W'.heap[Bx]? = W1.heap[Bx]?) →
    J [] W →
    CallsIn F n P g (#[.func (.yield l) #[] #[]] ++ lb) W fun e W' => (∃ v, e = .returned v) ∧ J xs W'

/-- how a round may be left -/
def roundEnd {α : Type} (Bx : Nat) (I : List α → World → Prop) (xs : List α) (W : World) : Exit → Act → World → Prop
  | .normal, _, W' => KeepsOthers W W' ∧ W'.heap[Bx]? = W.heap[Bx]? ∧ I xs W'
  | _, _, _ => False

theorem wpIn_rangeFunc_box {α : Type} {g : Operand} {ps : Array Tmp} {assign body : Code} {Q : Exit → Act → World → Prop} {a : Act} {w : World}
    (hro : F.round = none) (h1 : 1 ≤ n) {gf : Nat} {lb : Array Value} (hg : a.eval g = .func (.func gf) #[] lb) (hFg : F.fn gf) (eg : ∀ args w, (callFunc gf args).run P w = .ok (.enter gf args) w)
    {encs : α → Array Value} {Bx : Nat} {xs : List α} {box : Obj} {T : World → Prop} (hit : Gives F (n - 1) P gf lb encs Bx xs box T) (hbx : w.heap[Bx]? = some box) (hps : ∀ x, (encs x).size = ps.size)
    (I : List α → World → Prop)
    (hIT : ∀ pre (W : World), I pre W → T W)
    (hIa : ∀ (W : World) (o : Obj), I [] W → I [] (W.alloc o))
    (hIb : ∀ pre (W : World) v, I pre W → I pre (W.setCell ⟨Bx, 0, none⟩ v))
    (hIp : ∀ pre (W : World) (l : Nat) (o o' : Obj), w.heap.size ≤ l → W.heap[l]? = some o → o.isCells = false → I pre W → I pre (W.putObj l o'))
    (h0 : I [] w)
    (hround : ∀ (l : Nat) (pre : List α) (x : α) (W W2 : World), w.heap.size + 2 ≤ W2.heap.size → I pre W2 → pre ++ [x] <+: xs →
      assign.wpIn (F.inRound l) (n - 1 - 1) P (Exit.then (fun a₁ w₁ => w₁ = W ∧ body.wpIn (F.inRound l) (n - 1 - 1) P (roundEnd Bx I (pre ++ [x]) W2) a₁ W2) (fun _ _ _ => False))
        { tmps := (ps.zip (encs x)).foldl (fun t (p, v) => t.setIfInBounds p v) a.tmps, defers := [] } W)
    (hdone : ∀ (D : Nat) (W : World), w.heap.size ≤ D → I xs W → W.heap[D]? = some (.deferred (some [])) → Q .normal { a with defers := { target := .collected D, args := #[] } :: a.defers } W) :
    (Code.rangeFunc g ps assign body).wpIn F n P Q a w := by
  have hbl : Bx < w.heap.size := (Array.getElem?_eq_some_iff.1 hbx).1
  refine wpIn_rangeFunc fun fn hfn => ?_
  rw [hro]
  obtain ⟨rec, hrec⟩ : ∃ rec : LoopState → Option Code → Loop, rec = fun st pe => { state := st, pending := pe, fn, tmps := a.tmps, params := ps, assign, body, defers := w.heap.size } := ⟨_, rfl⟩
  obtain ⟨W1, hW1⟩ : ∃ W1, (w.alloc (.deferred (some []))).alloc (.loop (rec .ready none)) = W1 := ⟨_, rfl⟩
  have hL1 : W1.heap[w.heap.size + 1]? = some (.loop (rec .ready none)) := by
    rw [← hW1]; have := World.alloc_heap_new (w.alloc (.deferred (some []))) (.loop (rec .ready none)); rwa [World.size_alloc] at this
  have hD1 : W1.heap[w.heap.size]? = some (.deferred (some [])) := by
    rw [← hW1]; exact (Below.heap_alloc _ _ _ (by simp)).trans (World.alloc_heap_new w _)
  have hB1 : W1.heap[Bx]? = some box := by
    rw [← hW1]; exact (Below.heap_alloc _ _ _ (by simp; omega)).trans ((Below.heap_alloc _ _ _ hbl).trans hbx)
  have hI1 : I [] W1 := by rw [← hW1]; exact hIa _ _ (hIa _ _ h0)
  refine ⟨w.heap.size + 1, [{ target := .collected w.heap.size, args := #[] }], W1, { target := .fn (.func gf) lb, args := #[.func (.yield (w.heap.size + 1)) #[] #[]] }, W1, gf,
    #[.func (.yield (w.heap.size + 1)) #[] #[]] ++ lb, W1, ?_, ?_, ?_, ?_, fun _ => h1, ?_⟩
  · rw [← hW1, hrec]; exact run_enterLoop_outer _ _ _ _ _
  · simp only [resolve, hg]
    simp [go_sem]
  · intro f' hf'; simp [Target.leads] at hf'; subst hf'; exact hFg
  · simp [invoke, go_sem, eg]
  · refine (hit (w.heap.size + 1)
      (fun pre W => I pre W ∧ W.heap[w.heap.size + 1]? = some (.loop (rec .ready none)) ∧ W.heap[w.heap.size]? = some (.deferred (some [])))
      W1 hB1 (fun pre W h => hIT pre W h.1)
      (fun pre W v h => ⟨hIb pre W v h.1, (Below.heap_setCell _ _ _ _ (by show w.heap.size + 1 ≠ Bx; omega)).trans h.2.1, (Below.heap_setCell _ _ _ _ (by show w.heap.size ≠ Bx; omega)).trans h.2.2⟩)
      ?_ ⟨hI1, hL1, hD1⟩).mono ?_
    · rintro pre x W ⟨hi, hl, hd⟩ hpre
      have hlt : w.heap.size + 1 < W.heap.size := (Array.getElem?_eq_some_iff.1 hl).1
      have hy := run_yield (P := P) (args := encs x) hl (by rw [hrec]; exact hps x)
      rw [hrec] at hy
      obtain ⟨W2, hW2⟩ : ∃ W2, W2 = W.putObj (w.heap.size + 1) (.loop { rec .ready none with state := .busy }) := ⟨_, rfl⟩
      have hl2 : W2.heap[w.heap.size + 1]? = some (.loop { rec .ready none with state := .busy }) := by rw [hW2]; exact World.putObj_heap_same hlt
      have hd2 : W2.heap[w.heap.size]? = some (.deferred (some [])) := by rw [hW2]; exact (World.putObj_heap_other (by omega)).trans hd
      have hb2 : W2.heap[Bx]? = W.heap[Bx]? := by rw [hW2]; exact World.putObj_heap_other (by omega)
      have hi2 : I pre W2 := by rw [hW2]; exact hIp pre W _ _ _ (by omega) hl rfl hi
      have hbr := run_beginRound (P := P) hl (by rw [hrec])
      rw [← hW2] at hbr
      refine ⟨fn, _, assign, body, hy, roundIn_of_wpIn hfn (wpIn_mono (hround _ pre x W W2 (by have := (Array.getElem?_eq_some_iff.1 hl2).1; omega) hi2 hpre) ?_)⟩
      intro e1 a1 w1 hq
      cases e1 with
      | exit id => exact hq.elim
      | goto t => exact hq.elim
      | ret => exact hq.elim
      | panic ch => exact hq.elim
      | outgrown => exact hq.elim
      | normal =>
      obtain ⟨rfl, hbody⟩ := hq
      refine ⟨W2, hbr, wpIn_mono hbody ?_⟩
      rintro e a3 W3 hp
      cases e with
      | normal =>
        obtain ⟨hk3, hb3, hi3⟩ := hp
        have hl3 := hk3.same _ _ hl2 rfl
        have hd3 := hk3.same _ _ hd2 rfl
        have hr := run_endRound (P := P) none hl3
        rw [hrec] at hr
        refine ⟨_, _, hr, rfl, ⟨hIp _ _ _ _ _ (by omega) hl3 rfl hi3, ?_, (World.putObj_heap_other (by omega)).trans hd3⟩, (World.putObj_heap_other (by omega)).trans (hb3.trans hb2)⟩
        rw [hrec]
        exact World.putObj_heap_same (Array.getElem?_eq_some_iff.1 hl3).1
      | exit id => exact hp.elim
      | goto t => exact hp.elim
      | ret => exact hp.elim
      | panic ch => exact hp.elim
      | outgrown => exact hp.elim
    · rintro e W2 ⟨⟨v, rfl⟩, hi, hl, hd⟩
      have hr := run_endLoop (P := P) hl (by rw [hrec]; simp)
      rw [hrec] at hr
      exact ⟨none, _, hr, hdone _ _ (Nat.le_refl _) (hIp _ _ _ _ _ (by omega) hl rfl hi) ((World.putObj_heap_other (by omega)).trans hd)⟩
theorem wpIn_noPanic {c : Code} {Q : Exit → Act → World → Prop} {a : Act} {w : World} (h : c.wpIn F n P (NoPanic Q) a w) : c.wpIn F n P Q a w := wpIn_mono h NoPanic.imp
/-! a block of three cells -/
theorem cells3 {w : World} {b : Nat} {x y z : Value} {t : TypeId} (h : w.heap[b]? = some (.cells #[x, y, z] t (0, 0))) :
    w.cell? ⟨b, 0, none⟩ = some x ∧ w.cell? ⟨b, 1, none⟩ = some y ∧ w.cell? ⟨b, 2, none⟩ = some z ∧ w.frozen? ⟨b, 0, none⟩ = false ∧ w.frozen? ⟨b, 1, none⟩ = false ∧ w.frozen? ⟨b, 2, none⟩ = false := by
  simp [World.cell?, World.frozen?, h]
theorem set_cells {w : World} {b i : Nat} {cs : Array Value} {t : TypeId} {fr : Nat × Nat} (u : Value) (h : w.heap[b]? = some (.cells cs t fr)) : (w.setCell ⟨b, i, none⟩ u).heap[b]? = some (.cells (cs.setIfInBounds i u) t fr) := by
  have hlt := lt_of_block h
  have h' : w.heap[b] = .cells cs t fr := by simpa [Array.getElem?_eq_getElem hlt] using h
  show (w.heap.modify b _)[b]? = _
  rw [Array.getElem?_eq_getElem (by simpa using hlt), Array.getElem_modify_self, h']
  rfl
theorem set3 {w : World} {b : Nat} {x y z x' y' z' : Value} {t : TypeId} (h : w.heap[b]? = some (.cells #[x, y, z] t (0, 0))) :
    (((w.setCell ⟨b, 0, none⟩ x').setCell ⟨b, 1, none⟩ y').setCell ⟨b, 2, none⟩ z').heap[b]? = some (.cells #[x', y', z'] t (0, 0)) := by
  have h3 := set_cells (i := 2) z' (set_cells (i := 1) y' (set_cells (i := 0) x' h))
  simpa using h3
/-! what a caller says of one box of its own -/
theorem box_alloc {B n0 : Nat} {w W : World} {o : Obj} (x : Obj) (hn : n0 ≤ w.heap.size) (h : W.heap[B]? = some o ∧ Below n0 w W) : (W.alloc x).heap[B]? = some o ∧ Below n0 w (W.alloc x) :=
  ⟨(Below.heap_alloc _ _ _ (Array.getElem?_eq_some_iff.1 h.1).1).trans h.1, h.2.alloc (Nat.le_trans hn h.2.size) _⟩
theorem box_set {B n0 : Nat} {w W : World} {o : Obj} (p : Addr) (v : Value) (hne : B ≠ p.block) (hn : n0 ≤ p.block) (h : W.heap[B]? = some o ∧ Below n0 w W) : (W.setCell p v).heap[B]? = some o ∧ Below n0 w (W.setCell p v) :=
  ⟨(Below.heap_setCell _ _ _ _ hne).trans h.1, h.2.setCell hn _⟩
theorem box_put {B n0 : Nat} {w W : World} {o : Obj} (l : Nat) (x x' : Obj) (hl : B < l) (hn : n0 ≤ l) (_hx : W.heap[l]? = some x) (hw : n0 ≤ w.heap.size) (h : W.heap[B]? = some o ∧ Below n0 w W) : (W.putObj l x').heap[B]? = some o ∧ Below n0 w (W.putObj l x') :=
  ⟨(World.putObj_heap_other (by omega)).trans h.1, h.2.grown (grownBy_putObj' W l x') (Nat.le_trans hw h.2.size) (fun k e => by cases e; exact hn)⟩
theorem below_put {n0 : Nat} {w W : World} (D : Nat) (x : Obj) (hn : n0 ≤ D) (hw : n0 ≤ w.heap.size) (h : Below n0 w W) : Below n0 w (W.putObj D x) :=
  h.grown (grownBy_putObj' W D x) (Nat.le_trans hw h.size) (fun k e => by cases e; exact hn)
theorem keeps_of_below {W W' : World} (h : Below W.heap.size W W') : KeepsOthers W W' :=
  ⟨h.size, fun k _ hk _ => (h.block k (Array.getElem?_eq_some_iff.1 hk).1).trans hk⟩
end Go.Rf

/- package marks: the iterator elements. -/
namespace Go.Proofs.YtknjdfgmejobfaaDoor
open Go.RowKit Go.Shelf

attribute [local go_sem] Oper.semAt_some
attribute [local go_sem] Bv.and_u Bv.or_u Bv.andNot_u Bv.wrap_sub1 Bv.eq0 Bv.ne0 Bv.wrap_pow Bv.wrap_powmin Bv.wrap_neg

/-- the elements of what stands in a slot -/
def countOf : Value → Nat
  | .int _ z => (Bs.elems (BitVec.ofInt 64 z)).length
  | _ => 0
theorem countOf_eq (s : BitVec 64) : countOf (.int .u64 (Bv.U s)) = (Bs.elems s).length := by simp [countOf, Bv.ofInt_U]

set_option maxHeartbeats 400000 in
theorem elements_any (s : BitVec 64) (w : World) :
    Calls Tryd.prog 99 #[.int .u64 (Bv.U s)] w fun e w' => e = .returned (.func (.func 102) #[] #[.pointer (some ⟨w.heap.size, 0, none⟩)]) ∧ w' = w.alloc (.cells #[.int .u64 (Bv.U s)] 23) := by
  go_enter Tryd.func99, Tryd.ntmps99
  go_wp2
  go_ret
  exact ⟨rfl, rfl⟩

set_option maxRecDepth 100000 in
set_option maxHeartbeats 1000000 in
theorem elements_in (n : Nat) (l Bx n₀ : Nat) (s : BitVec 64) (hn₀ : 0 < n₀) (J Jx : List Nat → World → Prop)
    (hY : ∀ pre (x : Nat) W, J pre W → pre.length < (Bs.elems s).length → YieldAt Fence.wide (n - 1) Tryd.prog l #[.int .i64 x] W fun e W' =>
      (e = .returned (.bool true) ∧ J (pre ++ [x]) W' ∧ Below n₀ W W') ∨ (e = .returned (.bool false) ∧ Jx (pre ++ [x]) W'))
    (W : World) (hB : W.cell? ⟨Bx, 0, none⟩ = some (.int .u64 (Bv.U s))) (hT : Tab W) (h0 : J [] W) :
    CallsIn Fence.wide n Tryd.prog 102 #[.func (.yield l) #[] #[], .pointer (some ⟨Bx, 0, none⟩)] W fun e W' => (∃ v, e = .returned v) ∧
      ((∃ ys, ys = Bs.elems s ∧ J ys W') ∨ (∃ pre, pre <+: Bs.elems s ∧ Jx pre W')) := by
  refine callsIn_of_wp Tryd.func102 rfl trivial ?_ rfl
  simp only [Tryd.ntmps102, List.size_toArray, List.length_cons, List.length_nil, Nat.reduceAdd, Nat.reduceSub, Array.replicate_succ, Array.replicate_zero, List.push_toArray, List.append_toArray, List.nil_append, List.cons_append]
  gi_wp2
  gi_loopw [3] (fun p wr => ∃ (pre : List Nat) (t : BitVec 64), p = .int .u64 (Bv.U t) ∧ pre ++ Bs.elems t = Bs.elems s ∧ J pre wr ∧ Tab wr) (fun p _ => countOf p)
  case atStart => exact ⟨[], s, rfl, rfl, h0, hT⟩
  case round =>
    obtain ⟨pre, t, rfl, hpt, hJs, htab⟩ := hrel
    by_cases hz : t = 0#64
    · have hz1 : (t != 0#64) = false := by simp [hz]
      have hz2 : (t == 0#64) = true := by simp [hz]
      have hnil : pre = Bs.elems s := by rw [← hpt, hz]; simp [Bs.elems]
      have HN := Lib.hid hnil
      clear hz hnil hpt hY
      gi_wp2
      go_end0
      exact ⟨⟨_, rfl⟩, .inl ⟨_, HN.out, hJs⟩⟩
    · have hz1 : (t != 0#64) = true := by simp [hz]
      have hz2 : (t == 0#64) = false := by simp [hz]
      have hne : t ≠ 0 := hz
      have hstep := Bs.elems_step hne
      have hlow := Bs.low_lt hne
      have hpre : pre ++ [Bs.low t] <+: Bs.elems s := ⟨Bs.elems (Bs.rest t), by rw [← hpt, hstep]; simp⟩
      have hlen : pre.length < (Bs.elems s).length := by rw [← hpt, hstep]; simp
      have hlt := Bs.rest_lt hne
      obtain ⟨fn, tmps, assign, body, hy, hR⟩ := hY pre (Bs.low t) wr hJs hlen
      have HH := Lib.hid (And.intro hpt (And.intro hstep (And.intro hpre hlt)))
      have HT := Lib.hid htab
      clear hY hpt hstep hpre hz hlen hlt
      gi_wp2_with fail
      refine ⟨trivial, fun h => (by cases h), ?_⟩
      refine (callsIn_wide.2 (tz_any _ _ hne htab)).mono ?_
      rintro e w' ⟨rfl, rfl⟩
      gi_wp2_with fail
      try (refine ⟨fun h => (by cases h), ?_⟩)
      refine hR.mono ?_
      rintro e W3 (⟨rfl, hJ3, hk3⟩ | ⟨rfl, hJx3⟩)
      · have hT3 := HT.out.below hk3 hn₀
        have HB := Lib.hid (And.intro hk3 hT3)
        clear hk3 hT3 hR hy htab
        gi_wp2
        go_roundw
        case rel => exact ⟨pre ++ [Bs.low t], Bs.rest t, rfl, by rw [← HH.out.1, HH.out.2.1]; simp, hJ3, HB.out.2⟩
        case measure => rw [countOf_eq t]; exact Nat.lt_of_le_of_lt (Nat.le_of_eq (countOf_eq (Bs.rest t))) HH.out.2.2.2
      · clear hR hy htab
        gi_wp2
        refine bodyPost_ret (results_none rfl _ _ _) rfl ?_
        exact ⟨⟨_, rfl⟩, .inr ⟨pre ++ [Bs.low t], HH.out.2.2.1, hJx3⟩⟩

theorem elements_stops (n : Nat) (Bx n₀ : Nat) (s : BitVec 64) (w : World) (hBx : Bx < w.heap.size) (hn₀ : 0 < n₀) (hn1 : n₀ ≤ w.heap.size)
    (hc : w.cell? ⟨Bx, 0, none⟩ = some (.int .u64 (Bv.U s))) (hT : Tab w) :
    SeqStopsK Fence.wide n Tryd.prog 102 #[.pointer (some ⟨Bx, 0, none⟩)] (fun x : Nat => #[Value.int .i64 x]) (Below n₀) (fun ys => ys = Bs.elems s) (fun pre => pre <+: Bs.elems s) (Bs.elems s).length w := fun l J Jx W hW _ _ hY h0 =>
  elements_in n l Bx n₀ s hn₀ J Jx hY W ((hW.cell (p := ⟨Bx, 0, none⟩) hBx).trans hc) (hT.below hW (by omega)) h0
end Go.Proofs.YtknjdfgmejobfaaDoor

/- package marks: All, List. -/
namespace Go.Proofs.YtknjdfgmejobfaaDoor
open Go.RowKit Go.Shelf

attribute [local go_sem] Oper.semAt_some
attribute [local go_sem] Bv.and_u Bv.or_u Bv.andNot_u Bv.wrap_sub1 Bv.eq0 Bv.ne0 Bv.wrap_pow Bv.wrap_powmin Bv.wrap_neg

/-- the integers below n -/
def allS (n : Int) : BitVec 64 := Bv.bit (min n.toNat 64) - 1#64
theorem allS_get (n : Int) (i : Nat) (hi : i < 64) : (allS n).getLsbD i = decide ((i : Int) < n) := by
  unfold allS
  rw [Bv.ones_get _ _ (by omega) hi, Bool.eq_iff_iff]
  simp
  omega

set_option maxHeartbeats 400000 in
theorem all_any (n : Int) (w : World) :
    Calls Tryd.prog 81 #[.int .i64 n] w fun e w' => e = .returned (.int .u64 (Bv.U (allS n))) ∧ w' = w := by
  by_cases h1 : n < 1
  · have he : Bv.U (allS n) = 0 := by
      have : min n.toNat 64 = 0 := by omega
      unfold allS; rw [this]; rfl
    rw [he]
    go_enter Tryd.func81, Tryd.ntmps81
    go_wp2
    go_ret
    exact ⟨rfl, rfl⟩
  · by_cases h2 : 64 ≤ n
    · have he : Bv.U (allS n) = 18446744073709551615 := by
        have : min n.toNat 64 = 64 := by omega
        unfold allS; rw [this]; rfl
      rw [he]
      go_enter Tryd.func81, Tryd.ntmps81
      go_wp2
      go_ret
      exact ⟨rfl, rfl⟩
    · have he : allS n = Bv.bit n.toNat - 1#64 := by
        have : min n.toNat 64 = n.toNat := by omega
        unfold allS; rw [this]
      rw [he]
      go_enter Tryd.func81, Tryd.ntmps81
      go_wp2
      go_ret
      exact ⟨rfl, rfl⟩

theorem infoInt : (Tryd.prog.info? 3).map (fun i => (i.zero, i.size, i.bytes)) = some (some (.int .i64 0), 1, 8) := by kernel_rfl

/-- the numbers of a list of naturals as cells -/
def nums (l : List Nat) : List Value := l.map (fun k : Nat => Value.int .i64 (k : Int))
theorem nums_snoc (l : List Nat) (x : Nat) : nums (l ++ [x]) = nums l ++ [Value.int .i64 (x : Int)] := by simp [nums]

set_option maxRecDepth 100000 in
set_option maxHeartbeats 2000000 in
theorem list_any (s : BitVec 64) (w : World) (hT : Tab w) (hw : 0 < w.heap.size) :
    Calls Tryd.prog 83 #[.int .u64 (Bv.U s)] w fun e W' => ∃ v, e = .returned v ∧ W'.ownsRow w.heap.size 3 1 v (Bs.elems s).length (nums (Bs.elems s)) ∧ (v = .slice none 0 0 ↔ Bs.elems s = []) ∧ Below w.heap.size w W' := by
  obtain ⟨i0, hi, hz0, hz1, hz2⟩ := info_parts infoInt
  have hle := Bs.elems_le s
  refine (callsIn_wide (n := 9)).1 ?_
  refine callsIn_of_wp_marks Tryd.func83 rfl trivial ?_ rfl
  simp only [Tryd.ntmps83, List.size_toArray, List.length_cons, List.length_nil, Nat.reduceAdd, Nat.reduceSub, Array.replicate_succ, Array.replicate_zero, List.push_toArray, List.append_toArray, List.nil_append, List.cons_append]
  gi_wp2_with fail
  refine ⟨trivial, ?_⟩
  refine (callsIn_wide.2 (elements_any _ _)).mono ?_
  rintro e w1 ⟨rfl, rfl⟩
  gi_wp2_with fail
  have bO := Boxed.new w 35 (.slice none 0 0)
  have bN := Boxed.new (w.alloc (.cells #[.slice none 0 0] 35)) 23 (.int .u64 (Bv.U s))
  rw [World.size_alloc] at bN
  have hB0 : Below w.heap.size w ((w.alloc (.cells #[.slice none 0 0] 35)).alloc (.cells #[.int .u64 (Bv.U s)] 23)) := ((Below.refl _ w).alloc (Nat.le_refl _) _).alloc (by simp) _
  refine wpIn_rangeFunc_ownG rfl (by omega) (gf := 102) (lb := #[.pointer (some ⟨w.heap.size + 1, 0, none⟩)]) rfl trivial (enters_of Tryd.func102 (by kernel_rfl) rfl)
    (elements_stops 8 (w.heap.size + 1) w.heap.size s _ (by simp) (by omega) (by simp; omega) bN.cell (hT.below hB0 hw)) belowK_t (belowK_b (by simp; omega)) (Below.refl _ _) (fun _ => rfl)
    (fun pre W => (∃ v, Boxed W w.heap.size 35 v ∧ W.ownsRow w.heap.size 3 1 v pre.length (nums pre) ∧ (v = .slice none 0 0 ↔ pre = [])) ∧ Below w.heap.size w W)
    (fun _ _ _ => False)
    (OwnFrom.and (Own.from (holdsRow_own w.heap.size w.heap.size 35 3 1 (fun pre => pre.length) (fun pre => nums pre) (fun pre v => v = .slice none 0 0 ↔ pre = [])) _) (ownFrom_below (Nat.le_refl _) (by simp; omega)))
    (fun _ _ _ _ _ hs _ _ => hs)
    ⟨⟨_, bO.alloc _, World.ownsRow_nil _ _ _ _, by simp⟩, hB0⟩
    (fun x => { tmps := #[.int .u64 (Bv.U s), undef, .slice none 0 0, .pointer (some ⟨w.heap.size, 0, none⟩), .int .i64 x, .int .u64 (Bv.U s), .func (.func 102) #[] #[.pointer (some ⟨w.heap.size + 1, 0, none⟩)], .int .i64 x, undef, undef, undef, undef, undef], defers := [] }) ?assign ?body ?done ?stop
  case assign =>
    intro l x W K hK
    gi_wp2
    exact hK
  case body =>
    rintro l pre x W ⟨⟨v, hv, hrow, hnil⟩, hB⟩ hlt
    have hc := hv.cell
    gi_wp2_with (gi_at_builtin; refine wpListIn_append_own _ rfl _ _ 35 rfl w.heap.size 3 i0 (.int .i64 0) 1 8 Tryd.underlying35 hi hz0 hz1 hz2 rfl (by decide) _ _ _ rfl (hrow.alloc _) ⟨W.heap.size, 0, none⟩ 1 1 [.int .i64 x] rfl rfl (cell_one_new _ _ _) (by simp [Value.oneCell']) (by unfold maxLen; omega) (by omega) (by have := hB.size; simp; omega) ?_; intro v' w1 hown' hgrow _; obtain ⟨g', cap', rfl⟩ := ownsRow_succ hown'; obtain ⟨hv1, hv2, hr2, hk2, hb2⟩ := hv.appended (by decide) hrow hB.size (Nat.le_refl _) hown' hgrow; have hc1 := hv1.cell; have hf1 := hv1.frozen)
    exact ⟨hk2.from _, hb2, ⟨_, hv2, by rw [nums_snoc]; simpa using hr2, by simp⟩, hB.trans hb2⟩
  case done =>
    rintro D ys W hD rfl ⟨⟨v, hv, hrow, hnil⟩, hB⟩ hK
    have hc := hv.cell
    gi_wp2
    refine ⟨by simp, .inl ⟨_, _, rfl, run_takeDeferred hK, ?_⟩⟩
    exact ⟨_, results_tmp rfl _ _ _, v, rfl, ownsRow_putObj hrow _ hK rfl, hnil, hB.trans (belowK_b (w := w) (Nat.le_refl _) W D _ _ (by simp at hD; omega) hK rfl rfl)⟩
  case stop =>
    rintro D c pre W _ _ h _
    exact h.elim
end Go.Proofs.YtknjdfgmejobfaaDoor

/- Sets of 64 bits by their bits; rank; the subsets of a set in increasing order. Plain. -/
namespace Go.Bx

/-- the set of the i below 64 with f i -/
def mk (f : Nat → Bool) : BitVec 64 := (List.range 64).foldl (fun s i => if f i then s ||| Bv.bit i else s) 0#64
theorem mk_upto (f : Nat → Bool) (n : Nat) (hn : n ≤ 64) (i : Nat) :
    ((List.range n).foldl (fun s i => if f i then s ||| Bv.bit i else s) 0#64).getLsbD i = (decide (i < n) && f i) := by
  induction n with
  | zero => simp
  | succ n ih =>
    rw [List.range_succ, List.foldl_append]
    simp only [List.foldl_cons, List.foldl_nil]
    split
    · rename_i h
      rw [BitVec.getLsbD_or, ih (by omega), Bv.bit_get n i (by omega)]
      by_cases e : i = n
      · subst e; simp [h]
      · have : (i < n + 1) ↔ i < n := by omega
        simp [e, this]
    · rename_i h
      rw [ih (by omega)]
      by_cases e : i = n
      · subst e; simp [h]
      · have : (i < n + 1) ↔ i < n := by omega
        simp [this]
theorem mk_get (f : Nat → Bool) (i : Nat) (hi : i < 64) : (mk f).getLsbD i = f i := by
  unfold mk; rw [mk_upto f 64 (Nat.le_refl _) i]; simp [hi]

/-- how many elements lie below i -/
def rank (s : BitVec 64) (i : Nat) : Nat := (Bs.upto s i).length
theorem rank_hit (s : BitVec 64) (i : Nat) (h : s.getLsbD i = true) : rank s (i + 1) = rank s i + 1 := by unfold rank; rw [Bs.upto_hit s i h]; simp
theorem rank_miss (s : BitVec 64) (i : Nat) (h : s.getLsbD i = false) : rank s (i + 1) = rank s i := by unfold rank; rw [Bs.upto_miss s i h]
theorem rank_zero (s : BitVec 64) : rank s 0 = 0 := rfl
theorem rank_le_succ (s : BitVec 64) (i : Nat) : rank s i ≤ rank s (i + 1) := by
  cases h : s.getLsbD i
  · rw [rank_miss s i h]; omega
  · rw [rank_hit s i h]; omega
theorem rank_mono (s : BitVec 64) {i j : Nat} (h : i ≤ j) : rank s i ≤ rank s j := by
  induction j with
  | zero => obtain rfl : i = 0 := by omega
            exact Nat.le_refl _
  | succ j ih =>
    by_cases e : i = j + 1
    · subst e; exact Nat.le_refl _
    · exact Nat.le_trans (ih (by omega)) (rank_le_succ s j)
theorem rank_lt (s : BitVec 64) {i j : Nat} (h : i < j) (hb : s.getLsbD i = true) : rank s i < rank s j := by
  have := rank_mono s (show i + 1 ≤ j by omega)
  rw [rank_hit s i hb] at this; omega
theorem lt64 {s : BitVec 64} {i : Nat} (h : s.getLsbD i = true) : i < 64 := by
  apply Nat.lt_of_not_le; intro hle; rw [BitVec.getLsbD_of_ge _ _ hle] at h; cases h
theorem rank_all (s : BitVec 64) : rank s 64 = (Bs.elems s).length := rfl
/-- each r below the rank of n is the rank of an element below n -/
theorem rank_onto (s : BitVec 64) (n r : Nat) (h : r < rank s n) : ∃ i, i < n ∧ s.getLsbD i = true ∧ rank s i = r := by
  induction n with
  | zero => rw [rank_zero] at h; omega
  | succ n ih =>
    cases hb : s.getLsbD n
    · rw [rank_miss s n hb] at h
      obtain ⟨i, hi, h1, h2⟩ := ih h
      exact ⟨i, by omega, h1, h2⟩
    · rw [rank_hit s n hb] at h
      by_cases e : r = rank s n
      · exact ⟨n, by omega, hb, e.symm⟩
      · obtain ⟨i, hi, h1, h2⟩ := ih (by omega)
        exact ⟨i, by omega, h1, h2⟩

/-! ### the successor's bits -/
theorem succ_bit (i : Nat) : ∀ n : Nat, (n + 1).testBit i = (n.testBit i ^^ (List.range i).all (fun k => n.testBit k)) := by
  induction i with
  | zero =>
    intro n
    rw [Nat.testBit_zero, Nat.testBit_zero]
    rcases Nat.mod_two_eq_zero_or_one n with h | h
    · have : (n + 1) % 2 = 1 := by omega
      simp [h, this]
    · have : (n + 1) % 2 = 0 := by omega
      simp [h, this]
  | succ i ih =>
    intro n
    rw [Nat.testBit_succ, Nat.testBit_succ, List.range_succ_eq_map, List.all_cons, List.all_map]
    have hf : ((fun k => n.testBit k) ∘ Nat.succ) = fun k => (n / 2).testBit k := by
      funext k; show n.testBit (k + 1) = _; rw [Nat.testBit_succ]
    rw [hf]
    by_cases h : n % 2 = 1
    · have e : (n + 1) / 2 = n / 2 + 1 := by omega
      have hb : n.testBit 0 = true := by simp [Nat.testBit_zero, h]
      rw [e, ih, hb, Bool.true_and]
    · have e : (n + 1) / 2 = n / 2 := by omega
      have hb : n.testBit 0 = false := by simp [Nat.testBit_zero]; omega
      rw [e, hb, Bool.false_and]; simp

theorem succ64 (x : BitVec 64) (i : Nat) (hi : i < 64) : (x + 1#64).getLsbD i = (x.getLsbD i ^^ (List.range i).all (fun k => x.getLsbD k)) := by
  have hb : ∀ k, x.getLsbD k = x.toNat.testBit k := fun k => (BitVec.testBit_toNat x).symm
  rw [← BitVec.testBit_toNat, BitVec.toNat_add]
  have e1 : (1#64).toNat = 1 := rfl
  rw [e1, Nat.testBit_mod_two_pow]
  simp only [hi, decide_true, Bool.true_and]
  rw [succ_bit i x.toNat]
  simp only [hb]

/-- the elements of s whose ranks are the bits of j -/
def dep (s : BitVec 64) (j : Nat) : BitVec 64 := mk (fun i => s.getLsbD i && j.testBit (rank s i))
theorem dep_get (s : BitVec 64) (j i : Nat) (hi : i < 64) : (dep s j).getLsbD i = (s.getLsbD i && j.testBit (rank s i)) := mk_get _ i hi
theorem dep_zero (s : BitVec 64) : dep s 0 = 0#64 := by
  apply Bv.ext_get; intro i hi; rw [dep_get s 0 i hi, Bv.zero_get]; simp

/-- sub - s, by bits -/
theorem sub_or (s t : BitVec 64) (h : ∀ i, i < 64 → t.getLsbD i = true → s.getLsbD i = true) : t - s = (t ||| ~~~ s) + 1#64 := by
  have e : t + ~~~ s = t ||| ~~~ s := by
    apply BitVec.add_eq_or_of_and_eq_zero
    apply Bv.ext_get
    intro i hi
    rw [BitVec.getLsbD_and, Bv.not_get s i hi, Bv.zero_get]
    cases ht : t.getLsbD i
    · simp
    · rw [h i hi ht]; simp
  rw [← e, BitVec.sub_eq_add_neg, BitVec.neg_eq_not_add, BitVec.add_assoc]

theorem dep_sub (s : BitVec 64) (j i : Nat) (hi : i < 64) : (dep s j).getLsbD i = true → s.getLsbD i = true := by
  rw [dep_get s j i hi]; simp; exact fun h _ => h

theorem dep_step (s : BitVec 64) (j : Nat) : (dep s j - s) &&& s = dep s (j + 1) := by
  rw [sub_or s (dep s j) (fun i hi => dep_sub s j i hi)]
  apply Bv.ext_get
  intro i hi
  rw [BitVec.getLsbD_and, succ64 _ i hi, BitVec.getLsbD_or, Bv.not_get s i hi, dep_get s j i hi, dep_get s (j + 1) i hi]
  cases hs : s.getLsbD i
  · simp
  · simp only [Bool.true_and, Bool.not_true, Bool.or_false, Bool.and_true]
    rw [succ_bit (rank s i) j]
    congr 1
    rw [Bool.eq_iff_iff]
    simp only [List.all_eq_true, List.mem_range]
    constructor
    · intro h r hr
      obtain ⟨k, hk, hb, he⟩ := rank_onto s i r hr
      have := h k hk
      rw [BitVec.getLsbD_or, Bv.not_get s k (by omega), dep_get s j k (by omega), hb, he] at this
      simpa using this
    · intro h k hk
      rw [BitVec.getLsbD_or, Bv.not_get s k (by omega), dep_get s j k (by omega)]
      cases hb : s.getLsbD k
      · simp
      · have := h (rank s k) (rank_lt s hk hb)
        simp [this]

/-- how many subsets -/
def size (s : BitVec 64) : Nat := 2 ^ (Bs.elems s).length
theorem size_pos (s : BitVec 64) : 0 < size s := Nat.two_pow_pos _
theorem dep_last (s : BitVec 64) : dep s (size s - 1) = s := by
  apply Bv.ext_get
  intro i hi
  rw [dep_get s _ i hi]
  cases hs : s.getLsbD i
  · rfl
  · unfold size
    rw [Nat.testBit_two_pow_sub_one]
    have := rank_lt s hi hs
    rw [rank_all] at this
    simp [this]
theorem dep_inj (s : BitVec 64) {j k : Nat} (hj : j < size s) (hk : k < size s) (h : dep s j = dep s k) : j = k := by
  apply Nat.eq_of_testBit_eq
  intro r
  by_cases hr : r < (Bs.elems s).length
  · obtain ⟨i, hi, hb, he⟩ := rank_onto s 64 r (by rw [rank_all]; exact hr)
    have h1 := dep_get s j i hi
    have h2 := dep_get s k i hi
    rw [h, h2, hb, he] at h1
    simpa using h1.symm
  · have hp : ∀ x, x < size s → x.testBit r = false := fun x hx =>
      Nat.testBit_lt_two_pow (Nat.lt_of_lt_of_le hx (Nat.pow_le_pow_right (by decide) (by omega)))
    rw [hp j hj, hp k hk]
theorem dep_eq (s : BitVec 64) {j : Nat} (hj : j < size s) : (dep s j == s) = decide (j + 1 = size s) := by
  rw [Bool.eq_iff_iff]
  simp only [beq_iff_eq, decide_eq_true_eq]
  have := size_pos s
  constructor
  · intro h
    have := dep_inj s hj (show size s - 1 < size s by omega) (h.trans (dep_last s).symm)
    omega
  · intro h
    have e : j = size s - 1 := by omega
    rw [e]; exact dep_last s

theorem nat_lt (i : Nat) : ∀ x y : Nat, x.testBit i = false → y.testBit i = true → (∀ k, i < k → x.testBit k = y.testBit k) → x < y := by
  induction i with
  | zero =>
    intro x y hx hy h
    have e : x / 2 = y / 2 := by
      apply Nat.eq_of_testBit_eq
      intro k
      rw [← Nat.testBit_succ, ← Nat.testBit_succ]; exact h (k + 1) (by omega)
    rw [Nat.testBit_zero] at hx hy
    have hx' : ¬ x % 2 = 1 := by simpa using hx
    have hy' : y % 2 = 1 := by simpa using hy
    omega
  | succ i ih =>
    intro x y hx hy h
    rw [Nat.testBit_succ] at hx hy
    have := ih (x / 2) (y / 2) hx hy (fun k hk => by rw [← Nat.testBit_succ, ← Nat.testBit_succ]; exact h (k + 1) (by omega))
    omega
/-- increasing -/
theorem low_false (j : Nat) : ∃ t, j.testBit t = false ∧ ∀ k, k < t → j.testBit k = true := by
  obtain ⟨n, hn⟩ : ∃ n, j < 2 ^ n := ⟨j, Nat.lt_two_pow_self⟩
  have hf : j.testBit n = false := Nat.testBit_lt_two_pow hn
  clear hn
  induction n using Nat.strongRecOn with
  | _ n ih =>
    by_cases h : ∀ k, k < n → j.testBit k = true
    · exact ⟨n, hf, h⟩
    · obtain ⟨k, hk⟩ := Classical.not_forall.1 h
      have hk2 : k < n ∧ j.testBit k = false := by
        constructor
        · exact Classical.byContradiction fun h => hk (fun h2 => absurd h2 h)
        · cases hb : j.testBit k
          · rfl
          · exact absurd (fun _ => hb) hk
      exact ih k hk2.1 hk2.2
theorem dep_lt (s : BitVec 64) {j : Nat} (hj : j + 1 < size s) : (dep s j).toNat < (dep s (j + 1)).toNat := by
  obtain ⟨t, ht, hlow⟩ := low_false j
  have htl : t < (Bs.elems s).length := by
    apply Nat.lt_of_not_le
    intro hle
    have h1 : j.testBit 0 = true ∨ (Bs.elems s).length = 0 := by
      by_cases h0 : (Bs.elems s).length = 0
      · exact .inr h0
      · exact .inl (hlow 0 (by omega))
    have hall : ∀ r, r < (Bs.elems s).length → j.testBit r = true := fun r hr => hlow r (by omega)
    have : j = size s - 1 := by
      apply Nat.eq_of_testBit_eq
      intro r
      unfold size
      rw [Nat.testBit_two_pow_sub_one]
      by_cases hr : r < (Bs.elems s).length
      · simp [hr, hall r hr]
      · have hx : j < 2 ^ (Bs.elems s).length := by unfold size at hj; omega
        rw [Nat.testBit_lt_two_pow (Nat.lt_of_lt_of_le hx (Nat.pow_le_pow_right (by decide) (by omega)))]
        simp [hr]
    omega
  obtain ⟨i, hi, hb, he⟩ := rank_onto s 64 t (by rw [rank_all]; exact htl)
  have hup : ∀ r, t ≤ r → (j + 1).testBit r = (j.testBit r ^^ decide (r = t)) := by
    intro r hr
    rw [succ_bit]
    congr 1
    by_cases e : r = t
    · subst e; simp; exact hlow
    · simp only [e, decide_false]
      rw [Bool.eq_false_iff]
      intro hall
      rw [List.all_eq_true] at hall
      have := hall t (by simp; omega)
      rw [ht] at this; cases this
  apply nat_lt i
  · rw [BitVec.testBit_toNat, dep_get s j i hi, hb, he, ht]; rfl
  · rw [BitVec.testBit_toNat, dep_get s (j + 1) i hi, hb, he, hup t (Nat.le_refl _), ht]; simp
  · intro k hk
    rw [BitVec.testBit_toNat, BitVec.testBit_toNat]
    by_cases h64 : k < 64
    · rw [dep_get s j k h64, dep_get s (j + 1) k h64]
      have hr := rank_lt s hk hb
      rw [he] at hr
      rw [hup _ (by omega)]
      have : ¬ rank s k = t := by omega
      simp [this]
    · rw [BitVec.getLsbD_of_ge _ _ (by omega), BitVec.getLsbD_of_ge _ _ (by omega)]
/-- bits at will -/
theorem bits_of (f : Nat → Bool) (n : Nat) : ∃ j, j < 2 ^ n ∧ ∀ r, r < n → j.testBit r = f r := by
  induction n generalizing f with
  | zero => exact ⟨0, by simp, fun r hr => by omega⟩
  | succ n ih =>
    obtain ⟨j, hj, hf⟩ := ih (fun r => f (r + 1))
    refine ⟨2 * j + (if f 0 then 1 else 0), by rw [Nat.pow_succ]; split <;> omega, ?_⟩
    intro r hr
    cases r with
    | zero => rw [Nat.testBit_zero]; cases f 0 <;> simp <;> omega
    | succ r =>
      rw [Nat.testBit_succ]
      have e : (2 * j + (if f 0 then 1 else 0)) / 2 = j := by split <;> omega
      rw [e]; exact hf r (by omega)
theorem dep_all (s t : BitVec 64) (h : ∀ i, i < 64 → t.getLsbD i = true → s.getLsbD i = true) : ∃ j, j < size s ∧ dep s j = t := by
  obtain ⟨j, hj, hf⟩ := bits_of (fun r => (List.range 64).any (fun i => t.getLsbD i && decide (rank s i = r))) (Bs.elems s).length
  refine ⟨j, hj, ?_⟩
  apply Bv.ext_get
  intro i hi
  rw [dep_get s j i hi]
  cases hs : s.getLsbD i
  · cases ht : t.getLsbD i
    · rfl
    · rw [h i hi ht] at hs; cases hs
  · have hr := rank_lt s hi hs
    rw [rank_all] at hr
    rw [hf _ hr, Bool.true_and, Bool.eq_iff_iff]
    simp only [List.any_eq_true, List.mem_range, Bool.and_eq_true, decide_eq_true_eq]
    constructor
    · rintro ⟨k, hk, htk, hrk⟩
      have hsk := h k hk htk
      have : k = i := by
        apply Classical.byContradiction
        intro hne
        by_cases hlt : k < i
        · have := rank_lt s hlt hsk; omega
        · have := rank_lt s (show i < k by omega) hs; omega
      subst this; exact htk
    · intro ht; exact ⟨i, hi, ht, rfl⟩
end Go.Bx

/- Plain laws on sets of 64 bits: sizes, first elements, what lies above and below a number, what a list of numbers makes. -/
namespace Go.Bx

theorem rank_union (a b : BitVec 64) (n : Nat) : rank (a ||| b) n + rank (a &&& b) n = rank a n + rank b n := by
  induction n with
  | zero => rfl
  | succ n ih =>
    have ho := BitVec.getLsbD_or (x := a) (y := b) (i := n)
    have ha := BitVec.getLsbD_and (x := a) (y := b) (i := n)
    cases h1 : a.getLsbD n <;> cases h2 : b.getLsbD n
    all_goals
      rw [h1, h2] at ho ha
      simp only [Bool.or_false, Bool.or_true, Bool.and_false, Bool.and_true] at ho ha
    · rw [rank_miss _ n ho, rank_miss _ n ha, rank_miss _ n h1, rank_miss _ n h2]; omega
    · rw [rank_hit _ n ho, rank_miss _ n ha, rank_miss _ n h1, rank_hit _ n h2]; omega
    · rw [rank_hit _ n ho, rank_miss _ n ha, rank_hit _ n h1, rank_miss _ n h2]; omega
    · rw [rank_hit _ n ho, rank_hit _ n ha, rank_hit _ n h1, rank_hit _ n h2]; omega
theorem rank_less (a b : BitVec 64) (n : Nat) (hn : n ≤ 64) : rank (a &&& ~~~ b) n + rank (a &&& b) n = rank a n := by
  induction n with
  | zero => rfl
  | succ n ih =>
    have ho : (a &&& ~~~ b).getLsbD n = (a.getLsbD n && !b.getLsbD n) := by rw [BitVec.getLsbD_and, Bv.not_get b n (by omega)]
    have ha := BitVec.getLsbD_and (x := a) (y := b) (i := n)
    have ih := ih (by omega)
    cases h1 : a.getLsbD n <;> cases h2 : b.getLsbD n
    all_goals
      rw [h1, h2] at ho ha
      simp only [Bool.not_false, Bool.not_true, Bool.and_false, Bool.and_true] at ho ha
    · rw [rank_miss _ n ho, rank_miss _ n ha, rank_miss _ n h1]; omega
    · rw [rank_miss _ n ho, rank_miss _ n ha, rank_miss _ n h1]; omega
    · rw [rank_hit _ n ho, rank_miss _ n ha, rank_hit _ n h1]; omega
    · rw [rank_miss _ n ho, rank_hit _ n ha, rank_hit _ n h1]; omega
/-- the size -/
def card (s : BitVec 64) : Nat := (Bs.elems s).length
theorem card_union (a b : BitVec 64) : card (a ||| b) + card (a &&& b) = card a + card b := rank_union a b 64
theorem card_less (a b : BitVec 64) : card (a &&& ~~~ b) + card (a &&& b) = card a := rank_less a b 64 (Nat.le_refl _)
theorem card_le (s : BitVec 64) : card s ≤ 64 := Bs.elems_le s

/-! ### first elements -/
theorem ne_of_bit {s : BitVec 64} {i : Nat} (h : s.getLsbD i = true) : s ≠ 0#64 := fun e => by rw [e, Bv.zero_get] at h; cases h
theorem low_le {s : BitVec 64} {i : Nat} (h : s.getLsbD i = true) : Bs.low s ≤ i := by
  apply Nat.le_of_not_lt
  intro hlt
  rw [Bs.low_least (ne_of_bit h) hlt] at h
  cases h
theorem low_unique {s : BitVec 64} {k : Nat} (h : s.getLsbD k = true) (hl : ∀ i, i < k → s.getLsbD i = false) : Bs.low s = k := by
  have h1 := low_le h
  have h2 := Bs.low_bit (ne_of_bit h)
  apply Classical.byContradiction
  intro hne
  rw [hl _ (by omega)] at h2
  cases h2
theorem low_union (a b : BitVec 64) (ha : a ≠ 0#64) (hb : b ≠ 0#64) : Bs.low (a ||| b) = min (Bs.low a) (Bs.low b) := by
  apply low_unique
  · rw [BitVec.getLsbD_or]
    by_cases h : Bs.low a ≤ Bs.low b
    · rw [Nat.min_eq_left h, Bs.low_bit ha]; rfl
    · rw [Nat.min_eq_right (by omega), Bs.low_bit hb]; simp
  · intro i hi
    rw [BitVec.getLsbD_or, Bs.low_least ha (by omega), Bs.low_least hb (by omega)]; rfl
theorem or_zero (a b : BitVec 64) : a ||| b = 0#64 ↔ a = 0#64 ∧ b = 0#64 := by
  constructor
  · intro h
    constructor
    · apply Bv.ext_get; intro i hi
      have := congrArg (fun t => BitVec.getLsbD t i) h
      simp only [BitVec.getLsbD_or, Bv.zero_get] at this ⊢
      cases h1 : a.getLsbD i
      · rfl
      · rw [h1] at this; simp at this
    · apply Bv.ext_get; intro i hi
      have := congrArg (fun t => BitVec.getLsbD t i) h
      simp only [BitVec.getLsbD_or, Bv.zero_get] at this ⊢
      cases h1 : b.getLsbD i
      · rfl
      · rw [h1] at this; simp at this
  · rintro ⟨rfl, rfl⟩; rfl
theorem elems_bit {s : BitVec 64} {k x : Nat} (h : (Bs.elems s)[k]? = some x) : s.getLsbD x = true := Bs.mem_elems.1 (List.mem_of_getElem? h)
theorem upto_snoc (s : BitVec 64) (i : Nat) : Bs.upto s (i + 1) = if s.getLsbD i then Bs.upto s i ++ [i] else Bs.upto s i := by
  split
  · rename_i h; exact Bs.upto_hit s i h
  · rename_i h; exact Bs.upto_miss s i (by simpa using h)
theorem upto_prefix (s : BitVec 64) {i j : Nat} (h : i ≤ j) : Bs.upto s i <+: Bs.upto s j := by
  induction j with
  | zero => obtain rfl : i = 0 := by omega
            exact List.prefix_refl _
  | succ j ih =>
    by_cases e : i = j + 1
    · subst e; exact List.prefix_refl _
    · refine List.IsPrefix.trans (ih (by omega)) ?_
      rw [upto_snoc]; split
      · exact List.prefix_append _ _
      · exact List.prefix_refl _
/-- the element at a place, and its rank -/
theorem get_rank (s : BitVec 64) {i : Nat} (h : s.getLsbD i = true) : (Bs.elems s)[rank s i]? = some i := by
  obtain ⟨t, ht⟩ := upto_prefix s (show i + 1 ≤ 64 from lt64 h)
  rw [upto_snoc, if_pos h] at ht
  rw [← Bs.upto_all, ← ht]
  unfold rank
  simp
theorem rank_get (s : BitVec 64) {k x : Nat} (h : (Bs.elems s)[k]? = some x) : rank s x = k := by
  have h1 := get_rank s (elems_bit h)
  have hk := (List.getElem?_eq_some_iff.1 h).1
  have hr := (List.getElem?_eq_some_iff.1 h1).1
  have hp := Bs.elems_sorted s
  rw [List.pairwise_iff_getElem] at hp
  have e1 := (List.getElem?_eq_some_iff.1 h).2
  have e2 := (List.getElem?_eq_some_iff.1 h1).2
  apply Classical.byContradiction
  intro hne
  by_cases hlt : rank s x < k
  · have := hp _ _ hr hk hlt; omega
  · have := hp _ _ hk hr (by omega); omega
end Go.Bx
