/- Numbers of 64 bits as bit vectors: what the operations of a walk give. 'U s' is the number, kept apart from simp's own rules. -/
import Derived.Laws.Bits64
import Derived.Laws.Entries
namespace Go.Bv

/-- the number of a vector of 64 bits -/
def U (s : BitVec 64) : Int := s.toNat

theorem U_eq (s : BitVec 64) : U s = (s.toNat : Int) := rfl
theorem U_nonneg (s : BitVec 64) : 0 ≤ U s := by unfold U; omega
theorem U_lt (s : BitVec 64) : U s < 18446744073709551616 := by unfold U; have := s.isLt; omega
theorem U_inj {s t : BitVec 64} : U s = U t ↔ s = t :=
  ⟨fun h => BitVec.eq_of_toNat_eq (by unfold U at h; omega), fun h => by rw [h]⟩
theorem U_of (x : Int) (h0 : 0 ≤ x) (h1 : x < 18446744073709551616) : ∃ s, x = U s := by
  refine ⟨BitVec.ofNat 64 x.toNat, ?_⟩
  unfold U
  rw [BitVec.toNat_ofNat]; omega
theorem U_ofNat (n : Nat) (h : n < 18446744073709551616) : U (BitVec.ofNat 64 n) = n := by
  unfold U; rw [BitVec.toNat_ofNat]; omega
theorem U_zero : U 0#64 = 0 := rfl
theorem U_one : U 1#64 = 1 := rfl

theorem ofInt_U (s : BitVec 64) : BitVec.ofInt 64 (U s) = s := by
  unfold U; rw [BitVec.ofInt_natCast]; simp

theorem U_ofInt (x : Int) : U (BitVec.ofInt 64 x) = x % 18446744073709551616 := by
  unfold U; rw [BitVec.toNat_ofInt]; simp; omega

theorem wrap_eq (x : Int) : IntKind.u64.wrap x = U (BitVec.ofInt 64 x) := by
  rw [U_ofInt, IntKind.wrap_u64]

theorem wrap_U (s : BitVec 64) : IntKind.u64.wrap (U s) = U s := by rw [wrap_eq, ofInt_U]

theorem and_any (x y : Int) : bits .and .u64 x y = U (BitVec.ofInt 64 x &&& BitVec.ofInt 64 y) := by
  show IntKind.u64.wrap ((BitVec.ofInt 64 x &&& BitVec.ofInt 64 y).toNat : Int) = _
  exact wrap_U _
theorem or_any (x y : Int) : bits .or .u64 x y = U (BitVec.ofInt 64 x ||| BitVec.ofInt 64 y) := by
  show IntKind.u64.wrap ((BitVec.ofInt 64 x ||| BitVec.ofInt 64 y).toNat : Int) = _
  exact wrap_U _
theorem xor_any (x y : Int) : bits .xor .u64 x y = U (BitVec.ofInt 64 x ^^^ BitVec.ofInt 64 y) := by
  show IntKind.u64.wrap ((BitVec.ofInt 64 x ^^^ BitVec.ofInt 64 y).toNat : Int) = _
  exact wrap_U _
theorem andNot_any (x y : Int) : bits .andNot .u64 x y = U (BitVec.ofInt 64 x &&& ~~~ BitVec.ofInt 64 y) := by
  show IntKind.u64.wrap ((BitVec.ofInt 64 x &&& ~~~ BitVec.ofInt 64 y).toNat : Int) = _
  exact wrap_U _

theorem and_u (s t : BitVec 64) : bits .and .u64 (U s) (U t) = U (s &&& t) := by rw [and_any, ofInt_U, ofInt_U]
theorem or_u (s t : BitVec 64) : bits .or .u64 (U s) (U t) = U (s ||| t) := by rw [or_any, ofInt_U, ofInt_U]
theorem andNot_u (s t : BitVec 64) : bits .andNot .u64 (U s) (U t) = U (s &&& ~~~ t) := by rw [andNot_any, ofInt_U, ofInt_U]

theorem ofInt_lit (n : Nat) : BitVec.ofInt 64 (OfNat.ofNat n : Int) = BitVec.ofNat 64 n := by
  show BitVec.ofInt 64 ((n : Nat) : Int) = _
  rw [BitVec.ofInt_natCast]

theorem and_lit (s : BitVec 64) (n : Nat) : bits .and .u64 (U s) (OfNat.ofNat n : Int) = U (s &&& BitVec.ofNat 64 n) := by rw [and_any, ofInt_U, ofInt_lit]
theorem and_lit' (s : BitVec 64) (n : Nat) : bits .and .u64 (OfNat.ofNat n : Int) (U s) = U (BitVec.ofNat 64 n &&& s) := by rw [and_any, ofInt_U, ofInt_lit]
theorem or_lit (s : BitVec 64) (n : Nat) : bits .or .u64 (U s) (OfNat.ofNat n : Int) = U (s ||| BitVec.ofNat 64 n) := by rw [or_any, ofInt_U, ofInt_lit]
theorem or_lit' (s : BitVec 64) (n : Nat) : bits .or .u64 (OfNat.ofNat n : Int) (U s) = U (BitVec.ofNat 64 n ||| s) := by rw [or_any, ofInt_U, ofInt_lit]
theorem andNot_lit (s : BitVec 64) (n : Nat) : bits .andNot .u64 (U s) (OfNat.ofNat n : Int) = U (s &&& ~~~ BitVec.ofNat 64 n) := by rw [andNot_any, ofInt_U, ofInt_lit]

theorem wrap_add (s t : BitVec 64) : IntKind.u64.wrap (U s + U t) = U (s + t) := by
  unfold U; rw [IntKind.wrap_u64, BitVec.toNat_add]; omega
theorem wrap_sub (s t : BitVec 64) : IntKind.u64.wrap (U s - U t) = U (s - t) := by
  unfold U; rw [IntKind.wrap_u64, BitVec.toNat_sub]; have := s.isLt; have := t.isLt; omega
theorem wrap_sub1 (s : BitVec 64) : IntKind.u64.wrap (U s - 1) = U (s - 1#64) := wrap_sub s 1#64
theorem wrap_neg (s : BitVec 64) : IntKind.u64.wrap (-(U s)) = U (-s) := by
  unfold U; rw [IntKind.wrap_u64, BitVec.toNat_neg]; have := s.isLt; omega
theorem wrap_mul (s t : BitVec 64) : IntKind.u64.wrap (U s * U t) = U (s * t) := by
  unfold U; rw [IntKind.wrap_u64, BitVec.toNat_mul, ← Int.natCast_mul]; omega
theorem wrap_not (s : BitVec 64) : IntKind.u64.wrap (-1 - U s) = U (~~~ s) := by
  unfold U; rw [IntKind.wrap_u64, BitVec.toNat_not]; have := s.isLt; omega

/-- x == 0, x == y -/
theorem eq0 (s : BitVec 64) : (U s == 0) = (s == 0#64) := by
  rw [Bool.eq_iff_iff]
  simp only [beq_iff_eq]
  exact ⟨fun h => U_inj.1 h, fun h => by rw [h]; rfl⟩
theorem eq_u (s t : BitVec 64) : (U s == U t) = (s == t) := by
  rw [Bool.eq_iff_iff]
  simp only [beq_iff_eq]
  exact U_inj
theorem ne0 (s : BitVec 64) : (U s != 0) = (s != 0#64) := by simp only [bne, eq0]
theorem ne_u (s t : BitVec 64) : (U s != U t) = (s != t) := by simp only [bne, eq_u]

/-- a single bit -/
def bit (i : Nat) : BitVec 64 := BitVec.ofNat 64 (2 ^ i)
theorem bit_get (i k : Nat) (hi : i < 64) : (bit i).getLsbD k = decide (k = i) := by
  unfold bit
  rw [BitVec.getLsbD_ofNat, Nat.testBit_two_pow]
  by_cases h : i = k
  · subst h; simp [hi]
  · have h2 : ¬ k = i := by omega
    simp [h, h2]
theorem bit_big (i : Nat) (hi : 64 ≤ i) : bit i = 0#64 := by
  unfold bit
  apply BitVec.eq_of_toNat_eq
  rw [BitVec.toNat_ofNat, Nat.mod_eq_zero_of_dvd (Nat.pow_dvd_pow 2 hi)]; rfl

/-- 1 << n at 64 bits -/
theorem wrap_pow (n : Nat) : IntKind.u64.wrap ((2 : Int) ^ n) = U (bit n) := by
  unfold bit U
  rw [IntKind.wrap_u64, BitVec.toNat_ofNat]
  have e : ((2 : Int) ^ n) = ((2 ^ n : Nat) : Int) := by simp
  rw [e]
  have h64 : (2:Nat) ^ 64 = 18446744073709551616 := rfl
  rw [h64]; omega
theorem wrap_powmin (n : Nat) : IntKind.u64.wrap ((2 : Int) ^ min n 64) = U (bit n) := by
  by_cases h : n ≤ 64
  · rw [Nat.min_eq_left h, wrap_pow]
  · rw [Nat.min_eq_right (by omega), wrap_pow, bit_big 64 (by omega), bit_big n (by omega)]

/-- s >> n -/
theorem shr_min (s : BitVec 64) (n : Nat) : U s / 2 ^ min n 64 = U (s >>> n) := by
  unfold U
  have e : ((2 : Int) ^ min n 64) = ((2 ^ min n 64 : Nat) : Int) := by simp
  rw [e, BitVec.toNat_ushiftRight, Nat.shiftRight_eq_div_pow]
  by_cases h : n ≤ 64
  · rw [Nat.min_eq_left h]; exact (Int.natCast_ediv _ _).symm
  · rw [Nat.min_eq_right (by omega)]
    have hlt : s.toNat < 2 ^ n := Nat.lt_of_lt_of_le s.isLt (Nat.pow_le_pow_right (by decide) (by omega))
    have h64 := s.isLt
    rw [Nat.div_eq_of_lt hlt, ← Int.natCast_ediv, Nat.div_eq_of_lt h64]
theorem shr_pow (s : BitVec 64) (n : Nat) : U s / 2 ^ n = U (s >>> n) := by
  unfold U
  have e : ((2 : Int) ^ n) = ((2 ^ n : Nat) : Int) := by simp
  rw [e, BitVec.toNat_ushiftRight, Nat.shiftRight_eq_div_pow, ← Int.natCast_ediv]
theorem bit_test (s : BitVec 64) (n : Nat) : (s >>> n &&& 1#64) = if s.getLsbD n then 1#64 else 0#64 := by
  apply BitVec.eq_of_toNat_eq
  rw [BitVec.toNat_and, BitVec.toNat_ushiftRight, Nat.shiftRight_eq_div_pow]
  have e1 : (1#64).toNat = 1 := rfl
  rw [e1]
  have e2 : s.toNat / 2 ^ n &&& 1 = s.toNat / 2 ^ n % 2 := Nat.and_two_pow_sub_one_eq_mod _ 1
  have e3 : s.getLsbD n = decide (s.toNat / 2 ^ n % 2 = 1) := by
    rw [← BitVec.testBit_toNat, Nat.testBit_eq_decide_div_mod_eq]
  rw [e2, e3]
  by_cases h : s.toNat / 2 ^ n % 2 = 1
  · simp [h]
  · simp [h]; omega
theorem U_mod2 (s : BitVec 64) (n : Nat) : U (s >>> n) % 2 = if s.getLsbD n then 1 else 0 := by
  have e0 : U (s >>> n) % 2 = ((s.toNat / 2 ^ n % 2 : Nat) : Int) := by
    unfold U
    rw [BitVec.toNat_ushiftRight, Nat.shiftRight_eq_div_pow]; omega
  have e3 : s.getLsbD n = decide (s.toNat / 2 ^ n % 2 = 1) := by
    rw [← BitVec.testBit_toNat, Nat.testBit_eq_decide_div_mod_eq]
  rw [e0, e3]
  by_cases h : s.toNat / 2 ^ n % 2 = 1
  · simp [h]
  · have h2 : s.toNat / 2 ^ n % 2 = 0 := by omega
    simp [h2]

/-- the bit of s at i, kept apart from simp's own rules -/
def G (s : BitVec 64) (i : Nat) : Bool := s.getLsbD i
theorem G_eq (s : BitVec 64) (i : Nat) : G s i = s.getLsbD i := rfl
/-- a bit as a number -/
def B1 (b : Bool) : Int := if b then 1 else 0
theorem B1_eq1 (b : Bool) : (B1 b == 1) = b := by cases b <;> rfl
theorem B1_eq0 (b : Bool) : (B1 b == 0) = !b := by cases b <;> rfl
theorem B1_ne1 (b : Bool) : (B1 b != 1) = !b := by cases b <;> rfl
theorem B1_ne0 (b : Bool) : (B1 b != 0) = b := by cases b <;> rfl
theorem tmod2 (s : BitVec 64) (n : Nat) : (U (s >>> n)).tmod 2 = B1 (G s n) := by
  rw [Int.tmod_eq_emod_of_nonneg (U_nonneg _)]; exact U_mod2 s n
theorem and1 (s : BitVec 64) (n : Nat) : bits .and .u64 (U (s >>> n)) 1 = B1 (G s n) := by
  have h := and_lit (s >>> n) 1
  have e : (OfNat.ofNat 1 : Int) = 1 := rfl
  rw [e] at h
  rw [h, bit_test]
  unfold G
  cases s.getLsbD n <;> rfl

/-- 1<<n - 1 -/
theorem ones_get (n i : Nat) (hn : n ≤ 64) (_hi : i < 64) : (bit n - 1#64).getLsbD i = decide (i < n) := by
  have e : (bit n - 1#64).toNat = 2 ^ n - 1 := by
    rw [BitVec.toNat_sub]
    unfold bit
    have hp := Nat.two_pow_pos n
    have h64 : (2:Nat) ^ 64 = 18446744073709551616 := rfl
    by_cases h : n = 64
    · subst h; rfl
    · have hlt : 2 ^ n < 2 ^ 64 := Nat.pow_lt_pow_right (by decide) (by omega)
      rw [BitVec.toNat_ofNat, BitVec.toNat_ofNat, Nat.mod_eq_of_lt hlt, h64] at *
      omega
  rw [← BitVec.testBit_toNat, e, Nat.testBit_two_pow_sub_one]
theorem ext_get {s t : BitVec 64} (h : ∀ i, i < 64 → s.getLsbD i = t.getLsbD i) : s = t := BitVec.eq_of_getLsbD_eq h
theorem not_get (s : BitVec 64) (i : Nat) (hi : i < 64) : (~~~ s).getLsbD i = !s.getLsbD i := by rw [BitVec.getLsbD_not]; simp [hi]
theorem zero_get (i : Nat) : (0#64).getLsbD i = false := by simp

/-- adding a bit that is not there -/
theorem add_bit (s : BitVec 64) (i : Nat) (h : s.getLsbD i = false) : s + bit i = s ||| bit i := by
  apply BitVec.add_eq_or_of_and_eq_zero
  apply ext_get
  intro k hk
  rw [BitVec.getLsbD_and, zero_get]
  by_cases hi : i < 64
  · rw [bit_get i k hi]
    by_cases e : k = i
    · subst e; simp [h]
    · simp [e]
  · rw [bit_big i (by omega)]; simp
theorem or_bit_same (s : BitVec 64) (i : Nat) (h : s.getLsbD i = true) : s ||| bit i = s := by
  have hi : i < 64 := by
    apply Nat.lt_of_not_le; intro hle
    rw [BitVec.getLsbD_of_ge _ _ hle] at h; cases h
  apply ext_get
  intro k hk
  rw [BitVec.getLsbD_or, bit_get i k hi]
  by_cases e : k = i
  · subst e; simp [h]
  · simp [e]
theorem and_bit_zero (s : BitVec 64) (i : Nat) (hi : i < 64) : (s &&& bit i = 0#64) ↔ s.getLsbD i = false := by
  constructor
  · intro h
    have h2 := congrArg (fun t => BitVec.getLsbD t i) h
    simp only [BitVec.getLsbD_and, bit_get i i hi, zero_get] at h2
    simpa using h2
  · intro h
    apply ext_get
    intro k hk
    rw [BitVec.getLsbD_and, bit_get i k hi, zero_get]
    by_cases e : k = i
    · subst e; simp [h]
    · simp [e]

end Go.Bv
