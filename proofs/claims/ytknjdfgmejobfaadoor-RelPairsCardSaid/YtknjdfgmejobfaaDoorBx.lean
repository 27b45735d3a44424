/- Sets of 64 bits by their bits; rank; the subsets of a set in increasing order. Plain. -/
import Derived.Test.YtknjdfgmejobfaaDoorBs
import Derived.Test.YtknjdfgmejobfaaDoorBv
namespace Go.Bx

/-- the set of the i below 64 with f i -/
def mk (f : Nat → Bool) : BitVec 64 := (List.range 64).foldl (fun s i => if f i then s ||| Bv.bit i else s) 0#64
theorem mk_upto (f : Nat → Bool) (n : Nat) (hn : n ≤ 64) (i : Nat) :
    ((List.range n).foldl (fun s i => if f i then s ||| Bv.bit i else s) 0#64).getLsbD i = (decide (i < n) && f i) := by
  induction n with
  | zero => simp
  | succ n ih =>
    rw [List.range_succ, List.foldl_append]
    simp only [List.foldl_cons, List.foldl_nil]
    split
    · rename_i h
      rw [BitVec.getLsbD_or, ih (by omega), Bv.bit_get n i (by omega)]
      by_cases e : i = n
      · subst e; simp [h]
      · have : (i < n + 1) ↔ i < n := by omega
        simp [e, this]
    · rename_i h
      rw [ih (by omega)]
      by_cases e : i = n
      · subst e; simp [h]
      · have : (i < n + 1) ↔ i < n := by omega
        simp [this]
theorem mk_get (f : Nat → Bool) (i : Nat) (hi : i < 64) : (mk f).getLsbD i = f i := by
  unfold mk; rw [mk_upto f 64 (Nat.le_refl _) i]; simp [hi]

/-- how many elements lie below i -/
def rank (s : BitVec 64) (i : Nat) : Nat := (Bs.upto s i).length
theorem rank_hit (s : BitVec 64) (i : Nat) (h : s.getLsbD i = true) : rank s (i + 1) = rank s i + 1 := by unfold rank; rw [Bs.upto_hit s i h]; simp
theorem rank_miss (s : BitVec 64) (i : Nat) (h : s.getLsbD i = false) : rank s (i + 1) = rank s i := by unfold rank; rw [Bs.upto_miss s i h]
theorem rank_zero (s : BitVec 64) : rank s 0 = 0 := rfl
theorem rank_le_succ (s : BitVec 64) (i : Nat) : rank s i ≤ rank s (i + 1) := by
  cases h : s.getLsbD i
  · rw [rank_miss s i h]; omega
  · rw [rank_hit s i h]; omega
theorem rank_mono (s : BitVec 64) {i j : Nat} (h : i ≤ j) : rank s i ≤ rank s j := by
  induction j with
  | zero => obtain rfl : i = 0 := by omega
            exact Nat.le_refl _
  | succ j ih =>
    by_cases e : i = j + 1
    · subst e; exact Nat.le_refl _
    · exact Nat.le_trans (ih (by omega)) (rank_le_succ s j)
theorem rank_lt (s : BitVec 64) {i j : Nat} (h : i < j) (hb : s.getLsbD i = true) : rank s i < rank s j := by
  have := rank_mono s (show i + 1 ≤ j by omega)
  rw [rank_hit s i hb] at this; omega
theorem lt64 {s : BitVec 64} {i : Nat} (h : s.getLsbD i = true) : i < 64 := by
  apply Nat.lt_of_not_le; intro hle; rw [BitVec.getLsbD_of_ge _ _ hle] at h; cases h
theorem rank_all (s : BitVec 64) : rank s 64 = (Bs.elems s).length := rfl
/-- each r below the rank of n is the rank of an element below n -/
theorem rank_onto (s : BitVec 64) (n r : Nat) (h : r < rank s n) : ∃ i, i < n ∧ s.getLsbD i = true ∧ rank s i = r := by
  induction n with
  | zero => rw [rank_zero] at h; omega
  | succ n ih =>
    cases hb : s.getLsbD n
    · rw [rank_miss s n hb] at h
      obtain ⟨i, hi, h1, h2⟩ := ih h
      exact ⟨i, by omega, h1, h2⟩
    · rw [rank_hit s n hb] at h
      by_cases e : r = rank s n
      · exact ⟨n, by omega, hb, e.symm⟩
      · obtain ⟨i, hi, h1, h2⟩ := ih (by omega)
        exact ⟨i, by omega, h1, h2⟩

/-! ### the successor's bits -/
theorem succ_bit (i : Nat) : ∀ n : Nat, (n + 1).testBit i = (n.testBit i ^^ (List.range i).all (fun k => n.testBit k)) := by
  induction i with
  | zero =>
    intro n
    rw [Nat.testBit_zero, Nat.testBit_zero]
    rcases Nat.mod_two_eq_zero_or_one n with h | h
    · have : (n + 1) % 2 = 1 := by omega
      simp [h, this]
    · have : (n + 1) % 2 = 0 := by omega
      simp [h, this]
  | succ i ih =>
    intro n
    rw [Nat.testBit_succ, Nat.testBit_succ, List.range_succ_eq_map, List.all_cons, List.all_map]
    have hf : ((fun k => n.testBit k) ∘ Nat.succ) = fun k => (n / 2).testBit k := by
      funext k; show n.testBit (k + 1) = _; rw [Nat.testBit_succ]
    rw [hf]
    by_cases h : n % 2 = 1
    · have e : (n + 1) / 2 = n / 2 + 1 := by omega
      have hb : n.testBit 0 = true := by simp [Nat.testBit_zero, h]
      rw [e, ih, hb, Bool.true_and]
    · have e : (n + 1) / 2 = n / 2 := by omega
      have hb : n.testBit 0 = false := by simp [Nat.testBit_zero]; omega
      rw [e, hb, Bool.false_and]; simp

theorem succ64 (x : BitVec 64) (i : Nat) (hi : i < 64) : (x + 1#64).getLsbD i = (x.getLsbD i ^^ (List.range i).all (fun k => x.getLsbD k)) := by
  have hb : ∀ k, x.getLsbD k = x.toNat.testBit k := fun k => (BitVec.testBit_toNat x).symm
  rw [← BitVec.testBit_toNat, BitVec.toNat_add]
  have e1 : (1#64).toNat = 1 := rfl
  rw [e1, Nat.testBit_mod_two_pow]
  simp only [hi, decide_true, Bool.true_and]
  rw [succ_bit i x.toNat]
  simp only [hb]

/-- the elements of s whose ranks are the bits of j -/
def dep (s : BitVec 64) (j : Nat) : BitVec 64 := mk (fun i => s.getLsbD i && j.testBit (rank s i))
theorem dep_get (s : BitVec 64) (j i : Nat) (hi : i < 64) : (dep s j).getLsbD i = (s.getLsbD i && j.testBit (rank s i)) := mk_get _ i hi
theorem dep_zero (s : BitVec 64) : dep s 0 = 0#64 := by
  apply Bv.ext_get; intro i hi; rw [dep_get s 0 i hi, Bv.zero_get]; simp

/-- sub - s, by bits -/
theorem sub_or (s t : BitVec 64) (h : ∀ i, i < 64 → t.getLsbD i = true → s.getLsbD i = true) : t - s = (t ||| ~~~ s) + 1#64 := by
  have e : t + ~~~ s = t ||| ~~~ s := by
    apply BitVec.add_eq_or_of_and_eq_zero
    apply Bv.ext_get
    intro i hi
    rw [BitVec.getLsbD_and, Bv.not_get s i hi, Bv.zero_get]
    cases ht : t.getLsbD i
    · simp
    · rw [h i hi ht]; simp
  rw [← e, BitVec.sub_eq_add_neg, BitVec.neg_eq_not_add, BitVec.add_assoc]

theorem dep_sub (s : BitVec 64) (j i : Nat) (hi : i < 64) : (dep s j).getLsbD i = true → s.getLsbD i = true := by
  rw [dep_get s j i hi]; simp; exact fun h _ => h

theorem dep_step (s : BitVec 64) (j : Nat) : (dep s j - s) &&& s = dep s (j + 1) := by
  rw [sub_or s (dep s j) (fun i hi => dep_sub s j i hi)]
  apply Bv.ext_get
  intro i hi
  rw [BitVec.getLsbD_and, succ64 _ i hi, BitVec.getLsbD_or, Bv.not_get s i hi, dep_get s j i hi, dep_get s (j + 1) i hi]
  cases hs : s.getLsbD i
  · simp
  · simp only [Bool.true_and, Bool.not_true, Bool.or_false, Bool.and_true]
    rw [succ_bit (rank s i) j]
    congr 1
    rw [Bool.eq_iff_iff]
    simp only [List.all_eq_true, List.mem_range]
    constructor
    · intro h r hr
      obtain ⟨k, hk, hb, he⟩ := rank_onto s i r hr
      have := h k hk
      rw [BitVec.getLsbD_or, Bv.not_get s k (by omega), dep_get s j k (by omega), hb, he] at this
      simpa using this
    · intro h k hk
      rw [BitVec.getLsbD_or, Bv.not_get s k (by omega), dep_get s j k (by omega)]
      cases hb : s.getLsbD k
      · simp
      · have := h (rank s k) (rank_lt s hk hb)
        simp [this]

/-- how many subsets -/
def size (s : BitVec 64) : Nat := 2 ^ (Bs.elems s).length
theorem size_pos (s : BitVec 64) : 0 < size s := Nat.two_pow_pos _
theorem dep_last (s : BitVec 64) : dep s (size s - 1) = s := by
  apply Bv.ext_get
  intro i hi
  rw [dep_get s _ i hi]
  cases hs : s.getLsbD i
  · rfl
  · unfold size
    rw [Nat.testBit_two_pow_sub_one]
    have := rank_lt s hi hs
    rw [rank_all] at this
    simp [this]
theorem dep_inj (s : BitVec 64) {j k : Nat} (hj : j < size s) (hk : k < size s) (h : dep s j = dep s k) : j = k := by
  apply Nat.eq_of_testBit_eq
  intro r
  by_cases hr : r < (Bs.elems s).length
  · obtain ⟨i, hi, hb, he⟩ := rank_onto s 64 r (by rw [rank_all]; exact hr)
    have h1 := dep_get s j i hi
    have h2 := dep_get s k i hi
    rw [h, h2, hb, he] at h1
    simpa using h1.symm
  · have hp : ∀ x, x < size s → x.testBit r = false := fun x hx =>
      Nat.testBit_lt_two_pow (Nat.lt_of_lt_of_le hx (Nat.pow_le_pow_right (by decide) (by omega)))
    rw [hp j hj, hp k hk]
theorem dep_eq (s : BitVec 64) {j : Nat} (hj : j < size s) : (dep s j == s) = decide (j + 1 = size s) := by
  rw [Bool.eq_iff_iff]
  simp only [beq_iff_eq, decide_eq_true_eq]
  have := size_pos s
  constructor
  · intro h
    have := dep_inj s hj (show size s - 1 < size s by omega) (h.trans (dep_last s).symm)
    omega
  · intro h
    have e : j = size s - 1 := by omega
    rw [e]; exact dep_last s

theorem nat_lt (i : Nat) : ∀ x y : Nat, x.testBit i = false → y.testBit i = true → (∀ k, i < k → x.testBit k = y.testBit k) → x < y := by
  induction i with
  | zero =>
    intro x y hx hy h
    have e : x / 2 = y / 2 := by
      apply Nat.eq_of_testBit_eq
      intro k
      rw [← Nat.testBit_succ, ← Nat.testBit_succ]; exact h (k + 1) (by omega)
    rw [Nat.testBit_zero] at hx hy
    have hx' : ¬ x % 2 = 1 := by simpa using hx
    have hy' : y % 2 = 1 := by simpa using hy
    omega
  | succ i ih =>
    intro x y hx hy h
    rw [Nat.testBit_succ] at hx hy
    have := ih (x / 2) (y / 2) hx hy (fun k hk => by rw [← Nat.testBit_succ, ← Nat.testBit_succ]; exact h (k + 1) (by omega))
    omega
/-- increasing -/
theorem low_false (j : Nat) : ∃ t, j.testBit t = false ∧ ∀ k, k < t → j.testBit k = true := by
  obtain ⟨n, hn⟩ : ∃ n, j < 2 ^ n := ⟨j, Nat.lt_two_pow_self⟩
  have hf : j.testBit n = false := Nat.testBit_lt_two_pow hn
  clear hn
  induction n using Nat.strongRecOn with
  | _ n ih =>
    by_cases h : ∀ k, k < n → j.testBit k = true
    · exact ⟨n, hf, h⟩
    · obtain ⟨k, hk⟩ := Classical.not_forall.1 h
      have hk2 : k < n ∧ j.testBit k = false := by
        constructor
        · exact Classical.byContradiction fun h => hk (fun h2 => absurd h2 h)
        · cases hb : j.testBit k
          · rfl
          · exact absurd (fun _ => hb) hk
      exact ih k hk2.1 hk2.2
theorem dep_lt (s : BitVec 64) {j : Nat} (hj : j + 1 < size s) : (dep s j).toNat < (dep s (j + 1)).toNat := by
  obtain ⟨t, ht, hlow⟩ := low_false j
  have htl : t < (Bs.elems s).length := by
    apply Nat.lt_of_not_le
    intro hle
    have h1 : j.testBit 0 = true ∨ (Bs.elems s).length = 0 := by
      by_cases h0 : (Bs.elems s).length = 0
      · exact .inr h0
      · exact .inl (hlow 0 (by omega))
    have hall : ∀ r, r < (Bs.elems s).length → j.testBit r = true := fun r hr => hlow r (by omega)
    have : j = size s - 1 := by
      apply Nat.eq_of_testBit_eq
      intro r
      unfold size
      rw [Nat.testBit_two_pow_sub_one]
      by_cases hr : r < (Bs.elems s).length
      · simp [hr, hall r hr]
      · have hx : j < 2 ^ (Bs.elems s).length := by unfold size at hj; omega
        rw [Nat.testBit_lt_two_pow (Nat.lt_of_lt_of_le hx (Nat.pow_le_pow_right (by decide) (by omega)))]
        simp [hr]
    omega
  obtain ⟨i, hi, hb, he⟩ := rank_onto s 64 t (by rw [rank_all]; exact htl)
  have hup : ∀ r, t ≤ r → (j + 1).testBit r = (j.testBit r ^^ decide (r = t)) := by
    intro r hr
    rw [succ_bit]
    congr 1
    by_cases e : r = t
    · subst e; simp; exact hlow
    · simp only [e, decide_false]
      rw [Bool.eq_false_iff]
      intro hall
      rw [List.all_eq_true] at hall
      have := hall t (by simp; omega)
      rw [ht] at this; cases this
  apply nat_lt i
  · rw [BitVec.testBit_toNat, dep_get s j i hi, hb, he, ht]; rfl
  · rw [BitVec.testBit_toNat, dep_get s (j + 1) i hi, hb, he, hup t (Nat.le_refl _), ht]; simp
  · intro k hk
    rw [BitVec.testBit_toNat, BitVec.testBit_toNat]
    by_cases h64 : k < 64
    · rw [dep_get s j k h64, dep_get s (j + 1) k h64]
      have hr := rank_lt s hk hb
      rw [he] at hr
      rw [hup _ (by omega)]
      have : ¬ rank s k = t := by omega
      simp [this]
    · rw [BitVec.getLsbD_of_ge _ _ (by omega), BitVec.getLsbD_of_ge _ _ (by omega)]
/-- bits at will -/
theorem bits_of (f : Nat → Bool) (n : Nat) : ∃ j, j < 2 ^ n ∧ ∀ r, r < n → j.testBit r = f r := by
  induction n generalizing f with
  | zero => exact ⟨0, by simp, fun r hr => by omega⟩
  | succ n ih =>
    obtain ⟨j, hj, hf⟩ := ih (fun r => f (r + 1))
    refine ⟨2 * j + (if f 0 then 1 else 0), by rw [Nat.pow_succ]; split <;> omega, ?_⟩
    intro r hr
    cases r with
    | zero => rw [Nat.testBit_zero]; cases f 0 <;> simp <;> omega
    | succ r =>
      rw [Nat.testBit_succ]
      have e : (2 * j + (if f 0 then 1 else 0)) / 2 = j := by split <;> omega
      rw [e]; exact hf r (by omega)
theorem dep_all (s t : BitVec 64) (h : ∀ i, i < 64 → t.getLsbD i = true → s.getLsbD i = true) : ∃ j, j < size s ∧ dep s j = t := by
  obtain ⟨j, hj, hf⟩ := bits_of (fun r => (List.range 64).any (fun i => t.getLsbD i && decide (rank s i = r))) (Bs.elems s).length
  refine ⟨j, hj, ?_⟩
  apply Bv.ext_get
  intro i hi
  rw [dep_get s j i hi]
  cases hs : s.getLsbD i
  · cases ht : t.getLsbD i
    · rfl
    · rw [h i hi ht] at hs; cases hs
  · have hr := rank_lt s hi hs
    rw [rank_all] at hr
    rw [hf _ hr, Bool.true_and, Bool.eq_iff_iff]
    simp only [List.any_eq_true, List.mem_range, Bool.and_eq_true, decide_eq_true_eq]
    constructor
    · rintro ⟨k, hk, htk, hrk⟩
      have hsk := h k hk htk
      have : k = i := by
        apply Classical.byContradiction
        intro hne
        by_cases hlt : k < i
        · have := rank_lt s hlt hsk; omega
        · have := rank_lt s (show i < k by omega) hs; omega
      subst this; exact htk
    · intro ht; exact ⟨i, hi, ht, rfl⟩
end Go.Bx
