/- Plain laws on sets of 64 bits: sizes, first elements, what lies above and below a number, what a list of numbers makes. -/
import Derived.Test.YtknjdfgmejobfaaDoorBx
namespace Go.Bx

theorem rank_union (a b : BitVec 64) (n : Nat) : rank (a ||| b) n + rank (a &&& b) n = rank a n + rank b n := by
  induction n with
  | zero => rfl
  | succ n ih =>
    have ho := BitVec.getLsbD_or (x := a) (y := b) (i := n)
    have ha := BitVec.getLsbD_and (x := a) (y := b) (i := n)
    cases h1 : a.getLsbD n <;> cases h2 : b.getLsbD n
    all_goals
      rw [h1, h2] at ho ha
      simp only [Bool.or_false, Bool.or_true, Bool.and_false, Bool.and_true] at ho ha
    · rw [rank_miss _ n ho, rank_miss _ n ha, rank_miss _ n h1, rank_miss _ n h2]; omega
    · rw [rank_hit _ n ho, rank_miss _ n ha, rank_miss _ n h1, rank_hit _ n h2]; omega
    · rw [rank_hit _ n ho, rank_miss _ n ha, rank_hit _ n h1, rank_miss _ n h2]; omega
    · rw [rank_hit _ n ho, rank_hit _ n ha, rank_hit _ n h1, rank_hit _ n h2]; omega
theorem rank_less (a b : BitVec 64) (n : Nat) (hn : n ≤ 64) : rank (a &&& ~~~ b) n + rank (a &&& b) n = rank a n := by
  induction n with
  | zero => rfl
  | succ n ih =>
    have ho : (a &&& ~~~ b).getLsbD n = (a.getLsbD n && !b.getLsbD n) := by rw [BitVec.getLsbD_and, Bv.not_get b n (by omega)]
    have ha := BitVec.getLsbD_and (x := a) (y := b) (i := n)
    have ih := ih (by omega)
    cases h1 : a.getLsbD n <;> cases h2 : b.getLsbD n
    all_goals
      rw [h1, h2] at ho ha
      simp only [Bool.not_false, Bool.not_true, Bool.and_false, Bool.and_true] at ho ha
    · rw [rank_miss _ n ho, rank_miss _ n ha, rank_miss _ n h1]; omega
    · rw [rank_miss _ n ho, rank_miss _ n ha, rank_miss _ n h1]; omega
    · rw [rank_hit _ n ho, rank_miss _ n ha, rank_hit _ n h1]; omega
    · rw [rank_miss _ n ho, rank_hit _ n ha, rank_hit _ n h1]; omega
/-- the size -/
def card (s : BitVec 64) : Nat := (Bs.elems s).length
theorem card_union (a b : BitVec 64) : card (a ||| b) + card (a &&& b) = card a + card b := rank_union a b 64
theorem card_less (a b : BitVec 64) : card (a &&& ~~~ b) + card (a &&& b) = card a := rank_less a b 64 (Nat.le_refl _)
theorem card_le (s : BitVec 64) : card s ≤ 64 := Bs.elems_le s

/-! ### first elements -/
theorem ne_of_bit {s : BitVec 64} {i : Nat} (h : s.getLsbD i = true) : s ≠ 0#64 := fun e => by rw [e, Bv.zero_get] at h; cases h
theorem low_le {s : BitVec 64} {i : Nat} (h : s.getLsbD i = true) : Bs.low s ≤ i := by
  apply Nat.le_of_not_lt
  intro hlt
  rw [Bs.low_least (ne_of_bit h) hlt] at h
  cases h
theorem low_unique {s : BitVec 64} {k : Nat} (h : s.getLsbD k = true) (hl : ∀ i, i < k → s.getLsbD i = false) : Bs.low s = k := by
  have h1 := low_le h
  have h2 := Bs.low_bit (ne_of_bit h)
  apply Classical.byContradiction
  intro hne
  rw [hl _ (by omega)] at h2
  cases h2
theorem low_union (a b : BitVec 64) (ha : a ≠ 0#64) (hb : b ≠ 0#64) : Bs.low (a ||| b) = min (Bs.low a) (Bs.low b) := by
  apply low_unique
  · rw [BitVec.getLsbD_or]
    by_cases h : Bs.low a ≤ Bs.low b
    · rw [Nat.min_eq_left h, Bs.low_bit ha]; rfl
    · rw [Nat.min_eq_right (by omega), Bs.low_bit hb]; simp
  · intro i hi
    rw [BitVec.getLsbD_or, Bs.low_least ha (by omega), Bs.low_least hb (by omega)]; rfl
theorem or_zero (a b : BitVec 64) : a ||| b = 0#64 ↔ a = 0#64 ∧ b = 0#64 := by
  constructor
  · intro h
    constructor
    · apply Bv.ext_get; intro i hi
      have := congrArg (fun t => BitVec.getLsbD t i) h
      simp only [BitVec.getLsbD_or, Bv.zero_get] at this ⊢
      cases h1 : a.getLsbD i
      · rfl
      · rw [h1] at this; simp at this
    · apply Bv.ext_get; intro i hi
      have := congrArg (fun t => BitVec.getLsbD t i) h
      simp only [BitVec.getLsbD_or, Bv.zero_get] at this ⊢
      cases h1 : b.getLsbD i
      · rfl
      · rw [h1] at this; simp at this
  · rintro ⟨rfl, rfl⟩; rfl
theorem elems_bit {s : BitVec 64} {k x : Nat} (h : (Bs.elems s)[k]? = some x) : s.getLsbD x = true := Bs.mem_elems.1 (List.mem_of_getElem? h)
theorem upto_snoc (s : BitVec 64) (i : Nat) : Bs.upto s (i + 1) = if s.getLsbD i then Bs.upto s i ++ [i] else Bs.upto s i := by
  split
  · rename_i h; exact Bs.upto_hit s i h
  · rename_i h; exact Bs.upto_miss s i (by simpa using h)
theorem upto_prefix (s : BitVec 64) {i j : Nat} (h : i ≤ j) : Bs.upto s i <+: Bs.upto s j := by
  induction j with
  | zero => obtain rfl : i = 0 := by omega
            exact List.prefix_refl _
  | succ j ih =>
    by_cases e : i = j + 1
    · subst e; exact List.prefix_refl _
    · refine List.IsPrefix.trans (ih (by omega)) ?_
      rw [upto_snoc]; split
      · exact List.prefix_append _ _
      · exact List.prefix_refl _
/-- the element at a place, and its rank -/
theorem get_rank (s : BitVec 64) {i : Nat} (h : s.getLsbD i = true) : (Bs.elems s)[rank s i]? = some i := by
  obtain ⟨t, ht⟩ := upto_prefix s (show i + 1 ≤ 64 from lt64 h)
  rw [upto_snoc, if_pos h] at ht
  rw [← Bs.upto_all, ← ht]
  unfold rank
  simp
theorem rank_get (s : BitVec 64) {k x : Nat} (h : (Bs.elems s)[k]? = some x) : rank s x = k := by
  have h1 := get_rank s (elems_bit h)
  have hk := (List.getElem?_eq_some_iff.1 h).1
  have hr := (List.getElem?_eq_some_iff.1 h1).1
  have hp := Bs.elems_sorted s
  rw [List.pairwise_iff_getElem] at hp
  have e1 := (List.getElem?_eq_some_iff.1 h).2
  have e2 := (List.getElem?_eq_some_iff.1 h1).2
  apply Classical.byContradiction
  intro hne
  by_cases hlt : rank s x < k
  · have := hp _ _ hr hk hlt; omega
  · have := hp _ _ hk hr (by omega); omega
end Go.Bx
