/- Relations, plain: the list of pairs. -/
import Derived.Test.YtknjdfgmejobfaaDoorRo
namespace Go.Rl

def rowP (f : Rows) (a : Nat) : List (Nat × Nat) := (Bs.elems (f a)).map fun b => (a, b)
/-- the pairs of the first k rows, in order -/
def pairsF (f : Rows) (k : Nat) : List (Nat × Nat) := (List.range k).flatMap (rowP f)
theorem pairsF_succ (f : Rows) (k : Nat) : pairsF f (k + 1) = pairsF f k ++ rowP f k := by simp [pairsF, List.range_succ]
theorem pairsF_zero (f : Rows) : pairsF f 0 = [] := rfl
theorem rowP_len (f : Rows) (a : Nat) : (rowP f a).length = Bx.card (f a) := by simp [rowP, Bx.card]
theorem pairs_le (f : Rows) : ∀ k, (pairsF f k).length ≤ 64 * k
  | 0 => by simp [pairsF_zero]
  | k + 1 => by
    have := pairs_le f k
    have := Bx.card_le (f k)
    rw [pairsF_succ, List.length_append, rowP_len]; omega
theorem mem_rowP (f : Rows) (x a b : Nat) : (a, b) ∈ rowP f x ↔ a = x ∧ bit f x b = true := by
  unfold rowP
  rw [List.mem_map]
  constructor
  · rintro ⟨c, h, e⟩
    injection e with e1 e2
    subst e1 e2
    exact ⟨rfl, Bs.mem_elems.1 h⟩
  · rintro ⟨rfl, h⟩
    exact ⟨b, Bs.mem_elems.2 h, rfl⟩
theorem mem_pairsF (f : Rows) (k a b : Nat) : (a, b) ∈ pairsF f k ↔ a < k ∧ bit f a b = true := by
  unfold pairsF
  rw [List.mem_flatMap]
  constructor
  · rintro ⟨x, h, e⟩
    obtain ⟨rfl, h2⟩ := (mem_rowP f x a b).1 e
    exact ⟨List.mem_range.1 h, h2⟩
  · rintro ⟨h, h2⟩
    exact ⟨a, List.mem_range.2 h, (mem_rowP f a a b).2 ⟨rfl, h2⟩⟩
theorem mem_pairs {n : Nat} {f : Rows} (hf : Ok n f) (p : Nat × Nat) : p ∈ pairsF f n ↔ bit f p.1 p.2 = true := by
  obtain ⟨a, b⟩ := p
  rw [mem_pairsF]
  exact ⟨fun h => h.2, fun h => ⟨(hf.in_ a b h).1, h⟩⟩
/-- sizes -/
theorem pairs_union {n : Nat} (f g : Rows) : ∀ k, k ≤ n → (pairsF (unionF n f g) k).length + (pairsF (bothF n f g) k).length = (pairsF f k).length + (pairsF g k).length
  | 0, _ => rfl
  | k + 1, hk => by
    have ih := pairs_union (n := n) f g k (by omega)
    simp only [pairsF_succ, List.length_append, rowP_len]
    have e1 : unionF n f g k = f k ||| g k := by unfold unionF; rw [cut_lt (by omega)]
    have e2 : bothF n f g k = f k &&& g k := by unfold bothF; rw [cut_lt (by omega)]
    have := Bx.card_union (f k) (g k)
    rw [e1, e2]; omega
theorem pairs_less {n : Nat} (f g : Rows) : ∀ k, k ≤ n → (pairsF (lessF n f g) k).length + (pairsF (bothF n f g) k).length = (pairsF f k).length
  | 0, _ => rfl
  | k + 1, hk => by
    have ih := pairs_less (n := n) f g k (by omega)
    simp only [pairsF_succ, List.length_append, rowP_len]
    have e1 : lessF n f g k = f k &&& ~~~ (g k) := by unfold lessF; rw [cut_lt (by omega)]
    have e2 : bothF n f g k = f k &&& g k := by unfold bothF; rw [cut_lt (by omega)]
    have := Bx.card_less (f k) (g k)
    rw [e1, e2]; omega
theorem pairs_nil {n : Nat} {f : Rows} (hf : Ok n f) : pairsF f n = [] ↔ ∀ a b, bit f a b = false := by
  constructor
  · intro h a b
    cases hb : bit f a b
    · rfl
    · have := (mem_pairs hf (a, b)).2 hb
      rw [h] at this; cases this
  · intro h
    apply List.eq_nil_iff_forall_not_mem.2
    rintro ⟨a, b⟩ hm
    have := (mem_pairs hf (a, b)).1 hm
    rw [h a b] at this; cases this
end Go.Rl
