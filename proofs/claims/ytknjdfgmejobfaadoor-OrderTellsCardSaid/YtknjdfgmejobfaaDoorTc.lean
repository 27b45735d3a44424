/- Orders of a relation, plain: they come in lexicographic order. -/
import Derived.Test.YtknjdfgmejobfaaDoorTb
namespace Go.Rl

/-- the first item in which x and y differ is smaller in x -/
def Ahead (x y : List Nat) : Prop := ∃ p a b q r, x = p ++ a :: q ∧ y = p ++ b :: r ∧ a < b
theorem ext_front (before : Rows) : ∀ (k : Nat) (left : BitVec 64) (l x : List Nat), x ∈ ext before k left l → ∃ t, x = l ++ t
  | 0, left, l, x, h => by simp [ext] at h; exact ⟨[], by simp [h]⟩
  | k + 1, left, l, x, h => by
    unfold ext at h
    split at h
    · simp at h; exact ⟨[], by simp [h]⟩
    · obtain ⟨a, _, h2⟩ := List.mem_flatMap.1 h
      split at h2
      · obtain ⟨t, e⟩ := ext_front before k _ _ x h2
        exact ⟨a :: t, by rw [e]; simp⟩
      · cases h2
theorem ext_sorted (before : Rows) : ∀ (k : Nat) (left : BitVec 64) (l : List Nat), (ext before k left l).Pairwise Ahead
  | 0, left, l => by simp [ext]
  | k + 1, left, l => by
    unfold ext
    split
    · simp
    · rw [List.pairwise_flatMap]
      refine ⟨fun a _ => ?_, (Bs.elems_sorted left).imp fun {a b} hab x hx y hy => ?_⟩
      · split
        · exact ext_sorted before k _ _
        · simp
      · split at hx
        · split at hy
          · obtain ⟨t, e⟩ := ext_front before k _ _ x hx
            obtain ⟨u, e2⟩ := ext_front before k _ _ y hy
            exact ⟨l, a, b, t, u, by rw [e]; simp, by rw [e2]; simp, hab⟩
          · cases hy
        · cases hx
theorem ahead_ne {x y : List Nat} (h : Ahead x y) : x ≠ y := by
  obtain ⟨p, a, b, q, r, rfl, rfl, hab⟩ := h
  intro e
  have := List.append_cancel_left e
  injection this with h1
  omega
theorem ordL_sorted (n : Nat) (f : Rows) : (ordL n f).Pairwise Ahead := by
  unfold ordL
  split
  · exact ext_sorted _ _ _ _
  · simp
theorem ordL_nodup (n : Nat) (f : Rows) : (ordL n f).Nodup := (ordL_sorted n f).imp ahead_ne
end Go.Rl
