/- Several relations in variables of one walk; the operations on valid relations. -/
import Derived.Test.YtknjdfgmejobfaaDoorNs
import Derived.Test.YtknjdfgmejobfaaDoorNo
namespace Go.Proofs.YtknjdfgmejobfaaDoor
open Go.RowKit Go.Shelf

/-- the relations L lie in their blocks, apart from each other, all of them newer than w -/
structure Held (w : World) (L : List (Nat × Int × Rl.Rows)) (W : World) : Prop where
  rel : ∀ (i : Nat) (x : Nat × Int × Rl.Rows), L[i]? = some x → RelAt W x.1 x.2.1 x.2.2
  apart : ∀ (i j : Nat) (x y : Nat × Int × Rl.Rows), L[i]? = some x → L[j]? = some y → i ≠ j → x.1 ≠ y.1
  new : ∀ (i : Nat) (x : Nat × Int × Rl.Rows), L[i]? = some x → w.heap.size ≤ x.1
  bel : Below w.heap.size w W
variable {w W W' : World} {L : List (Nat × Int × Rl.Rows)}
theorem Held.nil (w : World) : Held w [] w := ⟨fun i x h => by simp at h, fun i j x y h => by simp at h, fun i x h => by simp at h, Below.refl _ _⟩
theorem Held.at (h : Held w L W) (i : Nat) {b : Nat} {n : Int} {f : Rl.Rows} (hi : L[i]? = some (b, n, f)) : RelAt W b n f := h.rel i (b, n, f) hi
theorem Held.step (h : Held w L W) (hb : Below W.heap.size W W') : Held w L W' :=
  ⟨fun i x hi => (h.rel i x hi).below hb (h.rel i x hi).lt, h.apart, h.new, h.bel.trans (hb.mono h.bel.size)⟩
/-- a new variable -/
theorem Held.push (h : Held w L W) {n : Int} {f : Rl.Rows} (hR : RelAt W' W.heap.size n f) (hg : (W.alloc (.cells (relC 0 zeroR) 26)).grownBy W' (some W.heap.size)) : Held w (L ++ [(W.heap.size, n, f)]) W' := by
  have hlt : ∀ (i : Nat) (x : Nat × Int × Rl.Rows), L[i]? = some x → x.1 < W.heap.size := fun i x hi => (h.rel i x hi).lt
  have cases_ : ∀ (i : Nat) (x : Nat × Int × Rl.Rows), (L ++ [(W.heap.size, n, f)])[i]? = some x → L[i]? = some x ∨ (i = L.length ∧ x = (W.heap.size, n, f)) := by
    intro i x hi
    by_cases hl : i < L.length
    · rw [List.getElem?_append_left hl] at hi; exact .inl hi
    · rw [List.getElem?_append_right (by omega)] at hi
      have h0 : i - L.length = 0 := by
        have := (List.getElem?_eq_some_iff.1 hi).1; simp at this; omega
      rw [h0] at hi
      simp at hi
      exact .inr ⟨by omega, hi.symm⟩
  refine ⟨fun i x hi => ?_, fun i j x y hi hj hne => ?_, fun i x hi => ?_, (h.bel.alloc h.bel.size _).grown hg (by have := h.bel.size; simp; omega) (fun k e => by injection e with e; rw [← e]; exact h.bel.size)⟩
  · rcases cases_ i x hi with hi | ⟨_, rfl⟩
    · exact ((h.rel i x hi).alloc _).kept hg (fun e => by injection e with e; have := hlt i x hi; omega)
    · exact hR
  · rcases cases_ i x hi with hi | ⟨h1, rfl⟩ <;> rcases cases_ j y hj with hj | ⟨h2, rfl⟩
    · exact h.apart i j x y hi hj hne
    · have := hlt i x hi; show x.1 ≠ W.heap.size; omega
    · have := hlt j y hj; show W.heap.size ≠ y.1; omega
    · omega
  · rcases cases_ i x hi with hi | ⟨_, rfl⟩
    · exact h.new i x hi
    · exact h.bel.size
/-- a new variable that holds what it is given at once -/
theorem Held.box (h : Held w L W) (n : Int) (f : Rl.Rows) : Held w (L ++ [(W.heap.size, n, f)]) (W.alloc (.cells (relC n f) 26)) := by
  have hlt : ∀ (i : Nat) (x : Nat × Int × Rl.Rows), L[i]? = some x → x.1 < W.heap.size := fun i x hi => (h.rel i x hi).lt
  have cases_ : ∀ (i : Nat) (x : Nat × Int × Rl.Rows), (L ++ [(W.heap.size, n, f)])[i]? = some x → L[i]? = some x ∨ (i = L.length ∧ x = (W.heap.size, n, f)) := by
    intro i x hi
    by_cases hl : i < L.length
    · rw [List.getElem?_append_left hl] at hi; exact .inl hi
    · rw [List.getElem?_append_right (by omega)] at hi
      have h0 : i - L.length = 0 := by
        have := (List.getElem?_eq_some_iff.1 hi).1; simp at this; omega
      rw [h0] at hi
      simp at hi
      exact .inr ⟨by omega, hi.symm⟩
  refine ⟨fun i x hi => ?_, fun i j x y hi hj hne => ?_, fun i x hi => ?_, h.bel.alloc h.bel.size _⟩
  · rcases cases_ i x hi with hi | ⟨_, rfl⟩
    · exact (h.rel i x hi).alloc _
    · exact RelAt.new W n f
  · rcases cases_ i x hi with hi | ⟨h1, rfl⟩ <;> rcases cases_ j y hj with hj | ⟨h2, rfl⟩
    · exact h.apart i j x y hi hj hne
    · have := hlt i x hi; show x.1 ≠ W.heap.size; omega
    · have := hlt j y hj; show W.heap.size ≠ y.1; omega
    · omega
  · rcases cases_ i x hi with hi | ⟨_, rfl⟩
    · exact h.new i x hi
    · exact h.bel.size
/-- a variable is given a new value -/
theorem Held.put (h : Held w L W) (i : Nat) {b : Nat} {n m : Int} {f g : Rl.Rows} (hi : L[i]? = some (b, n, f)) (hR : RelAt W' b m g) (hg : W.grownBy W' (some b)) : Held w (L.set i (b, m, g)) W' := by
  have hlen : i < L.length := (List.getElem?_eq_some_iff.1 hi).1
  have old : ∀ (j : Nat) (x : Nat × Int × Rl.Rows), (L.set i (b, m, g))[j]? = some x → (j = i ∧ x = (b, m, g)) ∨ (j ≠ i ∧ L[j]? = some x) := by
    intro j x hj
    rw [List.getElem?_set] at hj
    by_cases e : i = j
    · subst e
      rw [if_pos rfl, if_pos hlen] at hj
      injection hj with hj
      exact .inl ⟨rfl, hj.symm⟩
    · rw [if_neg e] at hj; exact .inr ⟨fun e2 => e e2.symm, hj⟩
  refine ⟨fun j x hj => ?_, fun j k x y hj hk hne => ?_, fun j x hj => ?_, h.bel.grown hg h.bel.size (fun k e => by injection e with e; rw [← e]; exact h.new i _ hi)⟩
  · rcases old j x hj with ⟨_, rfl⟩ | ⟨hne, hj⟩
    · exact hR
    · exact (h.rel j x hj).kept hg (fun e => by injection e with e; exact h.apart j i x _ hj hi hne e)
  · rcases old j x hj with ⟨h1, rfl⟩ | ⟨h1, hj⟩ <;> rcases old k y hk with ⟨h2, rfl⟩ | ⟨h2, hk⟩
    · omega
    · exact h.apart i k (b, n, f) y hi hk (by omega)
    · exact h.apart j i x (b, n, f) hj hi (by omega)
    · exact h.apart j k x y hj hk hne
  · rcases old j x hj with ⟨_, rfl⟩ | ⟨_, hj⟩
    · exact h.new i (b, n, f) hi
    · exact h.new j x hj
/-- a new variable behind a region's head -/
theorem Held.pushed (h : Held w L W) {b : Nat} {n : Int} {f : Rl.Rows} (hb : Below W.heap.size W W') (hle : W.heap.size ≤ b) (hR : RelAt W' b n f) : Held w (L ++ [(b, n, f)]) W' := by
  have hlt : ∀ (i : Nat) (x : Nat × Int × Rl.Rows), L[i]? = some x → x.1 < b := fun i x hi => Nat.lt_of_lt_of_le (h.rel i x hi).lt hle
  have cases_ : ∀ (i : Nat) (x : Nat × Int × Rl.Rows), (L ++ [(b, n, f)])[i]? = some x → L[i]? = some x ∨ (i = L.length ∧ x = (b, n, f)) := by
    intro i x hi
    by_cases hl : i < L.length
    · rw [List.getElem?_append_left hl] at hi; exact .inl hi
    · rw [List.getElem?_append_right (by omega)] at hi
      have h0 : i - L.length = 0 := by
        have := (List.getElem?_eq_some_iff.1 hi).1; simp at this; omega
      rw [h0] at hi
      simp at hi
      exact .inr ⟨by omega, hi.symm⟩
  refine ⟨fun i x hi => ?_, fun i j x y hi hj hne => ?_, fun i x hi => ?_, h.bel.trans (hb.mono h.bel.size)⟩
  · rcases cases_ i x hi with hi | ⟨_, rfl⟩
    · exact (h.rel i x hi).below hb (h.rel i x hi).lt
    · exact hR
  · rcases cases_ i x hi with hi | ⟨h1, rfl⟩ <;> rcases cases_ j y hj with hj | ⟨h2, rfl⟩
    · exact h.apart i j x y hi hj hne
    · have := hlt i x hi; show x.1 ≠ b; omega
    · have := hlt j y hj; show b ≠ y.1; omega
    · omega
  · rcases cases_ i x hi with hi | ⟨_, rfl⟩
    · exact h.new i x hi
    · exact Nat.le_trans h.bel.size hle

/-! ### the operations on valid relations -/
theorem both_ok (n : Nat) (f g : Rl.Rows) (w : World) (hf : Rl.Ok n f) (hg : Rl.Ok n g) :
    Calls Tryd.prog 42 #[.agg (relC n f), .agg (relC n g)] w fun e w' => e = .returned (.tuple #[.agg (relC n (Rl.bothF n f g)), .int .i64 0]) ∧ Below w.heap.size w w' := by
  have h := both_any n n f g w hf.z hg.z
  have e := comb_ok hf hg (fun k => f k &&& g k)
  rw [e.1, e.2.1, e.2.2] at h
  exact h
theorem less_ok (n : Nat) (f g : Rl.Rows) (w : World) (hf : Rl.Ok n f) (hg : Rl.Ok n g) :
    Calls Tryd.prog 40 #[.agg (relC n f), .agg (relC n g)] w fun e w' => e = .returned (.tuple #[.agg (relC n (Rl.lessF n f g)), .int .i64 0]) ∧ Below w.heap.size w w' := by
  have h := less_any n n f g w hf.z hg.z
  have e := comb_ok hf hg (fun k => f k &&& ~~~ (g k))
  rw [e.1, e.2.1, e.2.2] at h
  exact h
theorem then_ok (n : Nat) (f g : Rl.Rows) (w : World) (hf : Rl.Ok n f) (hg : Rl.Ok n g) (hT : Tab w ∧ 0 < w.heap.size) :
    Calls Tryd.prog 18 #[.agg (relC n f), .agg (relC n g)] w fun e w' => e = .returned (.tuple #[.agg (relC n (Rl.thenF n f g)), .int .i64 0]) ∧ Below w.heap.size w w' := by
  have h := then_any n n f g w hf.z hg.z hT.1 hT.2
  have e := comb_ok hf hg (fun k => Rl.image g (f k))
  rw [e.1, e.2.1, e.2.2] at h
  exact h
theorem back_fine (n : Nat) (f : Rl.Rows) (w : World) (hf : Rl.Ok n f) (hT : Tab w ∧ 0 < w.heap.size) :
    Calls Tryd.prog 20 #[.agg (relC n f)] w fun e w' => e = .returned (.agg (relC n (Rl.backF n f))) ∧ Below w.heap.size w w' := back_yes n f w hf hT.1 hT.2
theorem plus_fine (n : Nat) (f : Rl.Rows) (w : World) (hf : Rl.Ok n f) (hT : Tab w ∧ 0 < w.heap.size) :
    Calls Tryd.prog 25 #[.agg (relC n f)] w fun e w' => e = .returned (.agg (relC n (Rl.plusF n f))) ∧ Below w.heap.size w w' := plus_yes n f w hf hT.1 hT.2
end Go.Proofs.YtknjdfgmejobfaaDoor
