/- Relations, plain: what a shortest cycle is; walks by composition. -/
import Derived.Test.YtknjdfgmejobfaaDoorRq
namespace Go.Rl

/-! ### walks -/
theorem Walk.add {f : Rows} {j k a b c : Nat} (p : Walk f j a b) (q : Walk f k b c) : Walk f (j + k) a c := by
  induction p with
  | one h => rw [Nat.add_comm]; exact .step h q
  | @step j a x b h _ ih => rw [show j + 1 + k = (j + k) + 1 by omega]; exact .step h (ih q)
/-- the walks of j + 1 steps as a relation -/
def powF (n : Nat) (f : Rows) : Nat → Rows
  | 0 => f
  | j + 1 => thenF n (powF n f j) f
theorem ok_pow {n : Nat} {f : Rows} (hf : Ok n f) : ∀ j, Ok n (powF n f j)
  | 0 => hf
  | j + 1 => ok_then (ok_pow hf j) hf
theorem pow_bit {n : Nat} {f : Rows} (hf : Ok n f) : ∀ (j a b : Nat), bit (powF n f j) a b = true ↔ Walk f (j + 1) a b
  | 0, a, b => ⟨.one, fun p => by
    rcases p.inv with ⟨_, h⟩ | ⟨j, c, h, _, q⟩
    · exact h
    · have := q.pos; omega⟩
  | j + 1, a, b => by
    show bit (thenF n (powF n f j) f) a b = true ↔ _
    rw [then_iff (ok_pow hf j)]
    constructor
    · rintro ⟨c, h1, h2⟩; exact ((pow_bit hf j a c).1 h1).snoc h2
    · intro p
      have key : ∀ {k x y : Nat}, Walk f k x y → ∀ m, k = m + 1 → (m = 0 ∧ bit f x y = true) ∨ ∃ c, (∃ i, m = i + 1 ∧ Walk f (i + 1) x c) ∧ bit f c y = true := by
        intro k x y p
        induction p with
        | one h => intro m hm; exact .inl ⟨by omega, h⟩
        | @step k x c y h q ih =>
          intro m hm
          have hk := q.pos
          obtain ⟨m', rfl⟩ : ∃ m', k = m' + 1 := ⟨k - 1, by omega⟩
          rcases ih m' rfl with ⟨h0, h1⟩ | ⟨d, ⟨i, h0, h1⟩, h2⟩
          · exact .inr ⟨c, ⟨0, by omega, .one h⟩, h1⟩
          · exact .inr ⟨d, ⟨i + 1, by omega, .step h h1⟩, h2⟩
      rcases key p (j + 1) rfl with ⟨h0, _⟩ | ⟨c, ⟨i, h0, h1⟩, h2⟩
      · omega
      · obtain rfl : i = j := by omega
        exact ⟨c, (pow_bit hf i a c).2 h1, h2⟩

/-! ### the closure and cycles -/
theorem plus_irr {n : Nat} {f : Rows} (hf : Ok n f) : irrF n (plusF n f) = true ↔ ∀ a, ¬ Path f a a := by
  rw [irr_iff (ok_plus hf)]
  constructor
  · intro h a p
    have := (plus_bit hf).2 p
    rw [h a] at this; cases this
  · intro h a
    cases hb : bit (plusF n f) a a
    · rfl
    · exact absurd ((plus_bit hf).1 hb) (h a)
theorem top_round {n : Nat} {f : Rows} (hf : Ok n f) : (topL n f).isSome = irrF n (plusF n f) := by
  rw [Bool.eq_iff_iff, top_iff hf, plus_irr hf]
/-- what Ring gives where there is a cycle -/
structure Cyc (n : Nat) (f : Rows) (R : List Nat) : Prop where
  pos : 0 < R.length
  len : R.length ≤ 65
  lt : ∀ x ∈ R, x < n
  next : ∀ i x y, R[i]? = some x → R[(i + 1) % R.length]? = some y → bit f x y = true
  nodup : R.Nodup
  least : ∀ x ∈ R, R.getD 0 0 ≤ x
  short : ∀ j a, j < R.length → ¬ Walk f j a a
  round : ∃ a, Walk f R.length a a
theorem dist_lt {n : Nat} {f : Rows} (hf : Ok n f) {a k x : Nat} (h : Dist f a k x) : x < n := (h.1.path.lt hf).1
theorem ring_cyc {n : Nat} {f : Rows} (hf : Ok n f) : (ringL n f = [] ∧ ∀ a, ¬ Path f a a) ∨ Cyc n f (ringL n f) := by
  have hb := best_spec hf n (Nat.le_refl _)
  unfold ringL
  cases ho : bestGo (backF n f) n with
  | none =>
    refine .inl ⟨rfl, fun a p => ?_⟩
    exact hb.1 ho a (p.lt hf).1 p
  | some sm =>
    obtain ⟨s, best⟩ := sm
    obtain ⟨h1, h2, h3, h4⟩ := hb.2 s best ho
    obtain ⟨l1, l2⟩ := lay_some hf h1 h2
    have hpos : 0 < best.length := l1.1.pos
    obtain ⟨m, hm⟩ : ∃ m, best.length = m + 1 := ⟨best.length - 1, by omega⟩
    have hs : Dist f s (m + 1) s := by rw [← hm]; exact l1
    obtain ⟨r1, r2, r3, r4⟩ := way_spec hf l2 m s (by omega) hs
    right
    show Cyc n f (s :: wayGo f best (best.length - 1) s)
    rw [show best.length - 1 = m by omega]
    generalize hW : wayGo f best m s = way at *
    have hlen : (s :: way).length = m + 1 := by simp [r1]
    -- the item at place i has distance m + 1 - i
    have hdist : ∀ i x, (s :: way)[i]? = some x → Dist f s (m + 1 - i) x := by
      intro i x hx
      cases i with
      | zero => simp at hx; subst hx; exact hs
      | succ i => simp at hx; rw [show m + 1 - (i + 1) = m - i by omega]; exact r2 i x hx
    have hwalk : ∀ i x, (s :: way)[i]? = some x → i = 0 ∨ Walk f i s x := by
      intro i
      induction i with
      | zero => intro x _; exact .inl rfl
      | succ i ih =>
        intro x hx
        have hi : i < (s :: way).length := by have := (List.getElem?_eq_some_iff.1 hx).1; omega
        have hy : (s :: way)[i]? = some (s :: way)[i] := List.getElem?_eq_getElem hi
        have hb := r3 i _ x hy hx
        right
        rcases ih _ hy with h0 | h0
        · subst h0; simp at hb; exact .one hb
        · exact h0.snoc hb
    have hnd : (s :: way).Nodup := by
      unfold List.Nodup
      rw [List.pairwise_iff_getElem]
      intro i j hi hj hij e
      have hi' : (s :: way)[i]? = some (s :: way)[j] := by rw [← e]; exact List.getElem?_eq_getElem hi
      have hj' : (s :: way)[j]? = some (s :: way)[j] := List.getElem?_eq_getElem hj
      have := (hdist i _ hi').unique (hdist j _ hj')
      omega
    have hall : ∀ x ∈ s :: way, x < n := fun x hx => by
      obtain ⟨i, hi, he⟩ := List.getElem_of_mem hx
      exact dist_lt hf (hdist i x (by rw [List.getElem?_eq_getElem hi, he]))
    have h48 : (s :: way).length ≤ 48 := by
      have hn := hf.le
      have hle : (s :: way).length ≤ (List.range 48).length := by
        apply List.Nodup.length_le_of_subset hnd
        intro x hx
        have := hall x hx
        rw [List.mem_range]; omega
      simpa using hle
    refine ⟨by simp, by omega, hall, fun i x y hx hy => ?_, hnd, fun x hx => ?_, fun j a hj p => ?_, ⟨s, by rw [hlen]; exact hs.1⟩⟩
    · rw [hlen] at hy
      have hi : i < m + 1 := by have := (List.getElem?_eq_some_iff.1 hx).1; omega
      by_cases hlast : i = m
      · subst hlast
        rw [Nat.mod_self] at hy
        simp at hy; subst hy
        exact r4 x hx
      · rw [Nat.mod_eq_of_lt (by omega)] at hy
        exact r3 i x y hx hy
    · show s ≤ x
      apply Nat.le_of_not_lt
      intro hlt
      obtain ⟨i, hi, he⟩ := List.getElem_of_mem hx
      have hg : (s :: way)[i]? = some x := by rw [List.getElem?_eq_getElem hi, he]
      have hd := hdist i x hg
      have hi' : i < m + 1 := by omega
      rcases hwalk i x hg with h0 | h0
      · subst h0; simp at hg; omega
      · have p := hd.1.add h0
        have := h4 x hlt _ p
        omega
    · have := h3 a ((p.path.lt hf).1) j p
      omega
end Go.Rl
