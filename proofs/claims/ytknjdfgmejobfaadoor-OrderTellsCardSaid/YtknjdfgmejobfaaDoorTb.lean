/- Orders of a relation, plain: the lists that Orders answers are the linear extensions. -/
import Derived.Test.YtknjdfgmejobfaaDoorTa
import Derived.Test.YtknjdfgmejobfaaDoorSk
import Derived.Test.YtknjdfgmejobfaaDoorSl
namespace Go.Rl

theorem idx_ne {a b : Nat} {q : List Nat} (h : a ≠ b) : (a :: q).idxOf b = q.idxOf b + 1 := by rw [List.idxOf_cons, show (a == b) = false from beq_eq_false_iff_ne.2 h]; rfl
theorem good_iff (before : Rows) : ∀ (t : List Nat), t.Nodup → (Good before t ↔ ∀ a ∈ t, ∀ c ∈ t, bit before a c = true → t.idxOf c < t.idxOf a)
  | [], _ => by simp [Good]
  | a :: q, hd => by
    have hn := List.nodup_cons.1 hd
    have ih := good_iff before q hn.2
    unfold Good
    rw [ih]
    constructor
    · rintro ⟨h1, h2⟩ b hb c hc hbit
      rcases List.mem_cons.1 hb with rfl | hb
      · rw [h1 c hc] at hbit; cases hbit
      · have hba : b ≠ a := fun e => hn.1 (e ▸ hb)
        rcases List.mem_cons.1 hc with rfl | hc
        · rw [List.idxOf_cons_self, idx_ne (fun e => hba e.symm)]; omega
        · have hca : c ≠ a := fun e => hn.1 (e ▸ hc)
          rw [idx_ne (fun e => hca e.symm), idx_ne (fun e => hba e.symm)]
          have := h2 b hb c hc hbit
          omega
    · intro h
      refine ⟨fun c hc => ?_, fun b hb c hc hbit => ?_⟩
      · cases hbit : bit before a c
        · rfl
        · have := h a (by simp) c hc hbit
          rw [List.idxOf_cons_self] at this; omega
      · have := h b (by simp [hb]) c (by simp [hc]) hbit
        have hba : b ≠ a := fun e => hn.1 (e ▸ hb)
        have hca : c ≠ a := fun e => hn.1 (e ▸ hc)
        rw [idx_ne (fun e => hca e.symm), idx_ne (fun e => hba e.symm)] at this
        omega
theorem good_back {n : Nat} {f : Rows} (hf : Ok n f) {t : List Nat} (hd : t.Nodup) (h : ∀ a, a ∈ t ↔ a < n) : Good (backF n f) t ↔ ∀ a b, bit f a b = true → t.idxOf a < t.idxOf b := by
  rw [good_iff _ t hd]
  constructor
  · intro h2 a b hb
    have hin := hf.in_ a b hb
    exact h2 b ((h b).2 hin.2) a ((h a).2 hin.1) (by rw [back_ok hf]; exact hb)
  · intro h2 a _ c _ hb
    rw [back_ok hf] at hb
    exact h2 c a hb
theorem path_idx {f : Rows} {t : List Nat} (h : ∀ a b, bit f a b = true → t.idxOf a < t.idxOf b) {a b : Nat} (p : Path f a b) : t.idxOf a < t.idxOf b := by
  induction p with
  | one hb => exact h _ _ hb
  | step hb _ ih => exact Nat.lt_trans (h _ _ hb) ih
/-- Orders answers the linear extensions and nothing else -/
theorem mem_ordL {n : Nat} {f : Rows} (hf : Ok n f) (x : List Nat) : x ∈ ordL n f ↔ x.Nodup ∧ (∀ a, a ∈ x ↔ a < n) ∧ ∀ a b, bit f a b = true → x.idxOf a < x.idxOf b := by
  have hbits : ∀ a, (below (n : Int)).getLsbD a = true ↔ a < n := fun a => by
    by_cases ha : a < 64
    · rw [below_getN n a ha, decide_eq_true_eq]
    · constructor
      · intro h; exact absurd (Bx.lt64 h) ha
      · intro h; have := hf.le; omega
  unfold ordL
  by_cases hac : (topL n f).isSome = true
  · rw [if_pos hac, mem_ext _ _ _ _ _ (Bx.card_le _)]
    constructor
    · rintro ⟨t, e, h1, h2, h3⟩
      have h4 : ∀ a, a ∈ t ↔ a < n := fun a => (h2 a).trans (hbits a)
      rw [e, List.nil_append]
      exact ⟨h1, h4, (good_back hf h1 h4).1 h3⟩
    · rintro ⟨h1, h2, h3⟩
      exact ⟨x, by simp, h1, fun a => (h2 a).trans (hbits a).symm, (good_back hf h1 h2).2 h3⟩
  · rw [if_neg hac]
    simp only [List.not_mem_nil, false_iff]
    rintro ⟨_, _, h3⟩
    apply hac
    rw [top_iff hf]
    intro a p
    exact Nat.lt_irrefl _ (path_idx h3 p)
end Go.Rl
