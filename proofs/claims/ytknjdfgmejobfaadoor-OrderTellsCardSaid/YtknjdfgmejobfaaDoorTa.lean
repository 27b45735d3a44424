/- Orders of a relation, plain: which lists they are. -/
import Derived.Test.YtknjdfgmejobfaaDoorSa
import Derived.Test.YtknjdfgmejobfaaDoorLb
namespace Go.Rl

/-- no item of t comes ahead of one of its predecessors, nor does an item precede itself -/
def Good (before : Rows) : List Nat → Prop
  | [] => True
  | a :: q => (∀ c ∈ a :: q, bit before a c = false) ∧ Good before q
theorem mayB_iff (before : Rows) (left : BitVec 64) (a : Nat) : mayB before left a = true ↔ ∀ c, left.getLsbD c = true → bit before a c = false := by
  unfold mayB
  rw [beq_iff_eq]
  constructor
  · intro h c hc
    have h2 := congrArg (fun s => s.getLsbD c) h
    simp only [BitVec.getLsbD_and, hc, Bool.and_true] at h2
    rw [Bv.zero_get] at h2
    exact h2
  · intro h
    apply Bv.ext_get
    intro i hi
    rw [BitVec.getLsbD_and, Bv.zero_get]
    cases hl : left.getLsbD i
    · simp
    · rw [Bool.and_true]; exact h i hl
theorem mem_ext (before : Rows) : ∀ (k : Nat) (left : BitVec 64) (l x : List Nat), Bx.card left ≤ k →
    (x ∈ ext before k left l ↔ ∃ t, x = l ++ t ∧ t.Nodup ∧ (∀ a, a ∈ t ↔ left.getLsbD a = true) ∧ Good before t)
  | k, left, l, x, hk => by
    by_cases hz : left = 0#64
    · subst hz
      rw [ext_nil, List.mem_singleton]
      constructor
      · rintro rfl
        exact ⟨[], by simp, by simp, fun a => by rw [Bv.zero_get]; simp, trivial⟩
      · rintro ⟨t, rfl, _, h, _⟩
        cases t with
        | nil => simp
        | cons a t => have := (h a).1 (by simp); rw [Bv.zero_get] at this; cases this
    · match k, hk with
      | 0, hk =>
        exfalso
        have h1 := Bs.elems_step hz
        unfold Bx.card at hk
        rw [h1] at hk
        simp at hk
      | k + 1, hk =>
        rw [ext_step hz]
        unfold extR
        rw [List.mem_flatMap]
        constructor
        · rintro ⟨a, ha, hx⟩
          rw [Bs.mem_elems] at ha
          split at hx
          · rename_i hm
            rw [mayB_iff] at hm
            have hcm := card_minus left a ha
            obtain ⟨t, rfl, h1, h2, h3⟩ := (mem_ext before k _ _ _ (by omega)).1 hx
            have h2' : ∀ b, b ∈ t ↔ left.getLsbD b = true ∧ b ≠ a := fun b => by
              rw [h2, BitVec.getLsbD_and, Bool.and_eq_true, BitVec.getLsbD_not, Bv.bit_get a b (Bx.lt64 ha)]
              simp only [Bool.and_eq_true, decide_eq_true_eq, Bool.not_eq_true', decide_eq_false_iff_not]
              exact ⟨fun h => ⟨h.1, h.2.2⟩, fun h => ⟨h.1, Bx.lt64 h.1, h.2⟩⟩
            refine ⟨a :: t, by simp, List.nodup_cons.2 ⟨fun h => ((h2' a).1 h).2 rfl, h1⟩, fun b => ?_, fun c hc => ?_, h3⟩
            · rw [List.mem_cons, h2']
              constructor
              · rintro (rfl | h)
                · exact ha
                · exact h.1
              · intro h
                by_cases e : b = a
                · exact .inl e
                · exact .inr ⟨h, e⟩
            · rcases List.mem_cons.1 hc with rfl | hc
              · exact hm _ ha
              · exact hm _ ((h2' c).1 hc).1
          · cases hx
        · rintro ⟨t, rfl, h1, h2, h3⟩
          cases t with
          | nil =>
            exfalso
            have h4 := Bs.low_bit hz
            exact absurd ((h2 _).2 h4) (by simp)
          | cons a t =>
            have ha := (h2 a).1 (by simp)
            refine ⟨a, Bs.mem_elems.2 ha, ?_⟩
            rw [if_pos ((mayB_iff _ _ _).2 fun c hc => h3.1 c ((h2 c).2 hc))]
            have hcm := card_minus left a ha
            refine (mem_ext before k _ _ _ (by omega)).2 ⟨t, by simp, (List.nodup_cons.1 h1).2, fun b => ?_, h3.2⟩
            rw [BitVec.getLsbD_and, Bool.and_eq_true, BitVec.getLsbD_not, Bv.bit_get a b (Bx.lt64 ha)]
            simp only [Bool.and_eq_true, decide_eq_true_eq, Bool.not_eq_true', decide_eq_false_iff_not]
            constructor
            · intro hb
              have hb2 := (h2 b).1 (by simp [hb])
              exact ⟨hb2, Bx.lt64 hb2, fun e => (List.nodup_cons.1 h1).1 (e ▸ hb)⟩
            · rintro ⟨hb, _, hne⟩
              rcases List.mem_cons.1 ((h2 b).2 hb) with h | h
              · exact absurd h hne
              · exact h
end Go.Rl
