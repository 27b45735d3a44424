/- Orders of a relation, plain: there is one exactly if the relation has no cycle. -/
import Derived.Test.YtknjdfgmejobfaaDoorTc
namespace Go.Rl

theorem idx_mem_take {L : List Nat} {p q : List Nat} {a c : Nat} (h : L = p ++ a :: q) (hd : L.Nodup) (hc : c ∈ p) : L.idxOf c < L.idxOf a := by
  subst h
  have hna : a ∉ p := fun ha => by
    rw [List.nodup_append] at hd
    exact hd.2.2 a ha a (by simp) rfl
  rw [List.idxOf_append, if_pos hc, List.idxOf_append, if_neg hna, List.idxOf_cons_self]
  have := List.idxOf_lt_length_of_mem hc
  omega
theorem top_in {n : Nat} {f : Rows} (hf : Ok n f) {L : List Nat} (h : topL n f = some L) : L ∈ ordL n f := by
  obtain ⟨h1, h2, h3⟩ := top_some hf h
  refine (mem_ordL hf L).2 ⟨h1, h2, fun a b hb => ?_⟩
  have hin := hf.in_ a b hb
  obtain ⟨p, q, e⟩ := List.append_of_mem ((h2 b).2 hin.2)
  exact idx_mem_take e h1 (h3 p b q e a hb)
theorem ordL_nil {n : Nat} {f : Rows} (hf : Ok n f) : ordL n f = [] ↔ topL n f = none := by
  constructor
  · intro h
    cases ht : topL n f with
    | none => rfl
    | some L => have := top_in hf ht; rw [h] at this; cases this
  · intro h
    unfold ordL; rw [h]; rfl
end Go.Rl
