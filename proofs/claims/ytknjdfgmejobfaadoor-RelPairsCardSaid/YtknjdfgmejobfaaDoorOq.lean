/- what opens a list of bytes that comes in. -/
import Derived.Test.YtknjdfgmejobfaaDoorOp
namespace Go.By
open Go.ChangeShapes Go.WideShapes Go.RowKit
variable {H : Type} {enc : TypeId × Value → H} {P : Program} {w : World}
/-- a list's cells, in the form that my walks ask -/
theorem open_bytes {t e : TypeId} {fuel : Nat} {A : Option Addr} {len cap : Nat} {x : DataW H × List MemPlace} (ht : P.underlying t = some (.slice e)) (he : P.underlying e = some (.int .u8)) (hc : P.cellsOf e = 1)
    (h : DataW.trod enc P w 0 (fun _ => true) true fuel t (Value.slice A len cap).cells.toList = some x) :
    ∃ zs : List Int, (0 < len → ∃ b off, A = some ⟨b, off, none⟩ ∧ b < w.heap.size ∧ ∀ i, i < len → w.cell? ⟨b, off + i, none⟩ = some (.int .u8 (zs.getD i 0))) ∧ ∀ i, 0 ≤ zs.getD i 0 ∧ zs.getD i 0 ≤ 255 := by
  rcases open_ints ht he hc h with ⟨e1, _⟩ | ⟨a, len', cap', zs, e1, _, hle, _, hzl, _, hcell, hwf⟩
  · simp only [Value.cells, List.cons.injEq, and_true] at e1
    injection e1 with _ e2 _
    exact ⟨[], fun h => by omega, fun i => by simp⟩
  · simp only [Value.cells, List.cons.injEq, and_true] at e1
    injection e1 with e0 e2 _
    subst e0 e2
    simp only [if_true] at hzl
    refine ⟨zs, fun hp => ?_, fun i => by rw [List.getD_eq_getElem?_getD]; exact range_u8 hwf i⟩
    obtain ⟨b, off, rfl, hj⟩ := ints_at hcell (by omega)
    exact ⟨b, off, rfl, World.block_lt_of_cell? w _ (hj 0 (by omega)), fun i hi => hj i (by omega)⟩
/-- the same for a list of ints -/
theorem open_intsl {t e : TypeId} {fuel : Nat} {A : Option Addr} {len cap : Nat} {x : DataW H × List MemPlace} (ht : P.underlying t = some (.slice e)) (he : P.underlying e = some (.int .i64)) (hc : P.cellsOf e = 1)
    (h : DataW.trod enc P w 0 (fun _ => true) true fuel t (Value.slice A len cap).cells.toList = some x) :
    ∃ zs : List Int, zs.length = len ∧ len ≤ maxLen ∧ (0 < len → ∃ b off, A = some ⟨b, off, none⟩ ∧ b < w.heap.size ∧ ∀ i, i < len → w.cell? ⟨b, off + i, none⟩ = some (.int .i64 (zs.getD i 0))) ∧ (A = none → len = 0 ∧ cap = 0) ∧ ∀ z ∈ zs, (Lit.int .i64 z).wf = true := by
  rcases open_ints ht he hc h with ⟨e1, _⟩ | ⟨a, len', cap', zs, e1, _, hle, hcm, hzl, _, hcell, hwf⟩
  · simp only [Value.cells, List.cons.injEq, and_true] at e1
    injection e1 with _ e2 e3
    exact ⟨[], by simp [e2], by omega, fun h => by omega, fun _ => ⟨e2, e3⟩, fun i => by simp⟩
  · simp only [Value.cells, List.cons.injEq, and_true] at e1
    injection e1 with e0 e2 e3
    subst e0 e2 e3
    simp only [if_true] at hzl
    refine ⟨zs.take len, by simp; omega, by omega, fun hp => ?_, fun h => (by cases h), fun z hz => hwf z (List.mem_of_mem_take hz)⟩
    obtain ⟨b, off, rfl, hj⟩ := ints_at hcell (by omega)
    refine ⟨b, off, rfl, World.block_lt_of_cell? w _ (hj 0 (by omega)), fun i hi => ?_⟩
    rw [hj i (by omega)]
    simp [List.getD_eq_getElem?_getD, List.getElem?_take, hi]
end Go.By
