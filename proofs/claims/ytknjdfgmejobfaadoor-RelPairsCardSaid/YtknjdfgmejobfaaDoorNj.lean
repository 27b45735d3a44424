/- two relations compared. -/
import Derived.Test.YtknjdfgmejobfaaDoorNi
import Derived.Laws.StructEq
import Derived.ChangeKeysEq
namespace Go.Proofs.YtknjdfgmejobfaaDoor
open Go.RowKit Go.Shelf

/-- are the rows the same? -/
def rowsEq (f g : Rl.Rows) (l : List Nat) : Bool := l.all fun i => f i == g i
def relEq (n m : Int) (f g : Rl.Rows) : Bool := n == m && rowsEq f g (List.range 48)
theorem relEq_iff {n m : Int} {f g : Rl.Rows} (zf : Rl.Z f) (zg : Rl.Z g) : relEq n m f g = true ↔ n = m ∧ f = g := by
  unfold relEq rowsEq
  rw [Bool.and_eq_true, beq_iff_eq, List.all_eq_true]
  constructor
  · rintro ⟨h1, h2⟩
    refine ⟨h1, funext fun i => ?_⟩
    by_cases hi : i < 48
    · exact beq_iff_eq.1 (h2 i (List.mem_range.2 hi))
    · rw [zf i (by omega), zg i (by omega)]
  · rintro ⟨h1, h2⟩
    exact ⟨h1, fun i _ => by rw [h2]; simp⟩
theorem rows_extract (n : Int) (f : Rl.Rows) (i : Nat) (hi : i < 48) : ((relC n f).extract 1 49)[i * 1]? = some (.int .u64 (Bv.U (f i))) := by
  rw [Nat.mul_one, Array.getElem?_extract, if_pos (by rw [relC_size]; omega), relC_row _ _ _ hi]
theorem run_part_rows (n : Int) (f : Rl.Rows) (w : World) : (part 24 (relC n f) 1).run Tryd.prog w = .ok (.agg ((relC n f).extract 1 49)) w := by kernel_rfl
theorem run_part_num (n : Int) (f : Rl.Rows) (w : World) : (part 3 (relC n f) 0).run Tryd.prog w = .ok (.int .i64 n) w := by kernel_rfl
theorem uSet : Tryd.prog.underlying 23 = some (.int .u64) := by kernel_rfl
theorem uInt : Tryd.prog.underlying 3 = some (.int .i64) := by kernel_rfl
theorem eqItems_rows (d : Nat) (n m : Int) (f g : Rl.Rows) (w : World) : ∀ (is : List Nat), (∀ i ∈ is, i < 48) →
    (Op.eqItems (d + 1) 23 1 ((relC n f).extract 1 49) ((relC m g).extract 1 49) is).run Tryd.prog w = .ok (rowsEq f g is) w
  | [], _ => by simp [Op.eqItems, rowsEq]
  | i :: is, h => by
    have hi := h i List.mem_cons_self
    have ih := eqItems_rows d n m f g w is (fun j hj => h j (List.mem_cons_of_mem _ hj))
    simp only [Op.eqItems, Sem.run_bind, run_part_set w _ _ _ (rows_extract n f i hi), run_part_set w _ _ _ (rows_extract m g i hi), Result.andThen_ok, run_equalIn_int w d _ .u64 .u64 _ _ uSet]
    have e : (Bv.U (f i) == Bv.U (g i)) = (f i == g i) := by
      rw [Bool.eq_iff_iff, beq_iff_eq, beq_iff_eq, Bv.U_inj]
    rw [e]
    cases hb : f i == g i
    · simp [rowsEq, hb]
    · simp only [Bool.not_true, Bool.false_eq_true, if_false, ih]
      simp [rowsEq, hb]
theorem flds : (Tryd.prog.fieldsOf 26).toList.map (fun f => (f.name, f.type, f.offset)) = [("N", 3, 0), ("To", 24, 1)] := by kernel_rfl
theorem run_rel_equal (n m : Int) (f g : Rl.Rows) (d : Nat) (w : World) : (Op.equalIn (d + 3) 26 (.agg (relC n f)) (.agg (relC m g))).run Tryd.prog w = .ok (relEq n m f g) w := by
  rw [show d + 3 = (d + 2) + 1 from rfl, run_equalIn_struct w (d + 2) _ _ _ uRel (by kernel_rfl)]
  have hf := flds
  generalize (Tryd.prog.fieldsOf 26).toList = fs at hf ⊢
  obtain ⟨a, b, rfl⟩ : ∃ a b, fs = [a, b] := by
    rcases fs with _ | ⟨a, _ | ⟨b, _ | ⟨c, t⟩⟩⟩
    · simp at hf
    · simp at hf
    · exact ⟨a, b, rfl⟩
    · simp at hf
  simp only [List.map_cons, List.map_nil, List.cons.injEq, Prod.mk.injEq, and_true] at hf
  obtain ⟨⟨a1, a2, a3⟩, b1, b2, b3⟩ := hf
  simp only [Op.eqFields, a1, a2, a3, b1, b2, b3]
  rw [if_pos (by decide), if_pos (by decide)]
  simp only [Sem.run_bind, run_part_num, run_part_rows, Result.andThen_ok, run_equalIn_int w (d + 1) _ .i64 .i64 _ _ uInt]
  unfold relEq
  cases hb : n == m
  · simp
  · obtain ⟨ti, hti⟩ := Option.isSome_iff_exists.1 (show (Tryd.prog.info? 23).isSome = true by kernel_rfl)
    simp only [Bool.not_true, Bool.false_eq_true, if_false, Sem.run_bind, run_part_num, run_part_rows, Result.andThen_ok]
    rw [show d + 2 = (d + 1) + 1 from rfl, run_equalIn_array w (d + 1) _ _ uArr hti]
    rw [show Tryd.prog.cellsOf 23 = 1 by kernel_rfl, eqItems_rows d n m f g w _ (fun i hi => List.mem_range.1 hi)]
    cases rowsEq f g (List.range 48) <;> simp
theorem run_rel_eql (n m : Int) (f g : Rl.Rows) (w : World) : (binOp .eql 26 (.agg (relC n f)) (.agg (relC m g))).run Tryd.prog w = .ok (.bool (relEq n m f g)) w := by
  rw [run_eql_struct, run_rel_equal n m f g 9997]; rfl
theorem run_rel_neq (n m : Int) (f g : Rl.Rows) (w : World) : (binOp .neq 26 (.agg (relC n f)) (.agg (relC m g))).run Tryd.prog w = .ok (.bool (!relEq n m f g)) w := by
  rw [run_neq_struct, run_rel_equal n m f g 9997]; rfl
end Go.Proofs.YtknjdfgmejobfaaDoor
