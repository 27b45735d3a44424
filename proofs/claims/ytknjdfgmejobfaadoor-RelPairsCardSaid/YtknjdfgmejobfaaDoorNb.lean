/- Relations in memory: the cells of an api.Rel, symbolic. -/
import Derived.Test.YtknjdfgmejobfaaDoorNa
import Derived.Deep.MidRow
import Derived.Deep.WholeRow
import Derived.Lib.QuietBelow
namespace Go.Proofs.YtknjdfgmejobfaaDoor
open Go.RowKit Go.Shelf

/-- the cells of a relation -/
def relC (n : Int) (f : Rl.Rows) : Array Value := (Value.int .i64 n :: (List.range 48).map fun i => Value.int .u64 (Bv.U (f i))).toArray
theorem relC_size (n : Int) (f : Rl.Rows) : (relC n f).size = 49 := by simp [relC]
theorem relC_zero (n : Int) (f : Rl.Rows) : (relC n f)[0]? = some (.int .i64 n) := by simp [relC]
theorem relC_row (n : Int) (f : Rl.Rows) (i : Nat) (hi : i < 48) : (relC n f)[1 + i]? = some (.int .u64 (Bv.U (f i))) := by
  rw [Nat.add_comm]; simp [relC, hi]
theorem relC_one (n : Int) (f : Rl.Rows) : (relC n f).all (·.oneCell') = true := by
  rw [Array.all_eq_true_iff_forall_mem]
  intro v hv
  simp only [relC, List.mem_toArray, List.mem_cons, List.mem_map] at hv
  rcases hv with rfl | ⟨i, _, rfl⟩ <;> rfl
/-- row a replaced -/
def upd (f : Rl.Rows) (a : Nat) (s : BitVec 64) : Rl.Rows := fun i => if i = a then s else f i
theorem upd_same (f : Rl.Rows) (a : Nat) (s : BitVec 64) : upd f a s a = s := if_pos rfl
theorem upd_other (f : Rl.Rows) {a i : Nat} (s : BitVec 64) (h : i ≠ a) : upd f a s i = f i := if_neg h
theorem relC_set (n : Int) (f : Rl.Rows) (a : Nat) (s : BitVec 64) : (relC n f).setIfInBounds (1 + a) (.int .u64 (Bv.U s)) = relC n (upd f a s) := by
  apply Array.ext_getElem?
  intro i
  rw [Array.getElem?_setIfInBounds]
  by_cases h : 1 + a = i
  · subst h
    rw [if_pos rfl]
    by_cases ha : a < 48
    · rw [if_pos (by rw [relC_size]; omega), relC_row _ _ _ ha, upd_same]
    · rw [if_neg (by rw [relC_size]; omega), Array.getElem?_eq_none (by rw [relC_size]; omega)]
  · rw [if_neg h]
    cases i with
    | zero => rw [relC_zero, relC_zero]
    | succ i =>
      by_cases hi : i < 48
      · have e : i + 1 = 1 + i := Nat.add_comm _ _
        rw [e, relC_row _ _ _ hi, relC_row _ _ _ hi, upd_other f s (by omega)]
      · rw [Array.getElem?_eq_none (by rw [relC_size]; omega), Array.getElem?_eq_none (by rw [relC_size]; omega)]
theorem relC_setN (n m : Int) (f : Rl.Rows) : (relC n f).setIfInBounds 0 (.int .i64 m) = relC m f := by
  apply Array.ext_getElem?
  intro i
  rw [Array.getElem?_setIfInBounds]
  cases i with
  | zero => rw [if_pos rfl, if_pos (by rw [relC_size]; omega), relC_zero]
  | succ i =>
    rw [if_neg (by omega)]
    by_cases hi : i < 48
    · have e : i + 1 = 1 + i := Nat.add_comm _ _
      rw [e, relC_row _ _ _ hi, relC_row _ _ _ hi]
    · rw [Array.getElem?_eq_none (by rw [relC_size]; omega), Array.getElem?_eq_none (by rw [relC_size]; omega)]
theorem relC_inj {n m : Int} {f g : Rl.Rows} (h : relC n f = relC m g) : n = m ∧ ∀ i, i < 48 → f i = g i := by
  constructor
  · have h1 := relC_zero n f
    rw [h, relC_zero] at h1
    injection h1 with h1; injection h1 with _ h1; exact h1.symm
  · intro i hi
    have h1 := relC_row n f i hi
    rw [h, relC_row _ _ _ hi] at h1
    injection h1 with h1; injection h1 with _ h1; exact (Bv.U_inj.1 h1).symm

/-- block b is a variable that holds a relation -/
def RelAt (w : World) (b : Nat) (n : Int) (f : Rl.Rows) : Prop := w.heap[b]? = some (.cells (relC n f) 26 (0, 0))
theorem RelAt.lt {w : World} {b : Nat} {n : Int} {f : Rl.Rows} (h : RelAt w b n f) : b < w.heap.size := (Array.getElem?_eq_some_iff.1 h).1
theorem RelAt.num {w : World} {b : Nat} {n : Int} {f : Rl.Rows} (h : RelAt w b n f) : w.cell? ⟨b, 0, none⟩ = some (.int .i64 n) := by
  rw [cell_of_row w b 0 _ _ _ h, relC_zero]
theorem RelAt.row {w : World} {b : Nat} {n : Int} {f : Rl.Rows} (h : RelAt w b n f) (i : Nat) (hi : i < 48) : w.cell? ⟨b, 1 + i, none⟩ = some (.int .u64 (Bv.U (f i))) := by
  rw [cell_of_row w b (1 + i) _ _ _ h, relC_row _ _ _ hi]
theorem RelAt.free {w : World} {b : Nat} {n : Int} {f : Rl.Rows} (h : RelAt w b n f) (i : Nat) : w.frozen? ⟨b, i, none⟩ = false := frozen_of_row w b i _ _ h
theorem RelAt.new (w : World) (n : Int) (f : Rl.Rows) : RelAt (w.alloc (.cells (relC n f) 26)) w.heap.size n f := World.alloc_heap_new w _
theorem RelAt.alloc {w : World} {b : Nat} {n : Int} {f : Rl.Rows} (h : RelAt w b n f) (o : Obj) : RelAt (w.alloc o) b n f := (Below.heap_alloc _ _ _ h.lt).trans h
theorem RelAt.drew {w : World} {b : Nat} {n : Int} {f : Rl.Rows} (h : RelAt w b n f) : RelAt w.drew b n f := h
theorem RelAt.below {k : Nat} {w w' : World} {b : Nat} {n : Int} {f : Rl.Rows} (h : RelAt w b n f) (hb : Below k w w') (hk : b < k) : RelAt w' b n f := (hb.block b hk).trans h
theorem RelAt.kept {w w' : World} {row : Option Nat} {b : Nat} {n : Int} {f : Rl.Rows} (h : RelAt w b n f) (hg : w.grownBy w' row) (hne : some b ≠ row) : RelAt w' b n f := (hg.block b h.lt hne).trans h
theorem RelAt.set {w : World} {b : Nat} {n : Int} {f : Rl.Rows} (h : RelAt w b n f) (a : Nat) (s : BitVec 64) : RelAt (w.setCell ⟨b, 1 + a, none⟩ (.int .u64 (Bv.U s))) b n (upd f a s) := by
  have := Rf.set_cells (i := 1 + a) (.int .u64 (Bv.U s)) h
  unfold RelAt
  rw [this, relC_set]
theorem RelAt.setN {w : World} {b : Nat} {n : Int} {f : Rl.Rows} (h : RelAt w b n f) (m : Int) : RelAt (w.setCell ⟨b, 0, none⟩ (.int .i64 m)) b m f := by
  have := Rf.set_cells (i := 0) (.int .i64 m) h
  unfold RelAt
  rw [this, relC_setN]
theorem RelAt.other {w : World} {b : Nat} {n : Int} {f : Rl.Rows} (h : RelAt w b n f) (p : Addr) (v : Value) (hne : b ≠ p.block) : RelAt (w.setCell p v) b n f := (Below.heap_setCell _ _ _ _ hne).trans h

theorem uRel : Tryd.prog.underlying 26 = some (.struct (Tryd.prog.fieldsOf 26)) := by kernel_rfl
theorem sRel : (Tryd.prog.info? 26).map (·.size) = some 49 := by kernel_rfl
theorem sRelC (n : Int) (f : Rl.Rows) : (Tryd.prog.info? 26).map (·.size) = some (relC n f).size := by rw [sRel, relC_size]
theorem uArr : Tryd.prog.underlying 24 = some (.array 48 23) := by kernel_rfl
theorem sArr : (Tryd.prog.info? 24).map (·.size) = some 48 := by kernel_rfl
/-- the rows as an array -/
def rowsC (f : Rl.Rows) : List Value := (List.range 48).map fun i => Value.int .u64 (Bv.U (f i))
theorem rowsC_len (f : Rl.Rows) : (rowsC f).length = 48 := by simp [rowsC]
theorem rowsC_get (f : Rl.Rows) (i : Nat) (hi : i < 48) : (rowsC f)[i]? = some (.int .u64 (Bv.U (f i))) := by simp [rowsC, hi]
theorem RelAt.range {w : World} {b : Nat} {n : Int} {f : Rl.Rows} (h : RelAt w b n f) : w.rangeAt b 1 (rowsC f) := by
  intro j v hv
  have hj : j < 48 := by have := (List.getElem?_eq_some_iff.1 hv).1; rwa [rowsC_len] at this
  rw [rowsC_get f j hj] at hv
  rw [h.row j hj, hv]
/-- the zero relation, as the program's table gives it -/
def zeroR : Rl.Rows := fun _ => 0#64
theorem zero_rel (w : World) : (zeroValue 26).run Tryd.prog w = .ok (.agg (relC 0 zeroR)) w := by kernel_rfl

/-- a relation stored whole -/
theorem wpList_store_rel {ops : Array Oper} {rest : List Oper} {op : Oper} {a : Act} {w : World} {Q : Exit → Act → World → Prop} (hgd : op.guard = none) (x y : Operand) (ho : op.op = .store 26 x y)
    (b : Nat) (m n : Int) (g f : Rl.Rows) (hx : a.eval x = .pointer (some ⟨b, 0, none⟩)) (hy : a.eval y = .agg (relC m g)) (hR : RelAt w b n f)
    (h : ∀ w', RelAt w' b m g → w.grownBy w' (some b) → wpList Tryd.prog ops Q rest (a.put op.dst undef) w') : wpList Tryd.prog ops Q (op :: rest) a w := by
  refine wpList_plain hgd fun _ hK => ?_
  have hrun := run_storeVar_row (P := Tryd.prog) w b 26 26 (relC n f) (relC m g) hR (sRelC m g) (by rw [relC_size, relC_size]) (relC_one m g)
  have h1 : RelAt (w.setRow b (relC m g)) b m g := setRow_heap w b (relC n f) _ 26 (0, 0) hR
  have h2 : w.grownBy (w.setRow b (relC m g)) (some b) := ⟨rfl, rfl, rfl, by simp, fun k _ hk => setRow_other w b k _ (fun e => hk (by rw [e]))⟩
  have h3 := h _ h1 h2
  unfold Oper.wp execOp
  simp only [ho, hx, hy, Instr.storeAt, Instr.sureAddr, Sem.run_bind, Sem.run_pure, Result.andThen_ok, hrun]
  exact hK _ _ h3
/-- a relation read whole -/
theorem wpList_load_rel {ops : Array Oper} {rest : List Oper} {op : Oper} {a : Act} {w : World} {Q : Exit → Act → World → Prop} (hgd : op.guard = none) (x : Operand) (ho : op.op = .load 26 x)
    (b : Nat) (n : Int) (f : Rl.Rows) (hx : a.eval x = .pointer (some ⟨b, 0, none⟩)) (hR : RelAt w b n f)
    (h : wpList Tryd.prog ops Q rest (a.put op.dst (.agg (relC n f))) w) : wpList Tryd.prog ops Q (op :: rest) a w :=
  wpList_load_row hgd 26 x ho b hx 26 (relC n f) (0, 0) _ hR uRel rfl (sRelC n f) h
end Go.Proofs.YtknjdfgmejobfaaDoor
