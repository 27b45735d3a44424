/- layer 3: Count's answers; two relations made in one statement. -/
import Derived.Test.YtknjdfgmejobfaaDoorUc
import Derived.Deep.RegionHeld
namespace Go.Proofs.YtknjdfgmejobfaaDoor
open Go.RowKit Go.Shelf

/-- Count with a limit between 0 and 10000, in numbers -/
theorem count_lim (n : Nat) (f : Rl.Rows) (c : Nat) (hc : (Rl.ordL n f).length = c) (z : Int) (most : Nat) (hz : (most : Int) = z) (r e0 : Int) (hr : r = if c ≤ most then (c : Int) else 0) (he : e0 = if c ≤ most then 0 else 5) (w : World) (hm : most ≤ 10000) (hf : Rl.Ok n f) (hT : Tab w ∧ 0 < w.heap.size) :
    Calls Tryd.prog 48 #[.agg (relC n f), .int .i64 z] w fun e w' => e = .returned (.tuple #[.int .i64 r, .int .i64 e0]) ∧ Below w.heap.size w w' := by
  subst hz; exact count_gives n f most c hc hm r e0 hr he w hf hT.1 hT.2

/-! ### steps of a region that draws: a relation made, stored, read -/
theorem exec_load_rel {o : Oper} {a : Act} {W : World} (x : Operand) (ho : o.op = .load 26 x) (b : Nat) (n : Int) (f : Rl.Rows) (hx : a.eval x = .pointer (some ⟨b, 0, none⟩)) (hR : RelAt W b n f) :
    (execOp a.eval o).run Tryd.prog W = .ok (.value (.agg (relC n f))) W := by
  unfold execOp
  simp only [ho, hx, Instr.loadAt, Instr.sureAddr, Sem.run_bind, Sem.run_pure, Result.andThen_ok, run_loadVar_row (P := Tryd.prog) _ b 26 26 (relC n f) (0, 0) _ hR uRel rfl (sRelC n f)]
theorem step_store_rel {ops : Array Oper} {o : Oper} {a : Act} {w : World} {K : Act → World → Prop} {Q : Exit → Act → World → Prop} {E : Prop} (hgd : o.guard = none) (x y : Operand) (ho : o.op = .store 26 x y)
    (b : Nat) (m n : Int) (g f : Rl.Rows) (hx : a.eval x = .pointer (some ⟨b, 0, none⟩)) (hy : a.eval y = .agg (relC m g)) (hR : RelAt w b n f)
    (h : ∀ w', RelAt w' b m g → w.grownBy w' (some b) → K (a.put o.dst undef) w') :
    if Region.wanted o (yielded ops a.tmps) = true then Oper.wp Tryd.prog o a w K Q else E := by
  have hw : Region.wanted o (yielded ops a.tmps) = true := by simp [Region.wanted, hgd]
  rw [if_pos hw]
  have hrun := run_storeVar_row (P := Tryd.prog) w b 26 26 (relC n f) (relC m g) hR (sRelC m g) (by rw [relC_size, relC_size]) (relC_one m g)
  have h1 : RelAt (w.setRow b (relC m g)) b m g := setRow_heap w b (relC n f) _ 26 (0, 0) hR
  have h2 : w.grownBy (w.setRow b (relC m g)) (some b) := ⟨rfl, rfl, rfl, by simp, fun k _ hk => setRow_other w b k _ (fun e => hk (by rw [e]))⟩
  have h3 := h _ h1 h2
  unfold Oper.wp execOp
  simp only [ho, hx, hy, Instr.storeAt, Instr.sureAddr, Sem.run_bind, Sem.run_pure, Result.andThen_ok, hrun]
  exact h3
theorem step_alloc_rel {ops : Array Oper} {o : Oper} {a : Act} {w : World} {K : Act → World → Prop} {Q : Exit → Act → World → Prop} {E : Prop} (hgd : o.guard = none) (ho : o.op = .alloc 26)
    (h : K (a.put o.dst (.pointer (some ⟨w.heap.size, 0, none⟩))) (w.alloc (.cells (relC 0 zeroR) 26))) :
    if Region.wanted o (yielded ops a.tmps) = true then Oper.wp Tryd.prog o a w K Q else E := by
  have hw : Region.wanted o (yielded ops a.tmps) = true := by simp [Region.wanted, hgd]
  rw [if_pos hw]
  have hzr := zero_rel
  unfold Oper.wp execOp
  simp [ho, go_sem, hzr]
  exact h
theorem add_upd (f : Rl.Rows) (a b : Nat) : upd f a (f a ||| Bv.bit b) = Rl.addF f a b := by
  funext x
  unfold upd Rl.addF
  by_cases h : x = a
  · subst h; simp
  · rw [if_neg h, if_neg h]
theorem Held.swap {w W : World} {x y z : Nat × Int × Rl.Rows} (h : Held w [x, y, z] W) : Held w [x, z, y] W := by
  have key : ∀ (i : Nat) (u : Nat × Int × Rl.Rows), [x, z, y][i]? = some u → [x, y, z][if i = 1 then 2 else if i = 2 then 1 else i]? = some u := by
    intro i u hi
    rcases i with _ | _ | _ | i
    · exact hi
    · exact hi
    · exact hi
    · simp at hi
  refine ⟨fun i u hi => h.rel _ u (key i u hi), fun i j u v hi hj hne => h.apart _ _ u v (key i u hi) (key j v hj) ?_, fun i u hi => h.new _ u (key i u hi), h.bel⟩
  split <;> split <;> (try split) <;> (try split) <;> omega
end Go.Proofs.YtknjdfgmejobfaaDoor
