/- package rel: Star. -/
import Derived.Test.YtknjdfgmejobfaaDoorNk
import Derived.Test.YtknjdfgmejobfaaDoorBl
import Derived.Test.YtknjdfgmejobfaaDoorNg
namespace Go.Proofs.YtknjdfgmejobfaaDoor
open Go.RowKit Go.Shelf

attribute [local go_sem] Bv.and_u Bv.or_u Bv.andNot_u Bv.wrap_sub1 Bv.eq0 Bv.ne0 Bv.wrap_pow Bv.wrap_powmin Bv.wrap_neg Bv.eq_u Bv.ne_u Bv.shr_min Bv.shr_pow Bv.tmod2 Bv.and1 Bv.wrap_add Bv.B1_eq1 Bv.B1_eq0 Bv.B1_ne1 Bv.B1_ne0

theorem run_alloc_rel (ρ : Operand → Value) (dst : Option Tmp) (ty : TypeId) (pos : String) (after : Array Edge) (W : World) :
    (execOp ρ { dst, op := .alloc 26, type := ty, pos, after, guard := none }).run Tryd.prog W = .ok (.value (.pointer (some ⟨W.heap.size, 0, none⟩))) (W.alloc (.cells (relC 0 zeroR) 26)) := by
  have hzr := zero_rel
  have hne0 : ¬ relC 0 zeroR = #[] := by intro h; have := congrArg Array.size h; rw [relC_size] at this; simp at this
  simp [execOp, go_sem, hzr]
/-- loads in the head of a region -/
theorem bel_load_rel {ops : Array Oper} {w0 : World} {Q : Act → Prop} {a : Act} {rest : List Oper} {o : Oper} (hw : Region.wanted o (yielded ops a.tmps) = true) (x : Operand) (hop : o.op = .load 26 x)
    (b : Nat) (n : Int) (f : Rl.Rows) (hx : a.eval x = .pointer (some ⟨b, 0, none⟩)) (hR : RelAt w0 b n f) (h : Bl.wpBelO Tryd.prog ops w0 Q rest (a.put o.dst (.agg (relC n f)))) : Bl.wpBelO Tryd.prog ops w0 Q (o :: rest) a :=
  Bl.belO_value hw (fun W hW => by
    unfold execOp
    simp only [hop, hx, Instr.loadAt, Instr.sureAddr, Sem.run_bind, Sem.run_pure, Result.andThen_ok, run_loadVar_row (P := Tryd.prog) _ b 26 26 (relC n f) (0, 0) _ (hR.below hW hR.lt) uRel rfl (sRelC n f)]) h
/-- the store of a relation into a new variable -/
theorem writes_rel {o : Oper} {a : Act} (x y : Operand) (hop : o.op = .store 26 x y) (b : Nat) (m n : Int) (g f : Rl.Rows) (hx : a.eval x = .pointer (some ⟨b, 0, none⟩)) (hy : a.eval y = .agg (relC m g)) :
    Bl.Writes Tryd.prog o a (.cells (relC n f) 26) (.cells (relC m g) 26) b := by
  intro W hR
  have hrun := run_storeVar_row (P := Tryd.prog) W b 26 26 (relC n f) (relC m g) hR (sRelC m g) (by rw [relC_size, relC_size]) (relC_one m g)
  refine ⟨W.setRow b (relC m g), ?_, ⟨rfl, rfl, rfl, by simp, fun k _ hk => setRow_other W b k _ (fun e => hk (by rw [e]))⟩, setRow_heap W b (relC n f) _ 26 (0, 0) hR⟩
  unfold execOp
  simp only [hop, hx, hy, Instr.storeAt, Instr.sureAddr, Sem.run_bind, Sem.run_pure, Result.andThen_ok, hrun]
/-! ### the operations on valid relations -/
theorem comb_ok {n : Nat} {f g : Rl.Rows} (hf : Rl.Ok n f) (hg : Rl.Ok n g) (rows : Rl.Rows) : combN n n f g = n ∧ combF n n f g rows = Rl.cut n rows ∧ combE n n f g = 0 := by
  have h : okB n n f g = true := by unfold okB; rw [Rl.right_of hf, Rl.right_of hg]; simp
  unfold combN combF combE
  rw [h]
  exact ⟨rfl, rfl, rfl⟩
theorem union_ok (n : Nat) (f g : Rl.Rows) (w : World) (hf : Rl.Ok n f) (hg : Rl.Ok n g) :
    Calls Tryd.prog 19 #[.agg (relC n f), .agg (relC n g)] w fun e w' => e = .returned (.tuple #[.agg (relC n (Rl.unionF n f g)), .int .i64 0]) ∧ Below w.heap.size w w' := by
  have h := union_any n n f g w hf.z hg.z
  have e := comb_ok hf hg (fun k => f k ||| g k)
  rw [e.1, e.2.1, e.2.2] at h
  exact h

set_option maxRecDepth 100000 in
set_option maxHeartbeats 1000000 in
theorem star_yes (n : Nat) (f : Rl.Rows) (w : World) (hr : Rl.Ok n f) (hT : Tab w) (hw : 0 < w.heap.size) :
    Calls Tryd.prog 67 #[.agg (relC n f)] w fun e w' => e = .returned (.agg (relC n (Rl.unionF n (Rl.plusF n f) (Rl.idF n (Rl.below (n : Int)))))) ∧ Below w.heap.size w w' := by
  have hzr := zero_rel
  have hn := hr.le
  have h0 := (RelAt.new w n f).alloc (.cells (relC 0 zeroR) 26)
  have h1 := RelAt.new (w.alloc (.cells (relC n f) 26)) 0 zeroR
  rw [World.size_alloc] at h1
  have hB := (((Below.refl w.heap.size w).alloc (Nat.le_refl _) (.cells (relC n f) 26)).alloc (by simp) (.cells (relC 0 zeroR) 26))
  have hTl : ∀ W, Below w.heap.size w W → Tab W ∧ 0 < W.heap.size := fun W h => ⟨hT.below h hw, Nat.lt_of_lt_of_le hw h.size⟩
  have HT := Lib.hid hTl
  have HO := Lib.hid hr
  have H := Lib.hid (And.intro h0 (And.intro h1 (And.intro hB (Rl.right_of hr))))
  have hne0 : ¬ relC 0 zeroR = #[] := by intro h; have := congrArg Array.size h; rw [relC_size] at this; simp at this
  clear h0 h1 hB hr hT hTl
  go_enter Tryd.func67, Tryd.ntmps67
  go_wp2_with (refine wpList_load_rel (by rfl) (.tmp 1) (by rfl) w.heap.size n f (by rfl) H.out.1 ?_)
  with_reducible refine (right_is _ _ _ H.out.2.2.2 _).mono ?_
  rintro e w1 ⟨rfl, hb⟩
  have H1 := Lib.hid (And.intro (H.out.1.below hb (by simp; omega)) (And.intro (H.out.2.1.below hb (by simp)) (H.out.2.2.1.trans (hb.mono H.out.2.2.1.size))))
  clear hb
  have hTW : ∀ W, Below w1.heap.size w1 W → Tab W ∧ 0 < W.heap.size := fun W h => HT.out W (H1.out.2.2.trans (h.mono H1.out.2.2.size))
  have HTW := Lib.hid hTW
  clear hTW
  go_wp2_with fail
  refine Bl.wp_region_head_store 12 _ _ (.cells (relC 0 zeroR) 26) (.cells (relC n (Rl.unionF n (Rl.plusF n f) (Rl.idF n (Rl.below (n : Int))))) 26) (by kernel_rfl) (by kernel_rfl) rfl rfl (fun a W => run_alloc_rel _ _ _ _ _ _) rfl rfl ?_
  simp only [List.take_succ_cons, List.take_zero, List.drop_succ_cons, List.drop_zero]
  have cN : ∀ W, Below w1.heap.size w1 W → W.cell? ⟨w.heap.size, 0, none⟩ = some (.int .i64 n) := fun W hW => (H1.out.1.below hW H1.out.1.lt).num
  refine bel_load_rel (by rfl) (.tmp 1) (by rfl) w.heap.size n f (by rfl) H1.out.1 ?_
  simp only [Act.put, List.setIfInBounds_toArray, List.set_cons_zero, List.set_cons_succ]
  refine Bl.belO_call 25 #[.agg (relC n f)] (by rfl) (fun W => by simp [execOp, go_sem]) (fun W hW => plus_yes n f W HO.out (HTW.out W hW).1 (HTW.out W hW).2) ?_
  simp only [Act.put, List.setIfInBounds_toArray, List.set_cons_zero, List.set_cons_succ]
  refine Bl.belO_step (by rfl) (fun W hW => by have c1 := cN W hW; simp [execOp, go_sem, c1]; exact ⟨rfl, rfl⟩) ?_
  simp only [Act.put, List.setIfInBounds_toArray, List.set_cons_zero, List.set_cons_succ]
  repeat (refine Bl.belO_step (by rfl) (fun W hW => by have c1 := cN W hW; simp [execOp, go_sem, c1]; exact ⟨rfl, rfl⟩) ?_; simp only [Act.put, List.setIfInBounds_toArray, List.set_cons_zero, List.set_cons_succ])
  refine Bl.belO_call 81 #[.int .i64 n] (by rfl) (fun W => by simp [execOp, go_sem]) (fun W hW => (all_is _ _ (allS_below n) W).mono fun e w' h => ⟨h.1, by rw [← h.2]; exact Below.refl _ _⟩) ?_
  simp only [Act.put, List.setIfInBounds_toArray, List.set_cons_zero, List.set_cons_succ]
  refine Bl.belO_call 21 #[.int .i64 n, .int .u64 (Bv.U (Rl.below (n : Int)))] (by rfl) (fun W => by simp [execOp, go_sem]) (fun W hW => id_any n _ W hn) ?_
  simp only [Act.put, List.setIfInBounds_toArray, List.set_cons_zero, List.set_cons_succ]
  refine Bl.belO_call 19 #[.agg (relC n (Rl.plusF n f)), .agg (relC n (Rl.idF n (Rl.below (n : Int))))] (by rfl) (fun W => by simp [execOp, go_sem]) (fun W hW => union_ok n _ _ W (Rl.ok_plus HO.out) (Rl.ok_id hn _)) ?_
  simp only [Act.put, List.setIfInBounds_toArray, List.set_cons_zero, List.set_cons_succ]
  repeat (refine Bl.belO_step (by rfl) (fun W hW => by have c1 := cN W hW; simp [execOp, go_sem, c1]; exact ⟨rfl, rfl⟩) ?_; simp only [Act.put, List.setIfInBounds_toArray, List.set_cons_zero, List.set_cons_succ])
  refine Bl.belO_nil ?_
  intro b
  refine ⟨writes_rel (.tmp 3) (.tmp 19) (by rfl) b n 0 _ zeroR (by rfl) (by rfl), ?_⟩
  intro w2 hb2 hle hR2
  have h1b := H1.out.2.1.below hb2 H1.out.2.1.lt
  have hbw := H1.out.2.2.trans (hb2.mono H1.out.2.2.size)
  have hne : w.heap.size + 1 ≠ b := by have := H1.out.2.1.lt; omega
  have hR2' : RelAt w2 b n (Rl.unionF n (Rl.plusF n f) (Rl.idF n (Rl.below (n : Int)))) := hR2
  have H2 := Lib.hid (And.intro hR2' (And.intro h1b hbw))
  clear hR2 hR2' h1b hbw hb2 cN
  simp only [Act.put, List.setIfInBounds_toArray, List.set_cons_zero, List.set_cons_succ]
  go_wp2_with (first
    | (refine wpList_load_rel (by rfl) (.tmp 3) (by rfl) b n _ (by rfl) H2.out.1 ?_)
    | (refine wpList_store_rel (by rfl) (.tmp 2) (.tmp 21) (by rfl) (w.heap.size + 1) n 0 (Rl.unionF n (Rl.plusF n f) (Rl.idF n (Rl.below (n : Int)))) zeroR (by rfl) (by rfl) H2.out.2.1 ?_; intro w4 hR4 hg4))
  refine bodyPost_ret (results_cell_row rfl _ _ (w.heap.size + 1) 26 (relC n (Rl.unionF n (Rl.plusF n f) (Rl.idF n (Rl.below (n : Int))))) (0, 0) _ rfl hR4 uRel rfl (sRelC _ _)) rfl ⟨rfl, H2.out.2.2.grown hg4 H2.out.2.2.size (fun j e => by injection e with e; omega)⟩
set_option maxRecDepth 100000 in
set_option maxHeartbeats 1000000 in
theorem star_no (n : Int) (f : Rl.Rows) (w : World) (hr : Rl.rightB n f = false) :
    Calls Tryd.prog 67 #[.agg (relC n f)] w fun e w' => e = .returned (.agg (relC 0 zeroR)) ∧ Below w.heap.size w w' := by
  have hzr := zero_rel
  have hbz := build_zero
  have h0 := (RelAt.new w n f).alloc (.cells (relC 0 zeroR) 26)
  have h1 := RelAt.new (w.alloc (.cells (relC n f) 26)) 0 zeroR
  rw [World.size_alloc] at h1
  have hB := (((Below.refl w.heap.size w).alloc (Nat.le_refl _) (.cells (relC n f) 26)).alloc (by simp) (.cells (relC 0 zeroR) 26))
  have H := Lib.hid (And.intro h0 (And.intro h1 (And.intro hB hr)))
  clear h0 h1 hB hr
  go_enter Tryd.func67, Tryd.ntmps67
  go_wp2_with (refine wpList_load_rel (by rfl) (.tmp 1) (by rfl) w.heap.size n f (by rfl) H.out.1 ?_)
  with_reducible refine (right_is _ _ _ H.out.2.2.2 _).mono ?_
  rintro e w1 ⟨rfl, hb⟩
  have H1 := Lib.hid (And.intro (H.out.2.1.below hb (by simp)) (H.out.2.2.1.trans (hb.mono H.out.2.2.1.size)))
  clear hb
  go_wp2_with (refine wpList_store_rel (by rfl) (.tmp 2) (.tmp 8) (by rfl) (w.heap.size + 1) 0 0 zeroR zeroR (by rfl) (by rfl) H1.out.1 ?_; intro w3 hR3 hg3)
  refine bodyPost_ret (results_cell_row rfl _ _ (w.heap.size + 1) 26 (relC 0 zeroR) (0, 0) _ rfl hR3 uRel rfl (sRelC _ _)) rfl ⟨rfl, H1.out.2.grown hg3 H1.out.2.size (fun j e => by injection e with e; omega)⟩
/-- the reflexive closure, valid or not -/
noncomputable def starR (n : Int) (f : Rl.Rows) : Rl.Rows := if Rl.rightB n f then Rl.unionF n.toNat (Rl.plusF n.toNat f) (Rl.idF n.toNat (Rl.below n)) else zeroR
theorem star_any (n : Int) (f : Rl.Rows) (w : World) (zf : Rl.Z f) (hT : Tab w) (hw : 0 < w.heap.size) :
    Calls Tryd.prog 67 #[.agg (relC n f)] w fun e w' => e = .returned (.agg (relC (backN n f) (starR n f))) ∧ Below w.heap.size w w' := by
  unfold backN starR
  cases h : Rl.rightB n f
  · rw [if_neg (by simp), if_neg (by simp)]; exact star_no n f w h
  · obtain ⟨m, rfl, hm⟩ := Rl.right_nat zf h
    rw [if_pos rfl, if_pos rfl, Int.toNat_natCast]; exact star_yes m f w hm hT hw
end Go.Proofs.YtknjdfgmejobfaaDoor
