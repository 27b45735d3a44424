/- package rel: Id, Cross. -/
import Derived.Test.YtknjdfgmejobfaaDoorNf
import Derived.StillTailTactics
namespace Go.Proofs.YtknjdfgmejobfaaDoor
open Go.RowKit Go.Shelf

attribute [local go_sem] Bv.and_u Bv.or_u Bv.andNot_u Bv.wrap_sub1 Bv.eq0 Bv.ne0 Bv.wrap_pow Bv.wrap_powmin Bv.wrap_neg Bv.eq_u Bv.ne_u Bv.shr_min Bv.shr_pow Bv.tmod2 Bv.and1 Bv.wrap_add Bv.B1_eq1 Bv.B1_eq0 Bv.B1_ne1 Bv.B1_ne0

set_option maxRecDepth 100000 in
set_option maxHeartbeats 1000000 in
theorem id1 (pb k : Nat) (s : BitVec 64) (w : World) (hk : k < 48) (hc : w.cell? ⟨pb, 0, none⟩ = some (.int .u64 (Bv.U s))) :
    Calls Tryd.prog 77 #[.int .i64 k, .pointer (some ⟨pb, 0, none⟩)] w fun e w' => e = .returned (.int .u64 (Bv.U (s &&& Bv.bit k))) ∧ Below w.heap.size w w' := by
  have q0 : (0 : Int) ≤ (k : Int) := by omega
  have q1 : (k : Int) < 64 := by omega
  go_enter Tryd.func77, Tryd.ntmps77
  go_wp2_with fail
  go_quiet (fail)
  go_wp2
  go_ret
  exact ⟨rfl, by repeat (first | exact Below.refl _ _ | exact below_drewN (Below.refl _ _) _ | refine Below.drew ?_)⟩
set_option maxRecDepth 100000 in
set_option maxHeartbeats 1000000 in
theorem cross1 (pa pb k : Nat) (s t : BitVec 64) (w : World) (hk : k < 48) (ha : w.cell? ⟨pa, 0, none⟩ = some (.int .u64 (Bv.U s))) (hb : w.cell? ⟨pb, 0, none⟩ = some (.int .u64 (Bv.U t))) :
    Calls Tryd.prog 87 #[.int .i64 k, .pointer (some ⟨pa, 0, none⟩), .pointer (some ⟨pb, 0, none⟩)] w fun e w' => e = .returned (.int .u64 (Bv.U (if s.getLsbD k then t else 0#64))) ∧ Below w.heap.size w w' := by
  have q0 : (0 : Int) ≤ (k : Int) := by omega
  have q1 : (k : Int) < 64 := by omega
  cases hg : Bv.G s k
  all_goals
    have hg2 : s.getLsbD k = _ := hg
    rw [hg2]
    clear hg2
    go_enter Tryd.func87, Tryd.ntmps87
    go_wp2_with fail
    go_ret
    exact ⟨rfl, Below.refl _ _⟩
theorem box_cell (w : World) (v : Value) (t : TypeId) (o : Obj) : ((w.alloc (.cells #[v] t)).alloc o).cell? ⟨w.heap.size, 0, none⟩ = some v := by
  rw [Below.cell (B := (w.alloc (.cells #[v] t)).heap.size) (Below.alloc (Below.refl _ _) (Nat.le_refl _) o) (p := ⟨w.heap.size, 0, none⟩) (by simp)]
  rw [cell_of_row _ _ 0 _ _ _ (World.alloc_heap_new w _)]; rfl
set_option maxRecDepth 100000 in
set_option maxHeartbeats 1000000 in
theorem id_any (n : Nat) (s : BitVec 64) (w : World) (hn : n ≤ 48) :
    Calls Tryd.prog 21 #[.int .i64 n, .int .u64 (Bv.U s)] w fun e w' => e = .returned (.agg (relC n (Rl.idF n s))) ∧ Below w.heap.size w w' := by
  have eg := enters_of Tryd.func77 (by kernel_rfl) rfl
  have EG := Lib.hid eg
  have hzr := zero_rel
  have hbz := build_zero
  have q0 : ¬ ((n : Int) < 0) := by omega
  have q1 : ¬ ((48 : Int) < (n : Int)) := by omega
  have hcell := box_cell w (.int .u64 (Bv.U s)) 23 (.cells (relC 0 zeroR) 26)
  have hR := RelAt.new (w.alloc (.cells #[.int .u64 (Bv.U s)] 23)) 0 zeroR
  simp only [World.size_alloc] at hR
  have hB := (((Below.refl w.heap.size w).alloc (Nat.le_refl _) (.cells #[.int .u64 (Bv.U s)] 23)).alloc (by simp) (.cells (relC 0 zeroR) 26))
  have H := Lib.hid (And.intro hcell (And.intro hR hB))
  clear eg hcell hR hB
  go_enter Tryd.func21, Tryd.ntmps21
  go_wp2_with fail
  refine (build_any n 77 #[.pointer (some ⟨w.heap.size, 0, none⟩)] (fun k => s &&& Bv.bit k) _ hn EG.out ?_).mono ?_
  · intro a W ha hb
    exact id1 w.heap.size a s W (by omega) ((hb.cell (p := ⟨w.heap.size, 0, none⟩) (by simp; omega)).trans H.out.1)
  rintro e w1 ⟨rfl, hb⟩
  have H1 := Lib.hid (And.intro (H.out.2.1.below hb (by simp)) (H.out.2.2.trans (hb.mono H.out.2.2.size)))
  clear hb
  go_wp2_with (refine wpList_store_rel (by rfl) (.tmp 4) (.tmp 14) (by rfl) (w.heap.size + 1) n 0 (Rl.idF n s) zeroR (by rfl) (by rfl) H1.out.1 ?_; intro w3 hR3 hg3)
  refine bodyPost_ret (results_cell_row rfl _ _ (w.heap.size + 1) 26 (relC n (Rl.idF n s)) (0, 0) _ rfl hR3 uRel rfl (sRelC _ _)) rfl ⟨rfl, H1.out.2.grown hg3 H1.out.2.size (fun j e => by injection e with e; omega)⟩
set_option maxRecDepth 100000 in
set_option maxHeartbeats 1000000 in
theorem id_bad (n : Int) (s : BitVec 64) (w : World) (hn : n < 0 ∨ 48 < n) :
    Calls Tryd.prog 21 #[.int .i64 n, .int .u64 (Bv.U s)] w fun e w' => e = .returned (.agg (relC 0 zeroR)) ∧ Below w.heap.size w w' := by
  have hzr := zero_rel
  have hbz := build_zero
  have hR := RelAt.new (w.alloc (.cells #[.int .u64 (Bv.U s)] 23)) 0 zeroR
  simp only [World.size_alloc] at hR
  have hB := (((Below.refl w.heap.size w).alloc (Nat.le_refl _) (.cells #[.int .u64 (Bv.U s)] 23)).alloc (by simp) (.cells (relC 0 zeroR) 26))
  have H1 := Lib.hid (And.intro hR hB)
  clear hR hB
  rcases hn with h0 | h0
  all_goals
    go_enter Tryd.func21, Tryd.ntmps21
    go_wp2_with (refine wpList_store_rel (by rfl) (.tmp 4) (.tmp 11) (by rfl) (w.heap.size + 1) 0 0 zeroR zeroR (by rfl) (by rfl) H1.out.1 ?_; intro w3 hR3 hg3)
    refine bodyPost_ret (results_cell_row rfl _ _ (w.heap.size + 1) 26 (relC 0 zeroR) (0, 0) _ rfl hR3 uRel rfl (sRelC _ _)) rfl ⟨rfl, H1.out.2.grown hg3 H1.out.2.size (fun j e => by injection e with e; omega)⟩
theorem cross_rows (n : Nat) (s t : BitVec 64) : Rl.cut n (fun k => if s.getLsbD k then t &&& Rl.below (n : Int) else 0#64) = Rl.crossF n s t := rfl
set_option maxRecDepth 100000 in
set_option maxHeartbeats 1000000 in
theorem cross_any (n : Nat) (s t : BitVec 64) (w : World) (hn : n ≤ 48) :
    Calls Tryd.prog 39 #[.int .i64 n, .int .u64 (Bv.U s), .int .u64 (Bv.U t)] w fun e w' => e = .returned (.agg (relC n (Rl.crossF n s t))) ∧ Below w.heap.size w w' := by
  have eg := enters_of Tryd.func87 (by kernel_rfl) rfl
  have EG := Lib.hid eg
  have hzr := zero_rel
  have hbz := build_zero
  have q0 : ¬ ((n : Int) < 0) := by omega
  have q1 : ¬ ((48 : Int) < (n : Int)) := by omega
  obtain ⟨W, hW⟩ : ∃ W, W = ((w.alloc (.cells #[.int .u64 (Bv.U s)] 23)).alloc (.cells #[.int .u64 (Bv.U t)] 23)).alloc (.cells (relC 0 zeroR) 26) := ⟨_, rfl⟩
  have r0 : W.heap[w.heap.size]? = some (.cells #[.int .u64 (Bv.U s)] 23 (0, 0)) := by
    rw [hW, Below.heap_alloc _ _ _ (by simp; omega), Below.heap_alloc _ _ _ (by simp)]
    exact World.alloc_heap_new w _
  have r1 : W.heap[w.heap.size + 1]? = some (.cells #[.int .u64 (Bv.U t)] 23 (0, 0)) := by
    rw [hW, Below.heap_alloc _ _ _ (by simp)]
    exact World.alloc_heap_new (w.alloc (.cells #[.int .u64 (Bv.U s)] 23)) _ |> (by simpa using ·)
  have hR := RelAt.new ((w.alloc (.cells #[.int .u64 (Bv.U s)] 23)).alloc (.cells #[.int .u64 (Bv.U t)] 23)) 0 zeroR
  simp only [World.size_alloc] at hR
  rw [← hW] at hR
  have hB := (((Below.refl w.heap.size w).alloc (Nat.le_refl _) (.cells #[.int .u64 (Bv.U s)] 23)).alloc (by simp) (.cells #[.int .u64 (Bv.U t)] 23)).alloc (by simp; omega) (.cells (relC 0 zeroR) 26)
  rw [← hW] at hB
  have c1 : W.cell? ⟨w.heap.size + 1, 0, none⟩ = some (.int .u64 (Bv.U t)) := by rw [cell_of_row _ _ 0 _ _ _ r1]; rfl
  have f1 : W.frozen? ⟨w.heap.size + 1, 0, none⟩ = false := frozen_of_row _ _ 0 _ _ r1
  obtain ⟨W2, hW2⟩ : ∃ W2, W2 = (W.setCell ⟨w.heap.size + 1, 0, none⟩ (.int .u64 (Bv.U (t &&& Rl.below (n : Int))))).drew := ⟨_, rfl⟩
  have hW2' : W2 = W.drew.setCell ⟨w.heap.size + 1, 0, none⟩ (.int .u64 (Bv.U (t &&& Rl.below (n : Int)))) := by rw [hW2]; exact (World.setCell_drew _ _).symm
  have d0 : W2.cell? ⟨w.heap.size, 0, none⟩ = some (.int .u64 (Bv.U s)) := by
    rw [hW2', cell_of_row _ _ 0 _ _ _ ((Below.heap_setCell _ _ _ _ (by simp)).trans (show W.drew.heap[w.heap.size]? = _ from r0))]; rfl
  have d1 : W2.cell? ⟨w.heap.size + 1, 0, none⟩ = some (.int .u64 (Bv.U (t &&& Rl.below (n : Int)))) := by
    rw [hW2', cell_of_row _ _ 0 _ _ _ (Rf.set_cells (i := 0) (.int .u64 (Bv.U (t &&& Rl.below (n : Int)))) (show W.drew.heap[w.heap.size + 1]? = _ from r1))]; rfl
  have d2 : RelAt W2 (w.heap.size + 1 + 1) 0 zeroR := by rw [hW2']; exact hR.drew.other _ _ (by simp)
  have d3 : Below w.heap.size w W2 := by rw [hW2']; exact (Below.drew hB).setCell (p := ⟨w.heap.size + 1, 0, none⟩) (by simp) _
  have hlt : w.heap.size + 1 + 1 < W2.heap.size := d2.lt
  have H := Lib.hid (And.intro hW (And.intro hW2 (And.intro d0 (And.intro d1 (And.intro d2 (And.intro d3 hlt))))))
  clear eg hR hB r0 r1 d0 d1 d2 d3 hW hW2 hW2' hlt
  go_enter Tryd.func39, Tryd.ntmps39
  go_wp2_with fail
  rw [← H.out.1]
  refine wp_region_still_tail 4 (by kernel_rfl) (by kernel_rfl) ?_
  simp only [List.take_succ_cons, List.take_zero, List.drop_succ_cons, List.drop_zero]
  repeat (first | still_call (all_any _ _) | still_step)
  refine wpStill_nil ?_
  change wpList _ _ _ _ _ W.drew
  rw [show allS (n : Int) = Rl.below (n : Int) from rfl]
  have c2 : W.drew.cell? ⟨w.heap.size + 1, 0, none⟩ = some (.int .u64 (Bv.U t)) := c1
  have f2 : W.drew.frozen? ⟨w.heap.size + 1, 0, none⟩ = false := f1
  go_step
  go_wp2_with fail
  rw [← H.out.2.1]
  clear c1 c2 f1 f2
  refine (build_any n 87 #[.pointer (some ⟨w.heap.size, 0, none⟩), .pointer (some ⟨w.heap.size + 1, 0, none⟩)] (fun k => if s.getLsbD k then t &&& Rl.below (n : Int) else 0#64) _ hn EG.out ?_).mono ?_
  · intro a W ha hb
    exact cross1 w.heap.size (w.heap.size + 1) a s (t &&& Rl.below (n : Int)) W (by omega) ((hb.cell (p := ⟨w.heap.size, 0, none⟩) (by have := H.out.2.2.2.2.2.2; show w.heap.size < W2.heap.size; omega)).trans H.out.2.2.1) ((hb.cell (p := ⟨w.heap.size + 1, 0, none⟩) (by have := H.out.2.2.2.2.2.2; show w.heap.size + 1 < W2.heap.size; omega)).trans H.out.2.2.2.1)
  rintro e w1 ⟨rfl, hb⟩
  rw [cross_rows]
  have H1 := Lib.hid (And.intro (H.out.2.2.2.2.1.below hb H.out.2.2.2.2.2.2) (H.out.2.2.2.2.2.1.trans (hb.mono H.out.2.2.2.2.2.1.size)))
  clear hb
  go_wp2_with (refine wpList_store_rel (by rfl) (.tmp 6) (.tmp 20) (by rfl) (w.heap.size + 1 + 1) n 0 (Rl.crossF n s t) zeroR (by rfl) (by rfl) H1.out.1 ?_; intro w3 hR3 hg3)
  refine bodyPost_ret (results_cell_row rfl _ _ (w.heap.size + 1 + 1) 26 (relC n (Rl.crossF n s t)) (0, 0) _ rfl hR3 uRel rfl (sRelC _ _)) rfl ⟨rfl, H1.out.2.grown hg3 H1.out.2.size (fun j e => by injection e with e; omega)⟩
set_option maxRecDepth 100000 in
set_option maxHeartbeats 1000000 in
theorem cross_bad (n : Int) (s t : BitVec 64) (w : World) (hn : n < 0 ∨ 48 < n) :
    Calls Tryd.prog 39 #[.int .i64 n, .int .u64 (Bv.U s), .int .u64 (Bv.U t)] w fun e w' => e = .returned (.agg (relC 0 zeroR)) ∧ Below w.heap.size w w' := by
  have hzr := zero_rel
  have hbz := build_zero
  have hR := RelAt.new ((w.alloc (.cells #[.int .u64 (Bv.U s)] 23)).alloc (.cells #[.int .u64 (Bv.U t)] 23)) 0 zeroR
  simp only [World.size_alloc] at hR
  have hB := (((Below.refl w.heap.size w).alloc (Nat.le_refl _) (.cells #[.int .u64 (Bv.U s)] 23)).alloc (by simp) (.cells #[.int .u64 (Bv.U t)] 23)).alloc (by simp; omega) (.cells (relC 0 zeroR) 26)
  have H1 := Lib.hid (And.intro hR hB)
  clear hR hB
  rcases hn with h0 | h0
  all_goals
    go_enter Tryd.func39, Tryd.ntmps39
    go_wp2_with (refine wpList_store_rel (by rfl) (.tmp 6) (.tmp 13) (by rfl) (w.heap.size + 1 + 1) 0 0 zeroR zeroR (by rfl) (by rfl) H1.out.1 ?_; intro w3 hR3 hg3)
    refine bodyPost_ret (results_cell_row rfl _ _ (w.heap.size + 1 + 1) 26 (relC 0 zeroR) (0, 0) _ rfl hR3 uRel rfl (sRelC _ _)) rfl ⟨rfl, H1.out.2.grown hg3 H1.out.2.size (fun j e => by injection e with e; omega)⟩
end Go.Proofs.YtknjdfgmejobfaaDoor
