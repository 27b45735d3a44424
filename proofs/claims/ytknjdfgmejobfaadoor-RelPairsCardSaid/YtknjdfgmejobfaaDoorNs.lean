/- seisinlaw02: Fine, the walk. -/
import Derived.Test.YtknjdfgmejobfaaDoorNm
import Derived.Test.YtknjdfgmejobfaaDoorNr
namespace Go.Proofs.YtknjdfgmejobfaaDoor
open Go.RowKit Go.Shelf

attribute [-go_sem] run_eql_struct run_neq_struct
attribute [local go_sem] Bv.and_u Bv.or_u Bv.andNot_u Bv.wrap_sub1 Bv.eq0 Bv.ne0 Bv.wrap_pow Bv.wrap_powmin Bv.wrap_neg Bv.eq_u Bv.ne_u Bv.shr_min Bv.shr_pow Bv.tmod2 Bv.and1 Bv.wrap_add Bv.B1_eq1 Bv.B1_eq0 Bv.B1_ne1 Bv.B1_ne0

theorem below_bit {k : Nat} (hk : k ≤ 64) : Bv.bit k - 1#64 = Rl.below (k : Int) := by
  unfold Rl.below; rw [Int.toNat_natCast, Nat.min_eq_left hk]
theorem tmod_bd (n : Int) (m : Nat) : -(m : Int) ≤ n.tmod ((m : Int) + 1) ∧ n.tmod ((m : Int) + 1) ≤ m := by
  have h1 := Int.tmod_lt_of_pos n (show (0 : Int) < (m : Int) + 1 by omega)
  have h2 := Int.lt_tmod_of_pos n (show (0 : Int) < (m : Int) + 1 by omega)
  omega
set_option maxRecDepth 100000 in
set_option maxHeartbeats 2000000 in
theorem fine_any (n : Int) (f : Rl.Rows) (m : Nat) (w : World) (hm : m ≤ 48) (zf : Rl.Z f) :
    Calls Tryd.prog 17 #[.agg (relC n f), .int .i64 m] w fun e w' => e = .returned (.agg (relC (fineK n m) (fineR (fineK n m) f))) ∧ Below w.heap.size w w' := by
  have hzr := zero_rel
  obtain ⟨r1, r2⟩ := tmod_bd n m
  obtain ⟨k, hk⟩ : ∃ k, k = fineK n m := ⟨_, rfl⟩
  have hk48 : k ≤ 48 := by rw [hk]; exact Nat.le_trans (fineK_le n m) hm
  have hkv : (n.tmod ((m : Int) + 1) + m + 1) % ((m : Int) + 1) = (k : Int) := by
    rw [hk]; unfold fineK
    have h2 := Int.emod_nonneg (n.tmod ((m : Int) + 1) + m + 1) (show (m : Int) + 1 ≠ 0 by omega)
    omega
  rw [← hk]
  have h0 := (RelAt.new w n f).alloc (.cells (relC 0 zeroR) 26)
  have h1 := RelAt.new (w.alloc (.cells (relC n f) 26)) 0 zeroR
  rw [World.size_alloc] at h1
  have hB := (((Below.refl w.heap.size w).alloc (Nat.le_refl _) (.cells (relC n f) 26)).alloc (by simp) (.cells (relC 0 zeroR) 26))
  have c0 := h0.num
  have f0 := h0.free 0
  have H := Lib.hid (And.intro h0 (And.intro h1 (And.intro hB (And.intro zf hk))))
  have hne0 : ¬ relC 0 zeroR = #[] := by intro h; have := congrArg Array.size h; rw [relC_size] at this; simp at this
  clear h0 h1 hB zf hk
  go_enter Tryd.func17, Tryd.ntmps17
  go_wp2_with fail
  rw [relC_setN]
  have g0 := (RelAt.new w k f).alloc (.cells (relC 0 zeroR) 26)
  have g1 := RelAt.new (w.alloc (.cells (relC k f) 26)) 0 zeroR
  rw [World.size_alloc] at g1
  have gB := (((Below.refl w.heap.size w).alloc (Nat.le_refl _) (.cells (relC k f) 26)).alloc (by simp) (.cells (relC 0 zeroR) 26))
  have H1 := Lib.hid (And.intro g0 (And.intro g1 gB))
  clear g0 g1 gB c0 f0
  have HK := Lib.hid hkv
  clear hkv
  go_loopw [18] (fun c wr => ∃ j : Nat, j ≤ 48 ∧ c = .int .i64 j ∧ RelAt wr w.heap.size k (fineM j k f) ∧ RelAt wr (w.heap.size + 1) 0 zeroR ∧ Below w.heap.size w wr) (fun c _ => 48 - (intOf c).toNat)
  case atStart => exact ⟨0, Nat.zero_le _, rfl, by rw [fineM_zero]; exact H1.out⟩
  case round =>
    obtain ⟨j, hj, rfl, hR0, hR1, hb⟩ := hrel
    by_cases hlt : j < 48
    · have q0 : (0 : Int) ≤ (j : Int) := by omega
      have q1 : (j : Int) < 48 := by omega
      have q2 : (0 : Int) ≤ (k : Int) := by omega
      have q3 : (k : Int) < 64 := by omega
      have c0 := hR0.num
      by_cases hjk : j < k
      · have hd : decide (k ≤ j) = false := decide_eq_false (by omega)
        have cN : ∀ W, Below wr.heap.size wr W → W.cell? ⟨w.heap.size, 0, none⟩ = some (.int .i64 k) := fun W hW => (hR0.below hW hR0.lt).num
        have cR : ∀ W, Below wr.heap.size wr W → W.cell? ⟨w.heap.size, 1 + j, none⟩ = some (.int .u64 (Bv.U (f j))) := fun W hW => by have := (hR0.below hW hR0.lt).row j hlt; rwa [fineM_at] at this
        have HH := Lib.hid (And.intro hR0 (And.intro hR1 hb))
        have CN := Lib.hid (And.intro cN cR)
        clear hR0 hR1 hb cN cR
        go_wp2_with fail
        refine Bl.wp_region_head 11 (by kernel_rfl) (by kernel_rfl) ?_
        simp only [List.take_succ_cons, List.take_zero, List.drop_succ_cons, List.drop_zero]
        repeat (refine Bl.belO_step (by rfl) (fun W hW => by have c1 := CN.out.1 W hW; have c2 := CN.out.2 W hW; simp [execOp, go_sem, c1, c2, q0, q1]; exact ⟨rfl, rfl⟩) ?_; simp only [Act.put, List.setIfInBounds_toArray, List.set_cons_zero, List.set_cons_succ])
        refine Bl.belO_nil ?_
        intro w2 hb2
        have hR0 := HH.out.1.below hb2 HH.out.1.lt
        have hc := hR0.row j hlt
        have hf := hR0.free (1 + j)
        have hset := hR0.set j (f j &&& (Bv.bit k - 1#64))
        rw [below_bit (by omega : k ≤ 64)] at hset
        rw [fineM_in j k f hjk] at hset
        have H2 := Lib.hid (And.intro hset (And.intro ((HH.out.2.1.below hb2 HH.out.2.1.lt).other ⟨w.heap.size, 1 + j, none⟩ (.int .u64 (Bv.U (f j &&& Rl.below (k : Int)))) (by simp)) ((HH.out.2.2.trans (hb2.mono HH.out.2.2.size)).setCell (p := ⟨w.heap.size, 1 + j, none⟩) (Nat.le_refl _) (.int .u64 (Bv.U (f j &&& Rl.below (k : Int)))))))
        rw [below_bit (by omega : k ≤ 64)]
        clear hset hR0 hb2
        go_wp2_with fail
        go_roundw
        case rel => exact ⟨j + 1, by omega, by go_num, H2.out.1, H2.out.2.1, H2.out.2.2⟩
        case measure => simp [intOf]; omega
      · have hd : decide (k ≤ j) = true := decide_eq_true (by omega)
        have c3 := hR0.row j hlt
        have f3 := hR0.free (1 + j)
        obtain ⟨W5, hW5⟩ : ∃ W5, W5 = wr.setCell ⟨w.heap.size, 1 + j, none⟩ (.int .u64 0) := ⟨_, rfl⟩
        have hS0 : RelAt W5 w.heap.size k (upd (fineM j k f) j 0#64) := by rw [hW5]; exact hR0.set j 0#64
        have hS1 : RelAt W5 (w.heap.size + 1) 0 zeroR := by rw [hW5]; exact hR1.other ⟨w.heap.size, 1 + j, none⟩ (.int .u64 0) (by simp)
        have hSB : Below w.heap.size w W5 := by rw [hW5]; exact hb.setCell (p := ⟨w.heap.size, 1 + j, none⟩) (Nat.le_refl _) (.int .u64 0)
        have cN : ∀ W, Below W5.heap.size W5 W → W.cell? ⟨w.heap.size, 0, none⟩ = some (.int .i64 k) := fun W hW => (hS0.below hW hS0.lt).num
        have cR : ∀ W, Below W5.heap.size W5 W → W.cell? ⟨w.heap.size, 1 + j, none⟩ = some (.int .u64 (Bv.U 0#64)) := fun W hW => by have := (hS0.below hW hS0.lt).row j hlt; rwa [upd_same] at this
        have HH := Lib.hid (And.intro hS0 (And.intro hS1 (And.intro hSB hW5)))
        have CN := Lib.hid (And.intro cN cR)
        clear hR0 hR1 hb cN cR hS0 hS1 hSB hW5
        go_wp2_with fail
        rw [← HH.out.2.2.2]
        refine Bl.wp_region_head 11 (by kernel_rfl) (by kernel_rfl) ?_
        simp only [List.take_succ_cons, List.take_zero, List.drop_succ_cons, List.drop_zero]
        repeat (refine Bl.belO_step (by rfl) (fun W hW => by have c1 := CN.out.1 W hW; have c2 := CN.out.2 W hW; simp [execOp, go_sem, c1, c2, q0, q1]; exact ⟨rfl, rfl⟩) ?_; simp only [Act.put, List.setIfInBounds_toArray, List.set_cons_zero, List.set_cons_succ])
        refine Bl.belO_nil ?_
        intro w2 hb2
        have hR0 := HH.out.1.below hb2 HH.out.1.lt
        have hc := hR0.row j hlt
        have hf := hR0.free (1 + j)
        have hset := hR0.set j (0#64 &&& (Bv.bit k - 1#64))
        rw [upd_upd, show (0#64 &&& (Bv.bit k - 1#64)) = 0#64 by simp, fineM_out j k f hjk] at hset
        have H2 := Lib.hid (And.intro hset (And.intro ((HH.out.2.1.below hb2 HH.out.2.1.lt).other ⟨w.heap.size, 1 + j, none⟩ (.int .u64 (Bv.U 0#64)) (by simp)) ((HH.out.2.2.1.trans (hb2.mono HH.out.2.2.1.size)).setCell (p := ⟨w.heap.size, 1 + j, none⟩) (Nat.le_refl _) (.int .u64 (Bv.U 0#64)))))
        clear hset hR0 hb2 c3 f3
        go_wp2_with fail
        go_roundw
        case rel => exact ⟨j + 1, by omega, by go_num, H2.out.1, H2.out.2.1, H2.out.2.2⟩
        case measure => simp [intOf]; omega
    · have hj48 : j = 48 := by omega
      subst hj48
      rw [fineM_all k f hk48 H.out.2.2.2.1] at hR0
      have HH := Lib.hid (And.intro hR0 (And.intro hR1 hb))
      clear hR0 hR1 hb
      go_wp2_with (first
        | (refine wpList_load_rel (by rfl) (.tmp 2) (by rfl) w.heap.size k (fineR k f) (by rfl) HH.out.1 ?_)
        | (refine wpList_store_rel (by rfl) (.tmp 4) (.tmp 40) (by rfl) (w.heap.size + 1) k 0 (fineR k f) zeroR (by rfl) (by rfl) HH.out.2.1 ?_; intro w4 hR4 hg4))
      refine bodyPost_ret (results_cell_row rfl _ _ (w.heap.size + 1) 26 (relC k (fineR k f)) (0, 0) _ rfl hR4 uRel rfl (sRelC _ _)) rfl ⟨rfl, HH.out.2.2.grown hg4 HH.out.2.2.size (fun j e => by injection e with e; omega)⟩
/-- a relation that is fine already -/
theorem fineK_same {k m : Nat} (h : k ≤ m) : fineK k m = k := by
  unfold fineK
  have e1 : ((k : Int)).tmod ((m : Int) + 1) = k := by rw [Int.tmod_eq_emod_of_nonneg (by omega)]; exact Int.emod_eq_of_lt (by omega) (by omega)
  rw [e1, show ((k : Int) + m + 1) = k + ((m : Int) + 1) * 1 by omega, Int.add_mul_emod_self_left, Int.emod_eq_of_lt (by omega) (by omega)]
  omega
end Go.Proofs.YtknjdfgmejobfaaDoor
