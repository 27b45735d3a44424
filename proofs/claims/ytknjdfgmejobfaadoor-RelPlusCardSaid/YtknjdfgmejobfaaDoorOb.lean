/- layer 2's law: the walk of RelPlus. -/
import Derived.Test.YtknjdfgmejobfaaDoorNy
namespace Go.Proofs.YtknjdfgmejobfaaDoor
open Go.RowKit Go.Shelf

attribute [-go_sem] run_eql_struct run_neq_struct
attribute [local go_sem] Bv.and_u Bv.or_u Bv.andNot_u Bv.wrap_sub1 Bv.eq0 Bv.ne0 Bv.wrap_pow Bv.wrap_powmin Bv.wrap_neg Bv.eq_u Bv.ne_u Bv.shr_min Bv.shr_pow Bv.tmod2 Bv.and1 Bv.wrap_add Bv.B1_eq1 Bv.B1_eq0 Bv.B1_ne1 Bv.B1_ne0 run_rel_eql run_rel_neq relEq_self

set_option maxRecDepth 100000 in
set_option maxHeartbeats 8000000 in
theorem relPlus_con (n : Int) (f : Rl.Rows) (m : Int) (g : Rl.Rows) (w : World) (zf : Rl.Z f) (zg : Rl.Z g) (hT : Tab w) (hw : 0 < w.heap.size) :
    Calls Tryd.prog 5 #[.agg (relC n f), .agg (relC m g)] w fun e w' => e = .returned (.bool true) ∧ Below w.heap.size w w' := by
  have hzr := zero_rel
  have hne0 : ¬ relC 0 zeroR = #[] := by intro h; have := congrArg Array.size h; rw [relC_size] at this; simp at this
  have hTl : ∀ W, Below w.heap.size w W → Tab W ∧ 0 < W.heap.size := fun W h => ⟨hT.below h hw, Nat.lt_of_lt_of_le hw h.size⟩
  have HT := Lib.hid hTl
  clear hTl hT
  obtain ⟨k, hk⟩ : ∃ k, k = fineK n 20 := ⟨_, rfl⟩
  have hk20 : k ≤ 20 := by rw [hk]; exact fineK_le n 20
  have hk48 : k ≤ 48 := by omega
  have hkk : k = fineK (k : Int) 20 := (fineK_same hk20).symm
  obtain ⟨k2, hk2⟩ : ∃ k, k = fineK m 20 := ⟨_, rfl⟩
  have hk248 : k2 ≤ 48 := by rw [hk2]; exact Nat.le_trans (fineK_le m 20) (by omega)
  obtain ⟨A, hA⟩ : ∃ A, A = fineR k f := ⟨_, rfl⟩
  obtain ⟨B0, hB0⟩ : ∃ A, A = fineR k2 g := ⟨_, rfl⟩
  obtain ⟨B, hB⟩ : ∃ A, A = fineR k B0 := ⟨_, rfl⟩
  have oA : Rl.Ok k A := by rw [hA]; exact ok_fine hk48 f
  have zB0 : Rl.Z B0 := by rw [hB0]; exact (ok_fine hk248 g).z
  have oB : Rl.Ok k B := by rw [hB]; exact ok_fine hk48 B0
  obtain ⟨X, hX⟩ : ∃ R, R = Rl.plusF k A := ⟨_, rfl⟩
  obtain ⟨XX, hXX⟩ : ∃ R, R = Rl.thenF k X X := ⟨_, rfl⟩
  obtain ⟨Q, hQ⟩ : ∃ R, R = Rl.plusF k B := ⟨_, rfl⟩
  obtain ⟨M, hM⟩ : ∃ R, R = Rl.unionF k A Q := ⟨_, rfl⟩
  obtain ⟨N, hN⟩ : ∃ R, R = Rl.plusF k M := ⟨_, rfl⟩
  obtain ⟨NN, hNN⟩ : ∃ R, R = Rl.thenF k N N := ⟨_, rfl⟩
  have oX : Rl.Ok k X := by rw [hX]; exact Rl.ok_plus oA
  have oXX : Rl.Ok k XX := by rw [hXX]; exact Rl.ok_then oX oX
  have oQ : Rl.Ok k Q := by rw [hQ]; exact Rl.ok_plus oB
  have oM : Rl.Ok k M := by rw [hM]; exact Rl.ok_union oA oQ
  have oN : Rl.Ok k N := by rw [hN]; exact Rl.ok_plus oM
  have oNN : Rl.Ok k NN := by rw [hNN]; exact Rl.ok_then oN oN
  have i1 : ∀ a b, Rl.bit A a b = true → Rl.bit X a b = true := fun a b h => by rw [hX]; exact Rl.plus_sup oA h
  have i2 : ∀ a b, Rl.bit XX a b = true → Rl.bit X a b = true := fun a b h => by rw [hXX, hX] at h; rw [hX]; exact Rl.plus_sup_then oA h
  have i3 : ∀ a b, Rl.bit X a b = true → Rl.bit N a b = true := fun a b h => by
    rw [hX] at h; rw [hN]
    exact Rl.plus_mono oA oM (fun x y hxy => by rw [hM]; exact (Rl.union_iff oA oQ x y).2 (.inl hxy)) h
  have i4 : ∀ a b, Rl.bit NN a b = true → Rl.bit N a b = true := fun a b h => by rw [hNN, hN] at h; rw [hN]; exact Rl.plus_sup_then oM h
  have hX2 : X = Rl.plusF k X := by rw [hX]; exact (Rl.plus_plus oA).symm
  have E := Lib.hid (And.intro hk (And.intro hkk (And.intro hA (And.intro hk2 (And.intro hB0 hB)))))
  have EX := Lib.hid (And.intro hX (And.intro hXX (And.intro hQ (And.intro hM (And.intro hN (And.intro hNN hX2))))))
  have I := Lib.hid (And.intro i1 (And.intro i2 (And.intro i3 i4)))
  have O := Lib.hid (And.intro oA (And.intro oB (And.intro oX (And.intro oXX (And.intro oQ (And.intro oM (And.intro oN oNN)))))))
  have O2 := Lib.hid (And.intro zf (And.intro zg zB0))
  clear hk hkk hA hk2 hB0 hB hX hXX hQ hM hN hNN hX2 i1 i2 i3 i4 oA oB oX oXX oQ oM oN oNN zf zg zB0
  have H0 := Lib.hid (((Held.nil w).box n f).box m g)
  simp only [World.size_alloc] at H0
  go_enter Tryd.func5, Tryd.ntmps5
  go_wp2_with fail
  generalize (w.alloc (.cells (relC n f) 26)).alloc (.cells (relC m g) 26) = W0 at H0 ⊢
  refine Bl.wp_region_head 4 (by kernel_rfl) (by kernel_rfl) ?_
  simp only [List.take_succ_cons, List.take_zero, List.drop_succ_cons, List.drop_zero]
  refine bel_load_rel (by rfl) (.tmp 2) (by rfl) w.heap.size n f (by rfl) (H0.out.at 0 rfl) ?_
  simp only [Act.put, List.setIfInBounds_toArray, List.set_cons_zero, List.set_cons_succ]
  refine Bl.belO_call 17 #[.agg (relC n f), .int .i64 20] (by rfl) (fun W => by simp [execOp, go_sem]) (fun W hW => fine_is n f 20 20 k A twenty E.out.1 E.out.2.2.1 W (by omega) O2.out.1) ?_
  simp only [Act.put, List.setIfInBounds_toArray, List.set_cons_zero, List.set_cons_succ]
  refine bel_load_rel (by rfl) (.tmp 3) (by rfl) (w.heap.size + 1) m g (by rfl) (H0.out.at 1 rfl) ?_
  simp only [Act.put, List.setIfInBounds_toArray, List.set_cons_zero, List.set_cons_succ]
  refine Bl.belO_call 17 #[.agg (relC m g), .int .i64 20] (by rfl) (fun W => by simp [execOp, go_sem]) (fun W hW => fine_is m g 20 20 k2 B0 twenty E.out.2.2.2.1 E.out.2.2.2.2.1 W (by omega) O2.out.2.1) ?_
  simp only [Act.put, List.setIfInBounds_toArray, List.set_cons_zero, List.set_cons_succ]
  refine Bl.belO_nil ?_
  intro w1 hb2
  have H1 := Lib.hid (H0.out.step hb2)
  clear hb2
  go_wp2_with (first | (refine wpList_store_rel (by rfl) (.tmp 2) (.tmp 14) (by rfl) w.heap.size k n A f (by rfl) (by rfl) (H1.out.at 0 rfl) ?_; intro w2 hR hg; have H2 := Lib.hid (H1.out.put 0 rfl hR hg); clear hR hg) | (refine wpList_store_rel (by rfl) (.tmp 3) (.tmp 16) (by rfl) (w.heap.size + 1) k2 m B0 g (by rfl) (by rfl) (H2.out.at 1 rfl) ?_; intro w3 hR hg; have H3 := Lib.hid (H2.out.put 1 rfl hR hg); clear hR hg) | (refine wpList_load_rel (by rfl) (.tmp 2) (by rfl) w.heap.size k A (by rfl) (H3.out.at 0 rfl) ?_))
  with_reducible refine (plus_is k A X EX.out.1 _ O.out.1 (HT.out _ H3.out.bel)).mono ?_
  rintro e w4 ⟨rfl, hb⟩
  have H4 := Lib.hid (H3.out.step hb)
  clear hb
  go_wp2_with (first | (refine wpList_store_rel (by rfl) (.tmp 5) (.tmp 18) (by rfl) w4.heap.size k 0 X zeroR (by rfl) (by rfl) (RelAt.new w4 0 zeroR) ?_; intro w5 hR hg; have H5 := Lib.hid (H4.out.push hR hg); clear hR hg) | (refine wpList_load_rel (by rfl) (.tmp 5) (by rfl) w4.heap.size k X (by rfl) (H5.out.at 2 rfl) ?_))
  with_reducible refine (then_is k X X XX EX.out.2.1 _ O.out.2.2.1 O.out.2.2.1 (HT.out _ H5.out.bel)).mono ?_
  rintro e w6 ⟨rfl, hb⟩
  have H6 := Lib.hid (H5.out.step hb)
  clear hb
  go_wp2_with (refine wpList_store_rel (by rfl) (.tmp 6) (.tmp 23) (by rfl) w6.heap.size k 0 XX zeroR (by rfl) (by rfl) (RelAt.new w6 0 zeroR) ?_; intro w7 hR hg; have H7 := Lib.hid (H6.out.push hR hg); clear hR hg)
  refine Bl.wp_region_head 19 (by kernel_rfl) (by kernel_rfl) ?_
  simp only [List.take_succ_cons, List.take_zero, List.drop_succ_cons, List.drop_zero]
  repeat (refine Bl.belO_step (by rfl) (fun W hW => by simp [execOp, go_sem]; exact ⟨rfl, rfl⟩) ?_; simp only [Act.put, List.setIfInBounds_toArray, List.set_cons_zero, List.set_cons_succ])
  refine bel_load_rel (by rfl) (.tmp 2) (by rfl) w.heap.size k A (by rfl) (H7.out.at 0 rfl) ?_
  simp only [Act.put, List.setIfInBounds_toArray, List.set_cons_zero, List.set_cons_succ]
  refine bel_load_rel (by rfl) (.tmp 5) (by rfl) w4.heap.size k X (by rfl) (H7.out.at 2 rfl) ?_
  simp only [Act.put, List.setIfInBounds_toArray, List.set_cons_zero, List.set_cons_succ]
  refine Bl.belO_call 30 #[.agg (relC k A), .agg (relC k X)] (by rfl) (fun W => by simp [execOp, go_sem]) (fun W hW => in_true k A X W O.out.1 O.out.2.2.1 I.out.1) ?_
  simp only [Act.put, List.setIfInBounds_toArray, List.set_cons_zero, List.set_cons_succ]
  repeat (refine Bl.belO_step (by rfl) (fun W hW => by simp [execOp, go_sem]; exact ⟨rfl, rfl⟩) ?_; simp only [Act.put, List.setIfInBounds_toArray, List.set_cons_zero, List.set_cons_succ])
  refine bel_load_rel (by rfl) (.tmp 6) (by rfl) w6.heap.size k XX (by rfl) (H7.out.at 3 rfl) ?_
  simp only [Act.put, List.setIfInBounds_toArray, List.set_cons_zero, List.set_cons_succ]
  refine bel_load_rel (by rfl) (.tmp 5) (by rfl) w4.heap.size k X (by rfl) (H7.out.at 2 rfl) ?_
  simp only [Act.put, List.setIfInBounds_toArray, List.set_cons_zero, List.set_cons_succ]
  refine Bl.belO_call 30 #[.agg (relC k XX), .agg (relC k X)] (by rfl) (fun W => by simp [execOp, go_sem]) (fun W hW => in_true k XX X W O.out.2.2.2.1 O.out.2.2.1 I.out.2.1) ?_
  simp only [Act.put, List.setIfInBounds_toArray, List.set_cons_zero, List.set_cons_succ]
  repeat (refine Bl.belO_step (by rfl) (fun W hW => by simp [execOp, go_sem]; exact ⟨rfl, rfl⟩) ?_; simp only [Act.put, List.setIfInBounds_toArray, List.set_cons_zero, List.set_cons_succ])
  refine bel_load_rel (by rfl) (.tmp 5) (by rfl) w4.heap.size k X (by rfl) (H7.out.at 2 rfl) ?_
  simp only [Act.put, List.setIfInBounds_toArray, List.set_cons_zero, List.set_cons_succ]
  refine Bl.belO_call 25 #[.agg (relC k X)] (by rfl) (fun W => by simp [execOp, go_sem]) (fun W hW => plus_is k X X EX.out.2.2.2.2.2.2 W O.out.2.2.1 (HT.out W (H7.out.bel.trans (hW.mono H7.out.bel.size)))) ?_
  simp only [Act.put, List.setIfInBounds_toArray, List.set_cons_zero, List.set_cons_succ]
  refine bel_load_rel (by rfl) (.tmp 5) (by rfl) w4.heap.size k X (by rfl) (H7.out.at 2 rfl) ?_
  simp only [Act.put, List.setIfInBounds_toArray, List.set_cons_zero, List.set_cons_succ]
  repeat (refine Bl.belO_step (by rfl) (fun W hW => by simp [execOp, go_sem]; exact ⟨rfl, rfl⟩) ?_; simp only [Act.put, List.setIfInBounds_toArray, List.set_cons_zero, List.set_cons_succ])
  refine Bl.belO_nil ?_
  intro w8 hb2
  have H8 := Lib.hid (H7.out.step hb2)
  clear hb2
  have c0 := (H8.out.at 0 rfl).num
  have c1 := (H8.out.at 1 rfl).num
  have f1 := (H8.out.at 1 rfl).free 0
  have H9 := Lib.hid (H8.out.setN 1 rfl k)
  go_wp2_with (first | (refine wpList_load_rel (by rfl) (.tmp 3) (by rfl) (w.heap.size + 1) k B0 (by rfl) (H9.out.at 1 rfl) ?_))
  with_reducible refine (fine_is k B0 20 20 k B twenty E.out.2.1 E.out.2.2.2.2.2 _ (by omega) O2.out.2.2).mono ?_
  rintro e w10 ⟨rfl, hb⟩
  have H10 := Lib.hid (H9.out.step hb)
  clear hb
  go_wp2_with (refine wpList_store_rel (by rfl) (.tmp 3) (.tmp 49) (by rfl) (w.heap.size + 1) k k B B0 (by rfl) (by rfl) (H10.out.at 1 rfl) ?_; intro w11 hR hg; have H11 := Lib.hid (H10.out.put 1 rfl hR hg); clear hR hg)
  refine Bl.wp_region_head_store 7 _ _ (.cells (relC 0 zeroR) 26) (.cells (relC k M) 26) (by kernel_rfl) (by kernel_rfl) rfl rfl (fun a W => run_alloc_rel _ _ _ _ _ _) rfl rfl ?_
  simp only [List.take_succ_cons, List.take_zero, List.drop_succ_cons, List.drop_zero]
  refine bel_load_rel (by rfl) (.tmp 2) (by rfl) w.heap.size k A (by rfl) (H11.out.at 0 rfl) ?_
  simp only [Act.put, List.setIfInBounds_toArray, List.set_cons_zero, List.set_cons_succ]
  refine bel_load_rel (by rfl) (.tmp 3) (by rfl) (w.heap.size + 1) k B (by rfl) (H11.out.at 1 rfl) ?_
  simp only [Act.put, List.setIfInBounds_toArray, List.set_cons_zero, List.set_cons_succ]
  refine Bl.belO_call 25 #[.agg (relC k B)] (by rfl) (fun W => by simp [execOp, go_sem]) (fun W hW => plus_is k B Q EX.out.2.2.1 W O.out.2.1 (HT.out W (H11.out.bel.trans (hW.mono H11.out.bel.size)))) ?_
  simp only [Act.put, List.setIfInBounds_toArray, List.set_cons_zero, List.set_cons_succ]
  refine Bl.belO_call 19 #[.agg (relC k A), .agg (relC k Q)] (by rfl) (fun W => by simp [execOp, go_sem]) (fun W hW => union_is k A Q M EX.out.2.2.2.1 W O.out.1 O.out.2.2.2.2.1) ?_
  simp only [Act.put, List.setIfInBounds_toArray, List.set_cons_zero, List.set_cons_succ]
  repeat (refine Bl.belO_step (by rfl) (fun W hW => by simp [execOp, go_sem]; exact ⟨rfl, rfl⟩) ?_; simp only [Act.put, List.setIfInBounds_toArray, List.set_cons_zero, List.set_cons_succ])
  refine Bl.belO_nil ?_
  intro b12
  refine ⟨writes_rel (.tmp 8) (.tmp 55) (by rfl) b12 k 0 M zeroR (by rfl) (by rfl), ?_⟩
  intro w12 hb2 hle hR2
  have H12 := Lib.hid (H11.out.pushed hb2 hle (n := k) (f := M) hR2)
  clear hb2 hle hR2
  simp only [Act.put, List.setIfInBounds_toArray, List.set_cons_zero, List.set_cons_succ]
  go_wp2_with (first | (refine wpList_load_rel (by rfl) (.tmp 8) (by rfl) b12 k M (by rfl) (H12.out.at 4 rfl) ?_))
  with_reducible refine (plus_is k M N EX.out.2.2.2.2.1 _ O.out.2.2.2.2.2.1 (HT.out _ H12.out.bel)).mono ?_
  rintro e w13 ⟨rfl, hb⟩
  have H13 := Lib.hid (H12.out.step hb)
  clear hb
  go_wp2_with (first | (refine wpList_store_rel (by rfl) (.tmp 10) (.tmp 60) (by rfl) w13.heap.size k 0 N zeroR (by rfl) (by rfl) (RelAt.new w13 0 zeroR) ?_; intro w14 hR hg; have H14 := Lib.hid (H13.out.push hR hg); clear hR hg) | (refine wpList_load_rel (by rfl) (.tmp 5) (by rfl) w4.heap.size k X (by rfl) (H14.out.at 2 rfl) ?_) | (refine wpList_load_rel (by rfl) (.tmp 10) (by rfl) w13.heap.size k N (by rfl) (H14.out.at 5 rfl) ?_))
  with_reducible refine (in_true k X N _ O.out.2.2.1 O.out.2.2.2.2.2.2.1 I.out.2.2.1).mono ?_
  rintro e w15 ⟨rfl, hb⟩
  have H15 := Lib.hid (H14.out.step hb)
  clear hb
  go_wp2_with (first | (refine wpList_load_rel (by rfl) (.tmp 10) (by rfl) w13.heap.size k N (by rfl) (H15.out.at 5 rfl) ?_))
  with_reducible refine (then_is k N N NN EX.out.2.2.2.2.2.1 _ O.out.2.2.2.2.2.2.1 O.out.2.2.2.2.2.2.1 (HT.out _ H15.out.bel)).mono ?_
  rintro e w16 ⟨rfl, hb⟩
  have H16 := Lib.hid (H15.out.step hb)
  clear hb
  go_wp2_with (first | (refine wpList_store_rel (by rfl) (.tmp 11) (.tmp 69) (by rfl) w16.heap.size k 0 NN zeroR (by rfl) (by rfl) (RelAt.new w16 0 zeroR) ?_; intro w17 hR hg; have H17 := Lib.hid (H16.out.push hR hg); clear hR hg) | (refine wpList_load_rel_want (by rfl) (.tmp 11) (by rfl) w16.heap.size k NN (by rfl) (H17.out.at 6 rfl) ?_) | (refine wpList_load_rel_want (by rfl) (.tmp 10) (by rfl) w13.heap.size k N (by rfl) (H17.out.at 5 rfl) ?_))
  with_reducible refine (in_true k NN N _ O.out.2.2.2.2.2.2.2 O.out.2.2.2.2.2.2.1 I.out.2.2.2).mono ?_
  rintro e w18 ⟨rfl, hb⟩
  have H18 := Lib.hid (H17.out.step hb)
  clear hb
  go_wp2_with fail
  with_reducible refine (awake_any _ (HT.out _ H18.out.bel).1 (HT.out _ H18.out.bel).2).mono ?_
  rintro e w19 ⟨rfl, hb⟩
  have H19 := Lib.hid (H18.out.step hb)
  clear hb
  go_wp2_with fail
  go_ret
  exact ⟨rfl, H19.out.bel⟩
end Go.Proofs.YtknjdfgmejobfaaDoor
