/- layer 2's law: the walk of RelThen. -/
import Derived.Test.YtknjdfgmejobfaaDoorNy
namespace Go.Proofs.YtknjdfgmejobfaaDoor
open Go.RowKit Go.Shelf

attribute [-go_sem] run_eql_struct run_neq_struct
attribute [local go_sem] Bv.and_u Bv.or_u Bv.andNot_u Bv.wrap_sub1 Bv.eq0 Bv.ne0 Bv.wrap_pow Bv.wrap_powmin Bv.wrap_neg Bv.eq_u Bv.ne_u Bv.shr_min Bv.shr_pow Bv.tmod2 Bv.and1 Bv.wrap_add Bv.B1_eq1 Bv.B1_eq0 Bv.B1_ne1 Bv.B1_ne0 run_rel_eql run_rel_neq relEq_self

set_option maxRecDepth 100000 in
set_option maxHeartbeats 8000000 in
theorem relThen_any (n m l : Int) (f g h : Rl.Rows) (w : World) (zf : Rl.Z f) (zg : Rl.Z g) (zh : Rl.Z h) (hT : Tab w) (hw : 0 < w.heap.size) :
    Calls Tryd.prog 3 #[.agg (relC n f), .agg (relC m g), .agg (relC l h)] w fun e w' => e = .returned (.bool true) ∧ Below w.heap.size w w' := by
  have hzr := zero_rel
  have hne0 : ¬ relC 0 zeroR = #[] := by intro h; have := congrArg Array.size h; rw [relC_size] at this; simp at this
  have hTl : ∀ W, Below w.heap.size w W → Tab W ∧ 0 < W.heap.size := fun W h => ⟨hT.below h hw, Nat.lt_of_lt_of_le hw h.size⟩
  have HT := Lib.hid hTl
  clear hTl hT
  obtain ⟨k, hk⟩ : ∃ k, k = fineK n 20 := ⟨_, rfl⟩
  have hk20 : k ≤ 20 := by rw [hk]; exact fineK_le n 20
  have hk48 : k ≤ 48 := by omega
  have hkk : k = fineK (k : Int) 20 := (fineK_same hk20).symm
  obtain ⟨A, hA⟩ : ∃ A, A = fineR k f := ⟨_, rfl⟩
  obtain ⟨B, hB⟩ : ∃ B, B = fineR k g := ⟨_, rfl⟩
  obtain ⟨C, hC⟩ : ∃ C, C = fineR k h := ⟨_, rfl⟩
  have oA : Rl.Ok k A := by rw [hA]; exact ok_fine hk48 f
  have oB : Rl.Ok k B := by rw [hB]; exact ok_fine hk48 g
  have oC : Rl.Ok k C := by rw [hC]; exact ok_fine hk48 h
  obtain ⟨AB, hAB⟩ : ∃ R, R = Rl.thenF k A B := ⟨_, rfl⟩
  obtain ⟨BC, hBC⟩ : ∃ R, R = Rl.thenF k B C := ⟨_, rfl⟩
  obtain ⟨X, hX⟩ : ∃ R, R = Rl.thenF k AB C := ⟨_, rfl⟩
  have hX2 : X = Rl.thenF k A BC := by rw [hX, hAB, hBC]; exact Rl.then_assoc oA oB oC
  obtain ⟨U, hU⟩ : ∃ R, R = Rl.unionF k B C := ⟨_, rfl⟩
  obtain ⟨V, hV⟩ : ∃ R, R = Rl.thenF k A U := ⟨_, rfl⟩
  obtain ⟨AC, hAC⟩ : ∃ R, R = Rl.thenF k A C := ⟨_, rfl⟩
  have hV2 : V = Rl.unionF k AB AC := by rw [hV, hU, hAB, hAC]; exact Rl.then_union oA oB oC
  obtain ⟨TB, hTB⟩ : ∃ R, R = Rl.backF k B := ⟨_, rfl⟩
  obtain ⟨TA, hTA⟩ : ∃ R, R = Rl.backF k A := ⟨_, rfl⟩
  obtain ⟨T, hTT⟩ : ∃ R, R = Rl.thenF k TB TA := ⟨_, rfl⟩
  have hT2 : T = Rl.backF k AB := by rw [hTT, hTB, hTA, hAB]; exact (Rl.then_back oA oB).symm
  obtain ⟨I, hI⟩ : ∃ R, R = Rl.idF k 18446744073709551615#64 := ⟨_, rfl⟩
  have hI2 : A = Rl.thenF k A I := by rw [hI]; exact (Rl.then_id oA).symm
  have hTA2 : A = Rl.backF k TA := by rw [hTA]; exact (Rl.back_back oA).symm
  have oAB : Rl.Ok k AB := by rw [hAB]; exact Rl.ok_then oA oB
  have oBC : Rl.Ok k BC := by rw [hBC]; exact Rl.ok_then oB oC
  have oU : Rl.Ok k U := by rw [hU]; exact Rl.ok_union oB oC
  have oAC : Rl.Ok k AC := by rw [hAC]; exact Rl.ok_then oA oC
  have oTB : Rl.Ok k TB := by rw [hTB]; exact Rl.ok_back oB
  have oTA : Rl.Ok k TA := by rw [hTA]; exact Rl.ok_back oA
  have oI : Rl.Ok k I := by rw [hI]; exact Rl.ok_id hk48 _
  have E := Lib.hid (And.intro hk (And.intro hkk (And.intro hA (And.intro hB hC))))
  have EX := Lib.hid (And.intro hAB (And.intro hBC (And.intro hX hX2)))
  have EU := Lib.hid (And.intro hU (And.intro hV (And.intro hAC hV2)))
  have ET := Lib.hid (And.intro hTB (And.intro hTA (And.intro hTT (And.intro hT2 hTA2))))
  have EI := Lib.hid (And.intro hI hI2)
  have O := Lib.hid (And.intro oA (And.intro oB (And.intro oC (And.intro oAB (And.intro oBC (And.intro oU oAC))))))
  have O2 := Lib.hid (And.intro oTB (And.intro oTA (And.intro oI (And.intro zf (And.intro zg zh)))))
  clear hk hkk hA hB hC oA oB oC hAB hBC hX hX2 hU hV hAC hV2 hTB hTA hTT hT2 hI hI2 hTA2 oAB oBC oU oAC oTB oTA oI zf zg zh
  have H0 := Lib.hid ((((Held.nil w).box n f).box m g).box l h)
  simp only [World.size_alloc] at H0
  go_enter Tryd.func3, Tryd.ntmps3
  go_wp2_with (first | (refine wpList_load_rel (by rfl) (.tmp 3) (by rfl) w.heap.size n f (by rfl) (H0.out.at 0 rfl) ?_))
  with_reducible refine (fine_is n f 20 20 k A twenty E.out.1 E.out.2.2.1 _ (by omega) O2.out.2.2.2.1).mono ?_
  rintro e w1 ⟨rfl, hb⟩
  have H1 := Lib.hid (H0.out.step hb)
  clear hb
  go_wp2_with (refine wpList_store_rel (by rfl) (.tmp 3) (.tmp 28) (by rfl) w.heap.size k n A f (by rfl) (by rfl) (H1.out.at 0 rfl) ?_; intro w2 hR hg; have H2 := Lib.hid (H1.out.put 0 rfl hR hg); clear hR hg)
  have c3 := (H2.out.at 0 rfl).num
  have c4 := (H2.out.at 1 rfl).num
  have c5 := (H2.out.at 2 rfl).num
  have f4 := (H2.out.at 1 rfl).free 0
  have f5 := (H2.out.at 2 rfl).free 0
  apply wp_end
  case h => go_region <;> exact ⟨rfl, rfl⟩
  have hx : Held w ([(w.heap.size, (k : Int), A), (w.heap.size + 1, (k : Int), g), (w.heap.size + 1 + 1, (k : Int), h)]) (((w2.setCell ⟨w.heap.size + 1, 0, none⟩ (.int .i64 k)).setCell ⟨w.heap.size + 1 + 1, 0, none⟩ (.int .i64 k)).drew) := ((H2.out.setN 1 rfl k).setN 2 rfl k).drew
  clear c3 c4 c5 f4 f5
  generalize ((w2.setCell ⟨w.heap.size + 1, 0, none⟩ (.int .i64 k)).setCell ⟨w.heap.size + 1 + 1, 0, none⟩ (.int .i64 k)).drew = w3 at hx ⊢
  have H3 := Lib.hid hx
  clear hx
  go_wp2_with fail
  refine Bl.wp_region_head 4 (by kernel_rfl) (by kernel_rfl) ?_
  simp only [List.take_succ_cons, List.take_zero, List.drop_succ_cons, List.drop_zero]
  refine bel_load_rel (by rfl) (.tmp 4) (by rfl) (w.heap.size + 1) k g (by rfl) (H3.out.at 1 rfl) ?_
  simp only [Act.put, List.setIfInBounds_toArray, List.set_cons_zero, List.set_cons_succ]
  refine Bl.belO_call 17 #[.agg (relC k g), .int .i64 20] (by rfl) (fun W => by simp [execOp, go_sem]) (fun W hW => fine_is k g 20 20 k B twenty E.out.2.1 E.out.2.2.2.1 W (by omega) O2.out.2.2.2.2.1) ?_
  simp only [Act.put, List.setIfInBounds_toArray, List.set_cons_zero, List.set_cons_succ]
  refine bel_load_rel (by rfl) (.tmp 5) (by rfl) (w.heap.size + 1 + 1) k h (by rfl) (H3.out.at 2 rfl) ?_
  simp only [Act.put, List.setIfInBounds_toArray, List.set_cons_zero, List.set_cons_succ]
  refine Bl.belO_call 17 #[.agg (relC k h), .int .i64 20] (by rfl) (fun W => by simp [execOp, go_sem]) (fun W hW => fine_is k h 20 20 k C twenty E.out.2.1 E.out.2.2.2.2 W (by omega) O2.out.2.2.2.2.2) ?_
  simp only [Act.put, List.setIfInBounds_toArray, List.set_cons_zero, List.set_cons_succ]
  refine Bl.belO_nil ?_
  intro w4 hb2
  have H4 := Lib.hid (H3.out.step hb2)
  clear hb2
  go_wp2_with (first | (refine wpList_store_rel (by rfl) (.tmp 4) (.tmp 36) (by rfl) (w.heap.size + 1) k k B g (by rfl) (by rfl) (H4.out.at 1 rfl) ?_; intro w5 hR hg; have H5 := Lib.hid (H4.out.put 1 rfl hR hg); clear hR hg) | (refine wpList_store_rel (by rfl) (.tmp 5) (.tmp 38) (by rfl) (w.heap.size + 1 + 1) k k C h (by rfl) (by rfl) (H5.out.at 2 rfl) ?_; intro w6 hR hg; have H6 := Lib.hid (H5.out.put 2 rfl hR hg); clear hR hg) | (refine wpList_load_rel (by rfl) (.tmp 3) (by rfl) w.heap.size k A (by rfl) (H6.out.at 0 rfl) ?_) | (refine wpList_load_rel (by rfl) (.tmp 4) (by rfl) (w.heap.size + 1) k B (by rfl) (H6.out.at 1 rfl) ?_))
  with_reducible refine (then_is k A B AB EX.out.1 _ O.out.1 O.out.2.1 (HT.out _ H6.out.bel)).mono ?_
  rintro e w7 ⟨rfl, hb⟩
  have H7 := Lib.hid (H6.out.step hb)
  clear hb
  go_wp2_with (first | (refine wpList_store_rel (by rfl) (.tmp 7) (.tmp 43) (by rfl) w7.heap.size k 0 AB zeroR (by rfl) (by rfl) (RelAt.new w7 0 zeroR) ?_; intro w8 hR hg; have H8 := Lib.hid (H7.out.push hR hg); clear hR hg) | (refine wpList_load_rel (by rfl) (.tmp 4) (by rfl) (w.heap.size + 1) k B (by rfl) (H8.out.at 1 rfl) ?_) | (refine wpList_load_rel (by rfl) (.tmp 5) (by rfl) (w.heap.size + 1 + 1) k C (by rfl) (H8.out.at 2 rfl) ?_))
  with_reducible refine (then_is k B C BC EX.out.2.1 _ O.out.2.1 O.out.2.2.1 (HT.out _ H8.out.bel)).mono ?_
  rintro e w9 ⟨rfl, hb⟩
  have H9 := Lib.hid (H8.out.step hb)
  clear hb
  go_wp2_with (first | (refine wpList_store_rel (by rfl) (.tmp 9) (.tmp 49) (by rfl) w9.heap.size k 0 BC zeroR (by rfl) (by rfl) (RelAt.new w9 0 zeroR) ?_; intro w10 hR hg; have H10 := Lib.hid (H9.out.push hR hg); clear hR hg) | (refine wpList_load_rel (by rfl) (.tmp 7) (by rfl) w7.heap.size k AB (by rfl) (H10.out.at 3 rfl) ?_) | (refine wpList_load_rel (by rfl) (.tmp 5) (by rfl) (w.heap.size + 1 + 1) k C (by rfl) (H10.out.at 2 rfl) ?_))
  with_reducible refine (then_is k AB C X EX.out.2.2.1 _ O.out.2.2.2.1 O.out.2.2.1 (HT.out _ H10.out.bel)).mono ?_
  rintro e w11 ⟨rfl, hb⟩
  have H11 := Lib.hid (H10.out.step hb)
  clear hb
  go_wp2_with (first | (refine wpList_store_rel (by rfl) (.tmp 11) (.tmp 55) (by rfl) w11.heap.size k 0 X zeroR (by rfl) (by rfl) (RelAt.new w11 0 zeroR) ?_; intro w12 hR hg; have H12 := Lib.hid (H11.out.push hR hg); clear hR hg) | (refine wpList_load_rel (by rfl) (.tmp 3) (by rfl) w.heap.size k A (by rfl) (H12.out.at 0 rfl) ?_) | (refine wpList_load_rel (by rfl) (.tmp 9) (by rfl) w9.heap.size k BC (by rfl) (H12.out.at 4 rfl) ?_))
  with_reducible refine (then_is k A BC X EX.out.2.2.2 _ O.out.1 O.out.2.2.2.2.1 (HT.out _ H12.out.bel)).mono ?_
  rintro e w13 ⟨rfl, hb⟩
  have H13 := Lib.hid (H12.out.step hb)
  clear hb
  go_wp2_with (first | (refine wpList_store_rel (by rfl) (.tmp 13) (.tmp 61) (by rfl) w13.heap.size k 0 X zeroR (by rfl) (by rfl) (RelAt.new w13 0 zeroR) ?_; intro w14 hR hg; have H14 := Lib.hid (H13.out.push hR hg); clear hR hg) | (refine wpList_load_rel (by rfl) (.tmp 4) (by rfl) (w.heap.size + 1) k B (by rfl) (H14.out.at 1 rfl) ?_) | (refine wpList_load_rel (by rfl) (.tmp 5) (by rfl) (w.heap.size + 1 + 1) k C (by rfl) (H14.out.at 2 rfl) ?_))
  with_reducible refine (union_is k B C U EU.out.1 _ O.out.2.1 O.out.2.2.1).mono ?_
  rintro e w15 ⟨rfl, hb⟩
  have H15 := Lib.hid (H14.out.step hb)
  clear hb
  go_wp2_with (first | (refine wpList_store_rel (by rfl) (.tmp 15) (.tmp 67) (by rfl) w15.heap.size k 0 U zeroR (by rfl) (by rfl) (RelAt.new w15 0 zeroR) ?_; intro w16 hR hg; have H16 := Lib.hid (H15.out.push hR hg); clear hR hg) | (refine wpList_load_rel (by rfl) (.tmp 3) (by rfl) w.heap.size k A (by rfl) (H16.out.at 0 rfl) ?_) | (refine wpList_load_rel (by rfl) (.tmp 15) (by rfl) w15.heap.size k U (by rfl) (H16.out.at 7 rfl) ?_))
  with_reducible refine (then_is k A U V EU.out.2.1 _ O.out.1 O.out.2.2.2.2.2.1 (HT.out _ H16.out.bel)).mono ?_
  rintro e w17 ⟨rfl, hb⟩
  have H17 := Lib.hid (H16.out.step hb)
  clear hb
  go_wp2_with (first | (refine wpList_store_rel (by rfl) (.tmp 17) (.tmp 73) (by rfl) w17.heap.size k 0 V zeroR (by rfl) (by rfl) (RelAt.new w17 0 zeroR) ?_; intro w18 hR hg; have H18 := Lib.hid (H17.out.push hR hg); clear hR hg) | (refine wpList_load_rel (by rfl) (.tmp 3) (by rfl) w.heap.size k A (by rfl) (H18.out.at 0 rfl) ?_) | (refine wpList_load_rel (by rfl) (.tmp 5) (by rfl) (w.heap.size + 1 + 1) k C (by rfl) (H18.out.at 2 rfl) ?_))
  with_reducible refine (then_is k A C AC EU.out.2.2.1 _ O.out.1 O.out.2.2.1 (HT.out _ H18.out.bel)).mono ?_
  rintro e w19 ⟨rfl, hb⟩
  have H19 := Lib.hid (H18.out.step hb)
  clear hb
  go_wp2_with (first | (refine wpList_store_rel (by rfl) (.tmp 19) (.tmp 79) (by rfl) w19.heap.size k 0 AC zeroR (by rfl) (by rfl) (RelAt.new w19 0 zeroR) ?_; intro w20 hR hg; have H20 := Lib.hid (H19.out.push hR hg); clear hR hg) | (refine wpList_load_rel (by rfl) (.tmp 7) (by rfl) w7.heap.size k AB (by rfl) (H20.out.at 3 rfl) ?_) | (refine wpList_load_rel (by rfl) (.tmp 19) (by rfl) w19.heap.size k AC (by rfl) (H20.out.at 9 rfl) ?_))
  with_reducible refine (union_is k AB AC V EU.out.2.2.2 _ O.out.2.2.2.1 O.out.2.2.2.2.2.2).mono ?_
  rintro e w21 ⟨rfl, hb⟩
  have H21 := Lib.hid (H20.out.step hb)
  clear hb
  go_wp2_with (refine wpList_store_rel (by rfl) (.tmp 21) (.tmp 85) (by rfl) w21.heap.size k 0 V zeroR (by rfl) (by rfl) (RelAt.new w21 0 zeroR) ?_; intro w22 hR hg; have H22 := Lib.hid (H21.out.push hR hg); clear hR hg)
  refine Bl.wp_region_head_store 8 _ _ (.cells (relC 0 zeroR) 26) (.cells (relC k T) 26) (by kernel_rfl) (by kernel_rfl) rfl rfl (fun a W => run_alloc_rel _ _ _ _ _ _) rfl rfl ?_
  simp only [List.take_succ_cons, List.take_zero, List.drop_succ_cons, List.drop_zero]
  refine bel_load_rel (by rfl) (.tmp 4) (by rfl) (w.heap.size + 1) k B (by rfl) (H22.out.at 1 rfl) ?_
  simp only [Act.put, List.setIfInBounds_toArray, List.set_cons_zero, List.set_cons_succ]
  refine Bl.belO_call 20 #[.agg (relC k B)] (by rfl) (fun W => by simp [execOp, go_sem]) (fun W hW => back_is k B TB ET.out.1 W O.out.2.1 (HT.out W (H22.out.bel.trans (hW.mono H22.out.bel.size)))) ?_
  simp only [Act.put, List.setIfInBounds_toArray, List.set_cons_zero, List.set_cons_succ]
  refine bel_load_rel (by rfl) (.tmp 3) (by rfl) w.heap.size k A (by rfl) (H22.out.at 0 rfl) ?_
  simp only [Act.put, List.setIfInBounds_toArray, List.set_cons_zero, List.set_cons_succ]
  refine Bl.belO_call 20 #[.agg (relC k A)] (by rfl) (fun W => by simp [execOp, go_sem]) (fun W hW => back_is k A TA ET.out.2.1 W O.out.1 (HT.out W (H22.out.bel.trans (hW.mono H22.out.bel.size)))) ?_
  simp only [Act.put, List.setIfInBounds_toArray, List.set_cons_zero, List.set_cons_succ]
  refine Bl.belO_call 18 #[.agg (relC k TB), .agg (relC k TA)] (by rfl) (fun W => by simp [execOp, go_sem]) (fun W hW => then_is k TB TA T ET.out.2.2.1 W O2.out.1 O2.out.2.1 (HT.out W (H22.out.bel.trans (hW.mono H22.out.bel.size)))) ?_
  simp only [Act.put, List.setIfInBounds_toArray, List.set_cons_zero, List.set_cons_succ]
  repeat (refine Bl.belO_step (by rfl) (fun W hW => by simp [execOp, go_sem]; exact ⟨rfl, rfl⟩) ?_; simp only [Act.put, List.setIfInBounds_toArray, List.set_cons_zero, List.set_cons_succ])
  refine Bl.belO_nil ?_
  intro b23
  refine ⟨writes_rel (.tmp 23) (.tmp 93) (by rfl) b23 k 0 T zeroR (by rfl) (by rfl), ?_⟩
  intro w23 hb2 hle hR2
  have H23 := Lib.hid (H22.out.pushed hb2 hle (n := k) (f := T) hR2)
  clear hb2 hle hR2
  simp only [Act.put, List.setIfInBounds_toArray, List.set_cons_zero, List.set_cons_succ]
  go_wp2_with fail
  refine Bl.wp_region_head_store 8 _ _ (.cells (relC 0 zeroR) 26) (.cells (relC k A) 26) (by kernel_rfl) (by kernel_rfl) rfl rfl (fun a W => run_alloc_rel _ _ _ _ _ _) rfl rfl ?_
  simp only [List.take_succ_cons, List.take_zero, List.drop_succ_cons, List.drop_zero]
  refine bel_load_rel (by rfl) (.tmp 3) (by rfl) w.heap.size k A (by rfl) (H23.out.at 0 rfl) ?_
  simp only [Act.put, List.setIfInBounds_toArray, List.set_cons_zero, List.set_cons_succ]
  have cN : ∀ W, Below w23.heap.size w23 W → W.cell? ⟨w.heap.size, 0, none⟩ = some (.int .i64 k) := fun W hW => ((H23.out.step hW).at 0 rfl).num
  repeat (refine Bl.belO_step (by rfl) (fun W hW => by have c1 := cN W hW; simp [execOp, go_sem, c1]; exact ⟨rfl, rfl⟩) ?_; simp only [Act.put, List.setIfInBounds_toArray, List.set_cons_zero, List.set_cons_succ])
  refine Bl.belO_call 21 #[.int .i64 k, .int .u64 18446744073709551615] (by rfl) (fun W => by simp [execOp, go_sem]) (fun W hW => id_is k 18446744073709551615#64 18446744073709551615 I rfl EI.out.1 W hk48) ?_
  simp only [Act.put, List.setIfInBounds_toArray, List.set_cons_zero, List.set_cons_succ]
  refine Bl.belO_call 18 #[.agg (relC k A), .agg (relC k I)] (by rfl) (fun W => by simp [execOp, go_sem]) (fun W hW => then_is k A I A EI.out.2 W O.out.1 O2.out.2.2.1 (HT.out W (H23.out.bel.trans (hW.mono H23.out.bel.size)))) ?_
  simp only [Act.put, List.setIfInBounds_toArray, List.set_cons_zero, List.set_cons_succ]
  clear cN
  repeat (refine Bl.belO_step (by rfl) (fun W hW => by simp [execOp, go_sem]; exact ⟨rfl, rfl⟩) ?_; simp only [Act.put, List.setIfInBounds_toArray, List.set_cons_zero, List.set_cons_succ])
  refine Bl.belO_nil ?_
  intro b24
  refine ⟨writes_rel (.tmp 25) (.tmp 101) (by rfl) b24 k 0 A zeroR (by rfl) (by rfl), ?_⟩
  intro w24 hb2 hle hR2
  have H24 := Lib.hid (H23.out.pushed hb2 hle (n := k) (f := A) hR2)
  clear hb2 hle hR2
  simp only [Act.put, List.setIfInBounds_toArray, List.set_cons_zero, List.set_cons_succ]
  go_wp2_with fail
  refine Bl.wp_region_head 51 (by kernel_rfl) (by kernel_rfl) ?_
  simp only [List.take_succ_cons, List.take_zero, List.drop_succ_cons, List.drop_zero]
  repeat (refine Bl.belO_step (by rfl) (fun W hW => by simp [execOp, go_sem]; exact ⟨rfl, rfl⟩) ?_; simp only [Act.put, List.setIfInBounds_toArray, List.set_cons_zero, List.set_cons_succ])
  refine bel_load_rel (by rfl) (.tmp 11) (by rfl) w11.heap.size k X (by rfl) (H24.out.at 5 rfl) ?_
  simp only [Act.put, List.setIfInBounds_toArray, List.set_cons_zero, List.set_cons_succ]
  refine bel_load_rel (by rfl) (.tmp 13) (by rfl) w13.heap.size k X (by rfl) (H24.out.at 6 rfl) ?_
  simp only [Act.put, List.setIfInBounds_toArray, List.set_cons_zero, List.set_cons_succ]
  repeat (refine Bl.belO_step (by rfl) (fun W hW => by simp [execOp, go_sem]; exact ⟨rfl, rfl⟩) ?_; simp only [Act.put, List.setIfInBounds_toArray, List.set_cons_zero, List.set_cons_succ])
  refine bel_load_rel (by rfl) (.tmp 17) (by rfl) w17.heap.size k V (by rfl) (H24.out.at 8 rfl) ?_
  simp only [Act.put, List.setIfInBounds_toArray, List.set_cons_zero, List.set_cons_succ]
  refine bel_load_rel (by rfl) (.tmp 21) (by rfl) w21.heap.size k V (by rfl) (H24.out.at 10 rfl) ?_
  simp only [Act.put, List.setIfInBounds_toArray, List.set_cons_zero, List.set_cons_succ]
  repeat (refine Bl.belO_step (by rfl) (fun W hW => by simp [execOp, go_sem]; exact ⟨rfl, rfl⟩) ?_; simp only [Act.put, List.setIfInBounds_toArray, List.set_cons_zero, List.set_cons_succ])
  refine bel_load_rel (by rfl) (.tmp 7) (by rfl) w7.heap.size k AB (by rfl) (H24.out.at 3 rfl) ?_
  simp only [Act.put, List.setIfInBounds_toArray, List.set_cons_zero, List.set_cons_succ]
  refine Bl.belO_call 20 #[.agg (relC k AB)] (by rfl) (fun W => by simp [execOp, go_sem]) (fun W hW => back_is k AB T ET.out.2.2.2.1 W O.out.2.2.2.1 (HT.out W (H24.out.bel.trans (hW.mono H24.out.bel.size)))) ?_
  simp only [Act.put, List.setIfInBounds_toArray, List.set_cons_zero, List.set_cons_succ]
  refine bel_load_rel (by rfl) (.tmp 23) (by rfl) b23 k T (by rfl) (H24.out.at 11 rfl) ?_
  simp only [Act.put, List.setIfInBounds_toArray, List.set_cons_zero, List.set_cons_succ]
  repeat (refine Bl.belO_step (by rfl) (fun W hW => by simp [execOp, go_sem]; exact ⟨rfl, rfl⟩) ?_; simp only [Act.put, List.setIfInBounds_toArray, List.set_cons_zero, List.set_cons_succ])
  refine bel_load_rel (by rfl) (.tmp 25) (by rfl) b24 k A (by rfl) (H24.out.at 12 rfl) ?_
  simp only [Act.put, List.setIfInBounds_toArray, List.set_cons_zero, List.set_cons_succ]
  refine bel_load_rel (by rfl) (.tmp 3) (by rfl) w.heap.size k A (by rfl) (H24.out.at 0 rfl) ?_
  simp only [Act.put, List.setIfInBounds_toArray, List.set_cons_zero, List.set_cons_succ]
  repeat (refine Bl.belO_step (by rfl) (fun W hW => by simp [execOp, go_sem]; exact ⟨rfl, rfl⟩) ?_; simp only [Act.put, List.setIfInBounds_toArray, List.set_cons_zero, List.set_cons_succ])
  refine bel_load_rel (by rfl) (.tmp 3) (by rfl) w.heap.size k A (by rfl) (H24.out.at 0 rfl) ?_
  simp only [Act.put, List.setIfInBounds_toArray, List.set_cons_zero, List.set_cons_succ]
  refine Bl.belO_call 20 #[.agg (relC k A)] (by rfl) (fun W => by simp [execOp, go_sem]) (fun W hW => back_is k A TA ET.out.2.1 W O.out.1 (HT.out W (H24.out.bel.trans (hW.mono H24.out.bel.size)))) ?_
  simp only [Act.put, List.setIfInBounds_toArray, List.set_cons_zero, List.set_cons_succ]
  refine Bl.belO_call 20 #[.agg (relC k TA)] (by rfl) (fun W => by simp [execOp, go_sem]) (fun W hW => back_is k TA A ET.out.2.2.2.2 W O2.out.2.1 (HT.out W (H24.out.bel.trans (hW.mono H24.out.bel.size)))) ?_
  simp only [Act.put, List.setIfInBounds_toArray, List.set_cons_zero, List.set_cons_succ]
  refine bel_load_rel (by rfl) (.tmp 3) (by rfl) w.heap.size k A (by rfl) (H24.out.at 0 rfl) ?_
  simp only [Act.put, List.setIfInBounds_toArray, List.set_cons_zero, List.set_cons_succ]
  repeat (refine Bl.belO_step (by rfl) (fun W hW => by simp [execOp, go_sem]; exact ⟨rfl, rfl⟩) ?_; simp only [Act.put, List.setIfInBounds_toArray, List.set_cons_zero, List.set_cons_succ])
  refine Bl.belO_call 22 #[] (by rfl) (fun W => by simp [execOp, go_sem]) (fun W hW => awake_any W (HT.out W (H24.out.bel.trans (hW.mono H24.out.bel.size))).1 (HT.out W (H24.out.bel.trans (hW.mono H24.out.bel.size))).2) ?_
  simp only [Act.put, List.setIfInBounds_toArray, List.set_cons_zero, List.set_cons_succ]
  repeat (refine Bl.belO_step (by rfl) (fun W hW => by simp [execOp, go_sem]; exact ⟨rfl, rfl⟩) ?_; simp only [Act.put, List.setIfInBounds_toArray, List.set_cons_zero, List.set_cons_succ])
  refine Bl.belO_nil ?_
  intro w25 hb2
  have H25 := Lib.hid (H24.out.step hb2)
  clear hb2
  go_wp2_with fail
  go_ret
  exact ⟨rfl, H25.out.bel⟩
theorem relThen_con (n : Int) (f : Rl.Rows) (m : Int) (g : Rl.Rows) (l : Int) (h : Rl.Rows) (w : World) (zf : Rl.Z f) (zg : Rl.Z g) (zh : Rl.Z h) (hT : Tab w) (hw : 0 < w.heap.size) :
    Calls Tryd.prog 3 #[.agg (relC n f), .agg (relC m g), .agg (relC l h)] w fun e w' => e = .returned (.bool true) ∧ Below w.heap.size w w' := relThen_any n m l f g h w zf zg zh hT hw
end Go.Proofs.YtknjdfgmejobfaaDoor
