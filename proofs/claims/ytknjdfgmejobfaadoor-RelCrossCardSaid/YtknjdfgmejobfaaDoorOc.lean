/- layer 2's law: the walk of RelCross. -/
import Derived.Test.YtknjdfgmejobfaaDoorNy
namespace Go.Proofs.YtknjdfgmejobfaaDoor
open Go.RowKit Go.Shelf

attribute [-go_sem] run_eql_struct run_neq_struct
attribute [local go_sem] Bv.and_u Bv.or_u Bv.andNot_u Bv.wrap_sub1 Bv.eq0 Bv.ne0 Bv.wrap_pow Bv.wrap_powmin Bv.wrap_neg Bv.eq_u Bv.ne_u Bv.shr_min Bv.shr_pow Bv.tmod2 Bv.and1 Bv.wrap_add Bv.B1_eq1 Bv.B1_eq0 Bv.B1_ne1 Bv.B1_ne0 run_rel_eql run_rel_neq relEq_self

theorem cross_lit0 (n : Nat) (r : Rl.Rows) (hr : r = Rl.crossF n 0#64 0#64) (w : World) (hn : n ≤ 48) :
    Calls Tryd.prog 39 #[.int .i64 n, .int .u64 0, .int .u64 0] w fun e w' => e = .returned (.agg (relC n r)) ∧ Below w.heap.size w w' := cross_is n 0#64 0#64 r hr w hn

set_option maxRecDepth 100000 in
set_option maxHeartbeats 8000000 in
theorem relCross_zero (x : Int) (k : Nat) (a b c : BitVec 64) (w : World) (h0 : 0 ≤ x) (h1 : x ≤ 255) (hxk : x % 49 = (k : Int)) (hk48 : k ≤ 48) (hz : (b &&& Rl.below (k : Int) == 0#64) = true) (hT : Tab w) (hw : 0 < w.heap.size) :
    Calls Tryd.prog 7 #[.int .u8 x, .int .u64 (Bv.U a), .int .u64 (Bv.U b), .int .u64 (Bv.U c)] w fun e w' => e = .returned (.bool true) ∧ Below w.heap.size w w' := by
  have hzr := zero_rel
  have hne0 : ¬ relC 0 zeroR = #[] := by intro h; have := congrArg Array.size h; rw [relC_size] at this; simp at this
  have hTl : ∀ W, Below w.heap.size w W → Tab W ∧ 0 < W.heap.size := fun W h => ⟨hT.below h hw, Nat.lt_of_lt_of_le hw h.size⟩
  have HT := Lib.hid hTl
  clear hTl hT
  obtain ⟨BL, hBL⟩ : ∃ B, Bv.bit k - 1#64 = B := ⟨_, rfl⟩
  have hBL2 : BL = Rl.below (k : Int) := by rw [← hBL, below_bit (by omega : k ≤ 64)]
  rw [← hBL2] at hz
  obtain ⟨X, hX⟩ : ∃ R, R = Rl.crossF k a b := ⟨_, rfl⟩
  obtain ⟨Y, hY⟩ : ∃ R, R = Rl.crossF k a c := ⟨_, rfl⟩
  obtain ⟨YY, hYY⟩ : ∃ R, R = Rl.crossF k b c := ⟨_, rfl⟩
  obtain ⟨Z, hZ⟩ : ∃ R, R = Rl.crossF k b a := ⟨_, rfl⟩
  obtain ⟨U, hU⟩ : ∃ R, R = Rl.unionF k X Y := ⟨_, rfl⟩
  obtain ⟨V, hV⟩ : ∃ R, R = Rl.lessF k X Y := ⟨_, rfl⟩
  obtain ⟨R, hR⟩ : ∃ R, R = Rl.thenF k X YY := ⟨_, rfl⟩
  have hU2 : U = Rl.crossF k a (b ||| c) := by rw [hU, hX, hY]; exact Rl.cross_union hk48 a b c
  have hV2 : V = Rl.crossF k a (b &&& ~~~ c) := by rw [hV, hX, hY]; exact Rl.cross_less hk48 a b c
  have hZ2 : Z = Rl.backF k X := by rw [hZ, hX]; exact (Rl.cross_back hk48 a b).symm
  have hR2 : R = Rl.crossF k 0#64 0#64 := by rw [hR, hX, hYY, Rl.cross_then hk48, if_pos (by rw [← hBL2]; exact beq_iff_eq.1 hz)]
  have oX : Rl.Ok k X := by rw [hX]; exact Rl.ok_cross hk48 _ _
  have oY : Rl.Ok k Y := by rw [hY]; exact Rl.ok_cross hk48 _ _
  have oYY : Rl.Ok k YY := by rw [hYY]; exact Rl.ok_cross hk48 _ _
  obtain ⟨bb, hbb⟩ : ∃ x, (a &&& b &&& BL == 0#64) = x := ⟨_, rfl⟩
  have hirr : irrB k X = bb := by unfold irrB; rw [Rl.right_of oX, Bool.true_and, Int.toNat_natCast, hX, Rl.cross_irr hk48, ← hBL2, hbb]
  have E := Lib.hid (And.intro hX (And.intro hY (And.intro hYY (And.intro hZ (And.intro hU (And.intro hV hR))))))
  have E2 := Lib.hid (And.intro hU2 (And.intro hV2 (And.intro hR2 (And.intro hZ2 (And.intro hBL2 hirr)))))
  have O := Lib.hid (And.intro oX (And.intro oY oYY))
  clear hX hY hYY hZ hU hV hR hU2 hV2 hZ2 hR2 hBL2 hirr oX oY oYY
  have q0 : (k : Int) < 64 := by omega
  have H0 := Lib.hid (Held.nil w)
  go_enter Tryd.func7, Tryd.ntmps7
  go_wp2_with fail
  with_reducible refine (cross_is k a b X E.out.1 _ hk48).mono ?_
  rintro e w1 ⟨rfl, hb⟩
  have H1 := Lib.hid (H0.out.step hb)
  clear hb
  go_wp2_with fail
  with_reducible refine (cross_is k a c Y E.out.2.1 _ hk48).mono ?_
  rintro e w2 ⟨rfl, hb⟩
  have H2 := Lib.hid (H1.out.step hb)
  clear hb
  have H3 := Lib.hid ((H2.out.box 0 zeroR).box 0 zeroR)
  simp only [World.size_alloc] at H3
  go_wp2_with (first | (refine wpList_store_rel (by rfl) (.tmp 10) (.tmp 26) (by rfl) w2.heap.size k 0 X zeroR (by rfl) (by rfl) (H3.out.at 0 rfl) ?_; intro w4 hR hg; have H4 := Lib.hid (H3.out.put 0 rfl hR hg); clear hR hg) | (refine wpList_store_rel (by rfl) (.tmp 11) (.tmp 30) (by rfl) (w2.heap.size + 1) k 0 Y zeroR (by rfl) (by rfl) (H4.out.at 1 rfl) ?_; intro w5 hR hg; have H5 := Lib.hid (H4.out.put 1 rfl hR hg); clear hR hg) | (refine wpList_load_rel (by rfl) (.tmp 10) (by rfl) w2.heap.size k X (by rfl) (H5.out.at 0 rfl) ?_) | (refine wpList_load_rel (by rfl) (.tmp 11) (by rfl) (w2.heap.size + 1) k Y (by rfl) (H5.out.at 1 rfl) ?_))
  with_reducible refine (union_is k X Y U E.out.2.2.2.2.1 _ O.out.1 O.out.2.1).mono ?_
  rintro e w6 ⟨rfl, hb⟩
  have H6 := Lib.hid (H5.out.step hb)
  clear hb
  go_wp2_with (first | (refine wpList_store_rel (by rfl) (.tmp 12) (.tmp 35) (by rfl) w6.heap.size k 0 U zeroR (by rfl) (by rfl) (RelAt.new w6 0 zeroR) ?_; intro w7 hR hg; have H7 := Lib.hid (H6.out.push hR hg); clear hR hg) | (refine wpList_load_rel (by rfl) (.tmp 10) (by rfl) w2.heap.size k X (by rfl) (H7.out.at 0 rfl) ?_) | (refine wpList_load_rel (by rfl) (.tmp 11) (by rfl) (w2.heap.size + 1) k Y (by rfl) (H7.out.at 1 rfl) ?_))
  with_reducible refine (less_is k X Y V E.out.2.2.2.2.2.1 _ O.out.1 O.out.2.1).mono ?_
  rintro e w8 ⟨rfl, hb⟩
  have H8 := Lib.hid (H7.out.step hb)
  clear hb
  go_wp2_with (refine wpList_store_rel (by rfl) (.tmp 14) (.tmp 41) (by rfl) w8.heap.size k 0 V zeroR (by rfl) (by rfl) (RelAt.new w8 0 zeroR) ?_; intro w9 hR hg; have H9 := Lib.hid (H8.out.push hR hg); clear hR hg)
  refine Bl.wp_region_head_store 9 _ _ (.cells (relC 0 zeroR) 26) (.cells (relC k R) 26) (by kernel_rfl) (by kernel_rfl) rfl rfl (fun a W => run_alloc_rel _ _ _ _ _ _) rfl rfl ?_
  simp only [List.take_succ_cons, List.take_zero, List.drop_succ_cons, List.drop_zero]
  refine bel_load_rel (by rfl) (.tmp 10) (by rfl) w2.heap.size k X (by rfl) (H9.out.at 0 rfl) ?_
  simp only [Act.put, List.setIfInBounds_toArray, List.set_cons_zero, List.set_cons_succ]
  repeat (refine Bl.belO_step (by rfl) (fun W hW => by simp [execOp, go_sem]; exact ⟨rfl, rfl⟩) ?_; simp only [Act.put, List.setIfInBounds_toArray, List.set_cons_zero, List.set_cons_succ])
  refine Bl.belO_call 39 #[.int .i64 k, .int .u64 (Bv.U b), .int .u64 (Bv.U c)] (by rfl) (fun W => by simp [execOp, go_sem]) (fun W hW => cross_is k b c YY E.out.2.2.1 W hk48) ?_
  simp only [Act.put, List.setIfInBounds_toArray, List.set_cons_zero, List.set_cons_succ]
  refine Bl.belO_call 18 #[.agg (relC k X), .agg (relC k YY)] (by rfl) (fun W => by simp [execOp, go_sem]) (fun W hW => then_is k X YY R E.out.2.2.2.2.2.2 W O.out.1 O.out.2.2 (HT.out W (H9.out.bel.trans (hW.mono H9.out.bel.size)))) ?_
  simp only [Act.put, List.setIfInBounds_toArray, List.set_cons_zero, List.set_cons_succ]
  repeat (refine Bl.belO_step (by rfl) (fun W hW => by simp [execOp, go_sem]; exact ⟨rfl, rfl⟩) ?_; simp only [Act.put, List.setIfInBounds_toArray, List.set_cons_zero, List.set_cons_succ])
  refine Bl.belO_nil ?_
  intro b10
  refine ⟨writes_rel (.tmp 16) (.tmp 50) (by rfl) b10 k 0 R zeroR (by rfl) (by rfl), ?_⟩
  intro w10 hb2 hle hR2
  have H10 := Lib.hid (H9.out.pushed hb2 hle (n := k) (f := R) hR2)
  clear hb2 hle hR2
  simp only [Act.put, List.setIfInBounds_toArray, List.set_cons_zero, List.set_cons_succ]
  go_wp2_with fail
  with_reducible refine (cross_is k a c Y E.out.2.1 _ hk48).mono ?_
  rintro e w11 ⟨rfl, hb⟩
  have H11 := Lib.hid (H10.out.step hb)
  clear hb
  go_wp2_with (first | (refine wpList_store_rel (by rfl) (.tmp 19) (.tmp 58) (by rfl) w11.heap.size k 0 Y zeroR (by rfl) (by rfl) (RelAt.new w11 0 zeroR) ?_; intro w12 hR hg; have H12 := Lib.hid (H11.out.push hR hg); clear hR hg))
  with_reducible refine (cross_lit0 k R E2.out.2.2.1 _ hk48).mono ?_
  rintro e w13 ⟨rfl, hb⟩
  have H13 := Lib.hid (H12.out.step hb)
  clear hb
  go_wp2_with (refine wpList_store_rel (by rfl) (.tmp 19) (.tmp 64) (by rfl) w11.heap.size k k R Y (by rfl) (by rfl) (H13.out.at 5 rfl) ?_; intro w14 hR hg; have H14 := Lib.hid (H13.out.put 5 rfl hR hg); clear hR hg)
  refine Bl.wp_region_head 54 (by kernel_rfl) (by kernel_rfl) ?_
  simp only [List.take_succ_cons, List.take_zero, List.drop_succ_cons, List.drop_zero]
  repeat (refine Bl.belO_step (by rfl) (fun W hW => by simp [execOp, go_sem, hbb]; exact ⟨rfl, rfl⟩) ?_; simp only [Act.put, List.setIfInBounds_toArray, List.set_cons_zero, List.set_cons_succ])
  refine bel_load_rel (by rfl) (.tmp 12) (by rfl) w6.heap.size k U (by rfl) (H14.out.at 2 rfl) ?_
  simp only [Act.put, List.setIfInBounds_toArray, List.set_cons_zero, List.set_cons_succ]
  repeat (refine Bl.belO_step (by rfl) (fun W hW => by simp [execOp, go_sem, hbb]; exact ⟨rfl, rfl⟩) ?_; simp only [Act.put, List.setIfInBounds_toArray, List.set_cons_zero, List.set_cons_succ])
  refine Bl.belO_call 39 #[.int .i64 k, .int .u64 (Bv.U a), .int .u64 (Bv.U (b ||| c))] (by rfl) (fun W => by simp [execOp, go_sem]) (fun W hW => cross_is k a (b ||| c) U E2.out.1 W hk48) ?_
  simp only [Act.put, List.setIfInBounds_toArray, List.set_cons_zero, List.set_cons_succ]
  repeat (refine Bl.belO_step (by rfl) (fun W hW => by simp [execOp, go_sem, hbb]; exact ⟨rfl, rfl⟩) ?_; simp only [Act.put, List.setIfInBounds_toArray, List.set_cons_zero, List.set_cons_succ])
  refine bel_load_rel (by rfl) (.tmp 14) (by rfl) w8.heap.size k V (by rfl) (H14.out.at 3 rfl) ?_
  simp only [Act.put, List.setIfInBounds_toArray, List.set_cons_zero, List.set_cons_succ]
  repeat (refine Bl.belO_step (by rfl) (fun W hW => by simp [execOp, go_sem, hbb]; exact ⟨rfl, rfl⟩) ?_; simp only [Act.put, List.setIfInBounds_toArray, List.set_cons_zero, List.set_cons_succ])
  refine Bl.belO_call 39 #[.int .i64 k, .int .u64 (Bv.U a), .int .u64 (Bv.U (b &&& ~~~ c))] (by rfl) (fun W => by simp [execOp, go_sem]) (fun W hW => cross_is k a (b &&& ~~~ c) V E2.out.2.1 W hk48) ?_
  simp only [Act.put, List.setIfInBounds_toArray, List.set_cons_zero, List.set_cons_succ]
  repeat (refine Bl.belO_step (by rfl) (fun W hW => by simp [execOp, go_sem, hbb]; exact ⟨rfl, rfl⟩) ?_; simp only [Act.put, List.setIfInBounds_toArray, List.set_cons_zero, List.set_cons_succ])
  refine bel_load_rel (by rfl) (.tmp 16) (by rfl) b10 k R (by rfl) (H14.out.at 4 rfl) ?_
  simp only [Act.put, List.setIfInBounds_toArray, List.set_cons_zero, List.set_cons_succ]
  refine bel_load_rel (by rfl) (.tmp 19) (by rfl) w11.heap.size k R (by rfl) (H14.out.at 5 rfl) ?_
  simp only [Act.put, List.setIfInBounds_toArray, List.set_cons_zero, List.set_cons_succ]
  repeat (refine Bl.belO_step (by rfl) (fun W hW => by simp [execOp, go_sem, hbb]; exact ⟨rfl, rfl⟩) ?_; simp only [Act.put, List.setIfInBounds_toArray, List.set_cons_zero, List.set_cons_succ])
  refine bel_load_rel (by rfl) (.tmp 10) (by rfl) w2.heap.size k X (by rfl) (H14.out.at 0 rfl) ?_
  simp only [Act.put, List.setIfInBounds_toArray, List.set_cons_zero, List.set_cons_succ]
  refine Bl.belO_call 24 #[.agg (relC k X)] (by rfl) (fun W => by simp [execOp, go_sem]) (fun W hW => irr_is k X bb E2.out.2.2.2.2.2 W O.out.1.z) ?_
  simp only [Act.put, List.setIfInBounds_toArray, List.set_cons_zero, List.set_cons_succ]
  repeat (refine Bl.belO_step (by rfl) (fun W hW => by simp [execOp, go_sem, hbb]; exact ⟨rfl, rfl⟩) ?_; simp only [Act.put, List.setIfInBounds_toArray, List.set_cons_zero, List.set_cons_succ])
  refine bel_load_rel (by rfl) (.tmp 10) (by rfl) w2.heap.size k X (by rfl) (H14.out.at 0 rfl) ?_
  simp only [Act.put, List.setIfInBounds_toArray, List.set_cons_zero, List.set_cons_succ]
  refine Bl.belO_call 20 #[.agg (relC k X)] (by rfl) (fun W => by simp [execOp, go_sem]) (fun W hW => back_is k X Z E2.out.2.2.2.1 W O.out.1 (HT.out W (H14.out.bel.trans (hW.mono H14.out.bel.size)))) ?_
  simp only [Act.put, List.setIfInBounds_toArray, List.set_cons_zero, List.set_cons_succ]
  repeat (refine Bl.belO_step (by rfl) (fun W hW => by simp [execOp, go_sem, hbb]; exact ⟨rfl, rfl⟩) ?_; simp only [Act.put, List.setIfInBounds_toArray, List.set_cons_zero, List.set_cons_succ])
  refine Bl.belO_call 39 #[.int .i64 k, .int .u64 (Bv.U b), .int .u64 (Bv.U a)] (by rfl) (fun W => by simp [execOp, go_sem]) (fun W hW => cross_is k b a Z E.out.2.2.2.1 W hk48) ?_
  simp only [Act.put, List.setIfInBounds_toArray, List.set_cons_zero, List.set_cons_succ]
  repeat (refine Bl.belO_step (by rfl) (fun W hW => by simp [execOp, go_sem, hbb]; exact ⟨rfl, rfl⟩) ?_; simp only [Act.put, List.setIfInBounds_toArray, List.set_cons_zero, List.set_cons_succ])
  refine Bl.belO_call 22 #[] (by rfl) (fun W => by simp [execOp, go_sem]) (fun W hW => awake_any W (HT.out W (H14.out.bel.trans (hW.mono H14.out.bel.size))).1 (HT.out W (H14.out.bel.trans (hW.mono H14.out.bel.size))).2) ?_
  simp only [Act.put, List.setIfInBounds_toArray, List.set_cons_zero, List.set_cons_succ]
  repeat (refine Bl.belO_step (by rfl) (fun W hW => by simp [execOp, go_sem, hbb]; exact ⟨rfl, rfl⟩) ?_; simp only [Act.put, List.setIfInBounds_toArray, List.set_cons_zero, List.set_cons_succ])
  refine Bl.belO_nil ?_
  intro w15 hb2
  have H15 := Lib.hid (H14.out.step hb2)
  clear hb2
  go_wp2_with fail
  go_ret
  exact ⟨rfl, H15.out.bel⟩
set_option maxRecDepth 100000 in
set_option maxHeartbeats 8000000 in
theorem relCross_some (x : Int) (k : Nat) (a b c : BitVec 64) (w : World) (h0 : 0 ≤ x) (h1 : x ≤ 255) (hxk : x % 49 = (k : Int)) (hk48 : k ≤ 48) (hz : (b &&& Rl.below (k : Int) == 0#64) = false) (hT : Tab w) (hw : 0 < w.heap.size) :
    Calls Tryd.prog 7 #[.int .u8 x, .int .u64 (Bv.U a), .int .u64 (Bv.U b), .int .u64 (Bv.U c)] w fun e w' => e = .returned (.bool true) ∧ Below w.heap.size w w' := by
  have hzr := zero_rel
  have hne0 : ¬ relC 0 zeroR = #[] := by intro h; have := congrArg Array.size h; rw [relC_size] at this; simp at this
  have hTl : ∀ W, Below w.heap.size w W → Tab W ∧ 0 < W.heap.size := fun W h => ⟨hT.below h hw, Nat.lt_of_lt_of_le hw h.size⟩
  have HT := Lib.hid hTl
  clear hTl hT
  obtain ⟨BL, hBL⟩ : ∃ B, Bv.bit k - 1#64 = B := ⟨_, rfl⟩
  have hBL2 : BL = Rl.below (k : Int) := by rw [← hBL, below_bit (by omega : k ≤ 64)]
  rw [← hBL2] at hz
  obtain ⟨X, hX⟩ : ∃ R, R = Rl.crossF k a b := ⟨_, rfl⟩
  obtain ⟨Y, hY⟩ : ∃ R, R = Rl.crossF k a c := ⟨_, rfl⟩
  obtain ⟨YY, hYY⟩ : ∃ R, R = Rl.crossF k b c := ⟨_, rfl⟩
  obtain ⟨Z, hZ⟩ : ∃ R, R = Rl.crossF k b a := ⟨_, rfl⟩
  obtain ⟨U, hU⟩ : ∃ R, R = Rl.unionF k X Y := ⟨_, rfl⟩
  obtain ⟨V, hV⟩ : ∃ R, R = Rl.lessF k X Y := ⟨_, rfl⟩
  obtain ⟨R, hR⟩ : ∃ R, R = Rl.thenF k X YY := ⟨_, rfl⟩
  have hU2 : U = Rl.crossF k a (b ||| c) := by rw [hU, hX, hY]; exact Rl.cross_union hk48 a b c
  have hV2 : V = Rl.crossF k a (b &&& ~~~ c) := by rw [hV, hX, hY]; exact Rl.cross_less hk48 a b c
  have hZ2 : Z = Rl.backF k X := by rw [hZ, hX]; exact (Rl.cross_back hk48 a b).symm
  have hR2 : R = Rl.crossF k a c := by rw [hR, hX, hYY, Rl.cross_then hk48, if_neg (by rw [← hBL2]; exact fun e => by rw [beq_iff_eq.2 e] at hz; cases hz)]
  have oX : Rl.Ok k X := by rw [hX]; exact Rl.ok_cross hk48 _ _
  have oY : Rl.Ok k Y := by rw [hY]; exact Rl.ok_cross hk48 _ _
  have oYY : Rl.Ok k YY := by rw [hYY]; exact Rl.ok_cross hk48 _ _
  obtain ⟨bb, hbb⟩ : ∃ x, (a &&& b &&& BL == 0#64) = x := ⟨_, rfl⟩
  have hirr : irrB k X = bb := by unfold irrB; rw [Rl.right_of oX, Bool.true_and, Int.toNat_natCast, hX, Rl.cross_irr hk48, ← hBL2, hbb]
  have E := Lib.hid (And.intro hX (And.intro hY (And.intro hYY (And.intro hZ (And.intro hU (And.intro hV hR))))))
  have E2 := Lib.hid (And.intro hU2 (And.intro hV2 (And.intro hR2 (And.intro hZ2 (And.intro hBL2 hirr)))))
  have O := Lib.hid (And.intro oX (And.intro oY oYY))
  clear hX hY hYY hZ hU hV hR hU2 hV2 hZ2 hR2 hBL2 hirr oX oY oYY
  have q0 : (k : Int) < 64 := by omega
  have H0 := Lib.hid (Held.nil w)
  go_enter Tryd.func7, Tryd.ntmps7
  go_wp2_with fail
  with_reducible refine (cross_is k a b X E.out.1 _ hk48).mono ?_
  rintro e w1 ⟨rfl, hb⟩
  have H1 := Lib.hid (H0.out.step hb)
  clear hb
  go_wp2_with fail
  with_reducible refine (cross_is k a c Y E.out.2.1 _ hk48).mono ?_
  rintro e w2 ⟨rfl, hb⟩
  have H2 := Lib.hid (H1.out.step hb)
  clear hb
  have H3 := Lib.hid ((H2.out.box 0 zeroR).box 0 zeroR)
  simp only [World.size_alloc] at H3
  go_wp2_with (first | (refine wpList_store_rel (by rfl) (.tmp 10) (.tmp 26) (by rfl) w2.heap.size k 0 X zeroR (by rfl) (by rfl) (H3.out.at 0 rfl) ?_; intro w4 hR hg; have H4 := Lib.hid (H3.out.put 0 rfl hR hg); clear hR hg) | (refine wpList_store_rel (by rfl) (.tmp 11) (.tmp 30) (by rfl) (w2.heap.size + 1) k 0 Y zeroR (by rfl) (by rfl) (H4.out.at 1 rfl) ?_; intro w5 hR hg; have H5 := Lib.hid (H4.out.put 1 rfl hR hg); clear hR hg) | (refine wpList_load_rel (by rfl) (.tmp 10) (by rfl) w2.heap.size k X (by rfl) (H5.out.at 0 rfl) ?_) | (refine wpList_load_rel (by rfl) (.tmp 11) (by rfl) (w2.heap.size + 1) k Y (by rfl) (H5.out.at 1 rfl) ?_))
  with_reducible refine (union_is k X Y U E.out.2.2.2.2.1 _ O.out.1 O.out.2.1).mono ?_
  rintro e w6 ⟨rfl, hb⟩
  have H6 := Lib.hid (H5.out.step hb)
  clear hb
  go_wp2_with (first | (refine wpList_store_rel (by rfl) (.tmp 12) (.tmp 35) (by rfl) w6.heap.size k 0 U zeroR (by rfl) (by rfl) (RelAt.new w6 0 zeroR) ?_; intro w7 hR hg; have H7 := Lib.hid (H6.out.push hR hg); clear hR hg) | (refine wpList_load_rel (by rfl) (.tmp 10) (by rfl) w2.heap.size k X (by rfl) (H7.out.at 0 rfl) ?_) | (refine wpList_load_rel (by rfl) (.tmp 11) (by rfl) (w2.heap.size + 1) k Y (by rfl) (H7.out.at 1 rfl) ?_))
  with_reducible refine (less_is k X Y V E.out.2.2.2.2.2.1 _ O.out.1 O.out.2.1).mono ?_
  rintro e w8 ⟨rfl, hb⟩
  have H8 := Lib.hid (H7.out.step hb)
  clear hb
  go_wp2_with (refine wpList_store_rel (by rfl) (.tmp 14) (.tmp 41) (by rfl) w8.heap.size k 0 V zeroR (by rfl) (by rfl) (RelAt.new w8 0 zeroR) ?_; intro w9 hR hg; have H9 := Lib.hid (H8.out.push hR hg); clear hR hg)
  refine Bl.wp_region_head_store 9 _ _ (.cells (relC 0 zeroR) 26) (.cells (relC k R) 26) (by kernel_rfl) (by kernel_rfl) rfl rfl (fun a W => run_alloc_rel _ _ _ _ _ _) rfl rfl ?_
  simp only [List.take_succ_cons, List.take_zero, List.drop_succ_cons, List.drop_zero]
  refine bel_load_rel (by rfl) (.tmp 10) (by rfl) w2.heap.size k X (by rfl) (H9.out.at 0 rfl) ?_
  simp only [Act.put, List.setIfInBounds_toArray, List.set_cons_zero, List.set_cons_succ]
  repeat (refine Bl.belO_step (by rfl) (fun W hW => by simp [execOp, go_sem]; exact ⟨rfl, rfl⟩) ?_; simp only [Act.put, List.setIfInBounds_toArray, List.set_cons_zero, List.set_cons_succ])
  refine Bl.belO_call 39 #[.int .i64 k, .int .u64 (Bv.U b), .int .u64 (Bv.U c)] (by rfl) (fun W => by simp [execOp, go_sem]) (fun W hW => cross_is k b c YY E.out.2.2.1 W hk48) ?_
  simp only [Act.put, List.setIfInBounds_toArray, List.set_cons_zero, List.set_cons_succ]
  refine Bl.belO_call 18 #[.agg (relC k X), .agg (relC k YY)] (by rfl) (fun W => by simp [execOp, go_sem]) (fun W hW => then_is k X YY R E.out.2.2.2.2.2.2 W O.out.1 O.out.2.2 (HT.out W (H9.out.bel.trans (hW.mono H9.out.bel.size)))) ?_
  simp only [Act.put, List.setIfInBounds_toArray, List.set_cons_zero, List.set_cons_succ]
  repeat (refine Bl.belO_step (by rfl) (fun W hW => by simp [execOp, go_sem]; exact ⟨rfl, rfl⟩) ?_; simp only [Act.put, List.setIfInBounds_toArray, List.set_cons_zero, List.set_cons_succ])
  refine Bl.belO_nil ?_
  intro b10
  refine ⟨writes_rel (.tmp 16) (.tmp 50) (by rfl) b10 k 0 R zeroR (by rfl) (by rfl), ?_⟩
  intro w10 hb2 hle hR2
  have H10 := Lib.hid (H9.out.pushed hb2 hle (n := k) (f := R) hR2)
  clear hb2 hle hR2
  simp only [Act.put, List.setIfInBounds_toArray, List.set_cons_zero, List.set_cons_succ]
  go_wp2_with fail
  with_reducible refine (cross_is k a c R E2.out.2.2.1 _ hk48).mono ?_
  rintro e w11 ⟨rfl, hb⟩
  have H11 := Lib.hid (H10.out.step hb)
  clear hb
  go_wp2_with (refine wpList_store_rel (by rfl) (.tmp 19) (.tmp 58) (by rfl) w11.heap.size k 0 R zeroR (by rfl) (by rfl) (RelAt.new w11 0 zeroR) ?_; intro w12 hR hg; have H12 := Lib.hid (H11.out.push hR hg); clear hR hg)
  refine Bl.wp_region_head 54 (by kernel_rfl) (by kernel_rfl) ?_
  simp only [List.take_succ_cons, List.take_zero, List.drop_succ_cons, List.drop_zero]
  repeat (refine Bl.belO_step (by rfl) (fun W hW => by simp [execOp, go_sem, hbb]; exact ⟨rfl, rfl⟩) ?_; simp only [Act.put, List.setIfInBounds_toArray, List.set_cons_zero, List.set_cons_succ])
  refine bel_load_rel (by rfl) (.tmp 12) (by rfl) w6.heap.size k U (by rfl) (H12.out.at 2 rfl) ?_
  simp only [Act.put, List.setIfInBounds_toArray, List.set_cons_zero, List.set_cons_succ]
  repeat (refine Bl.belO_step (by rfl) (fun W hW => by simp [execOp, go_sem, hbb]; exact ⟨rfl, rfl⟩) ?_; simp only [Act.put, List.setIfInBounds_toArray, List.set_cons_zero, List.set_cons_succ])
  refine Bl.belO_call 39 #[.int .i64 k, .int .u64 (Bv.U a), .int .u64 (Bv.U (b ||| c))] (by rfl) (fun W => by simp [execOp, go_sem]) (fun W hW => cross_is k a (b ||| c) U E2.out.1 W hk48) ?_
  simp only [Act.put, List.setIfInBounds_toArray, List.set_cons_zero, List.set_cons_succ]
  repeat (refine Bl.belO_step (by rfl) (fun W hW => by simp [execOp, go_sem, hbb]; exact ⟨rfl, rfl⟩) ?_; simp only [Act.put, List.setIfInBounds_toArray, List.set_cons_zero, List.set_cons_succ])
  refine bel_load_rel (by rfl) (.tmp 14) (by rfl) w8.heap.size k V (by rfl) (H12.out.at 3 rfl) ?_
  simp only [Act.put, List.setIfInBounds_toArray, List.set_cons_zero, List.set_cons_succ]
  repeat (refine Bl.belO_step (by rfl) (fun W hW => by simp [execOp, go_sem, hbb]; exact ⟨rfl, rfl⟩) ?_; simp only [Act.put, List.setIfInBounds_toArray, List.set_cons_zero, List.set_cons_succ])
  refine Bl.belO_call 39 #[.int .i64 k, .int .u64 (Bv.U a), .int .u64 (Bv.U (b &&& ~~~ c))] (by rfl) (fun W => by simp [execOp, go_sem]) (fun W hW => cross_is k a (b &&& ~~~ c) V E2.out.2.1 W hk48) ?_
  simp only [Act.put, List.setIfInBounds_toArray, List.set_cons_zero, List.set_cons_succ]
  repeat (refine Bl.belO_step (by rfl) (fun W hW => by simp [execOp, go_sem, hbb]; exact ⟨rfl, rfl⟩) ?_; simp only [Act.put, List.setIfInBounds_toArray, List.set_cons_zero, List.set_cons_succ])
  refine bel_load_rel (by rfl) (.tmp 16) (by rfl) b10 k R (by rfl) (H12.out.at 4 rfl) ?_
  simp only [Act.put, List.setIfInBounds_toArray, List.set_cons_zero, List.set_cons_succ]
  refine bel_load_rel (by rfl) (.tmp 19) (by rfl) w11.heap.size k R (by rfl) (H12.out.at 5 rfl) ?_
  simp only [Act.put, List.setIfInBounds_toArray, List.set_cons_zero, List.set_cons_succ]
  repeat (refine Bl.belO_step (by rfl) (fun W hW => by simp [execOp, go_sem, hbb]; exact ⟨rfl, rfl⟩) ?_; simp only [Act.put, List.setIfInBounds_toArray, List.set_cons_zero, List.set_cons_succ])
  refine bel_load_rel (by rfl) (.tmp 10) (by rfl) w2.heap.size k X (by rfl) (H12.out.at 0 rfl) ?_
  simp only [Act.put, List.setIfInBounds_toArray, List.set_cons_zero, List.set_cons_succ]
  refine Bl.belO_call 24 #[.agg (relC k X)] (by rfl) (fun W => by simp [execOp, go_sem]) (fun W hW => irr_is k X bb E2.out.2.2.2.2.2 W O.out.1.z) ?_
  simp only [Act.put, List.setIfInBounds_toArray, List.set_cons_zero, List.set_cons_succ]
  repeat (refine Bl.belO_step (by rfl) (fun W hW => by simp [execOp, go_sem, hbb]; exact ⟨rfl, rfl⟩) ?_; simp only [Act.put, List.setIfInBounds_toArray, List.set_cons_zero, List.set_cons_succ])
  refine bel_load_rel (by rfl) (.tmp 10) (by rfl) w2.heap.size k X (by rfl) (H12.out.at 0 rfl) ?_
  simp only [Act.put, List.setIfInBounds_toArray, List.set_cons_zero, List.set_cons_succ]
  refine Bl.belO_call 20 #[.agg (relC k X)] (by rfl) (fun W => by simp [execOp, go_sem]) (fun W hW => back_is k X Z E2.out.2.2.2.1 W O.out.1 (HT.out W (H12.out.bel.trans (hW.mono H12.out.bel.size)))) ?_
  simp only [Act.put, List.setIfInBounds_toArray, List.set_cons_zero, List.set_cons_succ]
  repeat (refine Bl.belO_step (by rfl) (fun W hW => by simp [execOp, go_sem, hbb]; exact ⟨rfl, rfl⟩) ?_; simp only [Act.put, List.setIfInBounds_toArray, List.set_cons_zero, List.set_cons_succ])
  refine Bl.belO_call 39 #[.int .i64 k, .int .u64 (Bv.U b), .int .u64 (Bv.U a)] (by rfl) (fun W => by simp [execOp, go_sem]) (fun W hW => cross_is k b a Z E.out.2.2.2.1 W hk48) ?_
  simp only [Act.put, List.setIfInBounds_toArray, List.set_cons_zero, List.set_cons_succ]
  repeat (refine Bl.belO_step (by rfl) (fun W hW => by simp [execOp, go_sem, hbb]; exact ⟨rfl, rfl⟩) ?_; simp only [Act.put, List.setIfInBounds_toArray, List.set_cons_zero, List.set_cons_succ])
  refine Bl.belO_call 22 #[] (by rfl) (fun W => by simp [execOp, go_sem]) (fun W hW => awake_any W (HT.out W (H12.out.bel.trans (hW.mono H12.out.bel.size))).1 (HT.out W (H12.out.bel.trans (hW.mono H12.out.bel.size))).2) ?_
  simp only [Act.put, List.setIfInBounds_toArray, List.set_cons_zero, List.set_cons_succ]
  repeat (refine Bl.belO_step (by rfl) (fun W hW => by simp [execOp, go_sem, hbb]; exact ⟨rfl, rfl⟩) ?_; simp only [Act.put, List.setIfInBounds_toArray, List.set_cons_zero, List.set_cons_succ])
  refine Bl.belO_nil ?_
  intro w13 hb2
  have H13 := Lib.hid (H12.out.step hb2)
  clear hb2
  go_wp2_with fail
  go_ret
  exact ⟨rfl, H13.out.bel⟩
theorem relCross_con (x : Int) (a b c : BitVec 64) (w : World) (h0 : 0 ≤ x) (h1 : x ≤ 255) (hT : Tab w) (hw : 0 < w.heap.size) :
    Calls Tryd.prog 7 #[.int .u8 x, .int .u64 (Bv.U a), .int .u64 (Bv.U b), .int .u64 (Bv.U c)] w fun e w' => e = .returned (.bool true) ∧ Below w.heap.size w w' := by
  obtain ⟨k, hk⟩ : ∃ k : Nat, x % 49 = (k : Int) := ⟨(x % 49).toNat, by omega⟩
  cases hz : (b &&& Rl.below (k : Int) == 0#64)
  · exact relCross_some x k a b c w h0 h1 hk (by omega) hz hT hw
  · exact relCross_zero x k a b c w h0 h1 hk (by omega) hz hT hw
end Go.Proofs.YtknjdfgmejobfaaDoor
