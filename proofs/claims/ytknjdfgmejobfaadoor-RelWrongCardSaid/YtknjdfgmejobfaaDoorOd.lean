/- layer 2's law: the walk of RelWrong. -/
import Derived.Test.YtknjdfgmejobfaaDoorOe
import Derived.Deep.CutBlock
import Derived.Deep.DeepCutAuto
namespace Go.Proofs.YtknjdfgmejobfaaDoor
open Go.RowKit Go.Shelf

attribute [-go_sem] run_eql_struct run_neq_struct
attribute [local go_sem] Bv.and_u Bv.or_u Bv.andNot_u Bv.wrap_sub1 Bv.eq0 Bv.ne0 Bv.wrap_pow Bv.wrap_powmin Bv.wrap_neg Bv.eq_u Bv.ne_u Bv.shr_min Bv.shr_pow Bv.tmod2 Bv.and1 Bv.wrap_add Bv.B1_eq1 Bv.B1_eq0 Bv.B1_ne1 Bv.B1_ne0 run_rel_eql run_rel_neq relEq_self

theorem comb_bad {n m : Int} {f g : Rl.Rows} (rows : Rl.Rows) (h : okB n m f g = false) : combN n m f g = 0 ∧ combF n m f g rows = zeroR ∧ combE n m f g = 2 := by
  unfold combN combF combE; rw [h]; exact ⟨rfl, rfl, rfl⟩
theorem okB_l {n m : Int} {f g : Rl.Rows} (h : Rl.rightB n f = false) : okB n m f g = false := by unfold okB; rw [h]; simp
theorem okB_r {n m : Int} {f g : Rl.Rows} (h : Rl.rightB m g = false) : okB n m f g = false := by unfold okB; rw [h]; simp
theorem okB_n {n m : Int} {f g : Rl.Rows} (h : n ≠ m) : okB n m f g = false := by unfold okB; simp [h]
theorem union_bad (n m : Int) (f g : Rl.Rows) (w : World) (zf : Rl.Z f) (zg : Rl.Z g) (h : okB n m f g = false) :
    Calls Tryd.prog 19 #[.agg (relC n f), .agg (relC m g)] w fun e w' => e = .returned (.tuple #[.agg (relC 0 zeroR), .int .i64 2]) ∧ Below w.heap.size w w' := by
  have hc := union_any n m f g w zf zg
  have e := comb_bad (fun k => f k ||| g k) h
  rw [e.1, e.2.1, e.2.2] at hc
  exact hc
theorem both_bad (n m : Int) (f g : Rl.Rows) (w : World) (zf : Rl.Z f) (zg : Rl.Z g) (h : okB n m f g = false) :
    Calls Tryd.prog 42 #[.agg (relC n f), .agg (relC m g)] w fun e w' => e = .returned (.tuple #[.agg (relC 0 zeroR), .int .i64 2]) ∧ Below w.heap.size w w' := by
  have hc := both_any n m f g w zf zg
  have e := comb_bad (fun k => f k &&& g k) h
  rw [e.1, e.2.1, e.2.2] at hc
  exact hc
theorem less_bad (n m : Int) (f g : Rl.Rows) (w : World) (zf : Rl.Z f) (zg : Rl.Z g) (h : okB n m f g = false) :
    Calls Tryd.prog 40 #[.agg (relC n f), .agg (relC m g)] w fun e w' => e = .returned (.tuple #[.agg (relC 0 zeroR), .int .i64 2]) ∧ Below w.heap.size w w' := by
  have hc := less_any n m f g w zf zg
  have e := comb_bad (fun k => f k &&& ~~~ (g k)) h
  rw [e.1, e.2.1, e.2.2] at hc
  exact hc
theorem then_bad (n m : Int) (f g : Rl.Rows) (w : World) (zf : Rl.Z f) (zg : Rl.Z g) (h : okB n m f g = false) (hT : Tab w ∧ 0 < w.heap.size) :
    Calls Tryd.prog 18 #[.agg (relC n f), .agg (relC m g)] w fun e w' => e = .returned (.tuple #[.agg (relC 0 zeroR), .int .i64 2]) ∧ Below w.heap.size w w' := by
  have hc := then_any n m f g w zf zg hT.1 hT.2
  have e := comb_bad (fun k => Rl.image g (f k)) h
  rw [e.1, e.2.1, e.2.2] at hc
  exact hc
theorem empty_no (n : Int) (f : Rl.Rows) (w : World) (zf : Rl.Z f) (hr : Rl.rightB n f = false) :
    Calls Tryd.prog 34 #[.agg (relC n f)] w fun e w' => e = .returned (.bool false) ∧ Below w.heap.size w w' := empty_is n f false (by unfold emptyB; rw [hr]; rfl) w zf
theorem acyclic_no (n : Int) (f : Rl.Rows) (w : World) (zf : Rl.Z f) (hr : Rl.rightB n f = false) (hT : Tab w ∧ 0 < w.heap.size) :
    Calls Tryd.prog 26 #[.agg (relC n f)] w fun e w' => e = .returned (.bool false) ∧ Below w.heap.size w w' := acyclic_is n f false (by unfold topR; rw [hr]; rfl) w zf hT.1 hT.2
theorem has_no (n : Int) (f : Rl.Rows) (w : World) (zf : Rl.Z f) (hr : Rl.rightB n f = false) :
    Calls Tryd.prog 29 #[.agg (relC n f), .int .i64 0, .int .i64 0] w fun e w' => e = .returned (.bool false) ∧ Below w.heap.size w w' := has_is n f 0 0 false (by unfold pairB; rw [hr]; rfl) w zf
attribute [local go_sem] BitVec.or_self
def IsNo (v : Value) : Prop := ∃ (A : Option Addr) (c : Nat), v = .slice A 0 c
theorem pairs_len0 (n : Int) (f : Rl.Rows) (w : World) (hr : Rl.rightB n f = false) :
    Calls Tryd.prog 28 #[.agg (relC n f)] w fun e w' => ∃ v, e = .returned v ∧ IsNo v ∧ Below w.heap.size w w' :=
  (pairs_no n f w hr).mono fun e w' ⟨v, he, hrow, hb⟩ => by
    obtain ⟨A, c, e1, e2, _⟩ := row_pairs hrow
    exact ⟨v, he, ⟨A, c, by rw [e1, e2]; rfl⟩, hb⟩
theorem ring_len0 (n : Int) (f : Rl.Rows) (w : World) (hr : Rl.rightB n f = false) :
    Calls Tryd.prog 23 #[.agg (relC n f)] w fun e w' => ∃ v, e = .returned v ∧ IsNo v ∧ Below w.heap.size w w' :=
  (ring_no n f w hr).mono fun e w' ⟨v, he, hrow, hb⟩ => by
    obtain ⟨A, c, e1, e2, _⟩ := row_nums hrow
    exact ⟨v, he, ⟨A, c, by rw [e1]; rfl⟩, hb⟩
theorem zero_Z : Rl.Z zeroR := fun _ _ => rfl
theorem zero_or : (0#64 ||| 0#64) = 0#64 := rfl
theorem zero_ne : (0#64 != 0#64) = false := rfl
/-- the four ways in which a relation is made wrong -/
theorem bad_row {k : Nat} {A : Rl.Rows} (hk : k ≤ 40) (hA : Rl.Ok k A) : Rl.Z (upd A k 1#64) ∧ Rl.rightB k (upd A k 1#64) = false := by
  have hz : Rl.Z (upd A k 1#64) := fun a ha => by rw [upd_other _ _ (by omega)]; exact hA.z a ha
  refine ⟨hz, ?_⟩
  cases h : Rl.rightB k (upd A k 1#64)
  · rfl
  · have h1 := ((Rl.right_iff k _ hz).1 h).in_ k 0 (by unfold Rl.bit; rw [upd_same]; decide)
    omega
theorem bad_bit {k : Nat} {A : Rl.Rows} (hk : k ≤ 40) (hA : Rl.Ok k A) : Rl.Z (upd A 0 (A 0 ||| Bv.bit k)) ∧ Rl.rightB k (upd A 0 (A 0 ||| Bv.bit k)) = false := by
  have hz : Rl.Z (upd A 0 (A 0 ||| Bv.bit k)) := fun a ha => by rw [upd_other _ _ (by omega)]; exact hA.z a ha
  refine ⟨hz, ?_⟩
  cases h : Rl.rightB k (upd A 0 (A 0 ||| Bv.bit k))
  · rfl
  · have h1 := ((Rl.right_iff k _ hz).1 h).in_ 0 k (by unfold Rl.bit; rw [upd_same, BitVec.getLsbD_or, Bv.bit_get k k (by omega)]; simp)
    omega
theorem bad_num {n : Int} {A : Rl.Rows} (h : n < 0 ∨ 48 < n) : Rl.rightB n A = false := by
  unfold Rl.rightB; rw [decide_eq_false (by omega)]; rfl
/-- what the switch leaves -/
def Wrong (w : World) (b9 : Nat) (k : Nat) (A : Rl.Rows) (m : Int) (g : Rl.Rows) (wx : World) : Prop :=
  ∃ (nb : Int) (fb : Rl.Rows), Rl.Z fb ∧ Rl.rightB nb fb = false ∧ Held w [(w.heap.size, (k : Int), A), (w.heap.size + 1, m, g), (b9, nb, fb)] wx

set_option maxRecDepth 100000 in
set_option maxHeartbeats 8000000 in
theorem relWrong_con (n : Int) (f : Rl.Rows) (m : Int) (g : Rl.Rows) (c : Int) (y : Int) (w : World) (zf : Rl.Z f) (zg : Rl.Z g) (c0 : 0 ≤ c) (c1 : c ≤ 255) (y0 : -9223372036854775808 ≤ y) (y1 : y ≤ 9223372036854775807) (hT : Tab w) (hw : 0 < w.heap.size) :
    Calls Tryd.prog 13 #[.agg (relC n f), .agg (relC m g), .int .u8 c, .int .i64 y] w fun e w' => e = .returned (.bool true) ∧ Below w.heap.size w w' := by
  have hzr := zero_rel
  have hbr := build_rel
  have hbz := build_zero
  have hne0 : ¬ relC 0 zeroR = #[] := by intro h; have := congrArg Array.size h; rw [relC_size] at this; simp at this
  have hTl : ∀ W, Below w.heap.size w W → Tab W ∧ 0 < W.heap.size := fun W h => ⟨hT.below h hw, Nat.lt_of_lt_of_le hw h.size⟩
  have HT := Lib.hid hTl
  clear hTl hT
  obtain ⟨k, hk⟩ : ∃ k, k = fineK n 40 := ⟨_, rfl⟩
  have hk40 : k ≤ 40 := by rw [hk]; exact fineK_le n 40
  obtain ⟨A, hA⟩ : ∃ A, A = fineR k f := ⟨_, rfl⟩
  have oA : Rl.Ok k A := by rw [hA]; exact ok_fine (by omega) f
  have E := Lib.hid (And.intro hk (And.intro hA (And.intro oA (And.intro zf zg))))
  clear hk hA oA zf zg
  have H0 := Lib.hid (((Held.nil w).box n f).box m g)
  simp only [World.size_alloc] at H0
  obtain ⟨d, hd⟩ : ∃ d : Int, c % 4 = d := ⟨_, rfl⟩
  have hcase : d = 0 ∨ d = 1 ∨ d = 2 ∨ d = 3 := by omega
  go_enter Tryd.func13, Tryd.ntmps13
  go_wp2_with (first | (refine wpList_load_rel (by rfl) (.tmp 4) (by rfl) w.heap.size n f (by rfl) (H0.out.at 0 rfl) ?_))
  refine (fine_is n f 40 40 k A (show ((40 : Nat) : Int) = 40 from rfl) E.out.1 E.out.2.1 _ (by omega) E.out.2.2.2.1).mono ?_
  rintro e w1 ⟨rfl, hb⟩
  have H1 := Lib.hid (H0.out.step hb)
  clear hb
  go_upto_block 0 with (first | (refine wpList_store_rel (by rfl) (.tmp 4) (.tmp 22) (by rfl) w.heap.size k n A f (by rfl) (by rfl) (H1.out.at 0 rfl) ?_; intro w2 hR hg; have H2 := Lib.hid (H1.out.put 0 rfl hR hg); clear hR hg) | (refine wpList_load_rel (by rfl) (.tmp 4) (by rfl) w.heap.size k A (by rfl) (H2.out.at 0 rfl) ?_) | (refine wpList_store_rel (by rfl) (.tmp 9) (.tmp 23) (by rfl) w2.heap.size k 0 A zeroR (by rfl) (by rfl) (RelAt.new w2 0 zeroR) ?_; intro w3 hR hg; have H3 := Lib.hid (H2.out.push hR hg); clear hR hg))
  have hR := H3.out.at 2 rfl
  have cN := (H3.out.at 2 rfl).num
  have fN := (H3.out.at 2 rfl).free 0
  rw [hd]
  clear hd
  go_cut [26] (fun s26 wx => Wrong w w2.heap.size k A m g wx)
  case first =>
    rcases hcase with rfl | rfl | rfl | rfl
    · go_wp2_with fail
      all_goals go_meet
      all_goals (refine ⟨_, A, E.out.2.2.1.z, ?_, H3.out.setN 2 rfl _⟩; exact bad_num (by omega))
    · go_wp2_with fail
      all_goals go_meet
      all_goals (refine ⟨_, A, E.out.2.2.1.z, ?_, H3.out.setN 2 rfl _⟩; exact bad_num (by omega))
    · have cK := (H3.out.at 0 rfl).num
      have cR := (H3.out.at 2 rfl).row k (by omega)
      have fR := (H3.out.at 2 rfl).free (1 + k)
      have q0 : (0 : Int) ≤ (k : Int) := by omega
      have q1 : (k : Int) < 48 := by omega
      have hs := H3.out.setRow 2 rfl k 1#64
      have HB := Lib.hid (And.intro (bad_row hk40 E.out.2.2.1) hs)
      clear hs
      go_wp2_with fail
      go_meet
      exact ⟨k, _, HB.out.1.1, HB.out.1.2, HB.out.2⟩
    · have cK : ∀ W, Below w3.heap.size w3 W → W.cell? ⟨w.heap.size, 0, none⟩ = some (.int .i64 k) := fun W hW => ((H3.out.step hW).at 0 rfl).num
      have cR : ∀ W, Below w3.heap.size w3 W → W.cell? ⟨w2.heap.size, 1, none⟩ = some (.int .u64 (Bv.U (A 0))) := fun W hW => ((H3.out.step hW).at 2 rfl).row 0 (by omega)
      have q0 : (0 : Int) ≤ (k : Int) := by omega
      have q1 : (k : Int) < 64 := by omega
      have HC := Lib.hid (And.intro cK cR)
      clear cK cR cN fN
      go_wp2_with fail
      refine Bl.wp_region_head 9 (by kernel_rfl) (by kernel_rfl) ?_
      simp only [List.take_succ_cons, List.take_zero, List.drop_succ_cons, List.drop_zero]
      repeat (refine Bl.belO_step (by rfl) (fun W hW => by have c1 := HC.out.1 W hW; have c2 := HC.out.2 W hW; simp [execOp, go_sem, c1, c2]; exact ⟨rfl, rfl⟩) ?_; simp only [Act.put, List.setIfInBounds_toArray, List.set_cons_zero, List.set_cons_succ])
      refine Bl.belO_nil ?_
      intro w4 hb2
      have h4 := H3.out.step hb2
      have cR := (h4.at 2 rfl).row 0 (by omega)
      have fR := (h4.at 2 rfl).free 1
      have hs := h4.setRow 2 rfl 0 (A 0 ||| Bv.bit k)
      have HB := Lib.hid (And.intro (bad_bit hk40 E.out.2.2.1) hs)
      clear hs h4 hb2
      go_wp2_with fail
      go_meet
      exact ⟨k, _, HB.out.1.1, HB.out.1.2, HB.out.2⟩
  case rest =>
    obtain ⟨nb, fb, zb, rb, hx⟩ := hcut
    have HX := Lib.hid hx
    have R := Lib.hid (And.intro zb rb)
    clear hx zb rb
    go_wp2_with (first | (refine wpList_load_rel (by rfl) (.tmp 9) (by rfl) w2.heap.size nb fb (by rfl) (HX.out.at 2 rfl) ?_))
    with_reducible refine (top_no nb fb _ R.out.2).mono ?_
    rintro e w11 ⟨v10, rfl, _, hb⟩
    have H11 := Lib.hid (HX.out.step hb)
    clear hb
    go_wp2_with (first | (refine wpList_load_rel (by rfl) (.tmp 9) (by rfl) w2.heap.size nb fb (by rfl) (H11.out.at 2 rfl) ?_) | (refine wpList_load_rel (by rfl) (.tmp 5) (by rfl) (w.heap.size + 1) m g (by rfl) (H11.out.at 1 rfl) ?_))
    with_reducible refine (union_bad nb m fb g _ R.out.1 E.out.2.2.2.2 (okB_l R.out.2)).mono ?_
    rintro e w12 ⟨rfl, hb⟩
    have H12 := Lib.hid (H11.out.step hb)
    clear hb
    go_wp2_with (first | (refine wpList_store_rel (by rfl) (.tmp 12) (.tmp 62) (by rfl) w12.heap.size 0 0 zeroR zeroR (by rfl) (by rfl) (RelAt.new w12 0 zeroR) ?_; intro w13 hR hg; have H13 := Lib.hid (H12.out.push hR hg); clear hR hg) | (refine wpList_load_rel (by rfl) (.tmp 5) (by rfl) (w.heap.size + 1) m g (by rfl) (H13.out.at 1 rfl) ?_) | (refine wpList_load_rel (by rfl) (.tmp 9) (by rfl) w2.heap.size nb fb (by rfl) (H13.out.at 2 rfl) ?_))
    with_reducible refine (then_bad m nb g fb _ E.out.2.2.2.2 R.out.1 (okB_r R.out.2) (HT.out _ H13.out.bel)).mono ?_
    rintro e w14 ⟨rfl, hb⟩
    have H14 := Lib.hid (H13.out.step hb)
    clear hb
    go_wp2_with (refine wpList_store_rel (by rfl) (.tmp 14) (.tmp 68) (by rfl) w14.heap.size 0 0 zeroR zeroR (by rfl) (by rfl) (RelAt.new w14 0 zeroR) ?_; intro w15 hR hg; have H15 := Lib.hid (H14.out.push hR hg); clear hR hg)
    refine Bm.wp_region_head 74 (by kernel_rfl) (by kernel_rfl) ?_
    simp only [List.append_eq, List.cons_append, List.nil_append, List.take_succ_cons, List.take_zero, List.drop_succ_cons, List.drop_zero]
    refine walk_load_rel (by rfl) (by rfl) (.tmp 9) (by rfl) w2.heap.size nb fb (by rfl) (H15.out.at 2 rfl) ?_
    simp only [Act.put, List.setIfInBounds_toArray, List.set_cons_zero, List.set_cons_succ]
    refine Bm.walk_call 58 #[.agg (relC nb fb)] (by rfl) (by rfl) (fun W => by simp [execOp, go_sem]) (fun W hW => right_is nb fb false R.out.2 W) ?_
    simp only [Act.put, List.setIfInBounds_toArray, List.set_cons_zero, List.set_cons_succ]
    repeat (refine Bm.walk_st (by rfl) (by rfl) (fun W hW => by simp [execOp, go_sem]; exact ⟨rfl, rfl⟩) ?_; simp only [Act.put, List.setIfInBounds_toArray, List.set_cons_zero, List.set_cons_succ])
    refine walk_load_rel (by rfl) (by rfl) (.tmp 12) (by rfl) w12.heap.size 0 zeroR (by rfl) (H15.out.at 3 rfl) ?_
    simp only [Act.put, List.setIfInBounds_toArray, List.set_cons_zero, List.set_cons_succ]
    refine walk_build0 (by rfl) ?_
    simp only [Act.put, List.setIfInBounds_toArray, List.set_cons_zero, List.set_cons_succ]
    repeat (refine Bm.walk_st (by rfl) (by rfl) (fun W hW => by simp [execOp, go_sem]; exact ⟨rfl, rfl⟩) ?_; simp only [Act.put, List.setIfInBounds_toArray, List.set_cons_zero, List.set_cons_succ])
    refine walk_load_rel (by rfl) (by rfl) (.tmp 14) (by rfl) w14.heap.size 0 zeroR (by rfl) (H15.out.at 4 rfl) ?_
    simp only [Act.put, List.setIfInBounds_toArray, List.set_cons_zero, List.set_cons_succ]
    refine walk_build0 (by rfl) ?_
    simp only [Act.put, List.setIfInBounds_toArray, List.set_cons_zero, List.set_cons_succ]
    repeat (refine Bm.walk_st (by rfl) (by rfl) (fun W hW => by simp [execOp, go_sem]; exact ⟨rfl, rfl⟩) ?_; simp only [Act.put, List.setIfInBounds_toArray, List.set_cons_zero, List.set_cons_succ])
    refine walk_load_rel (by rfl) (by rfl) (.tmp 9) (by rfl) w2.heap.size nb fb (by rfl) (H15.out.at 2 rfl) ?_
    simp only [Act.put, List.setIfInBounds_toArray, List.set_cons_zero, List.set_cons_succ]
    refine Bm.walk_open (IsNo) 28 #[.agg (relC nb fb)] (by rfl) (by rfl) (fun W => by simp [execOp, go_sem]) (fun W hW => pairs_len0 nb fb W R.out.2) ?_
    rintro v ⟨Ap, cp, rfl⟩
    simp only [Act.put, List.setIfInBounds_toArray, List.set_cons_zero, List.set_cons_succ]
    repeat (refine Bm.walk_st (by rfl) (by rfl) (fun W hW => by simp [execOp, go_sem]; exact ⟨rfl, rfl⟩) ?_; simp only [Act.put, List.setIfInBounds_toArray, List.set_cons_zero, List.set_cons_succ])
    refine walk_load_rel (by rfl) (by rfl) (.tmp 9) (by rfl) w2.heap.size nb fb (by rfl) (H15.out.at 2 rfl) ?_
    simp only [Act.put, List.setIfInBounds_toArray, List.set_cons_zero, List.set_cons_succ]
    refine Bm.walk_open (IsNo) 23 #[.agg (relC nb fb)] (by rfl) (by rfl) (fun W => by simp [execOp, go_sem]) (fun W hW => ring_len0 nb fb W R.out.2) ?_
    rintro v ⟨Ar, cr, rfl⟩
    simp only [Act.put, List.setIfInBounds_toArray, List.set_cons_zero, List.set_cons_succ]
    repeat (refine Bm.walk_st (by rfl) (by rfl) (fun W hW => by simp [execOp, go_sem]; exact ⟨rfl, rfl⟩) ?_; simp only [Act.put, List.setIfInBounds_toArray, List.set_cons_zero, List.set_cons_succ])
    refine walk_load_rel (by rfl) (by rfl) (.tmp 9) (by rfl) w2.heap.size nb fb (by rfl) (H15.out.at 2 rfl) ?_
    simp only [Act.put, List.setIfInBounds_toArray, List.set_cons_zero, List.set_cons_succ]
    refine Bm.walk_call 34 #[.agg (relC nb fb)] (by rfl) (by rfl) (fun W => by simp [execOp, go_sem]) (fun W hW => empty_no nb fb W R.out.1 R.out.2) ?_
    simp only [Act.put, List.setIfInBounds_toArray, List.set_cons_zero, List.set_cons_succ]
    repeat (refine Bm.walk_st (by rfl) (by rfl) (fun W hW => by simp [execOp, go_sem]; exact ⟨rfl, rfl⟩) ?_; simp only [Act.put, List.setIfInBounds_toArray, List.set_cons_zero, List.set_cons_succ])
    refine walk_load_rel (by rfl) (by rfl) (.tmp 9) (by rfl) w2.heap.size nb fb (by rfl) (H15.out.at 2 rfl) ?_
    simp only [Act.put, List.setIfInBounds_toArray, List.set_cons_zero, List.set_cons_succ]
    refine Bm.walk_call 24 #[.agg (relC nb fb)] (by rfl) (by rfl) (fun W => by simp [execOp, go_sem]) (fun W hW => irr_no nb fb W R.out.2) ?_
    simp only [Act.put, List.setIfInBounds_toArray, List.set_cons_zero, List.set_cons_succ]
    repeat (refine Bm.walk_st (by rfl) (by rfl) (fun W hW => by simp [execOp, go_sem]; exact ⟨rfl, rfl⟩) ?_; simp only [Act.put, List.setIfInBounds_toArray, List.set_cons_zero, List.set_cons_succ])
    refine walk_load_rel (by rfl) (by rfl) (.tmp 9) (by rfl) w2.heap.size nb fb (by rfl) (H15.out.at 2 rfl) ?_
    simp only [Act.put, List.setIfInBounds_toArray, List.set_cons_zero, List.set_cons_succ]
    refine Bm.walk_call 26 #[.agg (relC nb fb)] (by rfl) (by rfl) (fun W => by simp [execOp, go_sem]) (fun W hW => acyclic_no nb fb W R.out.1 R.out.2 (HT.out W (H15.out.bel.trans (hW.mono H15.out.bel.size)))) ?_
    simp only [Act.put, List.setIfInBounds_toArray, List.set_cons_zero, List.set_cons_succ]
    repeat (refine Bm.walk_st (by rfl) (by rfl) (fun W hW => by simp [execOp, go_sem]; exact ⟨rfl, rfl⟩) ?_; simp only [Act.put, List.setIfInBounds_toArray, List.set_cons_zero, List.set_cons_succ])
    refine walk_load_rel (by rfl) (by rfl) (.tmp 9) (by rfl) w2.heap.size nb fb (by rfl) (H15.out.at 2 rfl) ?_
    simp only [Act.put, List.setIfInBounds_toArray, List.set_cons_zero, List.set_cons_succ]
    refine Bm.walk_call 25 #[.agg (relC nb fb)] (by rfl) (by rfl) (fun W => by simp [execOp, go_sem]) (fun W hW => plus_no nb fb W R.out.2) ?_
    simp only [Act.put, List.setIfInBounds_toArray, List.set_cons_zero, List.set_cons_succ]
    refine walk_build0 (by rfl) ?_
    simp only [Act.put, List.setIfInBounds_toArray, List.set_cons_zero, List.set_cons_succ]
    repeat (refine Bm.walk_st (by rfl) (by rfl) (fun W hW => by simp [execOp, go_sem]; exact ⟨rfl, rfl⟩) ?_; simp only [Act.put, List.setIfInBounds_toArray, List.set_cons_zero, List.set_cons_succ])
    refine walk_load_rel (by rfl) (by rfl) (.tmp 9) (by rfl) w2.heap.size nb fb (by rfl) (H15.out.at 2 rfl) ?_
    simp only [Act.put, List.setIfInBounds_toArray, List.set_cons_zero, List.set_cons_succ]
    refine Bm.walk_call 67 #[.agg (relC nb fb)] (by rfl) (by rfl) (fun W => by simp [execOp, go_sem]) (fun W hW => star_no nb fb W R.out.2) ?_
    simp only [Act.put, List.setIfInBounds_toArray, List.set_cons_zero, List.set_cons_succ]
    refine walk_build0 (by rfl) ?_
    simp only [Act.put, List.setIfInBounds_toArray, List.set_cons_zero, List.set_cons_succ]
    repeat (refine Bm.walk_st (by rfl) (by rfl) (fun W hW => by simp [execOp, go_sem]; exact ⟨rfl, rfl⟩) ?_; simp only [Act.put, List.setIfInBounds_toArray, List.set_cons_zero, List.set_cons_succ])
    refine walk_load_rel (by rfl) (by rfl) (.tmp 9) (by rfl) w2.heap.size nb fb (by rfl) (H15.out.at 2 rfl) ?_
    simp only [Act.put, List.setIfInBounds_toArray, List.set_cons_zero, List.set_cons_succ]
    refine Bm.walk_call 20 #[.agg (relC nb fb)] (by rfl) (by rfl) (fun W => by simp [execOp, go_sem]) (fun W hW => back_no nb fb W R.out.2) ?_
    simp only [Act.put, List.setIfInBounds_toArray, List.set_cons_zero, List.set_cons_succ]
    refine walk_build0 (by rfl) ?_
    simp only [Act.put, List.setIfInBounds_toArray, List.set_cons_zero, List.set_cons_succ]
    repeat (refine Bm.walk_st (by rfl) (by rfl) (fun W hW => by simp [execOp, go_sem]; exact ⟨rfl, rfl⟩) ?_; simp only [Act.put, List.setIfInBounds_toArray, List.set_cons_zero, List.set_cons_succ])
    refine walk_load_rel (by rfl) (by rfl) (.tmp 9) (by rfl) w2.heap.size nb fb (by rfl) (H15.out.at 2 rfl) ?_
    simp only [Act.put, List.setIfInBounds_toArray, List.set_cons_zero, List.set_cons_succ]
    refine Bm.walk_call 43 #[.agg (relC nb fb)] (by rfl) (by rfl) (fun W => by simp [execOp, go_sem]) (fun W hW => from_no nb fb W R.out.2) ?_
    simp only [Act.put, List.setIfInBounds_toArray, List.set_cons_zero, List.set_cons_succ]
    refine walk_load_rel (by rfl) (by rfl) (.tmp 9) (by rfl) w2.heap.size nb fb (by rfl) (H15.out.at 2 rfl) ?_
    simp only [Act.put, List.setIfInBounds_toArray, List.set_cons_zero, List.set_cons_succ]
    refine Bm.walk_call 44 #[.agg (relC nb fb)] (by rfl) (by rfl) (fun W => by simp [execOp, go_sem]) (fun W hW => into_no nb fb W R.out.2) ?_
    simp only [Act.put, List.setIfInBounds_toArray, List.set_cons_zero, List.set_cons_succ]
    repeat (refine Bm.walk_st (by rfl) (by rfl) (fun W hW => by simp [execOp, go_sem, zero_ne]; exact ⟨rfl, rfl⟩) ?_; simp only [Act.put, List.setIfInBounds_toArray, List.set_cons_zero, List.set_cons_succ])
    refine walk_load_rel (by rfl) (by rfl) (.tmp 9) (by rfl) w2.heap.size nb fb (by rfl) (H15.out.at 2 rfl) ?_
    simp only [Act.put, List.setIfInBounds_toArray, List.set_cons_zero, List.set_cons_succ]
    refine Bm.walk_call 29 #[.agg (relC nb fb), .int .i64 0, .int .i64 0] (by rfl) (by rfl) (fun W => by simp [execOp, go_sem]) (fun W hW => has_no nb fb W R.out.1 R.out.2) ?_
    simp only [Act.put, List.setIfInBounds_toArray, List.set_cons_zero, List.set_cons_succ]
    repeat (refine Bm.walk_st (by rfl) (by rfl) (fun W hW => by simp [execOp, go_sem]; exact ⟨rfl, rfl⟩) ?_; simp only [Act.put, List.setIfInBounds_toArray, List.set_cons_zero, List.set_cons_succ])
    refine Bm.walk_nil ?_
    intro w16 hb2
    have H16 := Lib.hid (H15.out.step hb2)
    clear hb2
    have cK := (H16.out.at 0 rfl).num
    go_wp2_with (first | (refine wpList_store_rel (by rfl) (.tmp 16) (.tmp 148) (by rfl) w16.heap.size ((k : Int) + 1) 0 zeroR zeroR (by rfl) (by rfl) (RelAt.new w16 0 zeroR) ?_; intro w17 hR hg; have H17 := Lib.hid (H16.out.push hR hg); clear hR hg) | (refine wpList_load_rel (by rfl) (.tmp 4) (by rfl) w.heap.size k A (by rfl) (H17.out.at 0 rfl) ?_) | (refine wpList_load_rel (by rfl) (.tmp 16) (by rfl) w16.heap.size ((k : Int) + 1) zeroR (by rfl) (H17.out.at 5 rfl) ?_))
    with_reducible refine (both_bad k (k + 1) A zeroR _ E.out.2.2.1.z zero_Z (okB_n (by omega))).mono ?_
    rintro e w18 ⟨rfl, hb⟩
    have H18 := Lib.hid (H17.out.step hb)
    clear hb
    go_wp2_with (first | (refine wpList_store_rel (by rfl) (.tmp 17) (.tmp 153) (by rfl) w18.heap.size 0 0 zeroR zeroR (by rfl) (by rfl) (RelAt.new w18 0 zeroR) ?_; intro w19 hR hg; have H19 := Lib.hid (H18.out.push hR hg); clear hR hg) | (refine wpList_load_rel (by rfl) (.tmp 16) (by rfl) w16.heap.size ((k : Int) + 1) zeroR (by rfl) (H19.out.at 5 rfl) ?_) | (refine wpList_load_rel (by rfl) (.tmp 4) (by rfl) w.heap.size k A (by rfl) (H19.out.at 0 rfl) ?_))
    with_reducible refine (less_bad (k + 1) k zeroR A _ zero_Z E.out.2.2.1.z (okB_n (by omega))).mono ?_
    rintro e w20 ⟨rfl, hb⟩
    have H20 := Lib.hid (H19.out.step hb)
    clear hb
    go_wp2_with (first | (refine wpList_store_rel (by rfl) (.tmp 19) (.tmp 159) (by rfl) w20.heap.size 0 0 zeroR zeroR (by rfl) (by rfl) (RelAt.new w20 0 zeroR) ?_; intro w21 hR hg; have H21 := Lib.hid (H20.out.push hR hg); clear hR hg) | (refine wpList_load_rel_want (by rfl) (.tmp 4) (by rfl) w.heap.size k A (by rfl) (H21.out.at 0 rfl) ?_))
    with_reducible refine (right_is k A true (Rl.right_of E.out.2.2.1) _).mono ?_
    rintro e w22 ⟨rfl, hb⟩
    have H22 := Lib.hid (H21.out.step hb)
    clear hb
    go_wp2_with fail
    with_reducible refine (awake_any _ (HT.out _ H22.out.bel).1 (HT.out _ H22.out.bel).2).mono ?_
    rintro e w23 ⟨rfl, hb⟩
    have H23 := Lib.hid (H22.out.step hb)
    clear hb
    go_wp2_with fail
    go_ret
    exact ⟨rfl, H23.out.bel⟩
end Go.Proofs.YtknjdfgmejobfaaDoor
