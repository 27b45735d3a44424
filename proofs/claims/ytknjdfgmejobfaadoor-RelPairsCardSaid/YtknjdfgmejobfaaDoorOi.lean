/- layer 2's law: the walk of RelPairs where there is no pair. -/
import Derived.Test.YtknjdfgmejobfaaDoorOg
namespace Go.Proofs.YtknjdfgmejobfaaDoor
open Go.RowKit Go.Shelf

attribute [-go_sem] run_eql_struct run_neq_struct
attribute [local go_sem] Bv.and_u Bv.or_u Bv.andNot_u Bv.wrap_sub1 Bv.eq0 Bv.ne0 Bv.wrap_pow Bv.wrap_powmin Bv.wrap_neg Bv.eq_u Bv.ne_u Bv.shr_min Bv.shr_pow Bv.tmod2 Bv.and1 Bv.wrap_add Bv.B1_eq1 Bv.B1_eq0 Bv.B1_ne1 Bv.B1_ne0 run_rel_eql run_rel_neq relEq_self

set_option maxRecDepth 100000 in
set_option maxHeartbeats 8000000 in
theorem relPairs_none (n : Int) (f : Rl.Rows) (m : Int) (g : Rl.Rows) (turn : Int) (k : Nat) (A B : Rl.Rows) (N : Nat) (w : World) (hkk : k = fineK n 20) (hA : A = fineR k f) (hk2 : k = fineK k 20) (hB : B = fineR k g) (oA : Rl.Ok k A) (oB : Rl.Ok k B) (zf : Rl.Z f) (zg : Rl.Z g) (t0 : 0 ≤ turn) (t1 : turn ≤ 65535) (hnA : (Rl.pairsF A k).length = N) (hpos : N = 0) (hT : Tab w) (hw : 0 < w.heap.size) :
    Calls Tryd.prog 8 #[.agg (relC n f), .agg (relC m g), .int .u16 turn] w fun e w' => e = .returned (.bool true) ∧ Below w.heap.size w w' := by
  have hzr := zero_rel
  have hne0 : ¬ relC 0 zeroR = #[] := by intro h; have := congrArg Array.size h; rw [relC_size] at this; simp at this
  have hTl : ∀ W, Below w.heap.size w W → Tab W ∧ 0 < W.heap.size := fun W h => ⟨hT.below h hw, Nat.lt_of_lt_of_le hw h.size⟩
  have HT := Lib.hid hTl
  clear hTl hT
  have hk48 : k ≤ 48 := oA.le
  obtain ⟨U, hU⟩ : ∃ R, R = Rl.unionF k A B := ⟨_, rfl⟩
  obtain ⟨V, hV⟩ : ∃ R, R = Rl.bothF k A B := ⟨_, rfl⟩
  obtain ⟨Y, hY⟩ : ∃ R, R = Rl.lessF k A B := ⟨_, rfl⟩
  have oU : Rl.Ok k U := by rw [hU]; exact Rl.ok_union oA oB
  have oV : Rl.Ok k V := by rw [hV]; exact Rl.ok_both oA
  have oY : Rl.Ok k Y := by rw [hY]; exact Rl.ok_less oA
  have i1 : ∀ a b, Rl.bit A a b = true → Rl.bit U a b = true := fun a b h => by rw [hU]; exact (Rl.union_iff oA oB a b).2 (.inl h)
  have i2 : ∀ a b, Rl.bit V a b = true → Rl.bit B a b = true := fun a b h => by rw [hV] at h; exact ((Rl.both_iff oA a b).1 h).2
  have i3 : ∀ a b, Rl.bit Y a b = true → Rl.bit A a b = true := fun a b h => by rw [hY] at h; exact ((Rl.less_iff oA a b).1 h).1
  obtain ⟨nU, hnU⟩ : ∃ N, (Rl.pairsF U k).length = N := ⟨_, rfl⟩
  obtain ⟨nV, hnV⟩ : ∃ N, (Rl.pairsF V k).length = N := ⟨_, rfl⟩
  obtain ⟨nY, hnY⟩ : ∃ N, (Rl.pairsF Y k).length = N := ⟨_, rfl⟩
  obtain ⟨nB, hnB⟩ : ∃ N, (Rl.pairsF B k).length = N := ⟨_, rfl⟩
  have s1 : nU + nV = N + nB := by rw [← hnU, ← hnV, ← hnB, ← hnA, hU, hV]; exact Rl.pairs_union A B k (Nat.le_refl k)
  have s2 : nY + nV = N := by rw [← hnY, ← hnV, ← hnA, hY, hV]; exact Rl.pairs_less A B k (Nat.le_refl k)
  have hN := Rl.pairs_le A k
  rw [hnA] at hN
  have hN2 := Rl.pairs_le B k
  rw [hnB] at hN2
  have E := Lib.hid (And.intro hkk (And.intro hA (And.intro hk2 (And.intro hB (And.intro hU (And.intro hV hY))))))
  have O := Lib.hid (And.intro oA (And.intro oB (And.intro oU (And.intro oV (And.intro oY (And.intro zf zg))))))
  have I := Lib.hid (And.intro i1 (And.intro i2 i3))
  have L := Lib.hid (And.intro hnA (And.intro hnB (And.intro hnU (And.intro hnV hnY))))
  clear hkk hA hk2 hB hU hV hY oA oB oU oV oY zf zg i1 i2 i3 hnA hnB hnU hnV hnY
  have H0 := Lib.hid (((Held.nil w).box n f).box m g)
  simp only [World.size_alloc] at H0
  go_enter Tryd.func8, Tryd.ntmps8
  go_wp2_with (first | (refine wpList_load_rel (by rfl) (.tmp 3) (by rfl) w.heap.size n f (by rfl) (H0.out.at 0 rfl) ?_))
  with_reducible refine (fine_is n f 20 20 k A twenty E.out.1 E.out.2.1 _ (by omega) O.out.2.2.2.2.2.1).mono ?_
  rintro e w1 ⟨rfl, hb⟩
  have H1 := Lib.hid (H0.out.step hb)
  clear hb
  go_wp2_with (first | (refine wpList_store_rel (by rfl) (.tmp 3) (.tmp 22) (by rfl) w.heap.size k n A f (by rfl) (by rfl) (H1.out.at 0 rfl) ?_; intro w2 hR hg; have H2 := Lib.hid (H1.out.put 0 rfl hR hg); clear hR hg; have cK := (H2.out.at 0 rfl).num; have cM := (H2.out.at 1 rfl).num; have fM := (H2.out.at 1 rfl).free 0; have HS := Lib.hid (H2.out.setN 1 rfl (k : Int))) | (refine wpList_load_rel (by rfl) (.tmp 4) (by rfl) (w.heap.size + 1) k g (by rfl) (HS.out.at 1 rfl) ?_))
  with_reducible refine (fine_is k g 20 20 k B twenty E.out.2.2.1 E.out.2.2.2.1 _ (by omega) O.out.2.2.2.2.2.2).mono ?_
  rintro e w3 ⟨rfl, hb⟩
  have H3 := Lib.hid (HS.out.step hb)
  clear hb
  go_wp2_with (first | (refine wpList_store_rel (by rfl) (.tmp 4) (.tmp 27) (by rfl) (w.heap.size + 1) k k B g (by rfl) (by rfl) (H3.out.at 1 rfl) ?_; intro w4 hR hg; have H4 := Lib.hid (H3.out.put 1 rfl hR hg); clear hR hg) | (refine wpList_load_rel (by rfl) (.tmp 3) (by rfl) w.heap.size k A (by rfl) (H4.out.at 0 rfl) ?_))
  with_reducible refine (pairs_yes k A _ O.out.1 (HT.out _ H4.out.bel).1 (HT.out _ H4.out.bel).2).mono ?_
  rintro e wp ⟨v, rfl, hrow, hb⟩
  obtain ⟨A0, c0, e1, e2, hc0, _⟩ := row_pairs hrow
  rw [e2, L.out.1] at e1
  rw [L.out.1] at hrow
  subst e1
  clear e2
  have hsz0 := H4.out.bel.size
  have H5 := Lib.hid (H4.out.step hb)
  have hrow2 := Bo.ownsRow_mono hrow hsz0
  clear hb hrow hsz0
  have hpd : decide ((0 : Int) < (N : Int)) = false := decide_eq_false (by omega)
  have hpd2 : decide (0 < N) = false := decide_eq_false (by omega)
  have hpd3 : ¬ (0 < N) := by omega
  clear hc0 hpos
  go_wp2_with fail
  obtain ⟨A1, hA1⟩ : ∃ A, A = A0 := ⟨_, rfl⟩
  obtain ⟨c1, hc1⟩ : ∃ c, c = c0 := ⟨_, rfl⟩
  rw [← hA1, ← hc1] at hrow2 ⊢
  obtain ⟨l1, hl1⟩ : ∃ l, l = Rl.pairsF A k := ⟨_, rfl⟩
  rw [← hl1] at hrow2
  have hmem : ∀ p, p ∈ l1 ↔ Rl.bit A p.1 p.2 = true := fun p => by rw [hl1, Rl.mem_pairs O.out.1]
  have hlen : l1.length = N := by rw [hl1]; exact L.out.1
  have hrow1 := hrow2
  obtain ⟨i0, hi, hz0, hz1, hz2⟩ := info_parts infoPair
  have H9 := Lib.hid H5.out
  obtain ⟨w2, hw2⟩ : ∃ W, W = wp := ⟨_, rfl⟩
  rw [← hw2] at hrow1 H9 ⊢
  clear hrow2 hl1 hA1 hc1 hw2 hpd hpd2 hpd3
  have hold : ∀ g, (Value.slice A1 N c1).ownBlock = some g → g < w2.heap.size := fun g e => (hrow1.lt g e).2
  have hx1 := (H9.out.at 1 rfl).lt
  have HR1 := Lib.hid (And.intro hrow1 hold)
  have HM := Lib.hid (And.intro hmem hlen)
  clear hrow1 hold hmem hlen
  obtain ⟨I8, hI8⟩ : ∃ I8 : World → Prop, I8 = fun W => Held w [(w.heap.size, (k : Int), A), (w.heap.size + 1, (k : Int), B)] W ∧ W.ownsRow w.heap.size 42 2 (.slice A1 N c1) N (pairV l1) ∧ w2.heap.size ≤ W.heap.size := ⟨_, rfl⟩
  have hinv : Bo.Inv I8 (some w2.heap.size) := by
    rw [hI8]
    refine ⟨fun W z h => ⟨h.1.alloc z, h.2.1.alloc z, Nat.le_trans h.2.2 (by simp)⟩, fun W W' n b hn h hg hb => ?_, fun W n hn h => by injection hn with hn; rw [← hn]; exact h.2.2⟩
    injection hn with hn
    refine ⟨h.1.grown hg (by omega) (fun x hx => ?_), h.2.1.kept hg ?_, Nat.le_trans h.2.2 hg.size⟩
    · simp at hx; rcases hx with rfl | rfl <;> (simp only []; omega)
    · cases hv : (Value.slice A1 N c1).ownBlock with
      | none => exact .inl rfl
      | some g => have := HR1.out.2 g hv; exact .inr (fun e => by injection e; omega)
  have hst : I8 { w2 with drawn := w2.drawn + 1 } := by rw [hI8]; exact ⟨H9.out.drew, HR1.out.1.drew, Nat.le_refl _⟩
  have hun : ∀ W, I8 W → Held w [(w.heap.size, (k : Int), A), (w.heap.size + 1, (k : Int), B)] W ∧ W.ownsRow w.heap.size 42 2 (.slice A1 N c1) N (pairV l1) ∧ w2.heap.size ≤ W.heap.size := fun W h => by rw [hI8] at h; exact h
  have hmk : ∀ W W', I8 W → Below W.heap.size W W' → I8 W' := fun W W' h hb => by rw [hI8] at h ⊢; exact ⟨h.1.step hb, ownsRow_below h.2.1 hb, Nat.le_trans h.2.2 hb.size⟩
  have hap : ∀ W W', I8 W → W.grownBy W' (Value.slice A1 N c1).ownBlock → W'.ownsRow w.heap.size 42 2 (.slice A1 N c1) N (pairV l1) → I8 W' := fun W W' h hg hr => by rw [hI8] at h ⊢; exact ⟨h.1.grownRow h.2.1 hg, hr, Nat.le_trans h.2.2 hg.size⟩
  clear hI8
  skip
  refine Bo.wp_region_head_store I8 w2.heap.size hinv hst 9 _ _ (.cells (relC 0 zeroR) 26) (.cells (relC k A) 26) (by kernel_rfl) (by kernel_rfl) rfl rfl (fun a W => run_alloc_rel _ _ _ _ _ _) rfl rfl ?_
  simp only [List.append_eq, List.cons_append, List.nil_append, List.take_succ_cons, List.take_zero, List.drop_succ_cons, List.drop_zero]
  repeat (refine Bo.walk_st (by rfl) (by rfl) (fun W hW => by have c1 := ((hun W hW).1.at 0 rfl).num; simp [execOp, go_sem, c1]; exact ⟨rfl, rfl⟩) ?_; simp only [Act.put, List.setIfInBounds_toArray, List.set_cons_zero, List.set_cons_succ])
  refine Bo.walk_append_self (.tmp 50) (.tmp 51) 40 (by rfl) (by rfl) w.heap.size 42 i0 _ 2 16 Tryd.underlying40 hi hz0 hz1 hz2 rfl (by decide) (.slice A1 N c1) N (pairV l1) (by rfl) (by rfl) (pairV_one _) (by unfold maxLen; omega) (by omega) (fun W h => (hun W h).1.bel.size) (fun W h => (hun W h).2.1) HR1.out.2 hap ?_
  intro v2 hf
  simp only [Act.put, List.setIfInBounds_toArray, List.set_cons_zero, List.set_cons_succ]
  refine Bo.walk_call 41 #[.int .i64 k, v2] (by rfl) (by rfl) hmk (fun W => by simp [execOp, go_sem]) (fun W hW hR => of_row O.out.1 (l := l1 ++ l1) (fun p => by rw [List.mem_append, or_self]; exact HM.out.1 p) (N + N) (by omega) (by rw [pairV_app]; exact hR)) ?_
  simp only [Act.put, List.setIfInBounds_toArray, List.set_cons_zero, List.set_cons_succ]
  repeat (refine Bo.walk_st (by rfl) (by rfl) (fun W hW => by have c1 := ((hun W hW).1.at 0 rfl).num; simp [execOp, go_sem, c1]; exact ⟨rfl, rfl⟩) ?_; simp only [Act.put, List.setIfInBounds_toArray, List.set_cons_zero, List.set_cons_succ])
  refine Bo.walk_nil ?_
  intro b9
  refine ⟨writes_rel (.tmp 9) (.tmp 54) (by rfl) b9 k 0 A zeroR (by rfl) (by rfl), ?_⟩
  intro w3 hI3 hle9 hR9
  obtain ⟨hH3, hrow3, _⟩ := hun w3 hI3
  obtain ⟨_, _, e1, e2, _, hPA⟩ := row_pairs hrow3
  injection e1 with e1 e1b e1c
  clear e1b e1c
  rw [← e1] at hPA
  have OLD := Lib.hid (And.intro hH3.bel (And.intro (hH3.at 0 rfl) (And.intro (hH3.at 1 rfl) (And.intro (show RelAt w3 b9 k A from hR9) hPA))))
  clear hI3 hle9 hR9 hH3 hrow3 e1 e2 hPA hinv hst hun hmk hap HR1 hi hz0 hz1 hz2 hf hx1
  simp only [Act.put, List.setIfInBounds_toArray, List.set_cons_zero, List.set_cons_succ]
  have HN := Lib.hid (Held.nil w3)
  go_wp2_with (first | (refine wpList_load_rel (by rfl) (.tmp 3) (by rfl) w.heap.size k A (by rfl) (OLD.out.2.1.below HN.out.bel OLD.out.2.1.lt) ?_) | (refine wpList_load_rel (by rfl) (.tmp 4) (by rfl) (w.heap.size + 1) k B (by rfl) (OLD.out.2.2.1.below HN.out.bel OLD.out.2.2.1.lt) ?_))
  with_reducible refine (union_is k A B U E.out.2.2.2.2.1 _ O.out.1 O.out.2.1).mono ?_
  rintro e w21 ⟨rfl, hb⟩
  have H21 := Lib.hid (HN.out.step hb)
  clear hb
  go_wp2_with (first | (refine wpList_store_rel (by rfl) (.tmp 11) (.tmp 60) (by rfl) w21.heap.size k 0 U zeroR (by rfl) (by rfl) (RelAt.new w21 0 zeroR) ?_; intro w22 hR hg; have H22 := Lib.hid (H21.out.push hR hg); clear hR hg) | (refine wpList_load_rel (by rfl) (.tmp 3) (by rfl) w.heap.size k A (by rfl) (OLD.out.2.1.below H22.out.bel OLD.out.2.1.lt) ?_) | (refine wpList_load_rel (by rfl) (.tmp 4) (by rfl) (w.heap.size + 1) k B (by rfl) (OLD.out.2.2.1.below H22.out.bel OLD.out.2.2.1.lt) ?_))
  with_reducible refine (both_is k A B V E.out.2.2.2.2.2.1 _ O.out.1 O.out.2.1).mono ?_
  rintro e w23 ⟨rfl, hb⟩
  have H23 := Lib.hid (H22.out.step hb)
  clear hb
  go_wp2_with (first | (refine wpList_store_rel (by rfl) (.tmp 13) (.tmp 66) (by rfl) w23.heap.size k 0 V zeroR (by rfl) (by rfl) (RelAt.new w23 0 zeroR) ?_; intro w24 hR hg; have H24 := Lib.hid (H23.out.push hR hg); clear hR hg) | (refine wpList_load_rel (by rfl) (.tmp 3) (by rfl) w.heap.size k A (by rfl) (OLD.out.2.1.below H24.out.bel OLD.out.2.1.lt) ?_) | (refine wpList_load_rel (by rfl) (.tmp 4) (by rfl) (w.heap.size + 1) k B (by rfl) (OLD.out.2.2.1.below H24.out.bel OLD.out.2.2.1.lt) ?_))
  with_reducible refine (less_is k A B Y E.out.2.2.2.2.2.2 _ O.out.1 O.out.2.1).mono ?_
  rintro e w25 ⟨rfl, hb⟩
  have H25 := Lib.hid (H24.out.step hb)
  clear hb
  go_wp2_with (refine wpList_store_rel (by rfl) (.tmp 15) (.tmp 72) (by rfl) w25.heap.size k 0 Y zeroR (by rfl) (by rfl) (RelAt.new w25 0 zeroR) ?_; intro w26 hR hg; have H26 := Lib.hid (H25.out.push hR hg); clear hR hg)
  have r1 : IntKind.i64.wrap ((nU : Int) + (nV : Int)) = (N : Int) + (nB : Int) := by rw [IntKind.wrap_i64]; omega
  have r0 : IntKind.i64.wrap 0 = 0 := by rw [IntKind.wrap_i64]; rfl
  have r2 : IntKind.i64.wrap ((N : Int) + (nB : Int)) = (N : Int) + (nB : Int) := by rw [IntKind.wrap_i64]; omega
  have r3 : IntKind.i64.wrap ((nY : Int) + (nV : Int)) = (N : Int) := by rw [IntKind.wrap_i64]; omega
  refine Bm.wp_region_head 60 (by kernel_rfl) (by kernel_rfl) ?_
  simp only [List.append_eq, List.cons_append, List.nil_append, List.take_succ_cons, List.take_zero, List.drop_succ_cons, List.drop_zero]
  repeat (refine Bm.walk_st (by rfl) (by rfl) (fun W hW => by simp [execOp, go_sem, r0, r1, r2, r3]; exact ⟨rfl, rfl⟩) ?_; simp only [Act.put, List.setIfInBounds_toArray, List.set_cons_zero, List.set_cons_succ])
  refine walk_load_rel (by rfl) (by rfl) (.tmp 9) (by rfl) b9 k A (by rfl) (OLD.out.2.2.2.1.below H26.out.bel OLD.out.2.2.2.1.lt) ?_
  simp only [Act.put, List.setIfInBounds_toArray, List.set_cons_zero, List.set_cons_succ]
  refine walk_load_rel (by rfl) (by rfl) (.tmp 3) (by rfl) w.heap.size k A (by rfl) (OLD.out.2.1.below H26.out.bel OLD.out.2.1.lt) ?_
  simp only [Act.put, List.setIfInBounds_toArray, List.set_cons_zero, List.set_cons_succ]
  repeat (refine Bm.walk_st (by rfl) (by rfl) (fun W hW => by simp [execOp, go_sem, r0, r1, r2, r3]; exact ⟨rfl, rfl⟩) ?_; simp only [Act.put, List.setIfInBounds_toArray, List.set_cons_zero, List.set_cons_succ])
  refine walk_load_rel (by rfl) (by rfl) (.tmp 11) (by rfl) w21.heap.size k U (by rfl) (H26.out.at 0 rfl) ?_
  simp only [Act.put, List.setIfInBounds_toArray, List.set_cons_zero, List.set_cons_succ]
  refine Bm.walk_open (IsPairs nU) 28 #[.agg (relC k U)] (by rfl) (by rfl) (fun W => by simp [execOp, go_sem]) (fun W hW => pairs_len k U nU L.out.2.2.1 W O.out.2.2.1 (HT.out W (OLD.out.1.trans ((H26.out.bel.trans (hW.mono H26.out.bel.size)).mono OLD.out.1.size)))) ?_
  rintro v ⟨A21, cp21, rfl⟩
  simp only [Act.put, List.setIfInBounds_toArray, List.set_cons_zero, List.set_cons_succ]
  repeat (refine Bm.walk_st (by rfl) (by rfl) (fun W hW => by simp [execOp, go_sem, r0, r1, r2, r3]; exact ⟨rfl, rfl⟩) ?_; simp only [Act.put, List.setIfInBounds_toArray, List.set_cons_zero, List.set_cons_succ])
  refine walk_load_rel (by rfl) (by rfl) (.tmp 13) (by rfl) w23.heap.size k V (by rfl) (H26.out.at 1 rfl) ?_
  simp only [Act.put, List.setIfInBounds_toArray, List.set_cons_zero, List.set_cons_succ]
  refine Bm.walk_open (IsPairs nV) 28 #[.agg (relC k V)] (by rfl) (by rfl) (fun W => by simp [execOp, go_sem]) (fun W hW => pairs_len k V nV L.out.2.2.2.1 W O.out.2.2.2.1 (HT.out W (OLD.out.1.trans ((H26.out.bel.trans (hW.mono H26.out.bel.size)).mono OLD.out.1.size)))) ?_
  rintro v ⟨A22, cp22, rfl⟩
  simp only [Act.put, List.setIfInBounds_toArray, List.set_cons_zero, List.set_cons_succ]
  repeat (refine Bm.walk_st (by rfl) (by rfl) (fun W hW => by simp [execOp, go_sem, r0, r1, r2, r3]; exact ⟨rfl, rfl⟩) ?_; simp only [Act.put, List.setIfInBounds_toArray, List.set_cons_zero, List.set_cons_succ])
  refine walk_load_rel (by rfl) (by rfl) (.tmp 3) (by rfl) w.heap.size k A (by rfl) (OLD.out.2.1.below H26.out.bel OLD.out.2.1.lt) ?_
  simp only [Act.put, List.setIfInBounds_toArray, List.set_cons_zero, List.set_cons_succ]
  refine Bm.walk_open (IsPairs N) 28 #[.agg (relC k A)] (by rfl) (by rfl) (fun W => by simp [execOp, go_sem]) (fun W hW => pairs_len k A N L.out.1 W O.out.1 (HT.out W (OLD.out.1.trans ((H26.out.bel.trans (hW.mono H26.out.bel.size)).mono OLD.out.1.size)))) ?_
  rintro v ⟨A23, cp23, rfl⟩
  simp only [Act.put, List.setIfInBounds_toArray, List.set_cons_zero, List.set_cons_succ]
  repeat (refine Bm.walk_st (by rfl) (by rfl) (fun W hW => by simp [execOp, go_sem, r0, r1, r2, r3]; exact ⟨rfl, rfl⟩) ?_; simp only [Act.put, List.setIfInBounds_toArray, List.set_cons_zero, List.set_cons_succ])
  refine walk_load_rel (by rfl) (by rfl) (.tmp 4) (by rfl) (w.heap.size + 1) k B (by rfl) (OLD.out.2.2.1.below H26.out.bel OLD.out.2.2.1.lt) ?_
  simp only [Act.put, List.setIfInBounds_toArray, List.set_cons_zero, List.set_cons_succ]
  refine Bm.walk_open (IsPairs nB) 28 #[.agg (relC k B)] (by rfl) (by rfl) (fun W => by simp [execOp, go_sem]) (fun W hW => pairs_len k B nB L.out.2.1 W O.out.2.1 (HT.out W (OLD.out.1.trans ((H26.out.bel.trans (hW.mono H26.out.bel.size)).mono OLD.out.1.size)))) ?_
  rintro v ⟨A24, cp24, rfl⟩
  simp only [Act.put, List.setIfInBounds_toArray, List.set_cons_zero, List.set_cons_succ]
  repeat (refine Bm.walk_st (by rfl) (by rfl) (fun W hW => by simp [execOp, go_sem, r0, r1, r2, r3]; exact ⟨rfl, rfl⟩) ?_; simp only [Act.put, List.setIfInBounds_toArray, List.set_cons_zero, List.set_cons_succ])
  refine walk_load_rel (by rfl) (by rfl) (.tmp 15) (by rfl) w25.heap.size k Y (by rfl) (H26.out.at 2 rfl) ?_
  simp only [Act.put, List.setIfInBounds_toArray, List.set_cons_zero, List.set_cons_succ]
  refine Bm.walk_open (IsPairs nY) 28 #[.agg (relC k Y)] (by rfl) (by rfl) (fun W => by simp [execOp, go_sem]) (fun W hW => pairs_len k Y nY L.out.2.2.2.2 W O.out.2.2.2.2.1 (HT.out W (OLD.out.1.trans ((H26.out.bel.trans (hW.mono H26.out.bel.size)).mono OLD.out.1.size)))) ?_
  rintro v ⟨A25, cp25, rfl⟩
  simp only [Act.put, List.setIfInBounds_toArray, List.set_cons_zero, List.set_cons_succ]
  repeat (refine Bm.walk_st (by rfl) (by rfl) (fun W hW => by simp [execOp, go_sem, r0, r1, r2, r3]; exact ⟨rfl, rfl⟩) ?_; simp only [Act.put, List.setIfInBounds_toArray, List.set_cons_zero, List.set_cons_succ])
  refine walk_load_rel (by rfl) (by rfl) (.tmp 13) (by rfl) w23.heap.size k V (by rfl) (H26.out.at 1 rfl) ?_
  simp only [Act.put, List.setIfInBounds_toArray, List.set_cons_zero, List.set_cons_succ]
  refine Bm.walk_open (IsPairs nV) 28 #[.agg (relC k V)] (by rfl) (by rfl) (fun W => by simp [execOp, go_sem]) (fun W hW => pairs_len k V nV L.out.2.2.2.1 W O.out.2.2.2.1 (HT.out W (OLD.out.1.trans ((H26.out.bel.trans (hW.mono H26.out.bel.size)).mono OLD.out.1.size)))) ?_
  rintro v ⟨A26, cp26, rfl⟩
  simp only [Act.put, List.setIfInBounds_toArray, List.set_cons_zero, List.set_cons_succ]
  repeat (refine Bm.walk_st (by rfl) (by rfl) (fun W hW => by simp [execOp, go_sem, r0, r1, r2, r3]; exact ⟨rfl, rfl⟩) ?_; simp only [Act.put, List.setIfInBounds_toArray, List.set_cons_zero, List.set_cons_succ])
  refine walk_load_rel (by rfl) (by rfl) (.tmp 3) (by rfl) w.heap.size k A (by rfl) (OLD.out.2.1.below H26.out.bel OLD.out.2.1.lt) ?_
  simp only [Act.put, List.setIfInBounds_toArray, List.set_cons_zero, List.set_cons_succ]
  refine Bm.walk_open (IsPairs N) 28 #[.agg (relC k A)] (by rfl) (by rfl) (fun W => by simp [execOp, go_sem]) (fun W hW => pairs_len k A N L.out.1 W O.out.1 (HT.out W (OLD.out.1.trans ((H26.out.bel.trans (hW.mono H26.out.bel.size)).mono OLD.out.1.size)))) ?_
  rintro v ⟨A27, cp27, rfl⟩
  simp only [Act.put, List.setIfInBounds_toArray, List.set_cons_zero, List.set_cons_succ]
  repeat (refine Bm.walk_st (by rfl) (by rfl) (fun W hW => by simp [execOp, go_sem, r0, r1, r2, r3]; exact ⟨rfl, rfl⟩) ?_; simp only [Act.put, List.setIfInBounds_toArray, List.set_cons_zero, List.set_cons_succ])
  refine walk_load_rel (by rfl) (by rfl) (.tmp 3) (by rfl) w.heap.size k A (by rfl) (OLD.out.2.1.below H26.out.bel OLD.out.2.1.lt) ?_
  simp only [Act.put, List.setIfInBounds_toArray, List.set_cons_zero, List.set_cons_succ]
  refine walk_load_rel (by rfl) (by rfl) (.tmp 11) (by rfl) w21.heap.size k U (by rfl) (H26.out.at 0 rfl) ?_
  simp only [Act.put, List.setIfInBounds_toArray, List.set_cons_zero, List.set_cons_succ]
  refine Bm.walk_call 30 #[.agg (relC k A), .agg (relC k U)] (by rfl) (by rfl) (fun W => by simp [execOp, go_sem]) (fun W hW => in_true k A U W O.out.1 O.out.2.2.1 I.out.1) ?_
  simp only [Act.put, List.setIfInBounds_toArray, List.set_cons_zero, List.set_cons_succ]
  repeat (refine Bm.walk_st (by rfl) (by rfl) (fun W hW => by simp [execOp, go_sem, r0, r1, r2, r3]; exact ⟨rfl, rfl⟩) ?_; simp only [Act.put, List.setIfInBounds_toArray, List.set_cons_zero, List.set_cons_succ])
  refine walk_load_rel (by rfl) (by rfl) (.tmp 13) (by rfl) w23.heap.size k V (by rfl) (H26.out.at 1 rfl) ?_
  simp only [Act.put, List.setIfInBounds_toArray, List.set_cons_zero, List.set_cons_succ]
  refine walk_load_rel (by rfl) (by rfl) (.tmp 4) (by rfl) (w.heap.size + 1) k B (by rfl) (OLD.out.2.2.1.below H26.out.bel OLD.out.2.2.1.lt) ?_
  simp only [Act.put, List.setIfInBounds_toArray, List.set_cons_zero, List.set_cons_succ]
  refine Bm.walk_call 30 #[.agg (relC k V), .agg (relC k B)] (by rfl) (by rfl) (fun W => by simp [execOp, go_sem]) (fun W hW => in_true k V B W O.out.2.2.2.1 O.out.2.1 I.out.2.1) ?_
  simp only [Act.put, List.setIfInBounds_toArray, List.set_cons_zero, List.set_cons_succ]
  repeat (refine Bm.walk_st (by rfl) (by rfl) (fun W hW => by simp [execOp, go_sem, r0, r1, r2, r3]; exact ⟨rfl, rfl⟩) ?_; simp only [Act.put, List.setIfInBounds_toArray, List.set_cons_zero, List.set_cons_succ])
  refine walk_load_rel (by rfl) (by rfl) (.tmp 15) (by rfl) w25.heap.size k Y (by rfl) (H26.out.at 2 rfl) ?_
  simp only [Act.put, List.setIfInBounds_toArray, List.set_cons_zero, List.set_cons_succ]
  refine walk_load_rel (by rfl) (by rfl) (.tmp 3) (by rfl) w.heap.size k A (by rfl) (OLD.out.2.1.below H26.out.bel OLD.out.2.1.lt) ?_
  simp only [Act.put, List.setIfInBounds_toArray, List.set_cons_zero, List.set_cons_succ]
  refine Bm.walk_call 30 #[.agg (relC k Y), .agg (relC k A)] (by rfl) (by rfl) (fun W => by simp [execOp, go_sem]) (fun W hW => in_true k Y A W O.out.2.2.2.2.1 O.out.1 I.out.2.2) ?_
  simp only [Act.put, List.setIfInBounds_toArray, List.set_cons_zero, List.set_cons_succ]
  repeat (refine Bm.walk_st (by rfl) (by rfl) (fun W hW => by simp [execOp, go_sem, r0, r1, r2, r3]; exact ⟨rfl, rfl⟩) ?_; simp only [Act.put, List.setIfInBounds_toArray, List.set_cons_zero, List.set_cons_succ])
  refine Bm.walk_nil ?_
  intro w27 hb2
  have H27 := Lib.hid (H26.out.step hb2)
  clear hb2
  clear r0 r1 r2 r3
  go_wp2_with fail
  go_loopw [17, 18, 137] (fun s t i wr => ∃ q : Nat, q ≤ N ∧ i = .int .i64 q ∧ s = .int .u64 (Bv.U (Rl.firsts (l1.take q))) ∧ t = .int .u64 (Bv.U (Rl.seconds (l1.take q))) ∧ Below w27.heap.size w27 wr) (fun _ _ i _ => N - (intOf i).toNat)
  case atStart => exact ⟨0, Nat.zero_le _, rfl, by rw [List.take_zero]; rfl, by rw [List.take_zero]; rfl, Below.refl _ _⟩
  case round =>
    obtain ⟨q, hq, rfl, rfl, rfl, hb⟩ := hrel
    by_cases hql : q < N
    · have hpl : (pI l1).length = N := by rw [pI_len]; exact HM.out.2
      obtain ⟨bp, ofp, hA2, hbpl, hcp⟩ := OLD.out.2.2.2.2 (by omega)
      subst hA2
      obtain ⟨p, hp⟩ : ∃ p, l1[q]? = some p := ⟨_, List.getElem?_eq_getElem (by rw [HM.out.2]; exact hql)⟩
      have hbit := (HM.out.1 p).1 (List.mem_of_getElem? hp)
      have hg : (pI l1).getD q (0, 0) = ((p.1 : Int), (p.2 : Int)) := by unfold pI; rw [List.getD_eq_getElem?_getD, List.getElem?_map, hp]; rfl
      obtain ⟨f1, f2⟩ := hcp q (by omega)
      rw [hg] at f1 f2
      have hin := O.out.1.in_ p.1 p.2 hbit
      have n1 := Rl.firsts_next hp
      have n2 := Rl.seconds_next hp
      obtain ⟨x, hx⟩ : ∃ x, x = p.1 := ⟨_, rfl⟩
      obtain ⟨y, hy⟩ : ∃ y, y = p.2 := ⟨_, rfl⟩
      rw [← hx, ← hy] at hbit hin f1 f2
      rw [← hx] at n1
      rw [← hy] at n2
      have hbw := H27.out.bel.trans (hb.mono H27.out.bel.size)
      have d1 := (hbw.cell (p := ⟨bp, ofp + q * 2, none⟩) hbpl).trans f1
      have d2 := (hbw.cell (p := ⟨bp, ofp + q * 2 + 1, none⟩) hbpl).trans f2
      have e0 : (0 : Int) ≤ (x : Int) := by omega
      have e1 : (x : Int) < 64 := by omega
      have e2 : (0 : Int) ≤ (y : Int) := by omega
      have e3 : (y : Int) < 64 := by omega
      have e4 : ¬ ((x : Int) < 0) := by omega
      have e5 : ¬ ((y : Int) < 0) := by omega
      have hpr : pairB k A x y = true := by rw [pairB_ok O.out.1]; exact hbit
      obtain ⟨M1, hM1⟩ : ∃ M, M = Rl.firsts (l1.take q) := ⟨_, rfl⟩
      obtain ⟨M2, hM2⟩ : ∃ M, M = Rl.seconds (l1.take q) := ⟨_, rfl⟩
      rw [← hM1] at n1 ⊢
      rw [← hM2] at n2 ⊢
      have hbn := hb.alloc hb.size (.cells #[.int .i64 (x : Int), .int .i64 (y : Int)] 42)
      have c1 : ∀ W, Below (wr.alloc (.cells #[.int .i64 (x : Int), .int .i64 (y : Int)] 42)).heap.size (wr.alloc (.cells #[.int .i64 (x : Int), .int .i64 (y : Int)] 42)) W → W.cell? ⟨wr.heap.size, 0, none⟩ = some (.int .i64 (x : Int)) ∧ W.cell? ⟨wr.heap.size, 1, none⟩ = some (.int .i64 (y : Int)) := fun W hW => by
        have hh := (hW.block wr.heap.size (by simp)).trans (World.alloc_heap_new wr _)
        exact ⟨by rw [cell_of_row _ _ 0 _ _ _ hh]; rfl, by rw [cell_of_row _ _ 1 _ _ _ hh]; rfl⟩
      have HC := Lib.hid (And.intro c1 (And.intro hbn (And.intro n1 (And.intro n2 hpr))))
      clear hpl c1 hbn n1 n2 hpr hM1 hM2 hx hy hbit hin hp f1 f2 hcp hbw hg
      go_wp2_with fail
      refine Bl.wp_region_head 11 (by kernel_rfl) (by kernel_rfl) ?_
      simp only [List.take_succ_cons, List.take_zero, List.drop_succ_cons, List.drop_zero]
      repeat (refine Bl.belO_step (by rfl) (fun W hW => by have c1 := (HC.out.1 W hW).1; have c2 := (HC.out.1 W hW).2; simp [execOp, go_sem, c1, c2, e0, e1, e2, e3, e4, e5]; exact ⟨rfl, rfl⟩) ?_; simp only [Act.put, List.setIfInBounds_toArray, List.set_cons_zero, List.set_cons_succ])
      refine Bl.belO_nil ?_
      intro wx hb2
      have c1 := (HC.out.1 wx hb2).1
      have c2 := (HC.out.1 wx hb2).2
      have HX := Lib.hid (HC.out.2.1.trans (hb2.mono HC.out.2.1.size))
      clear hb2
      go_wp2_with (first | (refine wpList_load_rel (by rfl) (.tmp 3) (by rfl) w.heap.size k A (by rfl) (OLD.out.2.1.below (H27.out.bel.trans (HX.out.mono H27.out.bel.size)) OLD.out.2.1.lt) ?_))
      with_reducible refine (has_is k A x y true HC.out.2.2.2.2 _ O.out.1.z).mono ?_
      rintro e wy ⟨rfl, hb3⟩
      have HY := Lib.hid (HX.out.trans (hb3.mono HX.out.size))
      clear hb3
      go_wp2_with fail
      go_roundw
      case rel => exact ⟨q + 1, by omega, by go_num, by rw [HC.out.2.2.1], by rw [HC.out.2.2.2.1], HY.out⟩
      case measure => simp [intOf]; omega
    · have hqn : q = N := by omega
      have m1 : Rl.firsts (l1.take q) = Rl.fromF k A := by rw [List.take_of_length_le (by rw [HM.out.2]; omega)]; exact Rl.firsts_from O.out.1 HM.out.1
      have m2 : Rl.seconds (l1.take q) = Rl.intoF k A := by rw [List.take_of_length_le (by rw [HM.out.2]; omega)]; exact Rl.seconds_into O.out.1 HM.out.1
      have m3 : fromS k A = Rl.fromF k A := by unfold fromS; rw [Rl.right_of O.out.1, if_pos rfl, Int.toNat_natCast]
      have m4 : intoS k A = Rl.intoF k A := by unfold intoS; rw [Rl.right_of O.out.1, if_pos rfl, Int.toNat_natCast]
      rw [m1, m2]
      have HZ := Lib.hid (And.intro m3 (And.intro m4 hb))
      subst hqn
      clear m1 m2 m3 m4 hb
      go_wp2_with (first | (refine wpList_load_rel (by rfl) (.tmp 3) (by rfl) w.heap.size k A (by rfl) (OLD.out.2.1.below (H27.out.bel.trans (HZ.out.2.2.mono H27.out.bel.size)) OLD.out.2.1.lt) ?_))
      with_reducible refine (from_is k A (Rl.fromF k A) HZ.out.1 _ O.out.1.z).mono ?_
      rintro e wf ⟨rfl, hb4⟩
      have HF := Lib.hid (HZ.out.2.2.trans (hb4.mono HZ.out.2.2.size))
      clear hb4
      go_wp2_with (first | (refine wpList_load_rel_want (by rfl) (.tmp 3) (by rfl) w.heap.size k A (by rfl) (OLD.out.2.1.below (H27.out.bel.trans (HF.out.mono H27.out.bel.size)) OLD.out.2.1.lt) ?_))
      have HTb := HT.out _ (OLD.out.1.trans ((H27.out.bel.trans (HF.out.mono H27.out.bel.size)).mono OLD.out.1.size))
      with_reducible refine (into_yes k A _ O.out.1 HTb.1 HTb.2).mono ?_
      rintro e wi ⟨rfl, hb5⟩
      have HI := Lib.hid (HF.out.trans (hb5.mono HF.out.size))
      clear hb5
      go_wp2_with fail
      have HTa := HT.out _ (OLD.out.1.trans ((H27.out.bel.trans (HI.out.mono H27.out.bel.size)).mono OLD.out.1.size))
      with_reducible refine (awake_any _ HTa.1 HTa.2).mono ?_
      rintro e wk ⟨rfl, hb6⟩
      have HK := Lib.hid (HI.out.trans (hb6.mono HI.out.size))
      clear hb6
      go_wp2_with fail
      go_ret
      exact ⟨rfl, OLD.out.1.trans ((H27.out.bel.trans (HK.out.mono H27.out.bel.size)).mono OLD.out.1.size)⟩
theorem relPairs_con (n : Int) (f : Rl.Rows) (m : Int) (g : Rl.Rows) (turn : Int) (w : World) (zf : Rl.Z f) (zg : Rl.Z g) (t0 : 0 ≤ turn) (t1 : turn ≤ 65535) (hT : Tab w) (hw : 0 < w.heap.size) :
    Calls Tryd.prog 8 #[.agg (relC n f), .agg (relC m g), .int .u16 turn] w fun e w' => e = .returned (.bool true) ∧ Below w.heap.size w w' := by
  have h20 := fineK_le n 20
  by_cases h : 0 < (Rl.pairsF (fineR (fineK n 20) f) (fineK n 20)).length
  · exact relPairs_some n f m g turn _ _ _ _ w rfl rfl (fineK_same h20).symm rfl (ok_fine (by omega) f) (ok_fine (by omega) g) zf zg t0 t1 rfl h hT hw
  · exact relPairs_none n f m g turn _ _ _ _ w rfl rfl (fineK_same h20).symm rfl (ok_fine (by omega) f) (ok_fine (by omega) g) zf zg t0 t1 rfl (by omega) hT hw

end Go.Proofs.YtknjdfgmejobfaaDoor
