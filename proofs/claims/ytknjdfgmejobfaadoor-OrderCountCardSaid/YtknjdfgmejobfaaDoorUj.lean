/- layer 3's law: the walk of OrderCount. -/
import Derived.Test.YtknjdfgmejobfaaDoorUk
import Derived.StillTailTactics
import Derived.Test.YtknjdfgmejobfaaDoorPm
namespace Go.Proofs.YtknjdfgmejobfaaDoor
open Go.RowKit Go.Shelf

attribute [-go_sem] run_eql_struct run_neq_struct
attribute [local go_sem] Bv.and_u Bv.or_u Bv.andNot_u Bv.wrap_sub1 Bv.eq0 Bv.ne0 Bv.wrap_pow Bv.wrap_powmin Bv.wrap_neg Bv.eq_u Bv.ne_u Bv.shr_min Bv.shr_pow run_rel_eql run_rel_neq relEq_self
set_option maxRecDepth 100000 in
set_option maxHeartbeats 8000000 in
theorem orderCount_any (n : Int) (f : Rl.Rows) (xa xb : Int) (w : World) (zf : Rl.Z f) (a0 : 0 ≤ xa) (a1 : xa ≤ 255) (b0 : 0 ≤ xb) (b1 : xb ≤ 255) (hT : Tab w) (hw : 0 < w.heap.size) :
    Calls Tryd.prog 15 #[.agg (relC n f), .int .u8 xa, .int .u8 xb] w fun e w' => e = .returned (.bool true) ∧ Below w.heap.size w w' := by
  have hTl : ∀ W, Below w.heap.size w W → Tab W ∧ 0 < W.heap.size := fun W h => ⟨hT.below h hw, Nat.lt_of_lt_of_le hw h.size⟩
  have HT := Lib.hid hTl
  clear hTl hT
  obtain ⟨k, hkk⟩ : ∃ k, k = fineK n 6 := ⟨_, rfl⟩
  obtain ⟨A, hA⟩ : ∃ A, A = fineR k f := ⟨_, rfl⟩
  have hk6 : k ≤ 6 := by rw [hkk]; exact fineK_le n 6
  have hk48 : k ≤ 48 := by omega
  have oA : Rl.Ok k A := by rw [hA]; exact ok_fine hk48 f
  obtain ⟨c, hc⟩ : ∃ c, (Rl.ordL k A).length = c := ⟨_, rfl⟩
  have hc720 : c ≤ 720 := by rw [← hc]; exact Rl.ordL_720 hk6
  have E := Lib.hid (And.intro hA (And.intro hkk (And.intro oA (And.intro zf hc))))
  clear hA hkk oA zf hc hk6
  have H0 := Lib.hid ((Held.nil w).box n f)
  go_enter Tryd.func15, Tryd.ntmps15
  go_wp2_with (first | (refine wpList_load_rel (by rfl) (.tmp 3) (by rfl) w.heap.size n f (by rfl) (H0.out.at 0 rfl) ?_))
  with_reducible refine (fine_is n f 6 6 k A six E.out.2.1 E.out.1 _ (by omega) E.out.2.2.2.1).mono ?_
  rintro e w1 ⟨rfl, hb⟩
  have H1 := Lib.hid (H0.out.step hb)
  clear hb
  go_wp2_with (first | (refine wpList_store_rel (by rfl) (.tmp 3) (.tmp 24) (by rfl) w.heap.size k n A f (by rfl) (by rfl) (H1.out.at 0 rfl) ?_; intro w2 hR hg; have H2 := Lib.hid (H1.out.put 0 rfl hR hg); clear hR hg) | (refine wpList_load_rel (by rfl) (.tmp 3) (by rfl) w.heap.size k A (by rfl) (H2.out.at 0 rfl) ?_))
  with_reducible refine (count_lim k A c E.out.2.2.2.2 720 720 rfl c 0 (by rw [if_pos hc720]) (by rw [if_pos hc720]) _ (by omega) E.out.2.2.1 (HT.out _ H2.out.bel)).mono ?_
  rintro e w3 ⟨rfl, hb⟩
  have H3 := Lib.hid (H2.out.step hb)
  clear hb
  go_wp2_with (first | (refine wpList_load_rel (by rfl) (.tmp 3) (by rfl) w.heap.size k A (by rfl) (H3.out.at 0 rfl) ?_))
  with_reducible refine (count_lim k A c E.out.2.2.2.2 c c rfl c 0 (by rw [if_pos (Nat.le_refl _)]) (by rw [if_pos (Nat.le_refl _)]) _ (by omega) E.out.2.2.1 (HT.out _ H3.out.bel)).mono ?_
  rintro e w4 ⟨rfl, hb⟩
  have H4 := Lib.hid (H3.out.step hb)
  clear hb
  have hcc : ((c : Int) != (c : Int)) = false := by simp
  go_upto_if 48 with (fail)
  go_cut [48] (fun s wx => Held w [(w.heap.size, (k : Int), A)] wx)
  case first =>
    by_cases hc0 : 0 < c
    · have d0 : (0 : Int) < (c : Int) := by omega
      obtain ⟨c', hc'⟩ : ∃ c', c = c' + 1 := ⟨c - 1, by omega⟩
      have hw1 : wrap64 ((c : Int) - 1) = (c' : Int) := by unfold wrap64; omega
      have hcl : c' ≤ 720 := by omega
      have HJ := Lib.hid hc'
      clear hc' hc0
      go_wp2_with (first | (refine wpList_load_rel (by rfl) (.tmp 3) (by rfl) w.heap.size k A (by rfl) (H4.out.at 0 rfl) ?_))
      refine (count_lim k A c E.out.2.2.2.2 _ c' (by have := HJ.out; omega) 0 5 (by rw [if_neg (by have := HJ.out; omega)]) (by rw [if_neg (by have := HJ.out; omega)]) _ (by omega) E.out.2.2.1 (HT.out _ H4.out.bel)).mono ?_
      rintro e w5 ⟨rfl, hb⟩
      have H5 := Lib.hid (H4.out.step hb)
      clear hb
      go_wp2_with fail
      go_meet
      exact H5.out
    · have d0 : ¬ ((0 : Int) < (c : Int)) := by omega
      clear hc0
      go_wp2_with fail
      go_meet
      exact H4.out
  case rest =>
    have H5 := Lib.hid hcut
    clear hcut hcc
    have cN := (H5.out.at 0 rfl).num
    by_cases hk2 : k < 2
    · have d0 : (k : Int) < 2 := by omega
      go_wp2_with fail
      refine (awake3_it _ (HT.out _ H5.out.bel)).mono ?_
      rintro e w6 ⟨rfl, hb⟩
      have H6 := Lib.hid (H5.out.step hb)
      clear hb
      go_wp2_with fail
      go_ret
      exact ⟨rfl, H6.out.bel⟩
    · have d0 : ¬ ((k : Int) < 2) := by omega
      obtain ⟨X, hX⟩ : ∃ X : Nat, xa % (k : Int) = (X : Int) := ⟨(xa % (k : Int)).toNat, by have := Int.emod_nonneg xa (show (k : Int) ≠ 0 by omega); omega⟩
      obtain ⟨Y0, hY0⟩ : ∃ Y : Nat, xb % (k : Int) = (Y : Int) := ⟨(xb % (k : Int)).toNat, by have := Int.emod_nonneg xb (show (k : Int) ≠ 0 by omega); omega⟩
      have hXk : X < k := by have := Int.emod_lt_of_pos xa (show (0 : Int) < (k : Int) by omega); omega
      have hYk0 : Y0 < k := by have := Int.emod_lt_of_pos xb (show (0 : Int) < (k : Int) by omega); omega
      have hX2 : Int.tmod xa (k : Int) = (X : Int) := by rw [Int.tmod_eq_emod_of_nonneg a0]; exact hX
      have hY2 : Int.tmod xb (k : Int) = (Y0 : Int) := by rw [Int.tmod_eq_emod_of_nonneg b0]; exact hY0
      have hcx : IntKind.i64.wrap xa = xa := by rw [IntKind.wrap_i64]; omega
      have hcy : IntKind.i64.wrap xb = xb := by rw [IntKind.wrap_i64]; omega
      have k0 : ¬ ((k : Int) = 0) := by omega
      have k1 : ¬ (k = 0) := by omega
      have kb : ((k : Int) == 0) = false := by simp; omega
      go_wp2_with fail
      go_quiet (fail)
      have H6 := Lib.hid (H5.out.step (below_drewN (Below.refl _ wc) nq))
      generalize wc.drewN nq = wd at H6 ⊢
      clear hX hX2 hY0 hY2 hcx hcy cN
      obtain ⟨Y, hY⟩ : ∃ Y, Y = if X = Y0 then (X + 1) % k else Y0 := ⟨_, rfl⟩
      have cN := (H6.out.at 0 rfl).num
      have hYk : Y < k := by rw [hY]; split; (· exact Nat.mod_lt _ (by omega)); exact hYk0
      have hXY : X ≠ Y := by
        rw [hY]
        split
        · by_cases e : X + 1 = k
          · rw [e, Nat.mod_self]; omega
          · rw [Nat.mod_eq_of_lt (by omega)]; omega
        · assumption
      have HY := Lib.hid hY
      clear hY
      go_upto_if 78 with (fail)
      go_cut [14] (fun s wx => s = .int .i64 Y ∧ wx = wd)
      case first =>
        by_cases e : X = Y0
        · have e1 : ((X : Int) == (Y0 : Int)) = true := by simp [e]
          have e2 : (X == Y0) = true := by simp [e]
          have HM := Lib.hid (show ((X : Int) + 1) % (k : Int) = (Y : Int) by rw [HY.out, if_pos e]; rfl)
          have HE := Lib.hid e
          clear e
          go_wp2_with fail
          go_meet
          exact ⟨by rw [HM.out], rfl⟩
        · have e1 : ((X : Int) == (Y0 : Int)) = false := by simp; omega
          have e2 : (X == Y0) = false := by simp [e]
          have HE := Lib.hid (show Y = Y0 by rw [HY.out, if_neg e])
          clear e
          go_wp2_with fail
          go_meet
          exact ⟨by rw [HE.out], rfl⟩
      case rest =>
        obtain ⟨rfl, rfl⟩ := hcut
        clear cN
        go_upto_region 15 with fail
        go_cut [15, 16] (fun p q wx => ∃ b1 b2, p = .pointer (some ⟨b1, 0, none⟩) ∧ q = .pointer (some ⟨b2, 0, none⟩) ∧ Held w [(w.heap.size, (k : Int), A), (b1, (k : Int), A), (b2, (k : Int), A)] wx)
        case first =>
          refine wp_region_held_drew (S := fun W => RelAt W w.heap.size k A) (by kernel_rfl) ((H6.out.at 0 rfl).below ((Below.refl _ wc).drew) (H6.out.at 0 rfl).lt) ?_
          intro hS0
          have HD2 := Lib.hid (((H6.out.step ((Below.refl _ wc).drew)).box 0 zeroR).box 0 zeroR)
          refine wpAnyH_take (i := 0) (v := .agg (relC k A)) (by simp only [List.getElem?_toArray, List.getElem?_cons_succ, List.getElem?_cons_zero]; rfl) (by kernel_rfl) (by kernel_rfl) (by kernel_rfl) (by exact fun _ _ _ h => h) (.inl ⟨by rfl, fun W hW => exec_load_rel (.tmp 3) (by rfl) w.heap.size k A (by rfl) hW⟩) hS0 ?_
          simp only [Act.put, List.setIfInBounds_toArray, List.set_cons_zero, List.set_cons_succ]
          refine wpAnyH_take (i := 1) (v := .agg (relC k A)) (by simp only [List.getElem?_toArray, List.getElem?_cons_succ, List.getElem?_cons_zero]; rfl) (by kernel_rfl) (by kernel_rfl) (by kernel_rfl) (by exact fun _ _ _ h => h) (.inl ⟨by rfl, fun W hW => exec_load_rel (.tmp 3) (by rfl) w.heap.size k A (by rfl) hW⟩) hS0 ?_
          simp only [Act.put, List.setIfInBounds_toArray, List.set_cons_zero, List.set_cons_succ]
          refine wpAnyH_ready (rs := [2, 3]) (by kernel_rfl) (by simp) (AllReadyH.cons (by simp only [List.getElem?_toArray, List.getElem?_cons_succ, List.getElem?_cons_zero]; rfl) (fun K2 hK2 => ?_) (AllReadyH.cons (by simp only [List.getElem?_toArray, List.getElem?_cons_succ, List.getElem?_cons_zero]; rfl) (fun K3 hK3 => ?_) AllReadyH.nil))
          · refine step_alloc_rel (by rfl) (by rfl) ?_
            refine hK2.out _ _ (hS0.alloc _) fun hS1 => ?_
            clear hK2 K2
            simp only [Act.put, List.setIfInBounds_toArray, List.set_cons_zero, List.set_cons_succ]
            refine wpAnyH_ready (rs := [3]) (by kernel_rfl) (by simp) (AllReadyH.cons (by simp only [List.getElem?_toArray, List.getElem?_cons_succ, List.getElem?_cons_zero]; rfl) (fun K3 hK3 => ?_) AllReadyH.nil)
            refine step_alloc_rel (by rfl) (by rfl) ?_
            refine hK3.out _ _ (hS1.alloc _) fun hS2 => ?_
            clear hK3 K3
            simp only [Act.put, List.setIfInBounds_toArray, List.set_cons_zero, List.set_cons_succ]
            refine wpAnyH_ready (rs := [4]) (by kernel_rfl) (by simp) (AllReadyH.cons (by simp only [List.getElem?_toArray, List.getElem?_cons_succ, List.getElem?_cons_zero]; rfl) (fun K4 hK4 => ?_) AllReadyH.nil)
            refine step_store_rel (by rfl) (.tmp 15) (.tmp 84) (by rfl) wc.drew.heap.size k 0 A zeroR (by rfl) (by rfl) (HD2.out.at 1 rfl) ?_
            intro V1 hR1 hg1
            have HD3 := Lib.hid (HD2.out.put 1 rfl hR1 hg1)
            clear hR1 hg1
            refine hK4.out _ _ (HD3.out.at 0 rfl) fun hS3 => ?_
            clear hK4 K4
            simp only [Act.put, List.setIfInBounds_toArray, List.set_cons_zero, List.set_cons_succ]
            refine wpAnyH_ready (rs := [5]) (by kernel_rfl) (by simp) (AllReadyH.cons (by simp only [List.getElem?_toArray, List.getElem?_cons_succ, List.getElem?_cons_zero]; rfl) (fun K5 hK5 => ?_) AllReadyH.nil)
            refine step_store_rel (by rfl) (.tmp 16) (.tmp 85) (by rfl) (wc.drew.alloc (.cells (relC 0 zeroR) 26)).heap.size k 0 A zeroR (by rfl) (by rfl) (HD3.out.at 2 rfl) ?_
            intro V2 hR2 hg2
            have HD4 := Lib.hid (HD3.out.put 2 rfl hR2 hg2)
            clear hR2 hg2
            refine hK5.out _ _ (HD4.out.at 0 rfl) fun hS4 => ?_
            clear hK5 K5
            simp only [Act.put, List.setIfInBounds_toArray, List.set_cons_zero, List.set_cons_succ]
            refine wpAnyH_done (by kernel_rfl) ?_ _
            go_wp2_with fail
            go_meet
            exact ⟨_, _, rfl, rfl, HD4.out⟩
          · refine step_alloc_rel (by rfl) (by rfl) ?_
            refine hK3.out _ _ (hS0.alloc _) fun hS1 => ?_
            clear hK3 K3
            simp only [Act.put, List.setIfInBounds_toArray, List.set_cons_zero, List.set_cons_succ]
            refine wpAnyH_ready (rs := [2]) (by kernel_rfl) (by simp) (AllReadyH.cons (by simp only [List.getElem?_toArray, List.getElem?_cons_succ, List.getElem?_cons_zero]; rfl) (fun K2 hK2 => ?_) AllReadyH.nil)
            refine step_alloc_rel (by rfl) (by rfl) ?_
            refine hK2.out _ _ (hS1.alloc _) fun hS2 => ?_
            clear hK2 K2
            simp only [Act.put, List.setIfInBounds_toArray, List.set_cons_zero, List.set_cons_succ]
            refine wpAnyH_ready (rs := [4]) (by kernel_rfl) (by simp) (AllReadyH.cons (by simp only [List.getElem?_toArray, List.getElem?_cons_succ, List.getElem?_cons_zero]; rfl) (fun K4 hK4 => ?_) AllReadyH.nil)
            refine step_store_rel (by rfl) (.tmp 15) (.tmp 84) (by rfl) (wc.drew.alloc (.cells (relC 0 zeroR) 26)).heap.size k 0 A zeroR (by rfl) (by rfl) (HD2.out.at 2 rfl) ?_
            intro V1 hR1 hg1
            have HD3 := Lib.hid (HD2.out.put 2 rfl hR1 hg1)
            clear hR1 hg1
            refine hK4.out _ _ (HD3.out.at 0 rfl) fun hS3 => ?_
            clear hK4 K4
            simp only [Act.put, List.setIfInBounds_toArray, List.set_cons_zero, List.set_cons_succ]
            refine wpAnyH_ready (rs := [5]) (by kernel_rfl) (by simp) (AllReadyH.cons (by simp only [List.getElem?_toArray, List.getElem?_cons_succ, List.getElem?_cons_zero]; rfl) (fun K5 hK5 => ?_) AllReadyH.nil)
            refine step_store_rel (by rfl) (.tmp 16) (.tmp 85) (by rfl) wc.drew.heap.size k 0 A zeroR (by rfl) (by rfl) (HD3.out.at 1 rfl) ?_
            intro V2 hR2 hg2
            have HD4 := Lib.hid (HD3.out.put 1 rfl hR2 hg2)
            clear hR2 hg2
            refine hK5.out _ _ (HD4.out.at 0 rfl) fun hS4 => ?_
            clear hK5 K5
            simp only [Act.put, List.setIfInBounds_toArray, List.set_cons_zero, List.set_cons_succ]
            refine wpAnyH_done (by kernel_rfl) ?_ _
            go_wp2_with fail
            go_meet
            exact ⟨_, _, rfl, rfl, Held.swap HD4.out⟩
        case rest =>
          obtain ⟨g1, g2, rfl, rfl, hh⟩ := hcut
          have H7 := Lib.hid hh
          clear hh
          have cR := (H7.out.at 1 rfl).row X (by omega)
          have fR := (H7.out.at 1 rfl).free (1 + X)
          have q0 : (0 : Int) ≤ (X : Int) := by omega
          have q1 : (X : Int) < 48 := by omega
          have q2 : (0 : Int) ≤ (Y : Int) := by omega
          have q3 : (Y : Int) < 64 := by omega
          have q4 : X < 48 := by omega
          have q5 : Y < 64 := by omega
          go_upto_region 16 with fail
          go_still_tail 9, (by kernel_rfl)
          change wpList _ _ _ _ _ wc.drew
          have HD := Lib.hid (H7.out.step ((Below.refl _ wc).drew))
          generalize wc.drew = wd at HD ⊢
          clear cR fR
          have cR := (HD.out.at 1 rfl).row X (by omega)
          have fR := (HD.out.at 1 rfl).free (1 + X)
          go_step
          go_upto_region 17 with fail
          have H8 := Lib.hid (HD.out.setRow 1 rfl X (A X ||| Bv.bit Y))
          generalize wd.setCell ⟨g1, 1 + X, none⟩ (.int .u64 (Bv.U (A X ||| Bv.bit Y))) = we at H8 ⊢
          clear cR fR q0 q1 q2 q3 q4 q5 HD H7 H6
          have q0 : (0 : Int) ≤ (Y : Int) := by omega
          have q1 : (Y : Int) < 48 := by omega
          have q2 : (0 : Int) ≤ (X : Int) := by omega
          have q3 : (X : Int) < 64 := by omega
          have q4 : Y < 48 := by omega
          have q5 : X < 64 := by omega
          have cR := (H8.out.at 2 rfl).row Y (by omega)
          have fR := (H8.out.at 2 rfl).free (1 + Y)
          go_still_tail 9, (by kernel_rfl)
          change wpList _ _ _ _ _ we.drew
          have HD := Lib.hid (H8.out.step ((Below.refl _ we).drew))
          generalize we.drew = wf at HD ⊢
          clear cR fR
          have cR := (HD.out.at 2 rfl).row Y (by omega)
          have fR := (HD.out.at 2 rfl).free (1 + Y)
          go_step
          go_upto_region 18 with fail
          obtain ⟨P1, hP1⟩ : ∃ P, P = Rl.addF A X Y := ⟨_, rfl⟩
          obtain ⟨P2, hP2⟩ : ∃ P, P = Rl.addF A Y X := ⟨_, rfl⟩
          have HE := HD.out.setRow 2 rfl Y (A Y ||| Bv.bit X)
          have HF : Held w [(w.heap.size, (k : Int), A), (g1, (k : Int), P1), (g2, (k : Int), P2)] (wf.setCell ⟨g2, 1 + Y, none⟩ (.int .u64 (Bv.U (A Y ||| Bv.bit X)))) := by
            rw [hP1, hP2, ← add_upd, ← add_upd]; exact HE
          have H9 := Lib.hid HF
          clear HE HF
          generalize wf.setCell ⟨g2, 1 + Y, none⟩ (.int .u64 (Bv.U (A Y ||| Bv.bit X))) = wg at H9 ⊢
          clear cR fR q0 q1 q2 q3 q4 q5 HD H8
          obtain ⟨n1, hn1⟩ : ∃ n1, (Rl.ordL k P1).length = n1 := ⟨_, rfl⟩
          obtain ⟨n2, hn2⟩ : ∃ n2, (Rl.ordL k P2).length = n2 := ⟨_, rfl⟩
          obtain ⟨T, hTT⟩ : ∃ T, T = Rl.plusF k A := ⟨_, rfl⟩
          obtain ⟨h1, hh1⟩ : ∃ b, pairB k T X Y = b := ⟨_, rfl⟩
          obtain ⟨h2, hh2⟩ : ∃ b, pairB k T Y X = b := ⟨_, rfl⟩
          have oP1 : Rl.Ok k P1 := by rw [hP1]; exact Rl.ok_add E.out.2.2.1 hXk hYk
          have oP2 : Rl.Ok k P2 := by rw [hP2]; exact Rl.ok_add E.out.2.2.1 hYk hXk
          have oT : Rl.Ok k T := by rw [hTT]; exact Rl.ok_plus E.out.2.2.1
          have hsum : n1 + n2 = c := by rw [← hn1, ← hn2, hP1, hP2, Rl.ordL_split E.out.2.2.1 hXk hYk hXY]; exact E.out.2.2.2.2
          have hfree : decide (0 < n1 ∧ 0 < n2) = (!h1 && !h2 && decide (0 < c)) := by
            have h := Rl.free_iff E.out.2.2.1 hXk hYk hXY
            rw [← hP1, ← hP2, hn1, hn2, E.out.2.2.2.2, ← Rl.plus_bit E.out.2.2.1, ← Rl.plus_bit E.out.2.2.1, ← hTT] at h
            rw [pairB_ok oT] at hh1 hh2
            rw [Bool.eq_iff_iff, decide_eq_true_eq, h, hh1, hh2]
            simp [and_assoc]
          have hn1b : n1 ≤ 720 := by omega
          have hn2b : n2 ≤ 720 := by omega
          have G := Lib.hid (And.intro hn1 (And.intro hn2 (And.intro hTT (And.intro hh1 (And.intro hh2 (And.intro oP1 (And.intro oP2 (And.intro oT (And.intro hsum hfree)))))))))
          clear hn1 hn2 hTT hh1 hh2 oP1 oP2 oT hsum hfree hP1 hP2 HY
          go_wp2_with (first | (refine wpList_load_rel (by rfl) (.tmp 15) (by rfl) g1 k P1 (by rfl) (H9.out.at 1 rfl) ?_))
          with_reducible refine (count_lim k P1 n1 G.out.1 720 720 rfl n1 0 (by rw [if_pos hn1b]) (by rw [if_pos hn1b]) _ (by omega) G.out.2.2.2.2.2.1 (HT.out _ H9.out.bel)).mono ?_
          rintro e v1 ⟨rfl, hb⟩
          have H10 := Lib.hid (H9.out.step hb)
          clear hb
          go_wp2_with (first | (refine wpList_load_rel (by rfl) (.tmp 16) (by rfl) g2 k P2 (by rfl) (H10.out.at 2 rfl) ?_))
          with_reducible refine (count_lim k P2 n2 G.out.2.1 720 720 rfl n2 0 (by rw [if_pos hn2b]) (by rw [if_pos hn2b]) _ (by omega) G.out.2.2.2.2.2.2.1 (HT.out _ H10.out.bel)).mono ?_
          rintro e v2 ⟨rfl, hb⟩
          have H11 := Lib.hid (H10.out.step hb)
          clear hb
          go_wp2_with (first | (refine wpList_load_rel (by rfl) (.tmp 3) (by rfl) w.heap.size k A (by rfl) (H11.out.at 0 rfl) ?_))
          with_reducible refine (plus_is k A T G.out.2.2.1 _ E.out.2.2.1 (HT.out _ H11.out.bel)).mono ?_
          rintro e v3 ⟨rfl, hb⟩
          have H12 := Lib.hid (H11.out.step hb)
          clear hb
          go_upto_region 21 with (first | (refine wpList_store_rel (by rfl) (.tmp 21) (.tmp 115) (by rfl) v3.heap.size k 0 T zeroR (by rfl) (by rfl) (RelAt.new v3 0 zeroR) ?_; intro v4 hR hg; have H13 := Lib.hid (H12.out.push hR hg); clear hR hg))
          simp only [Act.put]
          go_cut [22] (fun s wx => s = .bool (decide (0 < n1 ∧ 0 < n2)) ∧ ∃ L, Held w L wx)
          case first =>
            cases h1
            · cases h2
              · go_wp2_with (first | (refine wpList_load_rel (by rfl) (.tmp 21) (by rfl) v3.heap.size k T (by rfl) (H13.out.at 3 rfl) ?_))
                refine (has_is k T X Y false G.out.2.2.2.1 _ G.out.2.2.2.2.2.2.2.1.z).mono ?_
                rintro e v5 ⟨rfl, hb⟩
                have H14 := Lib.hid (H13.out.step hb)
                clear hb
                go_wp2_with (first | (refine wpList_load_rel (by rfl) (.tmp 21) (by rfl) v3.heap.size k T (by rfl) (H14.out.at 3 rfl) ?_) | (refine wpList_load_rel_want (by kernel_rfl) (.tmp 21) (by rfl) v3.heap.size k T (by rfl) (H14.out.at 3 rfl) ?_))
                refine (has_is k T Y X false G.out.2.2.2.2.1 _ G.out.2.2.2.2.2.2.2.1.z).mono ?_
                rintro e v6 ⟨rfl, hb⟩
                have H15 := Lib.hid (H14.out.step hb)
                clear hb
                go_wp2_with fail
                all_goals go_meet
                all_goals (refine ⟨?_, _, H15.out⟩; rw [G.out.2.2.2.2.2.2.2.2.2])
                all_goals simp
              · go_wp2_with (first | (refine wpList_load_rel (by rfl) (.tmp 21) (by rfl) v3.heap.size k T (by rfl) (H13.out.at 3 rfl) ?_))
                refine (has_is k T X Y false G.out.2.2.2.1 _ G.out.2.2.2.2.2.2.2.1.z).mono ?_
                rintro e v5 ⟨rfl, hb⟩
                have H14 := Lib.hid (H13.out.step hb)
                clear hb
                go_wp2_with (first | (refine wpList_load_rel (by rfl) (.tmp 21) (by rfl) v3.heap.size k T (by rfl) (H14.out.at 3 rfl) ?_) | (refine wpList_load_rel_want (by kernel_rfl) (.tmp 21) (by rfl) v3.heap.size k T (by rfl) (H14.out.at 3 rfl) ?_))
                refine (has_is k T Y X true G.out.2.2.2.2.1 _ G.out.2.2.2.2.2.2.2.1.z).mono ?_
                rintro e v6 ⟨rfl, hb⟩
                have H15 := Lib.hid (H14.out.step hb)
                clear hb
                go_wp2_with fail
                all_goals go_meet
                all_goals exact ⟨by rw [G.out.2.2.2.2.2.2.2.2.2]; rfl, _, H15.out⟩
            · go_wp2_with (first | (refine wpList_load_rel (by rfl) (.tmp 21) (by rfl) v3.heap.size k T (by rfl) (H13.out.at 3 rfl) ?_))
              refine (has_is k T X Y true G.out.2.2.2.1 _ G.out.2.2.2.2.2.2.2.1.z).mono ?_
              rintro e v5 ⟨rfl, hb⟩
              have H14 := Lib.hid (H13.out.step hb)
              clear hb
              go_wp2_with fail
              all_goals go_meet
              all_goals exact ⟨by rw [G.out.2.2.2.2.2.2.2.2.2]; rfl, _, H14.out⟩
          case rest =>
            obtain ⟨rfl, L, hh⟩ := hcut
            have H14 := Lib.hid hh
            clear hh
            have hsm := G.out.2.2.2.2.2.2.2.2.1
            have hsm2 : (n1 : Int) + (n2 : Int) = (c : Int) := by omega
            have bz1 : (0 : Int) ≤ (n1 : Int) ∧ (n1 : Int) ≤ 720 := by omega
            have bz2 : (0 : Int) ≤ (n2 : Int) ∧ (n2 : Int) ≤ 720 := by omega
            have pz1 : 0 < n1 ↔ (0 : Int) < (n1 : Int) := by omega
            have pz2 : 0 < n2 ↔ (0 : Int) < (n2 : Int) := by omega
            rw [show decide (0 < n1 ∧ 0 < n2) = decide ((0 : Int) < (n1 : Int) ∧ (0 : Int) < (n2 : Int)) by rw [decide_eq_decide, pz1, pz2]]
            clear hsm pz1 pz2
            generalize (n1 : Int) = z1 at hsm2 bz1 bz2 ⊢
            generalize (n2 : Int) = z2 at hsm2 bz1 bz2 ⊢
            generalize (c : Int) = zc at hsm2 bz1 bz2 ⊢
            have hq : ((z1 + z2) == zc) = true := by rw [beq_iff_eq]; exact hsm2
            have hww : wrap64 (z1 + z2) = z1 + z2 := by unfold wrap64; omega
            clear hsm2
            obtain ⟨FR, hFR⟩ : ∃ FR, FR = decide (0 < z1 ∧ 0 < z2) := ⟨_, rfl⟩
            rw [← hFR]
            by_cases p1 : 0 < z1
            · by_cases p2 : 0 < z2
              · have hf : FR = true := by rw [hFR]; exact decide_eq_true ⟨p1, p2⟩
                subst hf
                clear hFR
                go_wp2_with fail
                refine (awake3_it _ (HT.out _ H14.out.bel)).mono ?_
                rintro e v5 ⟨rfl, hb⟩
                have H15 := Lib.hid (H14.out.step hb)
                clear hb
                go_wp2_with fail
                go_ret
                exact ⟨rfl, H15.out.bel⟩
              · have hf : FR = false := by rw [hFR]; exact decide_eq_false (fun h => p2 h.2)
                have e3 : decide (0 < z2) = false := decide_eq_false p2
                subst hf
                clear hFR
                go_wp2_with fail
                refine (awake3_it _ (HT.out _ H14.out.bel)).mono ?_
                rintro e v5 ⟨rfl, hb⟩
                have H15 := Lib.hid (H14.out.step hb)
                clear hb
                go_wp2_with fail
                go_ret
                exact ⟨rfl, H15.out.bel⟩
            · have hf : FR = false := by rw [hFR]; exact decide_eq_false (fun h => p1 h.1)
              have e3 : decide (0 < z1) = false := decide_eq_false p1
              subst hf
              clear hFR
              go_wp2_with fail
              refine (awake3_it _ (HT.out _ H14.out.bel)).mono ?_
              rintro e v5 ⟨rfl, hb⟩
              have H15 := Lib.hid (H14.out.step hb)
              clear hb
              go_wp2_with fail
              go_ret
              exact ⟨rfl, H15.out.bel⟩
end Go.Proofs.YtknjdfgmejobfaaDoor
