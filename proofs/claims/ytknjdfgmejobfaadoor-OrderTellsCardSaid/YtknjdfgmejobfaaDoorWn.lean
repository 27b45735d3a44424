/- layer 3's law: the walk of OrderTells. -/
import Derived.Test.YtknjdfgmejobfaaDoorWm
import Derived.Test.YtknjdfgmejobfaaDoorPm
import Derived.Lib.QuietBelow
import Derived.BigQuiet
import Derived.Deep.CutBlock
import Derived.Deep.DeepCutAuto
namespace Go.Proofs.YtknjdfgmejobfaaDoor
open Go.RowKit Go.Shelf

attribute [-go_sem] run_eql_struct run_neq_struct
attribute [local go_sem] Bv.and_u Bv.or_u Bv.andNot_u Bv.wrap_sub1 Bv.eq0 Bv.ne0 Bv.wrap_pow Bv.wrap_powmin Bv.wrap_neg Bv.eq_u Bv.ne_u run_rel_eql run_rel_neq relEq_self
set_option maxRecDepth 100000 in
set_option maxHeartbeats 8000000 in
theorem orderTells_any (n : Int) (f : Rl.Rows) (most N : Int) (A : Option Addr) (zs : List Int) (cap : Nat) (w : World) (zf : Rl.Z f) (hA : IntsAt w A zs) (hT : Tab w) (hw : 0 < w.heap.size) :
    Calls Tryd.prog 9 #[.agg (relC n f), .int .i64 most, .int .i64 N, .slice A zs.length cap] w fun e w' => e = .returned (.bool true) ∧ Below w.heap.size w w' := by
  have hTl : ∀ W, Below w.heap.size w W → Tab W ∧ 0 < W.heap.size := fun W h => ⟨hT.below h hw, Nat.lt_of_lt_of_le hw h.size⟩
  have HT := Lib.hid hTl
  have Z := Lib.hid (And.intro zf hA)
  clear hTl hT zf hA
  have H0 := Lib.hid ((Held.nil w).box n f)
  have cN := (H0.out.at 0 rfl).num
  by_cases hskip : 8 < n ∨ (¬ 8 < n ∧ 10 < zs.length)
  · rcases hskip with h1 | ⟨h1, h2⟩
    · have d1 : decide (8 < n) = true := decide_eq_true h1
      go_enter Tryd.func9, Tryd.ntmps9
      go_wp2_with fail
      refine (awake3_at _ (HT.out _ H0.out.bel)).mono ?_
      rintro e w1 ⟨rfl, hb⟩
      have H1 := Lib.hid (H0.out.step hb)
      clear hb
      go_wp2_with fail
      go_ret
      exact ⟨rfl, H1.out.bel⟩
    · have d1 : decide (8 < n) = false := decide_eq_false h1
      have d2 : decide ((10 : Int) < (zs.length : Int)) = true := decide_eq_true (by omega)
      have d3 : decide (10 < zs.length) = true := decide_eq_true h2
      go_enter Tryd.func9, Tryd.ntmps9
      go_wp2_with fail
      refine (awake3_at _ (HT.out _ H0.out.bel)).mono ?_
      rintro e w1 ⟨rfl, hb⟩
      have H1 := Lib.hid (H0.out.step hb)
      clear hb
      go_wp2_with fail
      go_ret
      exact ⟨rfl, H1.out.bel⟩
  · have h1 : ¬ 8 < n := fun h => hskip (.inl h)
    have h2 : ¬ 10 < zs.length := fun h => hskip (.inr ⟨h1, h⟩)
    have L1000 : zs.length ≤ 1000 := by omega
    have d1 : decide (8 < n) = false := decide_eq_false h1
    have d2 : decide ((10 : Int) < (zs.length : Int)) = false := decide_eq_false (by omega)
    have d3 : decide (10 < zs.length) = false := decide_eq_false h2
    obtain ⟨M, hM⟩ : ∃ M : Int, M = if most ≤ 10000 then (if 300 < most then 300 else most) else most := ⟨_, rfl⟩
    have HM := Lib.hid hM
    clear hM hskip
    go_enter Tryd.func9, Tryd.ntmps9
    go_upto_if 33 with (fail)
    go_cut [1] (fun s wx => s = .int .i64 M ∧ wx = w.alloc (.cells (relC n f) 26))
    case first =>
      by_cases hm : most ≤ 10000
      · by_cases h3 : 300 < most
        · have HX := Lib.hid (show M = 300 by rw [HM.out, if_pos hm, if_pos h3])
          go_wp2_with fail
          all_goals go_meet
          all_goals first | exact ⟨by rw [HX.out], rfl⟩ | (exfalso; omega)
        · have HX := Lib.hid (show M = most by rw [HM.out, if_pos hm, if_neg h3])
          go_wp2_with fail
          all_goals go_meet
          all_goals first | exact ⟨by rw [HX.out], rfl⟩ | (refine ⟨?_, rfl⟩; rw [HX.out]; congr 1; omega) | (exfalso; omega)
      · have HX := Lib.hid (show M = most by rw [HM.out, if_neg hm])
        go_wp2_with fail
        all_goals go_meet
        all_goals exact ⟨by rw [HX.out], rfl⟩
    case rest =>
      obtain ⟨rfl, rfl⟩ := hcut
      clear cN
      obtain ⟨LL, hLL⟩ : ∃ LL, ordersR n f M = LL := ⟨_, rfl⟩
      obtain ⟨E, hE⟩ : ∃ E, ordersE n f M = E := ⟨_, rfl⟩
      have hle : LL.length ≤ maxLen := by have := (orders_le n f M).1; rw [hLL] at this; unfold maxLen; omega
      obtain ⟨J, hJ⟩ : ∃ J, (ofO n f).getD [] = J := ⟨_, rfl⟩
      obtain ⟨is, his⟩ : ∃ is, (ofO n f).isSome = is := ⟨_, rfl⟩
      have hJ64 : J.length ≤ 64 := by rw [← hJ]; exact of_le n f Z.out.1
      obtain ⟨TN, hTN⟩ : ∃ TN, totalN N zs = TN := ⟨_, rfl⟩
      obtain ⟨TF, hTF⟩ : ∃ TF, totalF N zs = TF := ⟨_, rfl⟩
      obtain ⟨TE, hTE⟩ : ∃ TE, totalE N zs = TE := ⟨_, rfl⟩
      obtain ⟨ok, hok⟩ : ∃ ok, okL N zs = ok := ⟨_, rfl⟩
      obtain ⟨KB, hKB⟩ : ∃ KB, keepsB n f zs = KB := ⟨_, rfl⟩
      have hTE2 : TE = if ok then 0 else 2 := by rw [← hTE]; unfold totalE; rw [hok]
      have X := Lib.hid (And.intro hLL (And.intro hE (And.intro hle (And.intro hJ64 (And.intro (And.intro hJ his) (And.intro hTN (And.intro hTF (And.intro (And.intro hTE hok) (And.intro hKB hTE2)))))))))
      clear hLL hE hle hJ his hJ64 hTN hTF hTE hok hKB hTE2
      have H0 := Lib.hid (And.intro H0.out trivial)
      go_wp2_with (first | (refine wpList_load_rel (by rfl) (.tmp 4) (by rfl) w.heap.size n f (by rfl) (H0.out.1.at 0 rfl) ?_))
      with_reducible refine (orders_at n f M LL E X.out.1 X.out.2.1 _ Z.out.1 (HT.out _ H0.out.1.bel)).mono ?_
      rintro e w1 ⟨A1, c1, rfl, hl, hb⟩
      have H1 := Lib.hid (And.intro (H0.out.1.step hb) hl)
      clear hb hl
      go_wp2_with (first | (refine wpList_load_rel (by rfl) (.tmp 4) (by rfl) w.heap.size n f (by rfl) (H1.out.1.at 0 rfl) ?_))
      with_reducible refine (rorders_at n f M LL E X.out.1 X.out.2.1 _ Z.out.1 (HT.out _ H1.out.1.bel)).mono ?_
      rintro e w2 ⟨A2, c2, rfl, hl, hb⟩
      have H2 := Lib.hid (And.intro (H1.out.1.step hb) (And.intro (H1.out.2.below hb (Nat.le_refl _)) hl))
      clear hb hl
      go_wp2_with (first | (refine wpList_load_rel (by rfl) (.tmp 4) (by rfl) w.heap.size n f (by rfl) (H2.out.1.at 0 rfl) ?_))
      with_reducible refine (count_at n f M LL E X.out.1 X.out.2.1 _ Z.out.1 (HT.out _ H2.out.1.bel)).mono ?_
      rintro e w3 ⟨rfl, hb⟩
      have H3 := Lib.hid (And.intro (H2.out.1.step hb) (And.intro (H2.out.2.1.below hb (Nat.le_refl _)) (H2.out.2.2.below hb (Nat.le_refl _))))
      clear hb
      go_wp2_with fail
      refine (total_at N A zs cap TN TF TE X.out.2.2.2.2.2.1 X.out.2.2.2.2.2.2.1 X.out.2.2.2.2.2.2.2.1.1 _ (Z.out.2.below H3.out.1.bel (Nat.le_refl _))).mono ?_
      rintro e w4 ⟨rfl, hb⟩
      have H4 := Lib.hid (And.intro (H3.out.1.step hb) (And.intro (H3.out.2.1.below hb (Nat.le_refl _)) (H3.out.2.2.below hb (Nat.le_refl _))))
      clear hb
      go_wp2_with (first | (refine wpList_store_rel (by rfl) (.tmp 15) (.tmp 58) (by rfl) w4.heap.size TN 0 TF zeroR (by rfl) (by rfl) (RelAt.new w4 0 zeroR) ?_; intro w5 hR hg; have H5 := Lib.hid (And.intro (H4.out.1.push hR hg) (And.intro (H4.out.2.1.below (below_push hg) (Nat.le_refl _)) (H4.out.2.2.below (below_push hg) (Nat.le_refl _)))); clear hR hg))
      refine (rtotal_at N A zs cap TN TF ok X.out.2.2.2.2.2.1 X.out.2.2.2.2.2.2.1 X.out.2.2.2.2.2.2.2.1.2 _ L1000 (Z.out.2.below H5.out.1.bel (Nat.le_refl _))).mono ?_
      rintro e w6 ⟨rfl, hb⟩
      have H5b := Lib.hid (And.intro (H5.out.1.step hb) (And.intro (H5.out.2.1.below hb (Nat.le_refl _)) (H5.out.2.2.below hb (Nat.le_refl _))))
      clear hb
      go_wp2_with (first | (refine wpList_store_rel (by rfl) (.tmp 17) (.tmp 64) (by rfl) w6.heap.size TN 0 TF zeroR (by rfl) (by rfl) (RelAt.new w6 0 zeroR) ?_; intro w7 hR hg; have H6 := Lib.hid (And.intro (H5b.out.1.push hR hg) (And.intro (H5b.out.2.1.below (below_push hg) (Nat.le_refl _)) (H5b.out.2.2.below (below_push hg) (Nat.le_refl _)))); clear hR hg) | (refine wpList_load_rel (by rfl) (.tmp 4) (by rfl) w.heap.size n f (by rfl) (H6.out.1.at 0 rfl) ?_))
      with_reducible refine (oof_at n f J is X.out.2.2.2.2.1.1 X.out.2.2.2.2.1.2 _ Z.out.1 (HT.out _ H6.out.1.bel)).mono ?_
      rintro e w8 ⟨A7, c7, rfl, hi, hb⟩
      have H7 := Lib.hid (And.intro (H6.out.1.step hb) (And.intro (H6.out.2.1.below hb (Nat.le_refl _)) (And.intro (H6.out.2.2.below hb (Nat.le_refl _)) hi)))
      clear hb hi
      go_wp2_with (first | (refine wpList_load_rel (by rfl) (.tmp 4) (by rfl) w.heap.size n f (by rfl) (H7.out.1.at 0 rfl) ?_))
      with_reducible refine (rof_at n f J is X.out.2.2.2.2.1.1 X.out.2.2.2.2.1.2 _ Z.out.1).mono ?_
      rintro e w9 ⟨A8, c8, rfl, hi, hb⟩
      have H8 := Lib.hid (And.intro (H7.out.1.step hb) (And.intro (H7.out.2.1.below hb (Nat.le_refl _)) (And.intro (H7.out.2.2.1.below hb (Nat.le_refl _)) (And.intro (H7.out.2.2.2.below hb (Nat.le_refl _)) hi))))
      clear hb hi
      go_wp2_with fail
      have GA := Lib.hid (And.intro (rel_class (H8.out.1.at 0 rfl)) (And.intro (rel_class (H8.out.1.at 1 rfl)) (rel_class (H8.out.1.at 2 rfl))))
      have hEE : (E == E) = true := beq_self_eq_true _
      have hss : (is == is) = true := beq_self_eq_true _
      have hkk : (KB == KB) = true := beq_self_eq_true _
      have hll : ((LL.length : Int) == (LL.length : Int)) = true := beq_self_eq_true _
      cases ok
      all_goals
        have hte := X.out.2.2.2.2.2.2.2.2.2
        simp only [Bool.false_eq_true, if_false, if_true] at hte
        subst hte
        refine wp_region_quiet_below (by kernel_rfl) (by kernel_rfl) ?_
        repeat (first | (refine wpQuiet_load_rel (by rfl) _ (by rfl) w.heap.size n f (by rfl) GA.out.1 ?_) | (refine wpQuiet_load_rel (by rfl) _ (by rfl) w4.heap.size TN TF (by rfl) GA.out.2.1 ?_) | (refine wpQuiet_load_rel (by rfl) _ (by rfl) w6.heap.size TN TF (by rfl) GA.out.2.2 ?_) | go_big_quiet_step (first | (go_at_call 53; with_reducible exact Calls.regrown_of (lists_eq A1 A2 LL _ _ _ X.out.2.2.1 (H8.out.2.1.below (below_regrown _ _ _) (Nat.le_refl _)) (H8.out.2.2.1.below (below_regrown _ _ _) (Nat.le_refl _)))) | (go_at_call 32; with_reducible exact Calls.regrown_of (ints_eq A7 A8 J _ _ _ X.out.2.2.2.1 (H8.out.2.2.2.1.below (below_regrown _ _ _) (Nat.le_refl _)) (H8.out.2.2.2.2.below (below_regrown _ _ _) (Nat.le_refl _)))) | (go_at_call 54; with_reducible exact Calls.regrown_of (keeps_at n f A zs cap KB X.out.2.2.2.2.2.2.2.2.1 _ Z.out.1 (Z.out.2.below (H8.out.1.step (below_regrown _ _ _)).bel (Nat.le_refl _)) (HT.out _ (H8.out.1.step (below_regrown _ _ _)).bel))) | (go_at_call 55; with_reducible exact Calls.regrown_of (rkeeps_at n f A zs cap KB X.out.2.2.2.2.2.2.2.2.1 _ Z.out.1 L1000 (Z.out.2.below (H8.out.1.step (below_regrown _ _ _)).bel (Nat.le_refl _)))) | (go_at_call 45; with_reducible exact Calls.regrown_of (awake3_at _ (HT.out _ (H8.out.1.step (below_regrown _ _ _)).bel))) | fail) | quiet_step (first | (go_at_call 53; with_reducible exact Calls.regrown_of (lists_eq A1 A2 LL _ _ _ X.out.2.2.1 (H8.out.2.1.below (below_regrown _ _ _) (Nat.le_refl _)) (H8.out.2.2.1.below (below_regrown _ _ _) (Nat.le_refl _)))) | (go_at_call 32; with_reducible exact Calls.regrown_of (ints_eq A7 A8 J _ _ _ X.out.2.2.2.1 (H8.out.2.2.2.1.below (below_regrown _ _ _) (Nat.le_refl _)) (H8.out.2.2.2.2.below (below_regrown _ _ _) (Nat.le_refl _)))) | (go_at_call 54; with_reducible exact Calls.regrown_of (keeps_at n f A zs cap KB X.out.2.2.2.2.2.2.2.2.1 _ Z.out.1 (Z.out.2.below (H8.out.1.step (below_regrown _ _ _)).bel (Nat.le_refl _)) (HT.out _ (H8.out.1.step (below_regrown _ _ _)).bel))) | (go_at_call 55; with_reducible exact Calls.regrown_of (rkeeps_at n f A zs cap KB X.out.2.2.2.2.2.2.2.2.1 _ Z.out.1 L1000 (Z.out.2.below (H8.out.1.step (below_regrown _ _ _)).bel (Nat.le_refl _)))) | (go_at_call 45; with_reducible exact Calls.regrown_of (awake3_at _ (HT.out _ (H8.out.1.step (below_regrown _ _ _)).bel))) | fail))
        refine wpQuiet_nil ?_
        intro W1 hw1
        have R1 := Lib.hid (H8.out.1.step (below_of_regrown hw1))
        clear hw1
        go_wp2_with fail
        go_ret
        exact ⟨rfl, R1.out.bel⟩
end Go.Proofs.YtknjdfgmejobfaaDoor
