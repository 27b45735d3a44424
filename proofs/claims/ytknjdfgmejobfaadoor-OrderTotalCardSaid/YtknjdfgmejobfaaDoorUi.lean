/- layer 3's law: the walk of OrderTotal. -/
import Derived.Test.YtknjdfgmejobfaaDoorUh
namespace Go.Proofs.YtknjdfgmejobfaaDoor
open Go.RowKit Go.Shelf

theorem same_dec (L : List Nat) : true = decide (L = L) := by simp
theorem rev_snoc {L : List Nat} {j b : Nat} (h : L.reverse[j]? = some b) : nums (L.reverse.take (j + 1)) = nums (L.reverse.take j) ++ [.int .i64 b] := by
  rw [List.take_add_one, h]; unfold nums; simp
attribute [-go_sem] run_eql_struct run_neq_struct
attribute [local go_sem] Bv.and_u Bv.or_u Bv.andNot_u Bv.wrap_sub1 Bv.eq0 Bv.ne0 Bv.wrap_pow Bv.wrap_powmin Bv.wrap_neg Bv.eq_u Bv.ne_u run_rel_eql run_rel_neq relEq_self
set_option maxRecDepth 100000 in
set_option maxHeartbeats 8000000 in
theorem orderTotal_any (n : Int) (A1 : Option Addr) (l1 c1 : Nat) (z1 : List Int) (A2 : Option Addr) (l2 c2 : Nat) (z2 : List Int) (w : World) (n0 : 0 ≤ n) (n1 : n ≤ 255)
    (hB1 : BytAt w A1 l1 z1) (hz1 : ∀ i, 0 ≤ z1.getD i 0 ∧ z1.getD i 0 ≤ 255) (hB2 : BytAt w A2 l2 z2) (hz2 : ∀ i, 0 ≤ z2.getD i 0 ∧ z2.getD i 0 ≤ 255) (hT : Tab w) (hw : 0 < w.heap.size) :
    Calls Tryd.prog 14 #[.int .u8 n, .slice A1 l1 c1, .slice A2 l2 c2] w fun e w' => e = .returned (.bool true) ∧ Below w.heap.size w w' := by
  have hTl : ∀ W, Below w.heap.size w W → Tab W ∧ 0 < W.heap.size := fun W h => ⟨hT.below h hw, Nat.lt_of_lt_of_le hw h.size⟩
  have HT := Lib.hid hTl
  clear hTl hT
  obtain ⟨k, hk⟩ : ∃ k : Nat, n % 49 = (k : Int) := ⟨(n % 49).toNat, by omega⟩
  have hk48 : k ≤ 48 := by omega
  have hkt : Int.tmod n 49 = (k : Int) := by rw [Int.tmod_eq_emod_of_nonneg n0]; exact hk
  obtain ⟨L, hL⟩ : ∃ L, L = mixL (placeF l1 z1) k := ⟨_, rfl⟩
  obtain ⟨M, hM⟩ : ∃ M, M = mixL (placeF l2 z2) k := ⟨_, rfl⟩
  have fL : Full k L := by rw [hL]; exact mix_full _ _
  have fM : Full k M := by rw [hM]; exact mix_full _ _
  obtain ⟨T, hTT⟩ : ∃ T, T = totL L := ⟨_, rfl⟩
  obtain ⟨U, hU⟩ : ∃ U, U = totL L.reverse := ⟨_, rfl⟩
  have oT : Rl.Ok k T := by rw [hTT]; exact tot_ok hk48 fL
  have hpl : T = Rl.plusF k T := by rw [hTT]; exact (tot_plus hk48 fL).symm
  have hba : U = Rl.backF k T := by rw [hTT, hU]; exact (tot_back hk48 fL).symm
  have htop : Rl.topL k T = some L := by rw [hTT]; exact tot_top hk48 fL
  have hrq : relEq k k (totL L) T = true := by rw [hTT]; exact relEq_self _ _
  obtain ⟨s, hs⟩ : ∃ s, s = decide (L = M) := ⟨_, rfl⟩
  have hks : keepsB k T (ints M) = s := by rw [hTT, keeps_tot hk48 fL, hs]
  have E := Lib.hid (And.intro hTT (And.intro hU (And.intro oT (And.intro hpl (And.intro hba (And.intro htop (And.intro hrq (And.intro hs hks))))))))
  have X1 := Lib.hid (And.intro hL (And.intro fL (And.intro hB1 hz1)))
  have X2 := Lib.hid (And.intro hM (And.intro fM (And.intro hB2 hz2)))
  clear hTT hU oT hpl hba htop hrq hs hks hL fL hB1 hz1 hM fM hB2 hz2
  obtain ⟨i0, hi, hz0, hz1, hz2⟩ := info_parts infoOneInt
  have I0 := Lib.hid (And.intro hi (And.intro hz0 (And.intro hz1 hz2)))
  clear hi hz0 hz1 hz2
  go_enter Tryd.func14, Tryd.ntmps14
  go_wp2_with fail
  refine (mixed_is k A1 l1 c1 z1 L X1.out.1 _ hk48 X1.out.2.2.2 X1.out.2.2.1).mono ?_
  rintro e w1 ⟨B1, d1, rfl, hi, hb⟩
  have H1 := Lib.hid (And.intro ((Held.nil w).step hb) hi)
  clear hb hi
  go_wp2_with fail
  refine (mixed_is k A2 l2 c2 z2 M X2.out.1 _ hk48 X2.out.2.2.2 (X2.out.2.2.1.below H1.out.1.bel (Nat.le_refl _))).mono ?_
  rintro e w2 ⟨B2, d2, rfl, hi, hb⟩
  have H2 := Lib.hid (And.intro (H1.out.1.step hb) (And.intro (H1.out.2.below hb (Nat.le_refl _)) hi))
  clear hb hi
  go_wp2_with fail
  with_reducible refine (total_full k B1 L d1 T E.out.1 _ hk48 X1.out.2.1 H2.out.2.1).mono ?_
  rintro e w3 ⟨rfl, hb⟩
  have H3 := Lib.hid (And.intro (H2.out.1.step hb) (And.intro (H2.out.2.1.below hb (Nat.le_refl _)) (H2.out.2.2.below hb (Nat.le_refl _))))
  clear hb
  go_wp2_with (first | (refine wpList_store_rel (by rfl) (.tmp 10) (.tmp 31) (by rfl) w3.heap.size k 0 T zeroR (by rfl) (by rfl) (RelAt.new w3 0 zeroR) ?_; intro w4 hR hg; have H4 := Lib.hid (And.intro (H3.out.1.push hR hg) (And.intro (H3.out.2.1.below (below_push hg) (Nat.le_refl _)) (H3.out.2.2.below (below_push hg) (Nat.le_refl _)))); clear hR hg) | (refine wpList_load_rel (by rfl) (.tmp 10) (by rfl) w3.heap.size k T (by rfl) (H4.out.1.at 0 rfl) ?_))
  with_reducible refine (oof_gives k T L k X1.out.2.1.len E.out.2.2.2.2.2.1 E.out.2.2.2.2.2.2.1 _ E.out.2.2.1 (HT.out _ H4.out.1.bel).1 (HT.out _ H4.out.1.bel).2).mono ?_
  rintro e w5 ⟨B3, d3, rfl, hi, hb⟩
  have H5 := Lib.hid (And.intro (H4.out.1.step hb) (And.intro (H4.out.2.1.below hb (Nat.le_refl _)) (And.intro (H4.out.2.2.below hb (Nat.le_refl _)) hi)))
  clear hb hi
  go_wp2_with fail
  go_loopw [14, 42] (fun v i wr => ∃ j : Nat, j ≤ k ∧ i = .int .i64 j ∧ wr.ownsRow w5.heap.size 3 1 v j (nums (L.reverse.take j)) ∧ Below w5.heap.size w5 wr) (fun _ i _ => k - (intOf i).toNat)
  case atStart => exact ⟨0, Nat.zero_le _, rfl, World.ownsRow_nil _ _ _ _, Below.refl _ _⟩
  case round =>
    obtain ⟨j, hj, rfl, hrow, hb⟩ := hrel
    by_cases hlt : j < k
    · obtain ⟨y, hy⟩ : ∃ y, L.reverse[j]? = some y := ⟨_, List.getElem?_eq_getElem (by rw [List.length_reverse, X1.out.2.1.len]; exact hlt)⟩
      obtain ⟨b, off, rfl, hbl, hcc⟩ := (H5.out.2.1.below hb (Nat.le_refl _)) (by rw [ints_len, X1.out.2.1.len]; omega)
      obtain ⟨q, hq⟩ : ∃ q, q = k - 1 - j := ⟨_, rfl⟩
      have hqk : q < k := by omega
      have hc := hcc q (by rw [ints_len, X1.out.2.1.len]; exact hqk)
      have hyq : L[q]? = some y := by
        rw [← hy, List.getElem?_reverse (by rw [X1.out.2.1.len]; exact hlt), X1.out.2.1.len, hq]
      rw [ints_get hyq] at hc
      have hcb : wr.cell? ⟨b, off + (k - 1 - j), none⟩ = some (.int .i64 y) := by rw [← hq]; exact hc
      have w1' : wrap64 ((k : Int) - 1) = (k : Int) - 1 := by unfold wrap64; omega
      have w2' : wrap64 ((k : Int) - 1 - (j : Int)) = (q : Int) := by unfold wrap64; omega
      have q0 : (0 : Int) ≤ (q : Int) := by omega
      have q1 : (q : Int) < (k : Int) := by omega
      obtain ⟨B4, d4, rfl, h4, hm4, hnil4, hblk4, hlen4, _⟩ := row_form hrow
      have R0 := Lib.hid (And.intro hrow (And.intro hb (And.intro hy hq)))
      clear hrow hb hy hq hcc hyq hnil4 hblk4 hlen4
      go_wp2_with (first | (at_builtin; refine wpList_append_own _ rfl _ _ 35 rfl w5.heap.size 3 i0 (.int .i64 0) 1 8 Tryd.underlying35 I0.out.1 I0.out.2.1 I0.out.2.2.1 I0.out.2.2.2 rfl (by decide) _ _ _ rfl (R0.out.1.alloc _) ⟨wr.heap.size, 0, none⟩ 1 1 [.int .i64 y] rfl rfl (cell_one_new _ _ _) (by simp [Value.oneCell']) (by unfold maxLen; omega) (by omega) (by have := R0.out.2.1.size; simp; omega) ?_; intro v' w7 hown' hgrow hnil'))
      go_roundw
      case rel => exact ⟨j + 1, by omega, by go_num, by rw [rev_snoc R0.out.2.2.1]; exact hown', (R0.out.2.1.alloc R0.out.2.1.size _).grown hgrow (by have := R0.out.2.1.size; simp; omega) (fun e h => (R0.out.1.lt e h).1)⟩
      case measure => simp [intOf]; omega
    · obtain rfl : j = k := by omega
      have hall : L.reverse.take j = L.reverse := by rw [← X1.out.2.1.len, ← List.length_reverse]; exact List.take_length
      rw [hall] at hrow
      obtain ⟨B4, d4, rfl, _, hm4, hI⟩ := row_nums hrow
      have H6 := Lib.hid (And.intro (H5.out.1.step hb) (And.intro (H5.out.2.1.below hb (Nat.le_refl _)) (And.intro (H5.out.2.2.1.below hb (Nat.le_refl _)) (And.intro (H5.out.2.2.2.below hb (Nat.le_refl _)) hI))))
      clear hrow hb hI hall
      go_wp2_with fail
      with_reducible refine (total_full j B4 L.reverse d4 U E.out.2.1 _ hk48 X1.out.2.1.rev H6.out.2.2.2.2).mono ?_
      rintro e w7 ⟨rfl, hb⟩
      have H7 := Lib.hid (And.intro (H6.out.1.step hb) (And.intro (H6.out.2.1.below hb (Nat.le_refl _)) (And.intro (H6.out.2.2.1.below hb (Nat.le_refl _)) (H6.out.2.2.2.1.below hb (Nat.le_refl _)))))
      clear hb
      go_wp2_with (first | (refine wpList_store_rel (by rfl) (.tmp 16) (.tmp 61) (by rfl) w7.heap.size j 0 U zeroR (by rfl) (by rfl) (RelAt.new w7 0 zeroR) ?_; intro w8 hR hg; have H8 := Lib.hid (And.intro (H7.out.1.push hR hg) (And.intro (H7.out.2.1.below (below_push hg) (Nat.le_refl _)) (And.intro (H7.out.2.2.1.below (below_push hg) (Nat.le_refl _)) (H7.out.2.2.2.below (below_push hg) (Nat.le_refl _))))); clear hR hg))
      have GA := Lib.hid (And.intro (rel_class (H8.out.1.at 0 rfl)) (rel_class (H8.out.1.at 1 rfl)))
      have Q := Lib.hid (And.intro X1.out.2.1.len X2.out.2.1.len)
      go_wp2_with fail
      have K64 : j ≤ 64 := by omega
      cases s
      all_goals
        refine wp_region_quiet_below (by kernel_rfl) (by kernel_rfl) ?_
        repeat (first | (refine wpQuiet_load_rel (by rfl) _ (by rfl) w3.heap.size j T (by rfl) GA.out.1 ?_) | (refine wpQuiet_load_rel (by rfl) _ (by rfl) w7.heap.size j U (by rfl) GA.out.2 ?_) | go_big_quiet_step (first | (go_at_call 32; first | with_reducible exact Calls.regrown_of (ints_n B3 B1 L L j j _ _ Q.out.1 Q.out.1 true (same_dec L) _ K64 K64 (H8.out.2.2.2.below (below_regrown _ _ _) (Nat.le_refl _)) (H8.out.2.1.below (below_regrown _ _ _) (Nat.le_refl _))) | with_reducible exact Calls.regrown_of (ints_n B1 B2 L M j j _ _ Q.out.1 Q.out.2 _ E.out.2.2.2.2.2.2.2.1 _ K64 K64 (H8.out.2.1.below (below_regrown _ _ _) (Nat.le_refl _)) (H8.out.2.2.1.below (below_regrown _ _ _) (Nat.le_refl _)))) | (go_at_call 54; with_reducible exact Calls.regrown_of (keeps_n j T B2 M j _ Q.out.2 _ E.out.2.2.2.2.2.2.2.2 _ E.out.2.2.1.z (H8.out.2.2.1.below (below_regrown _ _ _) (Nat.le_refl _)) (HT.out _ (H8.out.1.step (below_regrown _ _ _)).bel))) | (go_at_call 25; with_reducible exact Calls.regrown_of (plus_is j T T E.out.2.2.2.1 _ E.out.2.2.1 (HT.out _ (H8.out.1.step (below_regrown _ _ _)).bel))) | (go_at_call 20; with_reducible exact Calls.regrown_of (back_is j T U E.out.2.2.2.2.1 _ E.out.2.2.1 (HT.out _ (H8.out.1.step (below_regrown _ _ _)).bel))) | (go_at_call 45; with_reducible exact Calls.regrown_of (awake3_it _ (HT.out _ (H8.out.1.step (below_regrown _ _ _)).bel))) | fail) | quiet_step (first | (go_at_call 32; first | with_reducible exact Calls.regrown_of (ints_n B3 B1 L L j j _ _ Q.out.1 Q.out.1 true (same_dec L) _ K64 K64 (H8.out.2.2.2.below (below_regrown _ _ _) (Nat.le_refl _)) (H8.out.2.1.below (below_regrown _ _ _) (Nat.le_refl _))) | with_reducible exact Calls.regrown_of (ints_n B1 B2 L M j j _ _ Q.out.1 Q.out.2 _ E.out.2.2.2.2.2.2.2.1 _ K64 K64 (H8.out.2.1.below (below_regrown _ _ _) (Nat.le_refl _)) (H8.out.2.2.1.below (below_regrown _ _ _) (Nat.le_refl _)))) | (go_at_call 54; with_reducible exact Calls.regrown_of (keeps_n j T B2 M j _ Q.out.2 _ E.out.2.2.2.2.2.2.2.2 _ E.out.2.2.1.z (H8.out.2.2.1.below (below_regrown _ _ _) (Nat.le_refl _)) (HT.out _ (H8.out.1.step (below_regrown _ _ _)).bel))) | (go_at_call 25; with_reducible exact Calls.regrown_of (plus_is j T T E.out.2.2.2.1 _ E.out.2.2.1 (HT.out _ (H8.out.1.step (below_regrown _ _ _)).bel))) | (go_at_call 20; with_reducible exact Calls.regrown_of (back_is j T U E.out.2.2.2.2.1 _ E.out.2.2.1 (HT.out _ (H8.out.1.step (below_regrown _ _ _)).bel))) | (go_at_call 45; with_reducible exact Calls.regrown_of (awake3_it _ (HT.out _ (H8.out.1.step (below_regrown _ _ _)).bel))) | fail))
        refine wpQuiet_nil ?_
        intro W1 hw1
        have R1 := Lib.hid (H8.out.1.step (below_of_regrown hw1))
        clear hw1
        go_wp2_with fail
        go_ret
        exact ⟨rfl, R1.out.bel⟩
end Go.Proofs.YtknjdfgmejobfaaDoor
