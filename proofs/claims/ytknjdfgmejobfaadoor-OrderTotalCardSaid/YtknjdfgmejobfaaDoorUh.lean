/- layer 3's law: the walk of OrderAll. -/
import Derived.Test.YtknjdfgmejobfaaDoorUc
import Derived.Test.YtknjdfgmejobfaaDoorUe
import Derived.Test.YtknjdfgmejobfaaDoorUg
namespace Go.Proofs.YtknjdfgmejobfaaDoor
open Go.RowKit Go.Shelf

theorem keeps_n (n : Int) (f : Rl.Rows) (A : Option Addr) (x : List Nat) (k cap : Nat) (hk : x.length = k) (b : Bool) (hb : keepsB n f (ints x) = b) (w : World) (zf : Rl.Z f) (hA : IntsAt w A (ints x)) (hT : Tab w ∧ 0 < w.heap.size) :
    Calls Tryd.prog 54 #[.agg (relC n f), .slice A k cap] w fun e w' => e = .returned (.bool b) ∧ Below w.heap.size w w' := by
  have h := keeps_any n f A (ints x) cap w zf hA hT.1 hT.2
  rw [ints_len, hk, hb] at h
  exact h
theorem ints_n (A B : Option Addr) (xs ys : List Nat) (n m c d : Nat) (hx : xs.length = n) (hy : ys.length = m) (r : Bool) (hr : r = decide (xs = ys)) (w : World) (hn : n ≤ 64) (hm : m ≤ 64) (hA : IntsAt w A (ints xs)) (hB : IntsAt w B (ints ys)) :
    Calls Tryd.prog 32 #[.slice A n c, .slice B m d] w fun e w' => e = .returned (.bool r) ∧ Below w.heap.size w w' := by
  subst hx; subst hy
  exact ints_dec A B xs ys c d r w hr hn hm hA hB
theorem mixed_is (n : Nat) (A : Option Addr) (l cap : Nat) (zs : List Int) (M : List Nat) (hM : M = mixL (placeF l zs) n) (w : World) (hn : n ≤ 48) (hz : ∀ i, 0 ≤ zs.getD i 0 ∧ zs.getD i 0 ≤ 255) (hB : BytAt w A l zs) :
    Calls Tryd.prog 56 #[.int .i64 n, .slice A l cap] w fun e w' => ∃ B c, e = .returned (.slice B n c) ∧ IntsAt w' B (ints M) ∧ Below w.heap.size w w' := by
  subst hM
  refine (mixed_any n A l cap zs w hn hz hB).mono ?_
  rintro e w' ⟨v, rfl, hrow, hb⟩
  obtain ⟨B, c, e1, _, _, h4⟩ := row_nums hrow
  exact ⟨B, c, by rw [e1], h4, hb⟩

attribute [-go_sem] run_eql_struct run_neq_struct
attribute [local go_sem] Bv.and_u Bv.or_u Bv.andNot_u Bv.wrap_sub1 Bv.eq0 Bv.ne0 Bv.wrap_pow Bv.wrap_powmin Bv.wrap_neg Bv.eq_u Bv.ne_u run_rel_eql run_rel_neq relEq_self
set_option maxRecDepth 100000 in
set_option maxHeartbeats 8000000 in
theorem orderAll_any (n : Int) (f : Rl.Rows) (Ab : Option Addr) (lb cb : Nat) (zs : List Int) (w : World) (zf : Rl.Z f) (hB : BytAt w Ab lb zs) (hz : ∀ i, 0 ≤ zs.getD i 0 ∧ zs.getD i 0 ≤ 255) (hT : Tab w) (hw : 0 < w.heap.size) :
    Calls Tryd.prog 10 #[.agg (relC n f), .slice Ab lb cb] w fun e w' => e = .returned (.bool true) ∧ Below w.heap.size w w' := by
  have hTl : ∀ W, Below w.heap.size w W → Tab W ∧ 0 < W.heap.size := fun W h => ⟨hT.below h hw, Nat.lt_of_lt_of_le hw h.size⟩
  have HT := Lib.hid hTl
  clear hTl hT
  obtain ⟨k, hkk⟩ : ∃ k, k = fineK n 6 := ⟨_, rfl⟩
  obtain ⟨A, hA⟩ : ∃ A, A = fineR k f := ⟨_, rfl⟩
  have hk6 : k ≤ 6 := by rw [hkk]; exact fineK_le n 6
  have hk48 : k ≤ 48 := by omega
  have oA : Rl.Ok k A := by rw [hA]; exact ok_fine hk48 f
  obtain ⟨l, hL⟩ : ∃ l, Rl.ordL k A = l := ⟨_, rfl⟩
  obtain ⟨m, hm⟩ : ∃ m, l.length = m := ⟨_, rfl⟩
  obtain ⟨M, hM⟩ : ∃ M, M = mixL (placeF lb zs) k := ⟨_, rfl⟩
  have hfull : ∀ x ∈ l, Full k x := fun x hx => full_ordL oA (by rw [hL]; exact hx)
  have hkeep : ∀ x ∈ l, keepsB k A (ints x) = true := fun x hx => (keeps_ord oA x).2 (by rw [hL]; exact hx)
  have hsort : l.Pairwise Rl.Ahead := by rw [← hL]; exact Rl.ordL_sorted k A
  have hm720 : m ≤ 720 := by rw [← hm, ← hL]; exact Rl.ordL_720 hk6
  have fM : Full k M := by rw [hM]; exact mix_full _ _
  obtain ⟨s, hs⟩ : ∃ s, s = decide (M ∈ l) := ⟨_, rfl⟩
  have hkM : keepsB k A (ints M) = s := by
    rw [hs, Bool.eq_iff_iff, keeps_ord oA, hL, decide_eq_true_eq]
  obtain ⟨ac, hac⟩ : ∃ ac, (topR k A).isSome = ac := ⟨_, rfl⟩
  have hz0 : (((m : Nat) : Int) == 0) = !ac := by
    rw [← hac, Bool.eq_iff_iff]
    unfold topR
    rw [Rl.right_of oA, if_pos rfl, Int.toNat_natCast]
    have h1 := Rl.ordL_nil oA
    rw [hL] at h1
    rw [beq_iff_eq, Bool.not_eq_true', Option.isSome_eq_false_iff, Option.isNone_iff_eq_none, ← h1, ← List.length_eq_zero_iff, hm]
    omega
  have E := Lib.hid (And.intro hA (And.intro hkk (And.intro oA (And.intro zf hk6))))
  have L := Lib.hid (And.intro hL (And.intro hm (And.intro hfull (And.intro hkeep hsort))))
  have Mx := Lib.hid (And.intro hM (And.intro fM (And.intro hs (And.intro hkM (And.intro hB hz)))))
  have C := Lib.hid hac
  clear hA hkk oA zf hL hm hk6 hfull hkeep hsort hM fM hs hkM hB hz hac
  have H0 := Lib.hid ((Held.nil w).box n f)
  go_enter Tryd.func10, Tryd.ntmps10
  go_wp2_with (first | (refine wpList_load_rel (by rfl) (.tmp 2) (by rfl) w.heap.size n f (by rfl) (H0.out.at 0 rfl) ?_))
  with_reducible refine (fine_is n f 6 6 k A six E.out.2.1 E.out.1 _ (by omega) E.out.2.2.2.1).mono ?_
  rintro e w1 ⟨rfl, hb⟩
  have H1 := Lib.hid (H0.out.step hb)
  clear hb
  go_wp2_with (first | (refine wpList_store_rel (by rfl) (.tmp 2) (.tmp 12) (by rfl) w.heap.size k n A f (by rfl) (by rfl) (H1.out.at 0 rfl) ?_; intro w2 hR hg; have H2 := Lib.hid (H1.out.put 0 rfl hR hg); clear hR hg) | (refine wpList_load_rel (by rfl) (.tmp 2) (by rfl) w.heap.size k A (by rfl) (H2.out.at 0 rfl) ?_))
  with_reducible refine (orders_720 k A l L.out.1 E.out.2.2.2.2 m L.out.2.1 _ E.out.2.2.1 (HT.out _ H2.out.bel)).mono ?_
  rintro e w3 ⟨A3, c3, rfl, hl, hb⟩
  have H3 := Lib.hid (And.intro (H2.out.step hb) hl)
  clear hb hl
  go_wp2_with (first | (refine wpList_load_rel_want (by kernel_rfl) (.tmp 2) (by rfl) w.heap.size k A (by rfl) (H3.out.1.at 0 rfl) ?_))
  with_reducible refine (acyclic_is k A ac C.out _ E.out.2.2.1.z (HT.out _ H3.out.1.bel).1 (HT.out _ H3.out.1.bel).2).mono ?_
  rintro e w4 ⟨rfl, hb⟩
  have H4 := Lib.hid (And.intro (H3.out.1.step hb) (H3.out.2.below hb (Nat.le_refl _)))
  clear hb
  have hne : ((!ac) == ac) = false := by cases ac <;> rfl
  have cN := (H4.out.1.at 0 rfl).num
  go_wp2_with fail
  refine (mixed_is k Ab lb cb zs M Mx.out.1 _ hk48 Mx.out.2.2.2.2.2 (Mx.out.2.2.2.2.1.below H4.out.1.bel (Nat.le_refl _))).mono ?_
  rintro e w5 ⟨A5, c5, rfl, hi, hb⟩
  have H5 := Lib.hid (And.intro (H4.out.1.step hb) (And.intro (H4.out.2.below hb (Nat.le_refl _)) hi))
  clear hb hi hne cN hz0
  go_wp2_with fail
  go_loopw [8, 34] (fun v i wr => ∃ j : Nat, j ≤ m ∧ i = .int .i64 j ∧ v = .bool (decide (M ∈ l.take j)) ∧ Held w [(w.heap.size, (k : Int), A)] wr ∧ Below w5.heap.size w5 wr) (fun _ i _ => m - (intOf i).toNat)
  case atStart => exact ⟨0, Nat.zero_le _, rfl, by simp, H5.out.1, Below.refl _ _⟩
  case round =>
    obtain ⟨j, hj, rfl, rfl, hh, hb⟩ := hrel
    by_cases hlt : j < m
    · obtain ⟨x, hx⟩ : ∃ x, l[j]? = some x := ⟨_, List.getElem?_eq_getElem (by rw [L.out.2.1]; exact hlt)⟩
      obtain ⟨b, off, B, c, rfl, hbl, hc, hBx⟩ := H5.out.2.1.cell (fun y hy => (L.out.2.2.1 y hy).len) hx
      have fx := Lib.hid (L.out.2.2.1 x (List.mem_of_getElem? hx))
      have hkx := Lib.hid (L.out.2.2.2.1 x (List.mem_of_getElem? hx))
      have hc' : wr.cell? ⟨b, off + j, none⟩ = some (.slice B k c) := (hb.cell (p := ⟨b, off + j, none⟩) hbl).trans hc
      have HX := Lib.hid hBx
      obtain ⟨F, hF⟩ : ∃ F, decide (M ∈ l.take j) = F := ⟨_, rfl⟩
      have HS := Lib.hid (show decide (M ∈ l.take (j + 1)) = (decide (M ∈ l.take j) || decide (x = M)) by
        rw [List.take_add_one, hx, Bool.eq_iff_iff]
        simp only [List.mem_append, Option.toList_some, List.mem_singleton, Bool.or_eq_true, decide_eq_true_eq]
        exact or_congr Iff.rfl eq_comm)
      rw [hF]
      have R0 := Lib.hid (And.intro hh hb)
      clear hh hb hc hBx
      have JX := Lib.hid hx
      have FX := Lib.hid hF
      clear hx hF
      by_cases hj0 : j = 0
      · have d0 : ¬ ((0 : Int) < (j : Int)) := by omega
        have d1 : ¬ (0 < j) := by omega
        have d2 : decide ((0 : Int) < (j : Int)) = false := decide_eq_false d0
        have d3 : decide (0 < j) = false := decide_eq_false d1
        have HJ := Lib.hid hj0
        clear hj0
        go_wp2_with (first | (refine wpList_load_rel (by rfl) (.tmp 2) (by rfl) w.heap.size k A (by rfl) (R0.out.1.at 0 rfl) ?_))
        refine (keeps_n k A B x k c fx.out.len true hkx.out _ E.out.2.2.1.z (HX.out.below R0.out.2 (Nat.le_refl _)) (HT.out _ R0.out.1.bel)).mono ?_
        rintro e v1 ⟨rfl, hb⟩
        have R1 := Lib.hid (And.intro (R0.out.1.step hb) (R0.out.2.trans (hb.mono R0.out.2.size)))
        clear hb
        cases F
        · obtain ⟨r, hr⟩ : ∃ r, r = decide (x = M) := ⟨_, rfl⟩
          have FF := Lib.hid (And.intro (show (decide (M ∈ l.take (j + 1))) = r by rw [HS.out, FX.out, hr, Bool.false_or]) hr)
          clear hr
          go_wp2_with fail
          refine (ints_n B A5 x M k k c c5 fx.out.len Mx.out.2.1.len r FF.out.2 _ (by omega) (by omega) (HX.out.below R1.out.2 (Nat.le_refl _)) (H5.out.2.2.below R1.out.2 (Nat.le_refl _))).mono ?_
          rintro e v3 ⟨rfl, hb⟩
          have R3 := Lib.hid (And.intro (R1.out.1.step hb) (R1.out.2.trans (hb.mono R1.out.2.size)))
          clear hb
          go_wp2_with fail
          go_roundw
          case rel => exact ⟨j + 1, by omega, by go_num, congrArg Value.bool FF.out.1.symm, R3.out.1, R3.out.2⟩
          case measure => simp [intOf]; omega
        · have FF := Lib.hid (show (decide (M ∈ l.take (j + 1))) = true by rw [HS.out, FX.out]; rfl)
          go_wp2_with fail
          go_roundw
          case rel => exact ⟨j + 1, by omega, by go_num, congrArg Value.bool FF.out.symm, R1.out.1, R1.out.2⟩
          case measure => simp [intOf]; omega
      · have d0 : ((0 : Int) < (j : Int)) := by omega
        have d1 : (0 < j) := by omega
        obtain ⟨i, hi⟩ : ∃ i, j = i + 1 := ⟨j - 1, by omega⟩
        obtain ⟨y, hy⟩ : ∃ y, l[i]? = some y := ⟨_, List.getElem?_eq_getElem (by rw [L.out.2.1]; omega)⟩
        obtain ⟨b2, off2, D, cd, e2, hbl2, hc2, hDy⟩ := H5.out.2.1.cell (fun y hy => (L.out.2.2.1 y hy).len) hy
        injection e2 with e2
        injection e2 with e3 e4
        subst e3 e4
        have fy := Lib.hid (L.out.2.2.1 y (List.mem_of_getElem? hy))
        have hah : aheadB y x = true := ahead_next L.out.2.2.2.2 hy (by rw [← hi]; exact JX.out)
        have hw1 : wrap64 ((j : Int) - 1) = (i : Int) := by unfold wrap64; omega
        have i0 : (0 : Int) ≤ (i : Int) := by omega
        have i1 : (i : Int) < (m : Int) := by omega
        have i2 : i < m := by omega
        have HJ := Lib.hid (And.intro hi (And.intro hDy (And.intro hah hc2)))
        clear hj0 hi hDy hah hy hc2
        go_wp2_with (first | (refine wpList_load_rel (by rfl) (.tmp 2) (by rfl) w.heap.size k A (by rfl) (R0.out.1.at 0 rfl) ?_))
        refine (keeps_n k A B x k c fx.out.len true hkx.out _ E.out.2.2.1.z (HX.out.below R0.out.2 (Nat.le_refl _)) (HT.out _ R0.out.1.bel)).mono ?_
        rintro e v1 ⟨rfl, hb⟩
        have R1 := Lib.hid (And.intro (R0.out.1.step hb) (R0.out.2.trans (hb.mono R0.out.2.size)))
        clear hb
        have hc3 : v1.cell? ⟨b, off + i, none⟩ = some (.slice D k cd) := (R1.out.2.cell (p := ⟨b, off + i, none⟩) hbl).trans HJ.out.2.2.2
        have hc4 : v1.cell? ⟨b, off + (j - 1), none⟩ = some (.slice D k cd) := by rw [show j - 1 = i by have := HJ.out.1; omega]; exact hc3
        go_wp2_with fail
        refine (ahead_any D B y x k cd c _ fy.out.len fx.out.len (by omega) (HJ.out.2.1.below R1.out.2 (Nat.le_refl _)) (HX.out.below R1.out.2 (Nat.le_refl _)) true HJ.out.2.2.1).mono ?_
        rintro e v2 ⟨rfl, hb⟩
        have R2 := Lib.hid (And.intro (R1.out.1.step hb) (R1.out.2.trans (hb.mono R1.out.2.size)))
        clear hb
        cases F
        · obtain ⟨r, hr⟩ : ∃ r, r = decide (x = M) := ⟨_, rfl⟩
          have FF := Lib.hid (And.intro (show (decide (M ∈ l.take (j + 1))) = r by rw [HS.out, FX.out, hr, Bool.false_or]) hr)
          clear hr
          go_wp2_with fail
          refine (ints_n B A5 x M k k c c5 fx.out.len Mx.out.2.1.len r FF.out.2 _ (by omega) (by omega) (HX.out.below R2.out.2 (Nat.le_refl _)) (H5.out.2.2.below R2.out.2 (Nat.le_refl _))).mono ?_
          rintro e v3 ⟨rfl, hb⟩
          have R3 := Lib.hid (And.intro (R2.out.1.step hb) (R2.out.2.trans (hb.mono R2.out.2.size)))
          clear hb
          go_wp2_with fail
          go_roundw
          case rel => exact ⟨j + 1, by omega, by go_num, congrArg Value.bool FF.out.1.symm, R3.out.1, R3.out.2⟩
          case measure => simp [intOf]; omega
        · have FF := Lib.hid (show (decide (M ∈ l.take (j + 1))) = true by rw [HS.out, FX.out]; rfl)
          go_wp2_with fail
          go_roundw
          case rel => exact ⟨j + 1, by omega, by go_num, congrArg Value.bool FF.out.symm, R2.out.1, R2.out.2⟩
          case measure => simp [intOf]; omega
    · obtain rfl : j = m := by omega
      have hall : l.take j = l := by rw [← L.out.2.1]; exact List.take_length
      rw [hall, ← Mx.out.2.2.1]
      have R0 := Lib.hid (And.intro hh hb)
      clear hh hb hall
      go_wp2_with (first | (refine wpList_load_rel (by rfl) (.tmp 2) (by rfl) w.heap.size k A (by rfl) (R0.out.1.at 0 rfl) ?_))
      refine (keeps_n k A A5 M k c5 Mx.out.2.1.len s Mx.out.2.2.2.1 _ E.out.2.2.1.z (H5.out.2.2.below R0.out.2 (Nat.le_refl _)) (HT.out _ R0.out.1.bel)).mono ?_
      rintro e v1 ⟨rfl, hb⟩
      have R1 := Lib.hid (R0.out.1.step hb)
      clear hb
      have hss : (s == s) = true := by cases s <;> rfl
      go_wp2_with fail
      refine (awake3_it _ (HT.out _ R1.out.bel)).mono ?_
      rintro e v2 ⟨rfl, hb⟩
      have R2 := Lib.hid (R1.out.step hb)
      clear hb
      go_wp2_with fail
      go_ret
      exact ⟨rfl, R2.out.bel⟩
end Go.Proofs.YtknjdfgmejobfaaDoor
