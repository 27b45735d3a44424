/- seisinlaw02: awake, the walk. -/
import Derived.Test.YtknjdfgmejobfaaDoorNu
namespace Go.Proofs.YtknjdfgmejobfaaDoor
open Go.RowKit Go.Shelf

attribute [-go_sem] run_eql_struct run_neq_struct
attribute [local go_sem] Bv.and_u Bv.or_u Bv.andNot_u Bv.wrap_sub1 Bv.eq0 Bv.ne0 Bv.wrap_pow Bv.wrap_powmin Bv.wrap_neg Bv.eq_u Bv.ne_u Bv.shr_min Bv.shr_pow Bv.tmod2 Bv.and1 Bv.wrap_add Bv.B1_eq1 Bv.B1_eq0 Bv.B1_ne1 Bv.B1_ne0

theorem Held.alloc {w W : World} {L : List (Nat × Int × Rl.Rows)} (h : Held w L W) (o : Obj) : Held w L (W.alloc o) := h.step ((Below.refl _ W).alloc (Nat.le_refl _) o)
theorem below_push {W W' : World} {o : Obj} (hg : (W.alloc o).grownBy W' (some W.heap.size)) : Below W.heap.size W W' :=
  ((Below.refl _ W).alloc (Nat.le_refl _) o).grown hg (by simp) (fun k e => by injection e with e; omega)
theorem of_lit (n : Nat) (A : Option Addr) (l : List (Int × Int)) (len cap : Nat) (w : World) (hlen : l.length = len) (hb : ofB n l = true) (hl : l.length ≤ maxLen) (hA : PairsAt w A l) :
    Calls Tryd.prog 78 #[.int .i64 n, .slice A len cap] w fun e w' => e = .returned (.agg (relC n (ofR l))) ∧ Below w.heap.size w w' := by
  subst hlen; exact of_good n A l cap w hb hl hA
theorem ofE_lit (n : Int) (A : Option Addr) (l : List (Int × Int)) (len cap : Nat) (w : World) (hlen : l.length = len) (hb : ofB n l = false) (hl : l.length ≤ maxLen) (hA : PairsAt w A l) :
    Calls Tryd.prog 41 #[.int .i64 n, .slice A len cap] w fun e w' => e = .returned (.tuple #[.agg (relC 0 zeroR), .int .i64 2]) ∧ Below w.heap.size w w' := by
  subst hlen
  have h := of_any n A l cap w hl hA
  rw [(of_false hb).1, (of_false hb).2.1, (of_false hb).2.2] at h
  exact h
theorem pairs_lit (A B : Option Addr) (l : List (Int × Int)) (m k c d : Nat) (w : World) (hm : l.length = m) (hk : l.length = k) (hl : l.length ≤ maxLen) (hA : PairsAt w A l) (hB : PairsAt w B l) :
    Calls Tryd.prog 64 #[.slice A m c, .slice B k d] w fun e w' => e = .returned (.bool true) ∧ Below w.heap.size w w' := by
  subst hm; subst hk; exact pairs_same A B l c d w hl hA hB
theorem ints_lit2 (A B : Option Addr) (l : List Int) (m k c d : Nat) (w : World) (hm : l.length = m) (hk : l.length = k) (hl : l.length ≤ maxLen) (hA : IntsAt w A l) (hB : IntsAt w B l) :
    Calls Tryd.prog 32 #[.slice A m c, .slice B k d] w fun e w' => e = .returned (.bool true) ∧ Below w.heap.size w w' := by
  subst hm; subst hk; exact ints_true A B l c d w hl hA hB
theorem topA_is (w : World) (hT : Tab w ∧ 0 < w.heap.size) : Calls Tryd.prog 27 #[.agg (relC 4 (ofR awA))] w (TopOut none w) := by
  have h := top_yes 4 (ofR awA) w awOkA hT.1 hT.2
  rw [topA] at h; exact h
theorem topB_is (w : World) (hT : Tab w ∧ 0 < w.heap.size) : Calls Tryd.prog 27 #[.agg (relC 4 (ofR awB))] w (TopOut (some [0, 1, 2, 3]) w) := by
  have h := top_yes 4 (ofR awB) w awOkB hT.1 hT.2
  rw [topB] at h; exact h
theorem acA_is (w : World) (hT : Tab w ∧ 0 < w.heap.size) : Calls Tryd.prog 26 #[.agg (relC 4 (ofR awA))] w fun e w' => e = .returned (.bool false) ∧ Below w.heap.size w w' :=
  acyclic_is ((4 : Nat) : Int) _ false (by unfold topR; rw [Rl.right_of awOkA, if_pos rfl]; show (Rl.topL 4 (ofR awA)).isSome = false; rw [topA]; rfl) w awOkA.z hT.1 hT.2
theorem ringA_is (w : World) (hT : Tab w ∧ 0 < w.heap.size) : Calls Tryd.prog 23 #[.agg (relC 4 (ofR awA))] w (RingOut [0, 1, 2] w) := by
  have h := ring_yes 4 (ofR awA) w awOkA hT.1 hT.2
  rw [ringA] at h; exact h
theorem ringC_is (w : World) (hT : Tab w ∧ 0 < w.heap.size) : Calls Tryd.prog 23 #[.agg (relC 3 (ofR awC))] w (RingOut [2] w) := by
  have h := ring_yes 3 (ofR awC) w awOkC hT.1 hT.2
  rw [ringC] at h; exact h
theorem pairsA_is (w : World) (hT : Tab w ∧ 0 < w.heap.size) : Calls Tryd.prog 28 #[.agg (relC 4 (Rl.thenF 4 (ofR awA) (ofR awA)))] w (PairsOut [(0, 2), (1, 0), (1, 3), (2, 1)] w) := by
  have h := pairs_yes 4 (Rl.thenF 4 (ofR awA) (ofR awA)) w (Rl.ok_then awOkA awOkA) hT.1 hT.2
  rw [thenA] at h; exact h
theorem thenA_is (w : World) (hT : Tab w ∧ 0 < w.heap.size) : Calls Tryd.prog 18 #[.agg (relC 4 (ofR awA)), .agg (relC 4 (ofR awA))] w fun e w' => e = .returned (.tuple #[.agg (relC 4 (Rl.thenF 4 (ofR awA) (ofR awA))), .int .i64 0]) ∧ Below w.heap.size w w' := then_ok 4 _ _ w awOkA awOkA hT
theorem plusA_is (w : World) (hT : Tab w ∧ 0 < w.heap.size) : Calls Tryd.prog 25 #[.agg (relC 4 (ofR awA))] w fun e w' => e = .returned (.agg (relC 4 (Rl.plusF 4 (ofR awA)))) ∧ Below w.heap.size w w' := plus_fine 4 _ w awOkA hT
theorem hasA_is (a b : Nat) (r : Bool) (h : Rl.bit (Rl.plusF 4 (ofR awA)) a b = r) (w : World) : Calls Tryd.prog 29 #[.agg (relC 4 (Rl.plusF 4 (ofR awA))), .int .i64 a, .int .i64 b] w fun e w' => e = .returned (.bool r) ∧ Below w.heap.size w w' :=
  has_is ((4 : Nat) : Int) _ a b r (by rw [pairB_ok (Rl.ok_plus awOkA)]; exact h) w (Rl.ok_plus awOkA).z
theorem has00_is (w : World) : Calls Tryd.prog 29 #[.agg (relC 4 (Rl.plusF 4 (ofR awA))), .int .i64 0, .int .i64 0] w fun e w' => e = .returned (.bool true) ∧ Below w.heap.size w w' := hasA_is 0 0 true plusA00 w
theorem has03_is (w : World) : Calls Tryd.prog 29 #[.agg (relC 4 (Rl.plusF 4 (ofR awA))), .int .i64 0, .int .i64 3] w fun e w' => e = .returned (.bool true) ∧ Below w.heap.size w w' := hasA_is 0 3 true plusA03 w
theorem has33_is (w : World) : Calls Tryd.prog 29 #[.agg (relC 4 (Rl.plusF 4 (ofR awA))), .int .i64 3, .int .i64 3] w fun e w' => e = .returned (.bool false) ∧ Below w.heap.size w w' := hasA_is 3 3 false plusA33 w
set_option maxRecDepth 100000 in
set_option maxHeartbeats 4000000 in
theorem awake_any (w : World) (hT : Tab w) (hw : 0 < w.heap.size) :
    Calls Tryd.prog 22 #[] w fun e w' => e = .returned (.bool true) ∧ Below w.heap.size w w' := by
  have hzr := zero_rel
  have hne0 : ¬ relC 0 zeroR = #[] := by intro h; have := congrArg Array.size h; rw [relC_size] at this; simp at this
  have hTl : ∀ W, Below w.heap.size w W → Tab W ∧ 0 < W.heap.size := fun W h => ⟨hT.below h hw, Nat.lt_of_lt_of_le hw h.size⟩
  have HT := Lib.hid hTl
  clear hTl hT
  go_enter Tryd.func22, Tryd.ntmps22
  go_wp2_with fail
  refine (of_lit 4 _ awA 4 4 _ (by rfl) (by decide +kernel) (by decide) (lit_pairsN _ _ _ _ _ (by simp) (by rfl))).mono ?_
  rintro e w1 ⟨rfl, hb⟩
  have H1 := Lib.hid (((Held.nil w).alloc _).step hb)
  clear hb
  go_wp2_with (refine wpList_store_rel (by rfl) (.tmp 1) (.tmp 17) (by rfl) w1.heap.size 4 0 (ofR awA) zeroR (by rfl) (by rfl) (RelAt.new w1 0 zeroR) ?_; intro w2 hR hg; have H2 := Lib.hid (H1.out.push hR hg); clear hR hg)
  refine (of_lit 4 _ awB 3 3 _ (by rfl) (by decide +kernel) (by decide) (lit_pairsN _ _ _ _ _ (by simp) (by rfl))).mono ?_
  rintro e w3 ⟨rfl, hb⟩
  have H3 := Lib.hid ((H2.out.alloc _).step hb)
  clear hb
  go_wp2_with (first | (refine wpList_store_rel (by rfl) (.tmp 2) (.tmp 22) (by rfl) w3.heap.size 4 0 (ofR awB) zeroR (by rfl) (by rfl) (RelAt.new w3 0 zeroR) ?_; intro w4 hR hg; have H4 := Lib.hid (H3.out.push hR hg); clear hR hg) | (refine wpList_load_rel (by rfl) (.tmp 1) (by rfl) w1.heap.size 4 (ofR awA) (by rfl) (H4.out.at 0 rfl) ?_))
  with_reducible refine (thenA_is _ (HT.out _ H4.out.bel)).mono ?_
  rintro e w5 ⟨rfl, hb⟩
  have H5 := Lib.hid (H4.out.step hb)
  clear hb
  go_wp2_with (first | (refine wpList_store_rel (by rfl) (.tmp 3) (.tmp 27) (by rfl) w5.heap.size 4 0 (Rl.thenF 4 (ofR awA) (ofR awA)) zeroR (by rfl) (by rfl) (RelAt.new w5 0 zeroR) ?_; intro w6 hR hg; have H6 := Lib.hid (H5.out.push hR hg); clear hR hg) | (refine wpList_load_rel (by rfl) (.tmp 1) (by rfl) w1.heap.size 4 (ofR awA) (by rfl) (H6.out.at 0 rfl) ?_))
  with_reducible refine (plusA_is _ (HT.out _ H6.out.bel)).mono ?_
  rintro e w7 ⟨rfl, hb⟩
  have H7 := Lib.hid (H6.out.step hb)
  clear hb
  go_wp2_with (first | (refine wpList_store_rel (by rfl) (.tmp 5) (.tmp 30) (by rfl) w7.heap.size 4 0 (Rl.plusF 4 (ofR awA)) zeroR (by rfl) (by rfl) (RelAt.new w7 0 zeroR) ?_; intro w8 hR hg; have H8 := Lib.hid (H7.out.push hR hg); clear hR hg) | (refine wpList_load_rel (by rfl) (.tmp 1) (by rfl) w1.heap.size 4 (ofR awA) (by rfl) (H8.out.at 0 rfl) ?_))
  with_reducible refine (topA_is _ (HT.out _ H8.out.bel)).mono ?_
  rintro e w9 ⟨v9, rfl, _, hb⟩
  have H9 := Lib.hid (H8.out.step hb)
  clear hb
  go_wp2_with (first | (refine wpList_load_rel (by rfl) (.tmp 2) (by rfl) w3.heap.size 4 (ofR awB) (by rfl) (H9.out.at 1 rfl) ?_))
  with_reducible refine (topB_is _ (HT.out _ H9.out.bel)).mono ?_
  rintro e w10 ⟨v10, rfl, hrow, hb⟩
  obtain ⟨A10, c10, rfl, _, _, hA10⟩ := row_nums hrow
  have H10 := Lib.hid (And.intro (H9.out.step hb) hA10)
  clear hb hrow hA10
  go_wp2_with fail
  refine (ofE_lit 2 _ [(0, 2)] 1 1 _ (by rfl) (by decide +kernel) (by decide) (lit_pairsN _ _ _ _ _ (by simp) (by rfl))).mono ?_
  rintro e w11 ⟨rfl, hb⟩
  have H11 := Lib.hid (And.intro ((H10.out.1.alloc _).step hb) ((H10.out.2.below ((Below.refl _ _).alloc (Nat.le_refl _) _) (Nat.le_refl _)).below hb (Nat.le_refl _)))
  clear hb
  go_wp2_with (first | (refine wpList_store_rel (by rfl) (.tmp 10) (.tmp 45) (by rfl) w11.heap.size 0 0 zeroR zeroR (by rfl) (by rfl) (RelAt.new w11 0 zeroR) ?_; intro w12 hR hg; have H12 := Lib.hid (And.intro (H11.out.1.push hR hg) (H11.out.2.below (below_push hg) (Nat.le_refl _))); clear hR hg) | (refine wpList_load_rel_want (by rfl) (.tmp 3) (by rfl) w5.heap.size 4 (Rl.thenF 4 (ofR awA) (ofR awA)) (by rfl) (H12.out.1.at 2 rfl) ?_))
  with_reducible refine (pairsA_is _ (HT.out _ H12.out.1.bel)).mono ?_
  rintro e w13 ⟨v13, rfl, hrow, hb⟩
  obtain ⟨A13, c13, e13, l13, _, hA13⟩ := row_pairs hrow
  rw [l13] at e13
  subst e13
  have H13 := Lib.hid (And.intro (H12.out.1.step hb) (And.intro (H12.out.2.below hb (Nat.le_refl _)) hA13))
  clear hb hrow hA13 l13
  go_wp2_with fail
  refine (pairs_lit _ _ (pI [(0, 2), (1, 0), (1, 3), (2, 1)]) 4 4 _ _ _ (by rfl) (by rfl) (by decide) (H13.out.2.2.below ((Below.refl _ _).alloc (Nat.le_refl _) _) (Nat.le_refl _)) (lit_pairsN _ _ _ _ _ (by simp) (by rfl))).mono ?_
  rintro e w14 ⟨rfl, hb⟩
  have H14 := Lib.hid (And.intro ((H13.out.1.alloc _).step hb) ((H13.out.2.1.below ((Below.refl _ _).alloc (Nat.le_refl _) _) (Nat.le_refl _)).below hb (Nat.le_refl _)))
  clear hb
  go_wp2_with (first | (refine wpList_load_rel_want (by rfl) (.tmp 5) (by rfl) w7.heap.size 4 (Rl.plusF 4 (ofR awA)) (by rfl) (H14.out.1.at 3 rfl) ?_))
  with_reducible refine (has00_is _).mono ?_
  rintro e w15 ⟨rfl, hb⟩
  have H15 := Lib.hid (And.intro ((H14.out.1).step hb) (H14.out.2.below hb (Nat.le_refl _)))
  clear hb
  go_wp2_with (first | (refine wpList_load_rel_want (by rfl) (.tmp 5) (by rfl) w7.heap.size 4 (Rl.plusF 4 (ofR awA)) (by rfl) (H15.out.1.at 3 rfl) ?_))
  with_reducible refine (has03_is _).mono ?_
  rintro e w16 ⟨rfl, hb⟩
  have H16 := Lib.hid (And.intro ((H15.out.1).step hb) (H15.out.2.below hb (Nat.le_refl _)))
  clear hb
  go_wp2_with (first | (refine wpList_load_rel_want (by rfl) (.tmp 5) (by rfl) w7.heap.size 4 (Rl.plusF 4 (ofR awA)) (by rfl) (H16.out.1.at 3 rfl) ?_))
  with_reducible refine (has33_is _).mono ?_
  rintro e w17 ⟨rfl, hb⟩
  have H17 := Lib.hid (And.intro ((H16.out.1).step hb) (H16.out.2.below hb (Nat.le_refl _)))
  clear hb
  go_wp2_with (first | (refine wpList_load_rel_want (by rfl) (.tmp 1) (by rfl) w1.heap.size 4 (ofR awA) (by rfl) (H17.out.1.at 0 rfl) ?_))
  with_reducible refine (acA_is _ (HT.out _ H17.out.1.bel)).mono ?_
  rintro e w18 ⟨rfl, hb⟩
  have H18 := Lib.hid (And.intro ((H17.out.1).step hb) (H17.out.2.below hb (Nat.le_refl _)))
  clear hb
  go_wp2_with (first | (refine wpList_load_rel_want (by rfl) (.tmp 1) (by rfl) w1.heap.size 4 (ofR awA) (by rfl) (H18.out.1.at 0 rfl) ?_))
  with_reducible refine (ringA_is _ (HT.out _ H18.out.1.bel)).mono ?_
  rintro e w19 ⟨v19, rfl, hrow, hb⟩
  obtain ⟨A19, c19, rfl, _, _, hA19⟩ := row_nums hrow
  have H19 := Lib.hid (And.intro (H18.out.1.step hb) (And.intro (H18.out.2.below hb (Nat.le_refl _)) hA19))
  clear hb hrow hA19
  go_wp2_with fail
  refine (ints_lit2 _ _ (ints [0, 1, 2]) 3 3 _ _ _ (by rfl) (by rfl) (by decide) (H19.out.2.2.below ((Below.refl _ _).alloc (Nat.le_refl _) _) (Nat.le_refl _)) (lit_intsN _ _ _ _ _ (by simp) (by rfl))).mono ?_
  rintro e w20 ⟨rfl, hb⟩
  have H20 := Lib.hid (And.intro ((H19.out.1.alloc _).step hb) ((H19.out.2.1.below ((Below.refl _ _).alloc (Nat.le_refl _) _) (Nat.le_refl _)).below hb (Nat.le_refl _)))
  clear hb
  go_wp2_with fail
  refine (ints_lit2 _ _ (ints [0, 1, 2, 3]) 4 4 _ _ _ (by rfl) (by rfl) (by decide) (H20.out.2.below ((Below.refl _ _).alloc (Nat.le_refl _) _) (Nat.le_refl _)) (lit_intsN _ _ _ _ _ (by simp) (by rfl))).mono ?_
  rintro e w21 ⟨rfl, hb⟩
  have H21 := Lib.hid ((H20.out.1.alloc _).step hb)
  clear hb
  go_wp2_with fail
  refine (of_lit 3 _ awC 3 3 _ (by rfl) (by decide +kernel) (by decide) (lit_pairsN _ _ _ _ _ (by simp) (by rfl))).mono ?_
  rintro e w22 ⟨rfl, hb⟩
  have H22 := Lib.hid ((H21.out.alloc _).step hb)
  clear hb
  go_wp2_with fail
  refine (ringC_is _ (HT.out _ H22.out.bel)).mono ?_
  rintro e w23 ⟨v23, rfl, hrow, hb⟩
  obtain ⟨A23, c23, rfl, _, _, hA23⟩ := row_nums hrow
  have H23 := Lib.hid (And.intro (H22.out.step hb) hA23)
  clear hb hrow hA23
  go_wp2_with fail
  refine (ints_lit2 _ _ (ints [2]) 1 1 _ _ _ (by rfl) (by rfl) (by decide) (H23.out.2.below ((Below.refl _ _).alloc (Nat.le_refl _) _) (Nat.le_refl _)) (lit_intsN _ _ _ _ _ (by simp) (by rfl))).mono ?_
  rintro e w24 ⟨rfl, hb⟩
  have H24 := Lib.hid ((H23.out.1.alloc _).step hb)
  clear hb
  go_wp2_with fail
  go_ret
  exact ⟨rfl, H24.out.bel⟩
end Go.Proofs.YtknjdfgmejobfaaDoor
