/- seisinlaw03: awake, the walk. -/
import Derived.Test.YtknjdfgmejobfaaDoorSm
namespace Go.Proofs.YtknjdfgmejobfaaDoor
open Go.RowKit Go.Shelf

attribute [-go_sem] run_eql_struct run_neq_struct
attribute [local go_sem] Bv.and_u Bv.or_u Bv.andNot_u Bv.wrap_sub1 Bv.eq0 Bv.ne0 Bv.wrap_pow Bv.wrap_powmin Bv.wrap_neg Bv.eq_u Bv.ne_u

/-- lists that are written out: the last block holds them -/
theorem lit_lists (W : World) (l : List (List Nat)) (cs : Array Value) (e : TypeId) (n : Nat) (hn : W.heap.size = n) (hc : ∀ (i : Nat) (x : List Nat), l[i]? = some x → ∃ (B : Option Addr) (c : Nat), cs[i]? = some (Value.slice B x.length c) ∧ x.length ≤ 64 ∧ IntsAt W B (ints x)) : ListsAt (W.alloc (.cells cs e)) (some ⟨n, 0, none⟩) l := by
  subst hn
  intro _
  refine ⟨W.heap.size, 0, rfl, by simp, fun i x hx => ?_⟩
  obtain ⟨B, c, h1, h2, h3⟩ := hc i x hx
  refine ⟨B, c, ?_, h2, h3.below ((Below.refl _ _).alloc (Nat.le_refl _) _) (Nat.le_refl _)⟩
  rw [Nat.zero_add, cell_of_row _ _ i _ _ _ (World.alloc_heap_new W _), h1]
theorem lit_empty (W : World) : ListsAt ((W.alloc (.cells #[] 3)).alloc (.cells #[.slice (some ⟨W.heap.size, 0, none⟩) 0 0] 35)) (some ⟨W.heap.size + 1, 0, none⟩) [[]] := by
  refine lit_lists _ _ _ _ _ (by simp) fun i x hx => ?_
  rcases i with _ | i
  · injection hx with hx; subst hx
    exact ⟨_, _, rfl, by decide, fun h => by simp [ints] at h⟩
  · simp at hx
theorem lit_three (W : World) : ListsAt ((((W.alloc (.cells #[.int .i64 0, .int .i64 1, .int .i64 2] 3)).alloc (.cells #[.int .i64 0, .int .i64 2, .int .i64 1] 3)).alloc (.cells #[.int .i64 2, .int .i64 0, .int .i64 1] 3)).alloc (.cells #[.slice (some ⟨W.heap.size, 0, none⟩) 3 3, .slice (some ⟨W.heap.size + 1, 0, none⟩) 3 3, .slice (some ⟨W.heap.size + 1 + 1, 0, none⟩) 3 3] 35)) (some ⟨W.heap.size + 1 + 1 + 1, 0, none⟩) [[0, 1, 2], [0, 2, 1], [2, 0, 1]] := by
  refine lit_lists _ _ _ _ _ (by simp) fun i x hx => ?_
  rcases i with _ | _ | _ | i
  · injection hx with hx; subst hx
    exact ⟨_, _, rfl, by decide, ((lit_intsN W _ (ints [0, 1, 2]) _ _ (by simp) (by rfl)).below ((Below.refl _ _).alloc (Nat.le_refl _) _) (Nat.le_refl _)).below ((Below.refl _ _).alloc (Nat.le_refl _) _) (Nat.le_refl _)⟩
  · injection hx with hx; subst hx
    exact ⟨_, _, rfl, by decide, (lit_intsN _ _ (ints [0, 2, 1]) _ _ (by simp) (by rfl)).below ((Below.refl _ _).alloc (Nat.le_refl _) _) (Nat.le_refl _)⟩
  · injection hx with hx; subst hx
    exact ⟨_, _, rfl, by decide, lit_intsN _ _ (ints [2, 0, 1]) _ _ (by simp) (by rfl)⟩
  · simp at hx
set_option maxRecDepth 100000 in
set_option maxHeartbeats 4000000 in
theorem awake_any3 (w : World) (hT : Tab w) (hw : 0 < w.heap.size) :
    Calls Tryd.prog 45 #[] w fun e w' => e = .returned (.bool true) ∧ Below w.heap.size w w' := by
  have hzr := zero_rel
  have hbr := build_rel
  have hbz := build_zero
  have hne0 : ¬ relC 0 zeroR = #[] := by intro h; have := congrArg Array.size h; rw [relC_size] at this; simp at this
  have hTl : ∀ W, Below w.heap.size w W → Tab W ∧ 0 < W.heap.size := fun W h => ⟨hT.below h hw, Nat.lt_of_lt_of_le hw h.size⟩
  have HT := Lib.hid hTl
  clear hTl hT
  go_enter Tryd.func45, Tryd.ntmps45
  go_wp2_with fail
  refine (a1 _ _ _ (lit_pairsN _ _ _ _ _ (by simp) (by rfl))).mono ?_
  rintro e w1 ⟨rfl, hb⟩
  have H1 := Lib.hid (((Held.nil w).alloc _).step hb)
  clear hb 
  go_wp2_with (first | (refine wpList_store_rel (by rfl) (.tmp 1) (.tmp 29) (by rfl) w1.heap.size 3 0 (ofR xA) zeroR (by rfl) (by rfl) (RelAt.new w1 0 zeroR) ?_; intro w1' hR hg; have H2 := Lib.hid (H1.out.push hR hg); clear hR hg) | (refine wpList_load_rel (by rfl) (.tmp 1) (by rfl) w1.heap.size 3 (ofR xA) (by rfl) (H2.out.at 0 rfl) ?_))
  with_reducible refine (a2 _ (HT.out _ H2.out.bel)).mono ?_
  rintro e w2 ⟨A2, c2, rfl, hl, hb⟩
  have H3 := Lib.hid (And.intro (H2.out.step hb) hl)
  clear hb hl
  go_wp2_with (first | (refine wpList_load_rel (by rfl) (.tmp 1) (by rfl) w1.heap.size 3 (ofR xA) (by rfl) (H3.out.1.at 0 rfl) ?_))
  with_reducible refine (a3 _ (HT.out _ H3.out.1.bel)).mono ?_
  rintro e w3 ⟨rfl, hb⟩
  have H4 := Lib.hid (And.intro (H3.out.1.step hb) (H3.out.2.below hb (Nat.le_refl _)))
  clear hb 
  go_wp2_with (first | (refine wpList_load_rel (by rfl) (.tmp 1) (by rfl) w1.heap.size 3 (ofR xA) (by rfl) (H4.out.1.at 0 rfl) ?_))
  with_reducible refine (a4 _ (HT.out _ H4.out.1.bel)).mono ?_
  rintro e w4 ⟨rfl, hb⟩
  have H5 := Lib.hid (And.intro (H4.out.1.step hb) (H4.out.2.below hb (Nat.le_refl _)))
  clear hb 
  go_wp2_with fail
  refine (a5 _ _ _ (lit_pairsN _ _ _ _ _ (by simp) (by rfl))).mono ?_
  rintro e w5 ⟨rfl, hb⟩
  have H6 := Lib.hid (And.intro ((H5.out.1.alloc _).step hb) ((H5.out.2.below ((Below.refl _ _).alloc (Nat.le_refl _) _) (Nat.le_refl _)).below hb (Nat.le_refl _)))
  clear hb 
  go_wp2_with (first | (refine wpList_store_rel (by rfl) (.tmp 9) (.tmp 51) (by rfl) w5.heap.size 2 0 (ofR xB) zeroR (by rfl) (by rfl) (RelAt.new w5 0 zeroR) ?_; intro w5' hR hg; have H7 := Lib.hid (And.intro (H6.out.1.push hR hg) (H6.out.2.below (below_push hg) (Nat.le_refl _))); clear hR hg) | (refine wpList_load_rel (by rfl) (.tmp 9) (by rfl) w5.heap.size 2 (ofR xB) (by rfl) (H7.out.1.at 1 rfl) ?_))
  with_reducible refine (a6 _ (HT.out _ H7.out.1.bel)).mono ?_
  rintro e w6 ⟨A6, c6, rfl, hb⟩
  have H8 := Lib.hid (And.intro (H7.out.1.step hb) (H7.out.2.below hb (Nat.le_refl _)))
  clear hb 
  go_wp2_with fail
  refine (a7 _ _ _ (lit_intsN _ _ _ _ _ (by simp) (by rfl))).mono ?_
  rintro e w7 ⟨rfl, hb⟩
  have H9 := Lib.hid (And.intro ((H8.out.1.alloc _).step hb) ((H8.out.2.below ((Below.refl _ _).alloc (Nat.le_refl _) _) (Nat.le_refl _)).below hb (Nat.le_refl _)))
  clear hb 
  go_wp2_with (first | (refine wpList_store_rel (by rfl) (.tmp 13) (.tmp 61) (by rfl) w7.heap.size 3 0 (totL [2, 0, 1]) zeroR (by rfl) (by rfl) (RelAt.new w7 0 zeroR) ?_; intro w7' hR hg; have H10 := Lib.hid (And.intro (H9.out.1.push hR hg) (H9.out.2.below (below_push hg) (Nat.le_refl _))); clear hR hg))
  refine (a8 _ _ _ (lit_intsN _ _ _ _ _ (by simp) (by rfl))).mono ?_
  rintro e w8 ⟨rfl, hb⟩
  have H11 := Lib.hid (And.intro ((H10.out.1.alloc _).step hb) ((H10.out.2.below ((Below.refl _ _).alloc (Nat.le_refl _) _) (Nat.le_refl _)).below hb (Nat.le_refl _)))
  clear hb 
  go_wp2_with (first | (refine wpList_store_rel (by rfl) (.tmp 15) (.tmp 66) (by rfl) w8.heap.size 0 0 zeroR zeroR (by rfl) (by rfl) (RelAt.new w8 0 zeroR) ?_; intro w8' hR hg; have H12 := Lib.hid (And.intro (H11.out.1.push hR hg) (H11.out.2.below (below_push hg) (Nat.le_refl _))); clear hR hg))
  refine (a9 _ _ _ (lit_pairsN _ _ _ _ _ (by simp) (by rfl))).mono ?_
  rintro e w9 ⟨rfl, hb⟩
  have H13 := Lib.hid (And.intro ((H12.out.1.alloc _).step hb) ((H12.out.2.below ((Below.refl _ _).alloc (Nat.le_refl _) _) (Nat.le_refl _)).below hb (Nat.le_refl _)))
  clear hb 
  go_wp2_with (first | (refine wpList_store_rel (by rfl) (.tmp 17) (.tmp 72) (by rfl) w9.heap.size 2 0 (ofR xA) zeroR (by rfl) (by rfl) (RelAt.new w9 0 zeroR) ?_; intro w9' hR hg; have H14 := Lib.hid (And.intro (H13.out.1.push hR hg) (H13.out.2.below (below_push hg) (Nat.le_refl _))); clear hR hg) | (refine wpList_load_rel (by rfl) (.tmp 17) (by rfl) w9.heap.size 2 (ofR xA) (by rfl) (H14.out.1.at 4 rfl) ?_))
  with_reducible refine (a10 _ (HT.out _ H14.out.1.bel)).mono ?_
  rintro e w10 ⟨A10, c10, rfl, hi, hb⟩
  have H15 := Lib.hid (And.intro (H14.out.1.step hb) (And.intro (H14.out.2.below hb (Nat.le_refl _)) hi))
  clear hb hi
  go_wp2_with fail
  rw [relC_setN]
  with_reducible refine (a11 _ (HT.out _ H15.out.1.bel)).mono ?_
  rintro e w11 ⟨v11, rfl, hb⟩
  have H16 := Lib.hid (And.intro (H15.out.1.step hb) (And.intro (H15.out.2.1.below hb (Nat.le_refl _)) (H15.out.2.2.below hb (Nat.le_refl _))))
  clear hb 
  go_wp2_with fail
  with_reducible refine (a12 _ (HT.out _ H16.out.1.bel)).mono ?_
  rintro e w12 ⟨A12, c12, rfl, hl, hb⟩
  have H17 := Lib.hid (And.intro (H16.out.1.step hb) (And.intro (H16.out.2.1.below hb (Nat.le_refl _)) (And.intro (H16.out.2.2.below hb (Nat.le_refl _)) hl)))
  clear hb hl
  go_wp2_with fail
  refine (lists_same _ _ [[0, 1, 2], [0, 2, 1], [2, 0, 1]] 3 3 _ _ _ (by rfl) (by rfl) (by decide) ((((H17.out.2.1.below ((Below.refl _ _).alloc (Nat.le_refl _) _) (Nat.le_refl _)).below ((Below.refl _ _).alloc (Nat.le_refl _) _) (Nat.le_refl _)).below ((Below.refl _ _).alloc (Nat.le_refl _) _) (Nat.le_refl _)).below ((Below.refl _ _).alloc (Nat.le_refl _) _) (Nat.le_refl _)) (lit_three _)).mono ?_
  rintro e w13 ⟨rfl, hb⟩
  have H18 := Lib.hid (And.intro (((((H17.out.1.alloc _).alloc _).alloc _).alloc _).step hb) (And.intro (((((H17.out.2.1.below ((Below.refl _ _).alloc (Nat.le_refl _) _) (Nat.le_refl _)).below ((Below.refl _ _).alloc (Nat.le_refl _) _) (Nat.le_refl _)).below ((Below.refl _ _).alloc (Nat.le_refl _) _) (Nat.le_refl _)).below ((Below.refl _ _).alloc (Nat.le_refl _) _) (Nat.le_refl _)).below hb (Nat.le_refl _)) (And.intro (((((H17.out.2.2.1.below ((Below.refl _ _).alloc (Nat.le_refl _) _) (Nat.le_refl _)).below ((Below.refl _ _).alloc (Nat.le_refl _) _) (Nat.le_refl _)).below ((Below.refl _ _).alloc (Nat.le_refl _) _) (Nat.le_refl _)).below ((Below.refl _ _).alloc (Nat.le_refl _) _) (Nat.le_refl _)).below hb (Nat.le_refl _)) (((((H17.out.2.2.2.below ((Below.refl _ _).alloc (Nat.le_refl _) _) (Nat.le_refl _)).below ((Below.refl _ _).alloc (Nat.le_refl _) _) (Nat.le_refl _)).below ((Below.refl _ _).alloc (Nat.le_refl _) _) (Nat.le_refl _)).below ((Below.refl _ _).alloc (Nat.le_refl _) _) (Nat.le_refl _)).below hb (Nat.le_refl _)))))
  clear hb 
  rename_i kx hx
  simp only [List.append_eq, List.cons_append, List.nil_append] at hx
  go_wp2_with (first | (refine wpList_load_rel_want (by kernel_rfl) (.tmp 13) (by rfl) w7.heap.size 3 (totL [2, 0, 1]) (by rfl) (H18.out.1.at 2 rfl) ?_))
  with_reducible refine (a13 _).mono ?_
  rintro e w14 ⟨rfl, hb⟩
  have H19 := Lib.hid (And.intro (H18.out.1.step hb) (And.intro (H18.out.2.1.below hb (Nat.le_refl _)) (And.intro (H18.out.2.2.1.below hb (Nat.le_refl _)) (H18.out.2.2.2.below hb (Nat.le_refl _)))))
  clear hb 
  go_wp2_with (first | (refine wpList_load_rel_want (by kernel_rfl) (.tmp 13) (by rfl) w7.heap.size 3 (totL [2, 0, 1]) (by rfl) (H19.out.1.at 2 rfl) ?_))
  with_reducible refine (a14 _).mono ?_
  rintro e w15 ⟨rfl, hb⟩
  have H20 := Lib.hid (And.intro (H19.out.1.step hb) (And.intro (H19.out.2.1.below hb (Nat.le_refl _)) (And.intro (H19.out.2.2.1.below hb (Nat.le_refl _)) (H19.out.2.2.2.below hb (Nat.le_refl _)))))
  clear hb 
  go_wp2_with (first | (refine wpList_load_rel_want (by kernel_rfl) (.tmp 13) (by rfl) w7.heap.size 3 (totL [2, 0, 1]) (by rfl) (H20.out.1.at 2 rfl) ?_))
  with_reducible refine (a15 _).mono ?_
  rintro e w16 ⟨rfl, hb⟩
  have H21 := Lib.hid (And.intro (H20.out.1.step hb) (And.intro (H20.out.2.1.below hb (Nat.le_refl _)) (And.intro (H20.out.2.2.1.below hb (Nat.le_refl _)) (H20.out.2.2.2.below hb (Nat.le_refl _)))))
  clear hb 
  go_wp2_with (first | (refine wpList_load_rel_want (by kernel_rfl) (.tmp 13) (by rfl) w7.heap.size 3 (totL [2, 0, 1]) (by rfl) (H21.out.1.at 2 rfl) ?_))
  with_reducible refine (a16 _ (HT.out _ H21.out.1.bel)).mono ?_
  rintro e w17 ⟨A16, c16, rfl, hb⟩
  have H22 := Lib.hid (And.intro (H21.out.1.step hb) (And.intro (H21.out.2.1.below hb (Nat.le_refl _)) (And.intro (H21.out.2.2.1.below hb (Nat.le_refl _)) (H21.out.2.2.2.below hb (Nat.le_refl _)))))
  clear hb 
  go_wp2_with (first | (refine wpList_load_rel_want (by kernel_rfl) (.tmp 17) (by rfl) w9.heap.size 2 (ofR xA) (by rfl) (H22.out.1.at 4 rfl) ?_))
  refine (a17 _ _ _ (lit_intsN _ _ _ _ _ (by simp) (by rfl)) (HT.out _ (H22.out.1.alloc _).bel)).mono ?_
  rintro e w18 ⟨rfl, hb⟩
  have H23 := Lib.hid (And.intro ((H22.out.1.alloc _).step hb) (And.intro ((H22.out.2.1.below ((Below.refl _ _).alloc (Nat.le_refl _) _) (Nat.le_refl _)).below hb (Nat.le_refl _)) (And.intro ((H22.out.2.2.1.below ((Below.refl _ _).alloc (Nat.le_refl _) _) (Nat.le_refl _)).below hb (Nat.le_refl _)) ((H22.out.2.2.2.below ((Below.refl _ _).alloc (Nat.le_refl _) _) (Nat.le_refl _)).below hb (Nat.le_refl _)))))
  clear hb 
  go_wp2_with fail
  refine (ints_lit2 _ _ (ints [0, 1]) 2 2 _ _ _ (by rfl) (by rfl) (by decide) (H23.out.2.2.1.below ((Below.refl _ _).alloc (Nat.le_refl _) _) (Nat.le_refl _)) (lit_intsN _ _ _ _ _ (by simp) (by rfl))).mono ?_
  rintro e w19 ⟨rfl, hb⟩
  have H24 := Lib.hid (And.intro ((H23.out.1.alloc _).step hb) (And.intro ((H23.out.2.1.below ((Below.refl _ _).alloc (Nat.le_refl _) _) (Nat.le_refl _)).below hb (Nat.le_refl _)) (And.intro ((H23.out.2.2.1.below ((Below.refl _ _).alloc (Nat.le_refl _) _) (Nat.le_refl _)).below hb (Nat.le_refl _)) ((H23.out.2.2.2.below ((Below.refl _ _).alloc (Nat.le_refl _) _) (Nat.le_refl _)).below hb (Nat.le_refl _)))))
  clear hb 
  go_wp2_with fail
  refine (lists_same _ _ [[]] 1 1 _ _ _ (by rfl) (by rfl) (by decide) ((H24.out.2.2.2.below ((Below.refl _ _).alloc (Nat.le_refl _) _) (Nat.le_refl _)).below ((Below.refl _ _).alloc (Nat.le_refl _) _) (Nat.le_refl _)) (lit_empty _)).mono ?_
  rintro e w20 ⟨rfl, hb⟩
  have H25 := Lib.hid (And.intro (((H24.out.1.alloc _).alloc _).step hb) (And.intro (((H24.out.2.1.below ((Below.refl _ _).alloc (Nat.le_refl _) _) (Nat.le_refl _)).below ((Below.refl _ _).alloc (Nat.le_refl _) _) (Nat.le_refl _)).below hb (Nat.le_refl _)) (And.intro (((H24.out.2.2.1.below ((Below.refl _ _).alloc (Nat.le_refl _) _) (Nat.le_refl _)).below ((Below.refl _ _).alloc (Nat.le_refl _) _) (Nat.le_refl _)).below hb (Nat.le_refl _)) (((H24.out.2.2.2.below ((Below.refl _ _).alloc (Nat.le_refl _) _) (Nat.le_refl _)).below ((Below.refl _ _).alloc (Nat.le_refl _) _) (Nat.le_refl _)).below hb (Nat.le_refl _)))))
  clear hb 
  go_wp2_with fail
  go_ret
  exact ⟨rfl, H25.out.1.bel⟩
end Go.Proofs.YtknjdfgmejobfaaDoor
