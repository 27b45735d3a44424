/- layer 2's law: the walk of RelTells, where Of accepts the list. -/
import Derived.Test.YtknjdfgmejobfaaDoorPo
import Derived.Test.YtknjdfgmejobfaaDoorQa
namespace Go.Proofs.YtknjdfgmejobfaaDoor
open Go.RowKit Go.Shelf

attribute [-go_sem] run_eql_struct run_neq_struct
attribute [local go_sem] Bv.and_u Bv.or_u Bv.andNot_u Bv.wrap_sub1 Bv.eq0 Bv.ne0 Bv.wrap_pow Bv.wrap_powmin Bv.wrap_neg Bv.eq_u Bv.ne_u Bv.shr_min Bv.shr_pow Bv.tmod2 Bv.and1 Bv.wrap_add Bv.B1_eq1 Bv.B1_eq0 Bv.B1_ne1 Bv.B1_ne0 run_rel_eql run_rel_neq relEq_self

theorem of_len (n : Int) (A : Option Addr) (l : List (Int × Int)) (N cap : Nat) (w : World) (hN : l.length = N) (hl : N ≤ maxLen) (hA : PairsAt w A l) :
    Calls Tryd.prog 41 #[.int .i64 n, .slice A N cap] w fun e w' => e = .returned (.tuple #[.agg (relC (ofN n l) (ofF n l)), .int .i64 (ofE n l)]) ∧ Below w.heap.size w w' := by
  subst hN; exact of_any n A l cap w hl hA
theorem rof_len (n : Int) (A : Option Addr) (l : List (Int × Int)) (N cap : Nat) (w : World) (hN : l.length = N) (hl : N ≤ maxLen) (hA : PairsAt w A l) :
    Calls Tryd.prog 59 #[.int .i64 n, .slice A N cap] w fun e w' => e = .returned (.tuple #[.agg (relC (ofN n l) (ofF n l)), .bool (ofB n l)]) ∧ Below w.heap.size w w' := by
  subst hN; exact rof_any n A l cap w hl hA
theorem pairs_len_same (A B : Option Addr) (l : List (Nat × Nat)) (c d : Nat) (w : World) (hl : l.length ≤ maxLen) (hA : PairsAt w A (pI l)) (hB : PairsAt w B (pI l)) :
    Calls Tryd.prog 64 #[.slice A l.length c, .slice B l.length d] w fun e w' => e = .returned (.bool true) ∧ Below w.heap.size w w' := by
  have h := pairs_same A B (pI l) c d w (by rw [pI_len]; exact hl) hA hB
  rwa [pI_len] at h
theorem twoE_t {n m : Int} {f g : Rl.Rows} (h : okB n m f g = true) : twoE n m f g = 0 := by unfold twoE; rw [h]; rfl
theorem twoE_f {n m : Int} {f g : Rl.Rows} (h : okB n m f g = false) : twoE n m f g = 2 := by unfold twoE; rw [h]; rfl
section open2
variable {ops : Array Oper} {w0 : World} {Q : Act → (World → Prop) → Prop} {R : World → Prop} {a : Act} {rest : List Oper} {o : Oper}
/-- a call that hands back a list of pairs -/
theorem bo_pairsA (f : FuncId) (args : Array Value) (l : List (Nat × Nat)) (hc : Bo.isOpen o = true) (hw : Region.wanted o (yielded ops a.tmps) = true)
    (hv : ∀ W, (execOp a.eval o).run Tryd.prog W = .ok (.enter f args) W) (hk : ∀ W, Below w0.heap.size w0 W → Calls Tryd.prog f args W (PairsOut l W)) (hRk : ∀ W W', R W → Below W.heap.size W W' → R W')
    (h : ∀ A c, Bo.walk Tryd.prog ops (Below w0.heap.size w0) none Q rest (fun W => R W ∧ PairsAt W A (pI l)) (a.put o.dst (.slice A l.length c))) : Bo.walk Tryd.prog ops (Below w0.heap.size w0) none Q (o :: rest) R a :=
  Bo.walk_open (fun v R' => ∃ A c, v = .slice A l.length c ∧ R' = fun W => R W ∧ PairsAt W A (pI l)) hc hw
    (fun v R' ⟨A, c, _, hr⟩ W z h1 => by rw [hr] at h1 ⊢; exact ⟨hRk W _ h1.1 ((Below.refl _ W).alloc (Nat.le_refl _) z), h1.2.below ((Below.refl _ W).alloc (Nat.le_refl _) z) (Nat.le_refl _)⟩)
    ⟨_, _, none, 0, rfl, rfl⟩
    (fun W hW hR => by
      rw [hv W]
      exact ⟨rfl, (hk W hW).mono fun e w' ⟨v, he, hrow, hb⟩ => by
        obtain ⟨A, c, e1, e2, _, hA⟩ := row_pairs hrow
        rw [e2] at e1
        exact ⟨v, _, he, ⟨A, c, e1, rfl⟩, hW.trans (hb.mono hW.size), ⟨hRk W w' hR hb, hA⟩, Bo.Kept.none⟩⟩)
    (fun v R' ⟨A, c, hv, hr⟩ => by rw [hv, hr]; exact h A c)
end open2
theorem pairsR_le (n : Int) (f : Rl.Rows) (zf : Rl.Z f) : (pairsR n f).length ≤ maxLen := by
  unfold pairsR
  cases hr : Rl.rightB n f
  · exact Nat.zero_le _
  · obtain ⟨m, rfl, hm⟩ := Rl.right_nat zf hr
    rw [if_pos rfl, Int.toNat_natCast]
    have h1 := Rl.pairs_le f m
    have h2 := hm.le
    unfold maxLen; omega
set_option maxRecDepth 100000 in
set_option maxHeartbeats 1000000 in
theorem relTells_long (n : Int) (f : Rl.Rows) (m : Int) (g : Rl.Rows) (c : Int) (s t : BitVec 64) (A : Option Addr) (N cap : Nat) (w : World) (hN : 60 < N) (hT : Tab w) (hw : 0 < w.heap.size) :
    Calls Tryd.prog 12 #[.agg (relC n f), .agg (relC m g), .int .i64 c, .int .u64 (Bv.U s), .int .u64 (Bv.U t), .slice A N cap] w fun e w' => e = .returned (.bool true) ∧ Below w.heap.size w w' := by
  have hH := ((Held.nil w).box n f).box m g
  have d0 : decide ((60 : Int) < (N : Int)) = true := decide_eq_true (by omega)
  have d1 : decide (60 < N) = true := decide_eq_true hN
  have H := Lib.hid (And.intro hH.bel (And.intro (hT.below hH.bel hw) (Nat.lt_of_lt_of_le hw hH.bel.size)))
  clear hH
  go_enter Tryd.func12, Tryd.ntmps12
  go_wp2_with fail
  with_reducible refine (awake_any _ H.out.2.1 H.out.2.2).mono ?_
  rintro e w1 ⟨rfl, hb⟩
  have H1 := Lib.hid (H.out.1.trans (hb.mono H.out.1.size))
  clear hb
  go_wp2_with fail
  go_ret
  exact ⟨rfl, H1.out⟩

set_option maxRecDepth 100000 in
set_option maxHeartbeats 16000000 in
theorem relTells_c (n : Int) (f : Rl.Rows) (m : Int) (g : Rl.Rows) (c : Int) (s t : BitVec 64) (A : Option Addr) (l : List (Int × Int)) (N cap : Nat) (w : World) (zf : Rl.Z f) (zg : Rl.Z g) (hl : l.length = N) (hN : N ≤ 60) (hA : PairsAt w A l) (hob : ofB c l = true) (hT : Tab w) (hw : 0 < w.heap.size) :
    Calls Tryd.prog 12 #[.agg (relC n f), .agg (relC m g), .int .i64 c, .int .u64 (Bv.U s), .int .u64 (Bv.U t), .slice A N cap] w fun e w' => e = .returned (.bool true) ∧ Below w.heap.size w w' := by
  have hzr := zero_rel
  have hne0 : ¬ relC 0 zeroR = #[] := by intro h; have := congrArg Array.size h; rw [relC_size] at this; simp at this
  have hTl : ∀ W, Below w.heap.size w W → Tab W ∧ 0 < W.heap.size := fun W h => ⟨hT.below h hw, Nat.lt_of_lt_of_le hw h.size⟩
  have HT := Lib.hid hTl
  clear hTl hT
  have hH := ((Held.nil w).box n f).box m g
  simp only [World.size_alloc] at hH
  have d0 : decide ((60 : Int) < (N : Int)) = false := decide_eq_false (by omega)
  have d1 : decide (60 < N) = false := decide_eq_false (by omega)
  have hm : N ≤ maxLen := by unfold maxLen; omega
  obtain ⟨on, hon⟩ : ∃ x, ofN c l = x := ⟨_, rfl⟩
  obtain ⟨og, hog⟩ : ∃ x, ofF c l = x := ⟨_, rfl⟩
  have hoe : ofE c l = 0 := by unfold ofE; rw [hob]; rfl
  have cof := fun B cap w => of_len c B l N cap w hl hm
  have crof := fun B cap w => rof_len c B l N cap w hl hm
  rw [hon, hog, hoe] at cof
  rw [hon, hog, hob] at crof
  obtain ⟨rb, hrb⟩ : ∃ x, Rl.rightB n f = x := ⟨_, rfl⟩
  obtain ⟨k, hk⟩ : ∃ x, numN c = x := ⟨_, rfl⟩
  obtain ⟨ir, hir⟩ : ∃ x, idR c s = x := ⟨_, rfl⟩
  obtain ⟨cr, hcr⟩ : ∃ x, crossR c s t = x := ⟨_, rfl⟩
  have cid := fun w => id_all c s w
  have crid := fun w => rid_all c s w
  have ccr := fun w => cross_all c s t w
  have crcr := fun w => rcross_all c s t w
  rw [hk, hir] at cid crid
  rw [hk, hcr] at ccr crcr
  have hPA := hA.below hH.bel (Nat.le_refl _)
  have C := Lib.hid (And.intro cof (And.intro crof (And.intro hrb (And.intro cid (And.intro crid (And.intro ccr crcr))))))
  have Z := Lib.hid (And.intro zf zg)
  have H0 := Lib.hid (And.intro hH hPA)
  clear hH hPA cof crof hrb cid crid ccr crcr zf zg hl hm hA hob hoe hon hog hk hir hcr
  go_enter Tryd.func12, Tryd.ntmps12
  go_wp2_with fail
  generalize (w.alloc (.cells (relC n f) 26)).alloc (.cells (relC m g) 26) = W0 at H0 ⊢
  have GA := Lib.hid (rel_class (H0.out.1.at 0 rfl))
  refine wp_region_quiet_below (by kernel_rfl) (by kernel_rfl) ?_
  repeat (first | (refine wpQuiet_load_rel (by rfl) _ (by rfl) w.heap.size n f (by rfl) GA.out ?_) | go_big_quiet_step (first | (go_at_call 58; with_reducible exact Calls.regrown_of (right_is n f rb C.out.2.2.1 _)) | (go_at_call 35; with_reducible exact Calls.regrown_of (rright_is n f rb C.out.2.2.1 _ Z.out.1)) | fail) | quiet_step (first | (go_at_call 58; with_reducible exact Calls.regrown_of (right_is n f rb C.out.2.2.1 _)) | (go_at_call 35; with_reducible exact Calls.regrown_of (rright_is n f rb C.out.2.2.1 _ Z.out.1)) | fail))
  refine wpQuiet_nil ?_
  intro w1 hw1
  have H1 := Lib.hid (And.intro (H0.out.1.step (below_of_regrown hw1)) (H0.out.2.below (below_of_regrown hw1) (Nat.le_refl _)))
  clear hw1 GA
  have hrr : (rb != rb) = false := by cases rb <;> rfl
  go_wp2_with fail
  with_reducible refine (C.out.1 A cap _ H1.out.2).mono ?_
  rintro e w2 ⟨rfl, hb⟩
  have H2 := Lib.hid (And.intro (H1.out.1.step hb) (H1.out.2.below hb (Nat.le_refl _)))
  clear hb hrr
  go_wp2_with (first | (refine wpList_store_rel (by rfl) (.tmp 13) (.tmp 36) (by rfl) w2.heap.size on 0 og zeroR (by rfl) (by rfl) (RelAt.new w2 0 zeroR) ?_; intro w3 hR hg; have H3 := Lib.hid (And.intro (H2.out.1.push hR hg) (H2.out.2.below (below_push hg) (Nat.le_refl _))); clear hR hg))
  with_reducible refine (C.out.2.1 A cap _ H3.out.2).mono ?_
  rintro e w4 ⟨rfl, hb⟩
  have H4 := Lib.hid (H3.out.1.step hb)
  clear hb
  go_wp2_with (first | (refine wpList_store_rel (by rfl) (.tmp 15) (.tmp 42) (by rfl) w4.heap.size on 0 og zeroR (by rfl) (by rfl) (RelAt.new w4 0 zeroR) ?_; intro w5 hR hg; have H5 := Lib.hid (H4.out.push hR hg); clear hR hg) | (refine wpList_load_rel (by rfl) (.tmp 13) (by rfl) w2.heap.size on og (by rfl) (H5.out.at 2 rfl) ?_) | (refine wpList_load_rel (by rfl) (.tmp 15) (by rfl) w4.heap.size on og (by rfl) (H5.out.at 3 rfl) ?_))
  with_reducible refine (C.out.2.2.2.1 _).mono ?_
  rintro e w6 ⟨rfl, hb⟩
  have H6 := Lib.hid (H5.out.step hb)
  clear hb
  go_wp2_with fail
  with_reducible refine (C.out.2.2.2.2.1 _).mono ?_
  rintro e w7 ⟨rfl, hb⟩
  have H7 := Lib.hid (H6.out.step hb)
  clear hb
  go_wp2_with fail
  with_reducible refine (C.out.2.2.2.2.2.1 _).mono ?_
  rintro e w8 ⟨rfl, hb⟩
  have H8 := Lib.hid (H7.out.step hb)
  clear hb
  go_wp2_with fail
  with_reducible refine (C.out.2.2.2.2.2.2 _).mono ?_
  rintro e w9 ⟨rfl, hb⟩
  have H9 := Lib.hid (H8.out.step hb)
  have cN := (H9.out.at 0 rfl).num
  have cM := (H9.out.at 1 rfl).num
  clear hb
  by_cases h12 : 12 < n
  · have e0 : decide ((12 : Int) < n) = true := decide_eq_true h12
    go_wp2_with fail
    with_reducible refine (awake_any _ (HT.out _ H9.out.bel).1 (HT.out _ H9.out.bel).2).mono ?_
    rintro e w10 ⟨rfl, hb⟩
    have H10 := Lib.hid (H9.out.step hb)
    clear hb
    go_wp2_with fail
    go_ret
    exact ⟨rfl, H10.out.bel⟩
  by_cases g12 : 12 < m
  · have e0 : decide ((12 : Int) < n) = false := decide_eq_false h12
    have e1 : decide ((12 : Int) < m) = true := decide_eq_true g12
    go_wp2_with fail
    with_reducible refine (awake_any _ (HT.out _ H9.out.bel).1 (HT.out _ H9.out.bel).2).mono ?_
    rintro e w10 ⟨rfl, hb⟩
    have H10 := Lib.hid (H9.out.step hb)
    clear hb
    go_wp2_with fail
    go_ret
    exact ⟨rfl, H10.out.bel⟩
  have e0 : decide ((12 : Int) < n) = false := decide_eq_false h12
  have e1 : decide ((12 : Int) < m) = false := decide_eq_false g12
  clear h12 g12
  go_wp2_with fail

  have hrow : ∀ W, Below (w9.alloc (.cells #[.func (.func 19) #[] #[], .func (.func 42) #[] #[], .func (.func 40) #[] #[], .func (.func 18) #[] #[]] 30)).heap.size (w9.alloc (.cells #[.func (.func 19) #[] #[], .func (.func 42) #[] #[], .func (.func 40) #[] #[], .func (.func 18) #[] #[]] 30)) W → W.cell? ⟨w9.heap.size, 0, none⟩ = some (.func (.func 19) #[] #[]) ∧ W.cell? ⟨w9.heap.size, 1, none⟩ = some (.func (.func 42) #[] #[]) ∧ W.cell? ⟨w9.heap.size, 2, none⟩ = some (.func (.func 40) #[] #[]) ∧ W.cell? ⟨w9.heap.size, 3, none⟩ = some (.func (.func 18) #[] #[]) := fun W hW => by
    have hh := (hW.block w9.heap.size (by simp)).trans (World.alloc_heap_new w9 _)
    exact ⟨by rw [cell_of_row _ _ 0 _ _ _ hh]; rfl, by rw [cell_of_row _ _ 1 _ _ _ hh]; rfl, by rw [cell_of_row _ _ 2 _ _ _ hh]; rfl, by rw [cell_of_row _ _ 3 _ _ _ hh]; rfl⟩
  have HL := Lib.hid (And.intro (H9.out.alloc (.cells #[.func (.func 19) #[] #[], .func (.func 42) #[] #[], .func (.func 40) #[] #[], .func (.func 18) #[] #[]] 30)) hrow)
  clear hrow cN cM e0 e1
  generalize w9.alloc (.cells #[.func (.func 19) #[] #[], .func (.func 42) #[] #[], .func (.func 40) #[] #[], .func (.func 18) #[] #[]] 30) = WL at HL ⊢
  obtain ⟨tn, htn⟩ : ∃ x, twoN n m f g = x := ⟨_, rfl⟩
  go_loopw [17, 18, 19, 20, 21, 22, 92] (fun _ _ _ _ _ _ i wr => ∃ k : Nat, k ≤ 4 ∧ i = .int .i64 k ∧ Below WL.heap.size WL wr) (fun _ _ _ _ _ _ i _ => 4 - (intOf i).toNat)
  case atStart => exact ⟨0, by omega, rfl, Below.refl _ _⟩
  case round =>
    obtain ⟨j, hj, rfl, hb⟩ := hrel
    by_cases hlt : j < 4
    · have hrows := HL.out.2 wr hb
      have HB := Lib.hid ((Held.nil WL).step hb)
      clear hb
      rcases (show j = 0 ∨ j = 1 ∨ j = 2 ∨ j = 3 by omega) with rfl | rfl | rfl | rfl
      · cases hok : okB n m f g
        rotate_left
        · have cA := hrows.1
          obtain ⟨tr, htr⟩ : ∃ x, twoR 0 n m f g = x := ⟨_, rfl⟩
          have c1 := fun W => union_two n m f g W Z.out.1 Z.out.2
          have c2 : ∀ W, Calls Tryd.prog 62 #[.int .i64 0, .agg (relC n f), .agg (relC m g)] W fun e w' => e = .returned (.tuple #[.agg (relC (twoN n m f g) (twoR 0 n m f g)), .bool (okB n m f g)]) ∧ Below W.heap.size W w' := fun W => rtwo_any 0 (by omega) n m f g W Z.out.1 Z.out.2
          rw [htn, htr, twoE_t hok] at c1
          rw [htn, htr, hok] at c2
          have CC := Lib.hid (And.intro c1 c2)
          clear c1 c2 htr hok hrows
          go_wp2_with (first | (refine wpList_load_rel (by rfl) (.tmp 6) (by rfl) w.heap.size n f (by rfl) ((HL.out.1.at 0 rfl).below HB.out.bel (HL.out.1.at 0 rfl).lt) ?_) | (refine wpList_load_rel (by rfl) (.tmp 7) (by rfl) (w.heap.size + 1) m g (by rfl) ((HL.out.1.at 1 rfl).below HB.out.bel (HL.out.1.at 1 rfl).lt) ?_))
          with_reducible refine (CC.out.1 _).mono ?_
          rintro e w11 ⟨rfl, hb⟩
          have H11 := Lib.hid (HB.out.step hb)
          clear hb
          go_wp2_with (first | (refine wpList_store_rel (by rfl) (.tmp 19) (.tmp 102) (by rfl) w11.heap.size tn 0 tr zeroR (by rfl) (by rfl) (RelAt.new w11 0 zeroR) ?_; intro w12 hR hg; have H12 := Lib.hid (H11.out.push hR hg); clear hR hg) | (refine wpList_load_rel (by rfl) (.tmp 6) (by rfl) w.heap.size n f (by rfl) ((HL.out.1.at 0 rfl).below H12.out.bel (HL.out.1.at 0 rfl).lt) ?_) | (refine wpList_load_rel (by rfl) (.tmp 7) (by rfl) (w.heap.size + 1) m g (by rfl) ((HL.out.1.at 1 rfl).below H12.out.bel (HL.out.1.at 1 rfl).lt) ?_))
          with_reducible refine (CC.out.2 _).mono ?_
          rintro e w13 ⟨rfl, hb⟩
          have H13 := Lib.hid (H12.out.step hb)
          clear hb
          go_wp2_with (first | (refine wpList_store_rel (by rfl) (.tmp 21) (.tmp 109) (by rfl) w13.heap.size tn 0 tr zeroR (by rfl) (by rfl) (RelAt.new w13 0 zeroR) ?_; intro w14 hR hg; have H14 := Lib.hid (H13.out.push hR hg); clear hR hg) | (refine wpList_load_rel (by rfl) (.tmp 19) (by rfl) w11.heap.size tn tr (by rfl) (H14.out.at 0 rfl) ?_) | (refine wpList_load_rel (by rfl) (.tmp 21) (by rfl) w13.heap.size tn tr (by rfl) (H14.out.at 1 rfl) ?_))
          go_roundw
          case rel => exact ⟨1, by omega, by first | rfl | go_num, H14.out.bel⟩
          case measure => simp [intOf]
        · have cA := hrows.1
          obtain ⟨tr, htr⟩ : ∃ x, twoR 0 n m f g = x := ⟨_, rfl⟩
          have c1 := fun W => union_two n m f g W Z.out.1 Z.out.2
          have c2 : ∀ W, Calls Tryd.prog 62 #[.int .i64 0, .agg (relC n f), .agg (relC m g)] W fun e w' => e = .returned (.tuple #[.agg (relC (twoN n m f g) (twoR 0 n m f g)), .bool (okB n m f g)]) ∧ Below W.heap.size W w' := fun W => rtwo_any 0 (by omega) n m f g W Z.out.1 Z.out.2
          rw [htn, htr, twoE_f hok] at c1
          rw [htn, htr, hok] at c2
          have CC := Lib.hid (And.intro c1 c2)
          clear c1 c2 htr hok hrows
          go_wp2_with (first | (refine wpList_load_rel (by rfl) (.tmp 6) (by rfl) w.heap.size n f (by rfl) ((HL.out.1.at 0 rfl).below HB.out.bel (HL.out.1.at 0 rfl).lt) ?_) | (refine wpList_load_rel (by rfl) (.tmp 7) (by rfl) (w.heap.size + 1) m g (by rfl) ((HL.out.1.at 1 rfl).below HB.out.bel (HL.out.1.at 1 rfl).lt) ?_))
          with_reducible refine (CC.out.1 _).mono ?_
          rintro e w11 ⟨rfl, hb⟩
          have H11 := Lib.hid (HB.out.step hb)
          clear hb
          go_wp2_with (first | (refine wpList_store_rel (by rfl) (.tmp 19) (.tmp 102) (by rfl) w11.heap.size tn 0 tr zeroR (by rfl) (by rfl) (RelAt.new w11 0 zeroR) ?_; intro w12 hR hg; have H12 := Lib.hid (H11.out.push hR hg); clear hR hg) | (refine wpList_load_rel (by rfl) (.tmp 6) (by rfl) w.heap.size n f (by rfl) ((HL.out.1.at 0 rfl).below H12.out.bel (HL.out.1.at 0 rfl).lt) ?_) | (refine wpList_load_rel (by rfl) (.tmp 7) (by rfl) (w.heap.size + 1) m g (by rfl) ((HL.out.1.at 1 rfl).below H12.out.bel (HL.out.1.at 1 rfl).lt) ?_))
          with_reducible refine (CC.out.2 _).mono ?_
          rintro e w13 ⟨rfl, hb⟩
          have H13 := Lib.hid (H12.out.step hb)
          clear hb
          go_wp2_with (first | (refine wpList_store_rel (by rfl) (.tmp 21) (.tmp 109) (by rfl) w13.heap.size tn 0 tr zeroR (by rfl) (by rfl) (RelAt.new w13 0 zeroR) ?_; intro w14 hR hg; have H14 := Lib.hid (H13.out.push hR hg); clear hR hg) | (refine wpList_load_rel (by rfl) (.tmp 19) (by rfl) w11.heap.size tn tr (by rfl) (H14.out.at 0 rfl) ?_) | (refine wpList_load_rel (by rfl) (.tmp 21) (by rfl) w13.heap.size tn tr (by rfl) (H14.out.at 1 rfl) ?_))
          go_roundw
          case rel => exact ⟨1, by omega, by first | rfl | go_num, H14.out.bel⟩
          case measure => simp [intOf]
      · cases hok : okB n m f g
        rotate_left
        · have cA := hrows.2.1
          obtain ⟨tr, htr⟩ : ∃ x, twoR 1 n m f g = x := ⟨_, rfl⟩
          have c1 := fun W => both_two n m f g W Z.out.1 Z.out.2
          have c2 : ∀ W, Calls Tryd.prog 62 #[.int .i64 1, .agg (relC n f), .agg (relC m g)] W fun e w' => e = .returned (.tuple #[.agg (relC (twoN n m f g) (twoR 1 n m f g)), .bool (okB n m f g)]) ∧ Below W.heap.size W w' := fun W => rtwo_any 1 (by omega) n m f g W Z.out.1 Z.out.2
          rw [htn, htr, twoE_t hok] at c1
          rw [htn, htr, hok] at c2
          have CC := Lib.hid (And.intro c1 c2)
          clear c1 c2 htr hok hrows
          go_wp2_with (first | (refine wpList_load_rel (by rfl) (.tmp 6) (by rfl) w.heap.size n f (by rfl) ((HL.out.1.at 0 rfl).below HB.out.bel (HL.out.1.at 0 rfl).lt) ?_) | (refine wpList_load_rel (by rfl) (.tmp 7) (by rfl) (w.heap.size + 1) m g (by rfl) ((HL.out.1.at 1 rfl).below HB.out.bel (HL.out.1.at 1 rfl).lt) ?_))
          with_reducible refine (CC.out.1 _).mono ?_
          rintro e w11 ⟨rfl, hb⟩
          have H11 := Lib.hid (HB.out.step hb)
          clear hb
          go_wp2_with (first | (refine wpList_store_rel (by rfl) (.tmp 19) (.tmp 102) (by rfl) w11.heap.size tn 0 tr zeroR (by rfl) (by rfl) (RelAt.new w11 0 zeroR) ?_; intro w12 hR hg; have H12 := Lib.hid (H11.out.push hR hg); clear hR hg) | (refine wpList_load_rel (by rfl) (.tmp 6) (by rfl) w.heap.size n f (by rfl) ((HL.out.1.at 0 rfl).below H12.out.bel (HL.out.1.at 0 rfl).lt) ?_) | (refine wpList_load_rel (by rfl) (.tmp 7) (by rfl) (w.heap.size + 1) m g (by rfl) ((HL.out.1.at 1 rfl).below H12.out.bel (HL.out.1.at 1 rfl).lt) ?_))
          with_reducible refine (CC.out.2 _).mono ?_
          rintro e w13 ⟨rfl, hb⟩
          have H13 := Lib.hid (H12.out.step hb)
          clear hb
          go_wp2_with (first | (refine wpList_store_rel (by rfl) (.tmp 21) (.tmp 109) (by rfl) w13.heap.size tn 0 tr zeroR (by rfl) (by rfl) (RelAt.new w13 0 zeroR) ?_; intro w14 hR hg; have H14 := Lib.hid (H13.out.push hR hg); clear hR hg) | (refine wpList_load_rel (by rfl) (.tmp 19) (by rfl) w11.heap.size tn tr (by rfl) (H14.out.at 0 rfl) ?_) | (refine wpList_load_rel (by rfl) (.tmp 21) (by rfl) w13.heap.size tn tr (by rfl) (H14.out.at 1 rfl) ?_))
          go_roundw
          case rel => exact ⟨2, by omega, by first | rfl | go_num, H14.out.bel⟩
          case measure => simp [intOf]
        · have cA := hrows.2.1
          obtain ⟨tr, htr⟩ : ∃ x, twoR 1 n m f g = x := ⟨_, rfl⟩
          have c1 := fun W => both_two n m f g W Z.out.1 Z.out.2
          have c2 : ∀ W, Calls Tryd.prog 62 #[.int .i64 1, .agg (relC n f), .agg (relC m g)] W fun e w' => e = .returned (.tuple #[.agg (relC (twoN n m f g) (twoR 1 n m f g)), .bool (okB n m f g)]) ∧ Below W.heap.size W w' := fun W => rtwo_any 1 (by omega) n m f g W Z.out.1 Z.out.2
          rw [htn, htr, twoE_f hok] at c1
          rw [htn, htr, hok] at c2
          have CC := Lib.hid (And.intro c1 c2)
          clear c1 c2 htr hok hrows
          go_wp2_with (first | (refine wpList_load_rel (by rfl) (.tmp 6) (by rfl) w.heap.size n f (by rfl) ((HL.out.1.at 0 rfl).below HB.out.bel (HL.out.1.at 0 rfl).lt) ?_) | (refine wpList_load_rel (by rfl) (.tmp 7) (by rfl) (w.heap.size + 1) m g (by rfl) ((HL.out.1.at 1 rfl).below HB.out.bel (HL.out.1.at 1 rfl).lt) ?_))
          with_reducible refine (CC.out.1 _).mono ?_
          rintro e w11 ⟨rfl, hb⟩
          have H11 := Lib.hid (HB.out.step hb)
          clear hb
          go_wp2_with (first | (refine wpList_store_rel (by rfl) (.tmp 19) (.tmp 102) (by rfl) w11.heap.size tn 0 tr zeroR (by rfl) (by rfl) (RelAt.new w11 0 zeroR) ?_; intro w12 hR hg; have H12 := Lib.hid (H11.out.push hR hg); clear hR hg) | (refine wpList_load_rel (by rfl) (.tmp 6) (by rfl) w.heap.size n f (by rfl) ((HL.out.1.at 0 rfl).below H12.out.bel (HL.out.1.at 0 rfl).lt) ?_) | (refine wpList_load_rel (by rfl) (.tmp 7) (by rfl) (w.heap.size + 1) m g (by rfl) ((HL.out.1.at 1 rfl).below H12.out.bel (HL.out.1.at 1 rfl).lt) ?_))
          with_reducible refine (CC.out.2 _).mono ?_
          rintro e w13 ⟨rfl, hb⟩
          have H13 := Lib.hid (H12.out.step hb)
          clear hb
          go_wp2_with (first | (refine wpList_store_rel (by rfl) (.tmp 21) (.tmp 109) (by rfl) w13.heap.size tn 0 tr zeroR (by rfl) (by rfl) (RelAt.new w13 0 zeroR) ?_; intro w14 hR hg; have H14 := Lib.hid (H13.out.push hR hg); clear hR hg) | (refine wpList_load_rel (by rfl) (.tmp 19) (by rfl) w11.heap.size tn tr (by rfl) (H14.out.at 0 rfl) ?_) | (refine wpList_load_rel (by rfl) (.tmp 21) (by rfl) w13.heap.size tn tr (by rfl) (H14.out.at 1 rfl) ?_))
          go_roundw
          case rel => exact ⟨2, by omega, by first | rfl | go_num, H14.out.bel⟩
          case measure => simp [intOf]
      · cases hok : okB n m f g
        rotate_left
        · have cA := hrows.2.2.1
          obtain ⟨tr, htr⟩ : ∃ x, twoR 2 n m f g = x := ⟨_, rfl⟩
          have c1 := fun W => less_two n m f g W Z.out.1 Z.out.2
          have c2 : ∀ W, Calls Tryd.prog 62 #[.int .i64 2, .agg (relC n f), .agg (relC m g)] W fun e w' => e = .returned (.tuple #[.agg (relC (twoN n m f g) (twoR 2 n m f g)), .bool (okB n m f g)]) ∧ Below W.heap.size W w' := fun W => rtwo_any 2 (by omega) n m f g W Z.out.1 Z.out.2
          rw [htn, htr, twoE_t hok] at c1
          rw [htn, htr, hok] at c2
          have CC := Lib.hid (And.intro c1 c2)
          clear c1 c2 htr hok hrows
          go_wp2_with (first | (refine wpList_load_rel (by rfl) (.tmp 6) (by rfl) w.heap.size n f (by rfl) ((HL.out.1.at 0 rfl).below HB.out.bel (HL.out.1.at 0 rfl).lt) ?_) | (refine wpList_load_rel (by rfl) (.tmp 7) (by rfl) (w.heap.size + 1) m g (by rfl) ((HL.out.1.at 1 rfl).below HB.out.bel (HL.out.1.at 1 rfl).lt) ?_))
          with_reducible refine (CC.out.1 _).mono ?_
          rintro e w11 ⟨rfl, hb⟩
          have H11 := Lib.hid (HB.out.step hb)
          clear hb
          go_wp2_with (first | (refine wpList_store_rel (by rfl) (.tmp 19) (.tmp 102) (by rfl) w11.heap.size tn 0 tr zeroR (by rfl) (by rfl) (RelAt.new w11 0 zeroR) ?_; intro w12 hR hg; have H12 := Lib.hid (H11.out.push hR hg); clear hR hg) | (refine wpList_load_rel (by rfl) (.tmp 6) (by rfl) w.heap.size n f (by rfl) ((HL.out.1.at 0 rfl).below H12.out.bel (HL.out.1.at 0 rfl).lt) ?_) | (refine wpList_load_rel (by rfl) (.tmp 7) (by rfl) (w.heap.size + 1) m g (by rfl) ((HL.out.1.at 1 rfl).below H12.out.bel (HL.out.1.at 1 rfl).lt) ?_))
          with_reducible refine (CC.out.2 _).mono ?_
          rintro e w13 ⟨rfl, hb⟩
          have H13 := Lib.hid (H12.out.step hb)
          clear hb
          go_wp2_with (first | (refine wpList_store_rel (by rfl) (.tmp 21) (.tmp 109) (by rfl) w13.heap.size tn 0 tr zeroR (by rfl) (by rfl) (RelAt.new w13 0 zeroR) ?_; intro w14 hR hg; have H14 := Lib.hid (H13.out.push hR hg); clear hR hg) | (refine wpList_load_rel (by rfl) (.tmp 19) (by rfl) w11.heap.size tn tr (by rfl) (H14.out.at 0 rfl) ?_) | (refine wpList_load_rel (by rfl) (.tmp 21) (by rfl) w13.heap.size tn tr (by rfl) (H14.out.at 1 rfl) ?_))
          go_roundw
          case rel => exact ⟨3, by omega, by first | rfl | go_num, H14.out.bel⟩
          case measure => simp [intOf]
        · have cA := hrows.2.2.1
          obtain ⟨tr, htr⟩ : ∃ x, twoR 2 n m f g = x := ⟨_, rfl⟩
          have c1 := fun W => less_two n m f g W Z.out.1 Z.out.2
          have c2 : ∀ W, Calls Tryd.prog 62 #[.int .i64 2, .agg (relC n f), .agg (relC m g)] W fun e w' => e = .returned (.tuple #[.agg (relC (twoN n m f g) (twoR 2 n m f g)), .bool (okB n m f g)]) ∧ Below W.heap.size W w' := fun W => rtwo_any 2 (by omega) n m f g W Z.out.1 Z.out.2
          rw [htn, htr, twoE_f hok] at c1
          rw [htn, htr, hok] at c2
          have CC := Lib.hid (And.intro c1 c2)
          clear c1 c2 htr hok hrows
          go_wp2_with (first | (refine wpList_load_rel (by rfl) (.tmp 6) (by rfl) w.heap.size n f (by rfl) ((HL.out.1.at 0 rfl).below HB.out.bel (HL.out.1.at 0 rfl).lt) ?_) | (refine wpList_load_rel (by rfl) (.tmp 7) (by rfl) (w.heap.size + 1) m g (by rfl) ((HL.out.1.at 1 rfl).below HB.out.bel (HL.out.1.at 1 rfl).lt) ?_))
          with_reducible refine (CC.out.1 _).mono ?_
          rintro e w11 ⟨rfl, hb⟩
          have H11 := Lib.hid (HB.out.step hb)
          clear hb
          go_wp2_with (first | (refine wpList_store_rel (by rfl) (.tmp 19) (.tmp 102) (by rfl) w11.heap.size tn 0 tr zeroR (by rfl) (by rfl) (RelAt.new w11 0 zeroR) ?_; intro w12 hR hg; have H12 := Lib.hid (H11.out.push hR hg); clear hR hg) | (refine wpList_load_rel (by rfl) (.tmp 6) (by rfl) w.heap.size n f (by rfl) ((HL.out.1.at 0 rfl).below H12.out.bel (HL.out.1.at 0 rfl).lt) ?_) | (refine wpList_load_rel (by rfl) (.tmp 7) (by rfl) (w.heap.size + 1) m g (by rfl) ((HL.out.1.at 1 rfl).below H12.out.bel (HL.out.1.at 1 rfl).lt) ?_))
          with_reducible refine (CC.out.2 _).mono ?_
          rintro e w13 ⟨rfl, hb⟩
          have H13 := Lib.hid (H12.out.step hb)
          clear hb
          go_wp2_with (first | (refine wpList_store_rel (by rfl) (.tmp 21) (.tmp 109) (by rfl) w13.heap.size tn 0 tr zeroR (by rfl) (by rfl) (RelAt.new w13 0 zeroR) ?_; intro w14 hR hg; have H14 := Lib.hid (H13.out.push hR hg); clear hR hg) | (refine wpList_load_rel (by rfl) (.tmp 19) (by rfl) w11.heap.size tn tr (by rfl) (H14.out.at 0 rfl) ?_) | (refine wpList_load_rel (by rfl) (.tmp 21) (by rfl) w13.heap.size tn tr (by rfl) (H14.out.at 1 rfl) ?_))
          go_roundw
          case rel => exact ⟨3, by omega, by first | rfl | go_num, H14.out.bel⟩
          case measure => simp [intOf]
      · cases hok : okB n m f g
        rotate_left
        · have cA := hrows.2.2.2
          obtain ⟨tr, htr⟩ : ∃ x, twoR 3 n m f g = x := ⟨_, rfl⟩
          have c1 := fun W hT hw => then_two n m f g W Z.out.1 Z.out.2 hT hw
          have c2 : ∀ W, Calls Tryd.prog 62 #[.int .i64 3, .agg (relC n f), .agg (relC m g)] W fun e w' => e = .returned (.tuple #[.agg (relC (twoN n m f g) (twoR 3 n m f g)), .bool (okB n m f g)]) ∧ Below W.heap.size W w' := fun W => rtwo_any 3 (by omega) n m f g W Z.out.1 Z.out.2
          rw [htn, htr, twoE_t hok] at c1
          rw [htn, htr, hok] at c2
          have CC := Lib.hid (And.intro c1 c2)
          clear c1 c2 htr hok hrows
          go_wp2_with (first | (refine wpList_load_rel (by rfl) (.tmp 6) (by rfl) w.heap.size n f (by rfl) ((HL.out.1.at 0 rfl).below HB.out.bel (HL.out.1.at 0 rfl).lt) ?_) | (refine wpList_load_rel (by rfl) (.tmp 7) (by rfl) (w.heap.size + 1) m g (by rfl) ((HL.out.1.at 1 rfl).below HB.out.bel (HL.out.1.at 1 rfl).lt) ?_))
          with_reducible refine (CC.out.1 _ (HT.out _ (HL.out.1.bel.trans (HB.out.bel.mono HL.out.1.bel.size))).1 (HT.out _ (HL.out.1.bel.trans (HB.out.bel.mono HL.out.1.bel.size))).2).mono ?_
          rintro e w11 ⟨rfl, hb⟩
          have H11 := Lib.hid (HB.out.step hb)
          clear hb
          go_wp2_with (first | (refine wpList_store_rel (by rfl) (.tmp 19) (.tmp 102) (by rfl) w11.heap.size tn 0 tr zeroR (by rfl) (by rfl) (RelAt.new w11 0 zeroR) ?_; intro w12 hR hg; have H12 := Lib.hid (H11.out.push hR hg); clear hR hg) | (refine wpList_load_rel (by rfl) (.tmp 6) (by rfl) w.heap.size n f (by rfl) ((HL.out.1.at 0 rfl).below H12.out.bel (HL.out.1.at 0 rfl).lt) ?_) | (refine wpList_load_rel (by rfl) (.tmp 7) (by rfl) (w.heap.size + 1) m g (by rfl) ((HL.out.1.at 1 rfl).below H12.out.bel (HL.out.1.at 1 rfl).lt) ?_))
          with_reducible refine (CC.out.2 _).mono ?_
          rintro e w13 ⟨rfl, hb⟩
          have H13 := Lib.hid (H12.out.step hb)
          clear hb
          go_wp2_with (first | (refine wpList_store_rel (by rfl) (.tmp 21) (.tmp 109) (by rfl) w13.heap.size tn 0 tr zeroR (by rfl) (by rfl) (RelAt.new w13 0 zeroR) ?_; intro w14 hR hg; have H14 := Lib.hid (H13.out.push hR hg); clear hR hg) | (refine wpList_load_rel (by rfl) (.tmp 19) (by rfl) w11.heap.size tn tr (by rfl) (H14.out.at 0 rfl) ?_) | (refine wpList_load_rel (by rfl) (.tmp 21) (by rfl) w13.heap.size tn tr (by rfl) (H14.out.at 1 rfl) ?_))
          go_roundw
          case rel => exact ⟨4, by omega, by first | rfl | go_num, H14.out.bel⟩
          case measure => simp [intOf]
        · have cA := hrows.2.2.2
          obtain ⟨tr, htr⟩ : ∃ x, twoR 3 n m f g = x := ⟨_, rfl⟩
          have c1 := fun W hT hw => then_two n m f g W Z.out.1 Z.out.2 hT hw
          have c2 : ∀ W, Calls Tryd.prog 62 #[.int .i64 3, .agg (relC n f), .agg (relC m g)] W fun e w' => e = .returned (.tuple #[.agg (relC (twoN n m f g) (twoR 3 n m f g)), .bool (okB n m f g)]) ∧ Below W.heap.size W w' := fun W => rtwo_any 3 (by omega) n m f g W Z.out.1 Z.out.2
          rw [htn, htr, twoE_f hok] at c1
          rw [htn, htr, hok] at c2
          have CC := Lib.hid (And.intro c1 c2)
          clear c1 c2 htr hok hrows
          go_wp2_with (first | (refine wpList_load_rel (by rfl) (.tmp 6) (by rfl) w.heap.size n f (by rfl) ((HL.out.1.at 0 rfl).below HB.out.bel (HL.out.1.at 0 rfl).lt) ?_) | (refine wpList_load_rel (by rfl) (.tmp 7) (by rfl) (w.heap.size + 1) m g (by rfl) ((HL.out.1.at 1 rfl).below HB.out.bel (HL.out.1.at 1 rfl).lt) ?_))
          with_reducible refine (CC.out.1 _ (HT.out _ (HL.out.1.bel.trans (HB.out.bel.mono HL.out.1.bel.size))).1 (HT.out _ (HL.out.1.bel.trans (HB.out.bel.mono HL.out.1.bel.size))).2).mono ?_
          rintro e w11 ⟨rfl, hb⟩
          have H11 := Lib.hid (HB.out.step hb)
          clear hb
          go_wp2_with (first | (refine wpList_store_rel (by rfl) (.tmp 19) (.tmp 102) (by rfl) w11.heap.size tn 0 tr zeroR (by rfl) (by rfl) (RelAt.new w11 0 zeroR) ?_; intro w12 hR hg; have H12 := Lib.hid (H11.out.push hR hg); clear hR hg) | (refine wpList_load_rel (by rfl) (.tmp 6) (by rfl) w.heap.size n f (by rfl) ((HL.out.1.at 0 rfl).below H12.out.bel (HL.out.1.at 0 rfl).lt) ?_) | (refine wpList_load_rel (by rfl) (.tmp 7) (by rfl) (w.heap.size + 1) m g (by rfl) ((HL.out.1.at 1 rfl).below H12.out.bel (HL.out.1.at 1 rfl).lt) ?_))
          with_reducible refine (CC.out.2 _).mono ?_
          rintro e w13 ⟨rfl, hb⟩
          have H13 := Lib.hid (H12.out.step hb)
          clear hb
          go_wp2_with (first | (refine wpList_store_rel (by rfl) (.tmp 21) (.tmp 109) (by rfl) w13.heap.size tn 0 tr zeroR (by rfl) (by rfl) (RelAt.new w13 0 zeroR) ?_; intro w14 hR hg; have H14 := Lib.hid (H13.out.push hR hg); clear hR hg) | (refine wpList_load_rel (by rfl) (.tmp 19) (by rfl) w11.heap.size tn tr (by rfl) (H14.out.at 0 rfl) ?_) | (refine wpList_load_rel (by rfl) (.tmp 21) (by rfl) w13.heap.size tn tr (by rfl) (H14.out.at 1 rfl) ?_))
          go_roundw
          case rel => exact ⟨4, by omega, by first | rfl | go_num, H14.out.bel⟩
          case measure => simp [intOf]
    · have hj4 : j = 4 := by omega
      subst hj4
      have H20 := Lib.hid (HL.out.1.step hb)
      clear hb hlt hj
      obtain ⟨pb, hpb⟩ : ∃ x, pairB n f c m = x := ⟨_, rfl⟩
      obtain ⟨PP, hPP⟩ : ∃ x, pairsR n f = x := ⟨_, rfl⟩
      obtain ⟨bn, hbn⟩ : ∃ x, backN n f = x := ⟨_, rfl⟩
      obtain ⟨bk, hbk⟩ : ∃ x, backR n f = x := ⟨_, rfl⟩
      obtain ⟨pl, hpl⟩ : ∃ x, plusR n f = x := ⟨_, rfl⟩
      obtain ⟨st, hst⟩ : ∃ x, starR n f = x := ⟨_, rfl⟩
      obtain ⟨fs, hfs⟩ : ∃ x, fromS n f = x := ⟨_, rfl⟩
      obtain ⟨is, his⟩ : ∃ x, intoS n f = x := ⟨_, rfl⟩
      have pm := pairsR_le n f Z.out.1
      have k0 := fun W hT hw => pairs_any n f W Z.out.1 hT hw
      have k1 := fun W => rpairs_any n f W Z.out.1
      have k2 := fun W hT hw => back_any n f W Z.out.1 hT hw
      have k3 := fun W => rback_any n f W Z.out.1
      have k4 := fun W hT hw => plus_any n f W Z.out.1 hT hw
      have k5 := fun W => rplus_any n f W Z.out.1
      have k6 := fun W hT hw => star_any n f W Z.out.1 hT hw
      have k7 := fun W => rstar_any n f W Z.out.1
      have k8 := fun W => from_any n f W Z.out.1
      have k9 := fun W => rfrom_any n f W Z.out.1
      have k10 := fun W hT hw => into_any n f W Z.out.1 hT hw
      have k11 := fun W => rinto_any n f W Z.out.1
      rw [hPP] at k0 k1 pm
      rw [hbn, hbk] at k2 k3
      rw [hbn, hpl] at k4 k5
      rw [hbn, hst] at k6 k7
      rw [hfs] at k8 k9
      rw [his] at k10 k11
      have K := Lib.hid (And.intro k0 (And.intro k1 (And.intro k2 (And.intro k3 (And.intro k4 (And.intro k5 (And.intro k6 (And.intro k7 (And.intro k8 (And.intro k9 (And.intro k10 (And.intro k11 (And.intro hpb pm)))))))))))))
      clear k0 k1 k2 k3 k4 k5 k6 k7 k8 k9 k10 k11 hpb hPP hbn hbk hpl hst hfs his pm
      go_wp2_with fail
      obtain ⟨w20, rfl⟩ : ∃ W, W = wr := ⟨_, rfl⟩
      refine Bo.wp_region_head (Below w20.heap.size w20) (bel_I w20) (bel_drew w20) 56 (by kernel_rfl) (by kernel_rfl) ?_
      simp only [List.append_eq, List.cons_append, List.nil_append, List.take_succ_cons, List.take_zero, List.drop_succ_cons, List.drop_zero]
      refine bo_ld (by rfl) (by rfl) (.tmp 6) (by rfl) w.heap.size n f (by rfl) (H20.out.at 0 rfl) ?_
      simp only [Act.put, List.setIfInBounds_toArray, List.set_cons_zero, List.set_cons_succ]
      repeat (refine Bo.walk_st (by rfl) (by rfl) (fun W hW => by have c1 := ((H20.out.at 1 rfl).below hW (H20.out.at 1 rfl).lt).num; simp [execOp, go_sem, c1]; exact ⟨rfl, rfl⟩) ?_; simp only [Act.put, List.setIfInBounds_toArray, List.set_cons_zero, List.set_cons_succ])
      refine Bo.walk_call 29 #[.agg (relC n f), .int .i64 c, .int .i64 m] (by rfl) (by rfl) (bel_keep w20) (fun W => by simp [execOp, go_sem]) (fun W hW hR => has_is n f c m pb K.out.2.2.2.2.2.2.2.2.2.2.2.2.1 W Z.out.1) ?_
      simp only [Act.put, List.setIfInBounds_toArray, List.set_cons_zero, List.set_cons_succ]
      refine bo_ld (by rfl) (by rfl) (.tmp 6) (by rfl) w.heap.size n f (by rfl) (H20.out.at 0 rfl) ?_
      simp only [Act.put, List.setIfInBounds_toArray, List.set_cons_zero, List.set_cons_succ]
      repeat (refine Bo.walk_st (by rfl) (by rfl) (fun W hW => by have c1 := ((H20.out.at 1 rfl).below hW (H20.out.at 1 rfl).lt).num; simp [execOp, go_sem, c1]; exact ⟨rfl, rfl⟩) ?_; simp only [Act.put, List.setIfInBounds_toArray, List.set_cons_zero, List.set_cons_succ])
      refine Bo.walk_call 63 #[.agg (relC n f), .int .i64 c, .int .i64 m] (by rfl) (by rfl) (bel_keep w20) (fun W => by simp [execOp, go_sem]) (fun W hW hR => rpair_is n f c m pb K.out.2.2.2.2.2.2.2.2.2.2.2.2.1 W Z.out.1) ?_
      simp only [Act.put, List.setIfInBounds_toArray, List.set_cons_zero, List.set_cons_succ]
      repeat (refine Bo.walk_st (by rfl) (by rfl) (fun W hW => by simp [execOp, go_sem]; exact ⟨rfl, rfl⟩) ?_; simp only [Act.put, List.setIfInBounds_toArray, List.set_cons_zero, List.set_cons_succ])
      refine bo_ld (by rfl) (by rfl) (.tmp 6) (by rfl) w.heap.size n f (by rfl) (H20.out.at 0 rfl) ?_
      simp only [Act.put, List.setIfInBounds_toArray, List.set_cons_zero, List.set_cons_succ]
      refine bo_pairsA 28 #[.agg (relC n f)] PP (by rfl) (by rfl) (fun W => by simp [execOp, go_sem]) (fun W hW => K.out.1 W (HT.out W (H20.out.bel.trans (hW.mono H20.out.bel.size))).1 (HT.out W (H20.out.bel.trans (hW.mono H20.out.bel.size))).2) (fun _ _ _ _ => trivial) ?_
      intro A3 c3
      simp only [Act.put, List.setIfInBounds_toArray, List.set_cons_zero, List.set_cons_succ]
      refine bo_ld (by rfl) (by rfl) (.tmp 6) (by rfl) w.heap.size n f (by rfl) (H20.out.at 0 rfl) ?_
      simp only [Act.put, List.setIfInBounds_toArray, List.set_cons_zero, List.set_cons_succ]
      refine bo_pairsA 36 #[.agg (relC n f)] PP (by rfl) (by rfl) (fun W => by simp [execOp, go_sem]) (fun W hW => K.out.2.1 W) (fun _ _ h hb => ⟨trivial, h.2.below hb (Nat.le_refl _)⟩) ?_
      intro A4 c4
      simp only [Act.put, List.setIfInBounds_toArray, List.set_cons_zero, List.set_cons_succ]
      refine Bo.walk_call 64 #[.slice A3 PP.length c3, .slice A4 PP.length c4] (by rfl) (by rfl) (bel_keep w20) (fun W => by simp [execOp, go_sem]) (fun W hW hR => pairs_len_same A3 A4 PP c3 c4 W K.out.2.2.2.2.2.2.2.2.2.2.2.2.2 hR.1.2 hR.2) ?_
      simp only [Act.put, List.setIfInBounds_toArray, List.set_cons_zero, List.set_cons_succ]
      repeat (refine Bo.walk_st (by rfl) (by rfl) (fun W hW => by simp [execOp, go_sem]; exact ⟨rfl, rfl⟩) ?_; simp only [Act.put, List.setIfInBounds_toArray, List.set_cons_zero, List.set_cons_succ])
      refine bo_ld (by rfl) (by rfl) (.tmp 6) (by rfl) w.heap.size n f (by rfl) (H20.out.at 0 rfl) ?_
      simp only [Act.put, List.setIfInBounds_toArray, List.set_cons_zero, List.set_cons_succ]
      refine Bo.walk_call 20 #[.agg (relC n f)] (by rfl) (by rfl) (bel_keep w20) (fun W => by simp [execOp, go_sem]) (fun W hW hR => K.out.2.2.1 W (HT.out W (H20.out.bel.trans (hW.mono H20.out.bel.size))).1 (HT.out W (H20.out.bel.trans (hW.mono H20.out.bel.size))).2) ?_
      simp only [Act.put, List.setIfInBounds_toArray, List.set_cons_zero, List.set_cons_succ]
      refine bo_ld (by rfl) (by rfl) (.tmp 6) (by rfl) w.heap.size n f (by rfl) (H20.out.at 0 rfl) ?_
      simp only [Act.put, List.setIfInBounds_toArray, List.set_cons_zero, List.set_cons_succ]
      refine Bo.walk_call 65 #[.agg (relC n f)] (by rfl) (by rfl) (bel_keep w20) (fun W => by simp [execOp, go_sem]) (fun W hW hR => K.out.2.2.2.1 W) ?_
      simp only [Act.put, List.setIfInBounds_toArray, List.set_cons_zero, List.set_cons_succ]
      repeat (refine Bo.walk_st (by rfl) (by rfl) (fun W hW => by simp [execOp, go_sem]; exact ⟨rfl, rfl⟩) ?_; simp only [Act.put, List.setIfInBounds_toArray, List.set_cons_zero, List.set_cons_succ])
      refine bo_ld (by rfl) (by rfl) (.tmp 6) (by rfl) w.heap.size n f (by rfl) (H20.out.at 0 rfl) ?_
      simp only [Act.put, List.setIfInBounds_toArray, List.set_cons_zero, List.set_cons_succ]
      refine Bo.walk_call 25 #[.agg (relC n f)] (by rfl) (by rfl) (bel_keep w20) (fun W => by simp [execOp, go_sem]) (fun W hW hR => K.out.2.2.2.2.1 W (HT.out W (H20.out.bel.trans (hW.mono H20.out.bel.size))).1 (HT.out W (H20.out.bel.trans (hW.mono H20.out.bel.size))).2) ?_
      simp only [Act.put, List.setIfInBounds_toArray, List.set_cons_zero, List.set_cons_succ]
      refine bo_ld (by rfl) (by rfl) (.tmp 6) (by rfl) w.heap.size n f (by rfl) (H20.out.at 0 rfl) ?_
      simp only [Act.put, List.setIfInBounds_toArray, List.set_cons_zero, List.set_cons_succ]
      refine Bo.walk_call 66 #[.agg (relC n f)] (by rfl) (by rfl) (bel_keep w20) (fun W => by simp [execOp, go_sem]) (fun W hW hR => K.out.2.2.2.2.2.1 W) ?_
      simp only [Act.put, List.setIfInBounds_toArray, List.set_cons_zero, List.set_cons_succ]
      repeat (refine Bo.walk_st (by rfl) (by rfl) (fun W hW => by simp [execOp, go_sem]; exact ⟨rfl, rfl⟩) ?_; simp only [Act.put, List.setIfInBounds_toArray, List.set_cons_zero, List.set_cons_succ])
      refine bo_ld (by rfl) (by rfl) (.tmp 6) (by rfl) w.heap.size n f (by rfl) (H20.out.at 0 rfl) ?_
      simp only [Act.put, List.setIfInBounds_toArray, List.set_cons_zero, List.set_cons_succ]
      refine Bo.walk_call 67 #[.agg (relC n f)] (by rfl) (by rfl) (bel_keep w20) (fun W => by simp [execOp, go_sem]) (fun W hW hR => K.out.2.2.2.2.2.2.1 W (HT.out W (H20.out.bel.trans (hW.mono H20.out.bel.size))).1 (HT.out W (H20.out.bel.trans (hW.mono H20.out.bel.size))).2) ?_
      simp only [Act.put, List.setIfInBounds_toArray, List.set_cons_zero, List.set_cons_succ]
      refine bo_ld (by rfl) (by rfl) (.tmp 6) (by rfl) w.heap.size n f (by rfl) (H20.out.at 0 rfl) ?_
      simp only [Act.put, List.setIfInBounds_toArray, List.set_cons_zero, List.set_cons_succ]
      refine Bo.walk_call 68 #[.agg (relC n f)] (by rfl) (by rfl) (bel_keep w20) (fun W => by simp [execOp, go_sem]) (fun W hW hR => K.out.2.2.2.2.2.2.2.1 W) ?_
      simp only [Act.put, List.setIfInBounds_toArray, List.set_cons_zero, List.set_cons_succ]
      repeat (refine Bo.walk_st (by rfl) (by rfl) (fun W hW => by simp [execOp, go_sem]; exact ⟨rfl, rfl⟩) ?_; simp only [Act.put, List.setIfInBounds_toArray, List.set_cons_zero, List.set_cons_succ])
      refine bo_ld (by rfl) (by rfl) (.tmp 6) (by rfl) w.heap.size n f (by rfl) (H20.out.at 0 rfl) ?_
      simp only [Act.put, List.setIfInBounds_toArray, List.set_cons_zero, List.set_cons_succ]
      refine Bo.walk_call 43 #[.agg (relC n f)] (by rfl) (by rfl) (bel_keep w20) (fun W => by simp [execOp, go_sem]) (fun W hW hR => K.out.2.2.2.2.2.2.2.2.1 W) ?_
      simp only [Act.put, List.setIfInBounds_toArray, List.set_cons_zero, List.set_cons_succ]
      refine bo_ld (by rfl) (by rfl) (.tmp 6) (by rfl) w.heap.size n f (by rfl) (H20.out.at 0 rfl) ?_
      simp only [Act.put, List.setIfInBounds_toArray, List.set_cons_zero, List.set_cons_succ]
      refine Bo.walk_call 69 #[.agg (relC n f)] (by rfl) (by rfl) (bel_keep w20) (fun W => by simp [execOp, go_sem]) (fun W hW hR => K.out.2.2.2.2.2.2.2.2.2.1 W) ?_
      simp only [Act.put, List.setIfInBounds_toArray, List.set_cons_zero, List.set_cons_succ]
      repeat (refine Bo.walk_st (by rfl) (by rfl) (fun W hW => by simp [execOp, go_sem]; exact ⟨rfl, rfl⟩) ?_; simp only [Act.put, List.setIfInBounds_toArray, List.set_cons_zero, List.set_cons_succ])
      refine bo_ld (by rfl) (by rfl) (.tmp 6) (by rfl) w.heap.size n f (by rfl) (H20.out.at 0 rfl) ?_
      simp only [Act.put, List.setIfInBounds_toArray, List.set_cons_zero, List.set_cons_succ]
      refine Bo.walk_call 44 #[.agg (relC n f)] (by rfl) (by rfl) (bel_keep w20) (fun W => by simp [execOp, go_sem]) (fun W hW hR => K.out.2.2.2.2.2.2.2.2.2.2.1 W (HT.out W (H20.out.bel.trans (hW.mono H20.out.bel.size))).1 (HT.out W (H20.out.bel.trans (hW.mono H20.out.bel.size))).2) ?_
      simp only [Act.put, List.setIfInBounds_toArray, List.set_cons_zero, List.set_cons_succ]
      refine bo_ld (by rfl) (by rfl) (.tmp 6) (by rfl) w.heap.size n f (by rfl) (H20.out.at 0 rfl) ?_
      simp only [Act.put, List.setIfInBounds_toArray, List.set_cons_zero, List.set_cons_succ]
      refine Bo.walk_call 70 #[.agg (relC n f)] (by rfl) (by rfl) (bel_keep w20) (fun W => by simp [execOp, go_sem]) (fun W hW hR => K.out.2.2.2.2.2.2.2.2.2.2.2.1 W) ?_
      simp only [Act.put, List.setIfInBounds_toArray, List.set_cons_zero, List.set_cons_succ]
      repeat (refine Bo.walk_st (by rfl) (by rfl) (fun W hW => by simp [execOp, go_sem]; exact ⟨rfl, rfl⟩) ?_; simp only [Act.put, List.setIfInBounds_toArray, List.set_cons_zero, List.set_cons_succ])
      refine Bo.walk_call 22 #[] (by rfl) (by rfl) (bel_keep w20) (fun W => by simp [execOp, go_sem]) (fun W hW hR => awake_any W (HT.out W (H20.out.bel.trans (hW.mono H20.out.bel.size))).1 (HT.out W (H20.out.bel.trans (hW.mono H20.out.bel.size))).2) ?_
      simp only [Act.put, List.setIfInBounds_toArray, List.set_cons_zero, List.set_cons_succ]
      repeat (refine Bo.walk_st (by rfl) (by rfl) (fun W hW => by simp [execOp, go_sem]; exact ⟨rfl, rfl⟩) ?_; simp only [Act.put, List.setIfInBounds_toArray, List.set_cons_zero, List.set_cons_succ])
      refine Bo.walk_nil ?_
      intro w21 hb2 _
      have H21 := Lib.hid (H20.out.step hb2)
      clear hb2
      go_wp2_with fail
      go_ret
      exact ⟨rfl, H21.out.bel⟩
end Go.Proofs.YtknjdfgmejobfaaDoor
