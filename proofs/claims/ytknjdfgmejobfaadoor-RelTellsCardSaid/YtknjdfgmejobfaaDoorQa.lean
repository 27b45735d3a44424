/- layer 2's law: the walk of RelRounds. -/
import Derived.Test.YtknjdfgmejobfaaDoorLi
import Derived.Test.YtknjdfgmejobfaaDoorLc
import Derived.Test.YtknjdfgmejobfaaDoorLg
namespace Go.Proofs.YtknjdfgmejobfaaDoor
open Go.RowKit Go.Shelf

attribute [-go_sem] run_eql_struct run_neq_struct
attribute [local go_sem] Bv.and_u Bv.or_u Bv.andNot_u Bv.wrap_sub1 Bv.eq0 Bv.ne0 Bv.wrap_pow Bv.wrap_powmin Bv.wrap_neg Bv.eq_u Bv.ne_u Bv.shr_min Bv.shr_pow Bv.tmod2 Bv.and1 Bv.wrap_add Bv.B1_eq1 Bv.B1_eq0 Bv.B1_ne1 Bv.B1_ne0

section open_
variable {ops : Array Oper} {w0 : World} {Q : Act → (World → Prop) → Prop} {R : World → Prop} {a : Act} {rest : List Oper} {o : Oper}
/-- a relation is read in an open region -/
theorem bo_ld (hc : Bo.isOpen o = false) (hw : Region.wanted o (yielded ops a.tmps) = true) (x : Operand) (hop : o.op = .load 26 x)
    (b : Nat) (n : Int) (f : Rl.Rows) (hx : a.eval x = .pointer (some ⟨b, 0, none⟩)) (hR : RelAt w0 b n f) (h : Bo.walk Tryd.prog ops (Below w0.heap.size w0) none Q rest R (a.put o.dst (.agg (relC n f)))) : Bo.walk Tryd.prog ops (Below w0.heap.size w0) none Q (o :: rest) R a :=
  Bo.walk_step hc hw (fun W hW => by
    unfold execOp
    simp only [hop, hx, Instr.loadAt, Instr.sureAddr, Sem.run_bind, Sem.run_pure, Result.andThen_ok, run_loadVar_row (P := Tryd.prog) _ b 26 26 (relC n f) (0, 0) _ (hR.below hW hR.lt) uRel rfl (sRelC n f)]) h
/-- a call that hands back a list of items -/
theorem bo_ints (f : FuncId) (args : Array Value) (L : List Nat) (hc : Bo.isOpen o = true) (hw : Region.wanted o (yielded ops a.tmps) = true)
    (hv : ∀ W, (execOp a.eval o).run Tryd.prog W = .ok (.enter f args) W) (hk : ∀ W, Below w0.heap.size w0 W → Calls Tryd.prog f args W (RingOut L W)) (hRk : ∀ W W', R W → Below W.heap.size W W' → R W')
    (h : ∀ A c, Bo.walk Tryd.prog ops (Below w0.heap.size w0) none Q rest (fun W => R W ∧ IntsAt W A (ints L)) (a.put o.dst (.slice A L.length c))) : Bo.walk Tryd.prog ops (Below w0.heap.size w0) none Q (o :: rest) R a :=
  Bo.walk_open (fun v R' => ∃ A c, v = .slice A L.length c ∧ R' = fun W => R W ∧ IntsAt W A (ints L)) hc hw
    (fun v R' ⟨A, c, _, hr⟩ W z h1 => by rw [hr] at h1 ⊢; exact ⟨hRk W _ h1.1 ((Below.refl _ W).alloc (Nat.le_refl _) z), h1.2.below ((Below.refl _ W).alloc (Nat.le_refl _) z) (Nat.le_refl _)⟩)
    ⟨_, _, none, 0, rfl, rfl⟩
    (fun W hW hR => by
      rw [hv W]
      exact ⟨rfl, (hk W hW).mono fun e w' ⟨v, he, hrow, hb⟩ => by
        obtain ⟨A, c, ev, _, _, hA⟩ := row_nums hrow
        exact ⟨v, _, he, ⟨A, c, ev, rfl⟩, hW.trans (hb.mono hW.size), ⟨hRk W w' hR hb, hA⟩, Bo.Kept.none⟩⟩)
    (fun v R' ⟨A, c, hv, hr⟩ => by rw [hv, hr]; exact h A c)
/-- a call that hands back a list of pairs, of which only the length counts -/
theorem bo_pairs (f : FuncId) (args : Array Value) (N : Nat) (l : List (Nat × Nat)) (hN : l.length = N) (hc : Bo.isOpen o = true) (hw : Region.wanted o (yielded ops a.tmps) = true)
    (hv : ∀ W, (execOp a.eval o).run Tryd.prog W = .ok (.enter f args) W) (hk : ∀ W, Below w0.heap.size w0 W → Calls Tryd.prog f args W (PairsOut l W))
    (h : ∀ A c, Bo.walk Tryd.prog ops (Below w0.heap.size w0) none Q rest (fun _ => True) (a.put o.dst (.slice A N c))) : Bo.walk Tryd.prog ops (Below w0.heap.size w0) none Q (o :: rest) R a :=
  Bo.walk_open (fun v R' => ∃ A c, v = .slice A N c ∧ R' = fun _ => True) hc hw
    (fun v R' ⟨A, c, _, hr⟩ W z h1 => by rw [hr]; trivial)
    ⟨_, _, none, 0, rfl, rfl⟩
    (fun W hW hR => by
      rw [hv W]
      exact ⟨rfl, (hk W hW).mono fun e w' ⟨v, he, hrow, hb⟩ => by
        obtain ⟨A, c, e1, e2, _⟩ := row_pairs hrow
        exact ⟨v, _, he, ⟨A, c, by rw [e1, e2, hN], rfl⟩, hW.trans (hb.mono hW.size), trivial, Bo.Kept.none⟩⟩)
    (fun v R' ⟨A, c, hv, hr⟩ => by rw [hv, hr]; exact h A c)
theorem bo_skip (hc : Bo.isOpen o = false) (hw : Region.wanted o (yielded ops a.tmps) = false) (h : Bo.walk Tryd.prog ops (Below w0.heap.size w0) none Q rest R (a.put o.dst undef)) : Bo.walk Tryd.prog ops (Below w0.heap.size w0) none Q (o :: rest) R a := by
  unfold Bo.walk
  rw [hc, if_neg (by simp)]
  exact ⟨undef, .inr ⟨hw, rfl⟩, h⟩
end open_
def IsNone0 (v : Value) : Prop := ∃ (A : Option Addr) (c : Nat), v = .slice A 0 c
theorem row_none {w : World} {base : Nat} {v : Value} (h : w.ownsRow base 3 1 v ([] : List Nat).length (nums [])) : IsNone0 v := by
  obtain ⟨A, c, e1, _⟩ := row_nums h; exact ⟨A, c, e1⟩
theorem ring_none0 (n : Int) (f : Rl.Rows) (w : World) (hr : Rl.rightB n f = false) :
    Calls Tryd.prog 23 #[.agg (relC n f)] w fun e w' => ∃ v, e = .returned v ∧ IsNone0 v ∧ Below w.heap.size w w' :=
  (ring_no n f w hr).mono fun e w' ⟨v, he, hrow, hb⟩ => ⟨v, he, row_none hrow, hb⟩
theorem rring_none0 (n : Int) (f : Rl.Rows) (w : World) (zf : Rl.Z f) (hr : Rl.rightB n f = false) :
    Calls Tryd.prog 33 #[.agg (relC n f)] w fun e w' => ∃ v, e = .returned v ∧ IsNone0 v ∧ Below w.heap.size w w' :=
  (rring_not n f w zf hr).mono fun e w' ⟨v, he, hrow, hb⟩ => ⟨v, he, row_none hrow, hb⟩
theorem ints_none (A B : Option Addr) (c d : Nat) (w : World) :
    Calls Tryd.prog 32 #[.slice A 0 c, .slice B 0 d] w fun e w' => e = .returned (.bool true) ∧ Below w.heap.size w w' :=
  ints_true A B [] c d w (by decide) (fun h => absurd h (by simp)) (fun h => absurd h (by simp))
theorem ints_len2 (L : List Nat) : (ints L).length = L.length := ints_len L
theorem bel_I (w : World) : Bo.Inv (Below w.heap.size w) none := ⟨fun W z h => h.alloc h.size z, fun W W' n b e => (by cases e), fun W n e => (by cases e)⟩
theorem bel_drew (w : World) : Below w.heap.size w { w with drawn := w.drawn + 1 } := ⟨rfl, rfl, rfl, Nat.le_refl _, fun _ _ => rfl⟩
theorem bel_keep (w : World) : ∀ W W', Below w.heap.size w W → Below W.heap.size W W' → Below w.heap.size w W' := fun W W' h hb => h.trans (hb.mono h.size)
/-- two lists with the same items -/
theorem ints_eq (A B : Option Addr) (L : List Nat) (m k c d : Nat) (w : World) (hm : L.length = m) (hk : L.length = k) (hl : L.length ≤ maxLen) (hA : IntsAt w A (ints L)) (hB : IntsAt w B (ints L)) :
    Calls Tryd.prog 32 #[.slice A m c, .slice B k d] w fun e w' => e = .returned (.bool true) ∧ Below w.heap.size w w' := by
  have h := ints_true A B (ints L) c d w (by rw [ints_len]; exact hl) hA hB
  rw [ints_len] at h
  rw [← hm, ← hk] ; first | exact h | (subst hm; exact h)
theorem empty_pairs (n : Int) (f : Rl.Rows) (zf : Rl.Z f) : emptyB n f = (Rl.rightB n f && decide ((pairsR n f).length = 0)) := by
  unfold emptyB pairsR fromS
  cases h : Rl.rightB n f
  · rfl
  · obtain ⟨m, rfl, hm⟩ := Rl.right_nat zf h
    rw [if_pos rfl, if_pos rfl, Int.toNat_natCast, Bool.true_and, Bool.true_and, Bool.eq_iff_iff, beq_iff_eq, decide_eq_true_eq, List.length_eq_zero_iff, Rl.pairs_nil hm, Rl.from_zero hm]
theorem top_len_le (n : Int) (f : Rl.Rows) (zf : Rl.Z f) : ((topR n f).getD []).length ≤ 48 := by
  cases h : topR n f with
  | none => exact Nat.zero_le _
  | some L =>
    unfold topR at h
    cases hr : Rl.rightB n f
    · rw [hr] at h; cases h
    · obtain ⟨m, rfl, hm⟩ := Rl.right_nat zf hr
      rw [hr, if_pos rfl, Int.toNat_natCast] at h
      have := Rl.top_len hm h
      have := hm.le
      show L.length ≤ 48
      omega
theorem ring_len_le (n : Int) (f : Rl.Rows) (zf : Rl.Z f) : (ringR n f).length ≤ 48 := by
  unfold ringR
  cases hr : Rl.rightB n f
  · exact Nat.zero_le _
  · obtain ⟨m, rfl, hm⟩ := Rl.right_nat zf hr
    rw [if_pos rfl, Int.toNat_natCast]
    rcases Rl.ring_ref hm with ⟨h1, _⟩ | ⟨s, hs⟩
    · rw [h1]; exact Nat.zero_le _
    · exact hs.le

set_option maxRecDepth 100000 in
set_option maxHeartbeats 8000000 in
theorem relRounds_a (n : Int) (f : Rl.Rows) (w : World) (zf : Rl.Z f) (h12 : ¬ 12 < n) (hr : Rl.rightB n f = true) (hN : (pairsR n f).length = 0) (hT : Tab w) (hw : 0 < w.heap.size) :
    Calls Tryd.prog 6 #[.agg (relC n f)] w fun e w' => e = .returned (.bool true) ∧ Below w.heap.size w w' := by
  have hTl : ∀ W, Below w.heap.size w W → Tab W ∧ 0 < W.heap.size := fun W h => ⟨hT.below h hw, Nat.lt_of_lt_of_le hw h.size⟩
  have HT := Lib.hid hTl
  clear hTl hT
  have hR := RelAt.new w n f
  have c0 := hR.num
  have d0 : decide (12 < n) = false := decide_eq_false h12
  have hem : emptyB n f = true := by rw [empty_pairs n f zf, hr, hN]; rfl
  
  obtain ⟨t, ht⟩ : ∃ t, (topR n f).isSome = t := ⟨_, rfl⟩
  obtain ⟨ib, hib⟩ : ∃ t, irrB n f = t := ⟨_, rfl⟩
  obtain ⟨T, hTT⟩ : ∃ T, (topR n f).getD [] = T := ⟨_, rfl⟩
  obtain ⟨G, hG⟩ : ∃ T, ringR n f = T := ⟨_, rfl⟩
  obtain ⟨PP, hPP⟩ : ∃ T, pairsR n f = T := ⟨_, rfl⟩
  have top1 := fun W hT hw => top_any n f W zf hT hw
  have top2 := fun W => rtop_any n f W zf
  have ring1 := fun W hT hw => ring_any n f W zf hT hw
  have ring2 := fun W => rring_any n f W zf
  have pr := fun W => rpairs_any n f W zf
  have t48 := top_len_le n f zf
  have g48 := ring_len_le n f zf
  unfold TopOut at top1 top2
  rw [ht, hTT] at top1 top2
  rw [hG] at ring1 ring2 g48
  rw [hPP] at pr hN
  rw [hTT] at t48
  obtain ⟨K, hK⟩ : ∃ K, T.length = K := ⟨_, rfl⟩
  obtain ⟨Y, hY⟩ : ∃ K, G.length = K := ⟨_, rfl⟩
  rw [hK] at top1 top2
  have hKm : T.length ≤ maxLen := by unfold maxLen; omega
  have hYm : G.length ≤ maxLen := by unfold maxLen; omega
  have C := Lib.hid (And.intro top1 (And.intro top2 (And.intro ring1 (And.intro ring2 (And.intro pr hKm)))))
  have E := Lib.hid (And.intro hr (And.intro hN (And.intro hem (And.intro ht (And.intro hib (And.intro zf (And.intro hK (And.intro hY hYm))))))))
  have H := Lib.hid (And.intro hR ((Below.refl w.heap.size w).alloc (Nat.le_refl _) (.cells (relC n f) 26)))
  clear top1 top2 ring1 ring2 pr hKm hYm hr hN hem ht hib zf hK hY hR hTT hG hPP t48 g48 h12
  go_enter Tryd.func6, Tryd.ntmps6
  go_wp2_with (refine wpList_load_rel (by rfl) (.tmp 1) (by rfl) w.heap.size n f (by rfl) H.out.1 ?_)
  with_reducible refine (C.out.1 _ (HT.out _ H.out.2).1 (HT.out _ H.out.2).2).mono ?_
  rintro e w1 ⟨v, rfl, hrow, hb⟩
  obtain ⟨A1, c1, e1, _, _, hA⟩ := row_nums hrow
  subst e1
  have H1 := Lib.hid (And.intro (H.out.1.below hb H.out.1.lt) (And.intro (H.out.2.trans (hb.mono H.out.2.size)) hA))
  clear hb hrow hA c0
  go_wp2_with (refine wpList_load_rel (by rfl) (.tmp 1) (by rfl) w.heap.size n f (by rfl) H1.out.1 ?_)
  with_reducible refine (C.out.2.1 _).mono ?_
  rintro e w2 ⟨v, rfl, hrow, hb⟩
  obtain ⟨A2, c2, e1, _, _, hA⟩ := row_nums hrow
  subst e1
  have H2 := Lib.hid (And.intro (H1.out.1.below hb H1.out.1.lt) (And.intro (H1.out.2.1.trans (hb.mono H1.out.2.1.size)) (And.intro (H1.out.2.2.below hb (Nat.le_refl _)) hA)))
  clear hb hrow hA
  go_wp2_with fail
  refine Bo.wp_region_head (Below w2.heap.size w2) (bel_I w2) (bel_drew w2) 45 (by kernel_rfl) (by kernel_rfl) ?_
  simp only [List.append_eq, List.cons_append, List.nil_append, List.take_succ_cons, List.take_zero, List.drop_succ_cons, List.drop_zero]
  repeat (refine Bo.walk_st (by rfl) (by rfl) (fun W hW => by simp [execOp, go_sem]; exact ⟨rfl, rfl⟩) ?_; simp only [Act.put, List.setIfInBounds_toArray, List.set_cons_zero, List.set_cons_succ])
  refine Bo.walk_call 32 #[.slice A1 K c1, .slice A2 K c2] (by rfl) (by rfl) (bel_keep w2) (fun W => by simp [execOp, go_sem]) (fun W hW hR => ints_eq A1 A2 T K K c1 c2 W E.out.2.2.2.2.2.2.1 E.out.2.2.2.2.2.2.1 C.out.2.2.2.2.2 (H2.out.2.2.1.below hW (Nat.le_refl _)) (H2.out.2.2.2.below hW (Nat.le_refl _))) ?_
  simp only [Act.put, List.setIfInBounds_toArray, List.set_cons_zero, List.set_cons_succ]
  repeat (refine Bo.walk_st (by rfl) (by rfl) (fun W hW => by simp [execOp, go_sem]; exact ⟨rfl, rfl⟩) ?_; simp only [Act.put, List.setIfInBounds_toArray, List.set_cons_zero, List.set_cons_succ])
  refine bo_ld (by rfl) (by rfl) (.tmp 1) (by rfl) w.heap.size n f (by rfl) H2.out.1 ?_
  simp only [Act.put, List.setIfInBounds_toArray, List.set_cons_zero, List.set_cons_succ]
  refine bo_ints 23 #[.agg (relC n f)] G (by rfl) (by rfl) (fun W => by simp [execOp, go_sem]) (fun W hW => C.out.2.2.1 W (HT.out W (H2.out.2.1.trans (hW.mono H2.out.2.1.size))).1 (HT.out W (H2.out.2.1.trans (hW.mono H2.out.2.1.size))).2) (fun _ _ _ _ => trivial) ?_
  intro A3 c3
  simp only [Act.put, List.setIfInBounds_toArray, List.set_cons_zero, List.set_cons_succ]
  refine bo_ld (by rfl) (by rfl) (.tmp 1) (by rfl) w.heap.size n f (by rfl) H2.out.1 ?_
  simp only [Act.put, List.setIfInBounds_toArray, List.set_cons_zero, List.set_cons_succ]
  refine bo_ints 33 #[.agg (relC n f)] G (by rfl) (by rfl) (fun W => by simp [execOp, go_sem]) (fun W hW => C.out.2.2.2.1 W) (fun _ _ h hb => ⟨trivial, h.2.below hb (Nat.le_refl _)⟩) ?_
  intro A4 c4
  simp only [Act.put, List.setIfInBounds_toArray, List.set_cons_zero, List.set_cons_succ]
  refine Bo.walk_call 32 #[.slice A3 G.length c3, .slice A4 G.length c4] (by rfl) (by rfl) (bel_keep w2) (fun W => by simp [execOp, go_sem]) (fun W hW hR => ints_eq A3 A4 G _ _ c3 c4 W rfl rfl E.out.2.2.2.2.2.2.2.2 hR.1.2 hR.2) ?_
  simp only [Act.put, List.setIfInBounds_toArray, List.set_cons_zero, List.set_cons_succ]
  repeat (refine Bo.walk_st (by rfl) (by rfl) (fun W hW => by simp [execOp, go_sem]; exact ⟨rfl, rfl⟩) ?_; simp only [Act.put, List.setIfInBounds_toArray, List.set_cons_zero, List.set_cons_succ])
  refine bo_ld (by rfl) (by rfl) (.tmp 1) (by rfl) w.heap.size n f (by rfl) H2.out.1 ?_
  simp only [Act.put, List.setIfInBounds_toArray, List.set_cons_zero, List.set_cons_succ]
  refine Bo.walk_call 34 #[.agg (relC n f)] (by rfl) (by rfl) (bel_keep w2) (fun W => by simp [execOp, go_sem]) (fun W hW hR => empty_is n f true E.out.2.2.1 W E.out.2.2.2.2.2.1) ?_
  simp only [Act.put, List.setIfInBounds_toArray, List.set_cons_zero, List.set_cons_succ]
  refine bo_ld (by rfl) (by rfl) (.tmp 1) (by rfl) w.heap.size n f (by rfl) H2.out.1 ?_
  simp only [Act.put, List.setIfInBounds_toArray, List.set_cons_zero, List.set_cons_succ]
  refine Bo.walk_call 35 #[.agg (relC n f)] (by rfl) (by rfl) (bel_keep w2) (fun W => by simp [execOp, go_sem]) (fun W hW hR => rright_is n f true E.out.1 W E.out.2.2.2.2.2.1) ?_
  simp only [Act.put, List.setIfInBounds_toArray, List.set_cons_zero, List.set_cons_succ]
  repeat (refine Bo.walk_st (by rfl) (by rfl) (fun W hW => by simp [execOp, go_sem]; exact ⟨rfl, rfl⟩) ?_; simp only [Act.put, List.setIfInBounds_toArray, List.set_cons_zero, List.set_cons_succ])
  refine bo_ld (by rfl) (by rfl) (.tmp 1) (by rfl) w.heap.size n f (by rfl) H2.out.1 ?_
  simp only [Act.put, List.setIfInBounds_toArray, List.set_cons_zero, List.set_cons_succ]
  refine bo_pairs 36 #[.agg (relC n f)] 0 PP E.out.2.1 (by rfl) (by rfl) (fun W => by simp [execOp, go_sem]) (fun W hW => C.out.2.2.2.2.1 W) ?_
  intro A5 c5
  simp only [Act.put, List.setIfInBounds_toArray, List.set_cons_zero, List.set_cons_succ]
  repeat (refine Bo.walk_st (by rfl) (by rfl) (fun W hW => by simp [execOp, go_sem]; exact ⟨rfl, rfl⟩) ?_; simp only [Act.put, List.setIfInBounds_toArray, List.set_cons_zero, List.set_cons_succ])
  refine bo_ld (by rfl) (by rfl) (.tmp 1) (by rfl) w.heap.size n f (by rfl) H2.out.1 ?_
  simp only [Act.put, List.setIfInBounds_toArray, List.set_cons_zero, List.set_cons_succ]
  refine Bo.walk_call 24 #[.agg (relC n f)] (by rfl) (by rfl) (bel_keep w2) (fun W => by simp [execOp, go_sem]) (fun W hW hR => irr_is n f ib E.out.2.2.2.2.1 W E.out.2.2.2.2.2.1) ?_
  simp only [Act.put, List.setIfInBounds_toArray, List.set_cons_zero, List.set_cons_succ]
  refine bo_ld (by rfl) (by rfl) (.tmp 1) (by rfl) w.heap.size n f (by rfl) H2.out.1 ?_
  simp only [Act.put, List.setIfInBounds_toArray, List.set_cons_zero, List.set_cons_succ]
  refine Bo.walk_call 37 #[.agg (relC n f)] (by rfl) (by rfl) (bel_keep w2) (fun W => by simp [execOp, go_sem]) (fun W hW hR => rirr_is n f ib E.out.2.2.2.2.1 W E.out.2.2.2.2.2.1) ?_
  simp only [Act.put, List.setIfInBounds_toArray, List.set_cons_zero, List.set_cons_succ]
  repeat (refine Bo.walk_st (by rfl) (by rfl) (fun W hW => by simp [execOp, go_sem]; exact ⟨rfl, rfl⟩) ?_; simp only [Act.put, List.setIfInBounds_toArray, List.set_cons_zero, List.set_cons_succ])
  refine bo_ld (by rfl) (by rfl) (.tmp 1) (by rfl) w.heap.size n f (by rfl) H2.out.1 ?_
  simp only [Act.put, List.setIfInBounds_toArray, List.set_cons_zero, List.set_cons_succ]
  refine Bo.walk_call 26 #[.agg (relC n f)] (by rfl) (by rfl) (bel_keep w2) (fun W => by simp [execOp, go_sem]) (fun W hW hR => acyclic_is n f t E.out.2.2.2.1 W E.out.2.2.2.2.2.1 (HT.out W (H2.out.2.1.trans (hW.mono H2.out.2.1.size))).1 (HT.out W (H2.out.2.1.trans (hW.mono H2.out.2.1.size))).2) ?_
  simp only [Act.put, List.setIfInBounds_toArray, List.set_cons_zero, List.set_cons_succ]
  refine bo_ld (by rfl) (by rfl) (.tmp 1) (by rfl) w.heap.size n f (by rfl) H2.out.1 ?_
  simp only [Act.put, List.setIfInBounds_toArray, List.set_cons_zero, List.set_cons_succ]
  refine Bo.walk_call 38 #[.agg (relC n f)] (by rfl) (by rfl) (bel_keep w2) (fun W => by simp [execOp, go_sem]) (fun W hW hR => racyc_is n f t E.out.2.2.2.1 W E.out.2.2.2.2.2.1) ?_
  simp only [Act.put, List.setIfInBounds_toArray, List.set_cons_zero, List.set_cons_succ]
  repeat (refine Bo.walk_st (by rfl) (by rfl) (fun W hW => by simp [execOp, go_sem]; exact ⟨rfl, rfl⟩) ?_; simp only [Act.put, List.setIfInBounds_toArray, List.set_cons_zero, List.set_cons_succ])
  refine Bo.walk_call 22 #[] (by rfl) (by rfl) (bel_keep w2) (fun W => by simp [execOp, go_sem]) (fun W hW hR => awake_any W (HT.out W (H2.out.2.1.trans (hW.mono H2.out.2.1.size))).1 (HT.out W (H2.out.2.1.trans (hW.mono H2.out.2.1.size))).2) ?_
  simp only [Act.put, List.setIfInBounds_toArray, List.set_cons_zero, List.set_cons_succ]
  repeat (refine Bo.walk_st (by rfl) (by rfl) (fun W hW => by simp [execOp, go_sem]; exact ⟨rfl, rfl⟩) ?_; simp only [Act.put, List.setIfInBounds_toArray, List.set_cons_zero, List.set_cons_succ])

  refine Bo.walk_nil ?_
  intro w3 hb2 _

  have H3 := Lib.hid (H2.out.2.1.trans (hb2.mono H2.out.2.1.size))
  clear hb2
  go_wp2_with fail
  go_ret
  exact ⟨rfl, H3.out⟩
set_option maxRecDepth 100000 in
set_option maxHeartbeats 8000000 in
theorem relRounds_b (n : Int) (f : Rl.Rows) (w : World) (zf : Rl.Z f) (h12 : ¬ 12 < n) (hr : Rl.rightB n f = true) (N : Nat) (hN : (pairsR n f).length = N) (h0 : ¬ N = 0) (hT : Tab w) (hw : 0 < w.heap.size) :
    Calls Tryd.prog 6 #[.agg (relC n f)] w fun e w' => e = .returned (.bool true) ∧ Below w.heap.size w w' := by
  have hTl : ∀ W, Below w.heap.size w W → Tab W ∧ 0 < W.heap.size := fun W h => ⟨hT.below h hw, Nat.lt_of_lt_of_le hw h.size⟩
  have HT := Lib.hid hTl
  clear hTl hT
  have hR := RelAt.new w n f
  have c0 := hR.num
  have d0 : decide (12 < n) = false := decide_eq_false h12
  have hem : emptyB n f = false := by rw [empty_pairs n f zf, hr, hN]; simp [h0]
  have h1 : ((N : Int) == 0) = false := by simp; exact h0
  obtain ⟨t, ht⟩ : ∃ t, (topR n f).isSome = t := ⟨_, rfl⟩
  obtain ⟨ib, hib⟩ : ∃ t, irrB n f = t := ⟨_, rfl⟩
  obtain ⟨T, hTT⟩ : ∃ T, (topR n f).getD [] = T := ⟨_, rfl⟩
  obtain ⟨G, hG⟩ : ∃ T, ringR n f = T := ⟨_, rfl⟩
  obtain ⟨PP, hPP⟩ : ∃ T, pairsR n f = T := ⟨_, rfl⟩
  have top1 := fun W hT hw => top_any n f W zf hT hw
  have top2 := fun W => rtop_any n f W zf
  have ring1 := fun W hT hw => ring_any n f W zf hT hw
  have ring2 := fun W => rring_any n f W zf
  have pr := fun W => rpairs_any n f W zf
  have t48 := top_len_le n f zf
  have g48 := ring_len_le n f zf
  unfold TopOut at top1 top2
  rw [ht, hTT] at top1 top2
  rw [hG] at ring1 ring2 g48
  rw [hPP] at pr hN
  rw [hTT] at t48
  obtain ⟨K, hK⟩ : ∃ K, T.length = K := ⟨_, rfl⟩
  obtain ⟨Y, hY⟩ : ∃ K, G.length = K := ⟨_, rfl⟩
  rw [hK] at top1 top2
  have hKm : T.length ≤ maxLen := by unfold maxLen; omega
  have hYm : G.length ≤ maxLen := by unfold maxLen; omega
  have C := Lib.hid (And.intro top1 (And.intro top2 (And.intro ring1 (And.intro ring2 (And.intro pr hKm)))))
  have E := Lib.hid (And.intro hr (And.intro hN (And.intro hem (And.intro ht (And.intro hib (And.intro zf (And.intro hK (And.intro hY hYm))))))))
  have H := Lib.hid (And.intro hR ((Below.refl w.heap.size w).alloc (Nat.le_refl _) (.cells (relC n f) 26)))
  clear top1 top2 ring1 ring2 pr hKm hYm hr hN hem ht hib zf hK hY hR hTT hG hPP t48 g48 h12
  go_enter Tryd.func6, Tryd.ntmps6
  go_wp2_with (refine wpList_load_rel (by rfl) (.tmp 1) (by rfl) w.heap.size n f (by rfl) H.out.1 ?_)
  with_reducible refine (C.out.1 _ (HT.out _ H.out.2).1 (HT.out _ H.out.2).2).mono ?_
  rintro e w1 ⟨v, rfl, hrow, hb⟩
  obtain ⟨A1, c1, e1, _, _, hA⟩ := row_nums hrow
  subst e1
  have H1 := Lib.hid (And.intro (H.out.1.below hb H.out.1.lt) (And.intro (H.out.2.trans (hb.mono H.out.2.size)) hA))
  clear hb hrow hA c0
  go_wp2_with (refine wpList_load_rel (by rfl) (.tmp 1) (by rfl) w.heap.size n f (by rfl) H1.out.1 ?_)
  with_reducible refine (C.out.2.1 _).mono ?_
  rintro e w2 ⟨v, rfl, hrow, hb⟩
  obtain ⟨A2, c2, e1, _, _, hA⟩ := row_nums hrow
  subst e1
  have H2 := Lib.hid (And.intro (H1.out.1.below hb H1.out.1.lt) (And.intro (H1.out.2.1.trans (hb.mono H1.out.2.1.size)) (And.intro (H1.out.2.2.below hb (Nat.le_refl _)) hA)))
  clear hb hrow hA
  go_wp2_with fail
  refine Bo.wp_region_head (Below w2.heap.size w2) (bel_I w2) (bel_drew w2) 45 (by kernel_rfl) (by kernel_rfl) ?_
  simp only [List.append_eq, List.cons_append, List.nil_append, List.take_succ_cons, List.take_zero, List.drop_succ_cons, List.drop_zero]
  repeat (refine Bo.walk_st (by rfl) (by rfl) (fun W hW => by simp [execOp, go_sem]; exact ⟨rfl, rfl⟩) ?_; simp only [Act.put, List.setIfInBounds_toArray, List.set_cons_zero, List.set_cons_succ])
  refine Bo.walk_call 32 #[.slice A1 K c1, .slice A2 K c2] (by rfl) (by rfl) (bel_keep w2) (fun W => by simp [execOp, go_sem]) (fun W hW hR => ints_eq A1 A2 T K K c1 c2 W E.out.2.2.2.2.2.2.1 E.out.2.2.2.2.2.2.1 C.out.2.2.2.2.2 (H2.out.2.2.1.below hW (Nat.le_refl _)) (H2.out.2.2.2.below hW (Nat.le_refl _))) ?_
  simp only [Act.put, List.setIfInBounds_toArray, List.set_cons_zero, List.set_cons_succ]
  repeat (refine Bo.walk_st (by rfl) (by rfl) (fun W hW => by simp [execOp, go_sem]; exact ⟨rfl, rfl⟩) ?_; simp only [Act.put, List.setIfInBounds_toArray, List.set_cons_zero, List.set_cons_succ])
  refine bo_ld (by rfl) (by rfl) (.tmp 1) (by rfl) w.heap.size n f (by rfl) H2.out.1 ?_
  simp only [Act.put, List.setIfInBounds_toArray, List.set_cons_zero, List.set_cons_succ]
  refine bo_ints 23 #[.agg (relC n f)] G (by rfl) (by rfl) (fun W => by simp [execOp, go_sem]) (fun W hW => C.out.2.2.1 W (HT.out W (H2.out.2.1.trans (hW.mono H2.out.2.1.size))).1 (HT.out W (H2.out.2.1.trans (hW.mono H2.out.2.1.size))).2) (fun _ _ _ _ => trivial) ?_
  intro A3 c3
  simp only [Act.put, List.setIfInBounds_toArray, List.set_cons_zero, List.set_cons_succ]
  refine bo_ld (by rfl) (by rfl) (.tmp 1) (by rfl) w.heap.size n f (by rfl) H2.out.1 ?_
  simp only [Act.put, List.setIfInBounds_toArray, List.set_cons_zero, List.set_cons_succ]
  refine bo_ints 33 #[.agg (relC n f)] G (by rfl) (by rfl) (fun W => by simp [execOp, go_sem]) (fun W hW => C.out.2.2.2.1 W) (fun _ _ h hb => ⟨trivial, h.2.below hb (Nat.le_refl _)⟩) ?_
  intro A4 c4
  simp only [Act.put, List.setIfInBounds_toArray, List.set_cons_zero, List.set_cons_succ]
  refine Bo.walk_call 32 #[.slice A3 G.length c3, .slice A4 G.length c4] (by rfl) (by rfl) (bel_keep w2) (fun W => by simp [execOp, go_sem]) (fun W hW hR => ints_eq A3 A4 G _ _ c3 c4 W rfl rfl E.out.2.2.2.2.2.2.2.2 hR.1.2 hR.2) ?_
  simp only [Act.put, List.setIfInBounds_toArray, List.set_cons_zero, List.set_cons_succ]
  repeat (refine Bo.walk_st (by rfl) (by rfl) (fun W hW => by simp [execOp, go_sem]; exact ⟨rfl, rfl⟩) ?_; simp only [Act.put, List.setIfInBounds_toArray, List.set_cons_zero, List.set_cons_succ])
  refine bo_ld (by rfl) (by rfl) (.tmp 1) (by rfl) w.heap.size n f (by rfl) H2.out.1 ?_
  simp only [Act.put, List.setIfInBounds_toArray, List.set_cons_zero, List.set_cons_succ]
  refine Bo.walk_call 34 #[.agg (relC n f)] (by rfl) (by rfl) (bel_keep w2) (fun W => by simp [execOp, go_sem]) (fun W hW hR => empty_is n f false E.out.2.2.1 W E.out.2.2.2.2.2.1) ?_
  simp only [Act.put, List.setIfInBounds_toArray, List.set_cons_zero, List.set_cons_succ]
  refine bo_ld (by rfl) (by rfl) (.tmp 1) (by rfl) w.heap.size n f (by rfl) H2.out.1 ?_
  simp only [Act.put, List.setIfInBounds_toArray, List.set_cons_zero, List.set_cons_succ]
  refine Bo.walk_call 35 #[.agg (relC n f)] (by rfl) (by rfl) (bel_keep w2) (fun W => by simp [execOp, go_sem]) (fun W hW hR => rright_is n f true E.out.1 W E.out.2.2.2.2.2.1) ?_
  simp only [Act.put, List.setIfInBounds_toArray, List.set_cons_zero, List.set_cons_succ]
  repeat (refine Bo.walk_st (by rfl) (by rfl) (fun W hW => by simp [execOp, go_sem]; exact ⟨rfl, rfl⟩) ?_; simp only [Act.put, List.setIfInBounds_toArray, List.set_cons_zero, List.set_cons_succ])
  refine bo_ld (by rfl) (by rfl) (.tmp 1) (by rfl) w.heap.size n f (by rfl) H2.out.1 ?_
  simp only [Act.put, List.setIfInBounds_toArray, List.set_cons_zero, List.set_cons_succ]
  refine bo_pairs 36 #[.agg (relC n f)] N PP E.out.2.1 (by rfl) (by rfl) (fun W => by simp [execOp, go_sem]) (fun W hW => C.out.2.2.2.2.1 W) ?_
  intro A5 c5
  simp only [Act.put, List.setIfInBounds_toArray, List.set_cons_zero, List.set_cons_succ]
  repeat (refine Bo.walk_st (by rfl) (by rfl) (fun W hW => by simp [execOp, go_sem, h1]; exact ⟨rfl, rfl⟩) ?_; simp only [Act.put, List.setIfInBounds_toArray, List.set_cons_zero, List.set_cons_succ])
  refine bo_ld (by rfl) (by rfl) (.tmp 1) (by rfl) w.heap.size n f (by rfl) H2.out.1 ?_
  simp only [Act.put, List.setIfInBounds_toArray, List.set_cons_zero, List.set_cons_succ]
  refine Bo.walk_call 24 #[.agg (relC n f)] (by rfl) (by rfl) (bel_keep w2) (fun W => by simp [execOp, go_sem]) (fun W hW hR => irr_is n f ib E.out.2.2.2.2.1 W E.out.2.2.2.2.2.1) ?_
  simp only [Act.put, List.setIfInBounds_toArray, List.set_cons_zero, List.set_cons_succ]
  refine bo_ld (by rfl) (by rfl) (.tmp 1) (by rfl) w.heap.size n f (by rfl) H2.out.1 ?_
  simp only [Act.put, List.setIfInBounds_toArray, List.set_cons_zero, List.set_cons_succ]
  refine Bo.walk_call 37 #[.agg (relC n f)] (by rfl) (by rfl) (bel_keep w2) (fun W => by simp [execOp, go_sem]) (fun W hW hR => rirr_is n f ib E.out.2.2.2.2.1 W E.out.2.2.2.2.2.1) ?_
  simp only [Act.put, List.setIfInBounds_toArray, List.set_cons_zero, List.set_cons_succ]
  repeat (refine Bo.walk_st (by rfl) (by rfl) (fun W hW => by simp [execOp, go_sem]; exact ⟨rfl, rfl⟩) ?_; simp only [Act.put, List.setIfInBounds_toArray, List.set_cons_zero, List.set_cons_succ])
  refine bo_ld (by rfl) (by rfl) (.tmp 1) (by rfl) w.heap.size n f (by rfl) H2.out.1 ?_
  simp only [Act.put, List.setIfInBounds_toArray, List.set_cons_zero, List.set_cons_succ]
  refine Bo.walk_call 26 #[.agg (relC n f)] (by rfl) (by rfl) (bel_keep w2) (fun W => by simp [execOp, go_sem]) (fun W hW hR => acyclic_is n f t E.out.2.2.2.1 W E.out.2.2.2.2.2.1 (HT.out W (H2.out.2.1.trans (hW.mono H2.out.2.1.size))).1 (HT.out W (H2.out.2.1.trans (hW.mono H2.out.2.1.size))).2) ?_
  simp only [Act.put, List.setIfInBounds_toArray, List.set_cons_zero, List.set_cons_succ]
  refine bo_ld (by rfl) (by rfl) (.tmp 1) (by rfl) w.heap.size n f (by rfl) H2.out.1 ?_
  simp only [Act.put, List.setIfInBounds_toArray, List.set_cons_zero, List.set_cons_succ]
  refine Bo.walk_call 38 #[.agg (relC n f)] (by rfl) (by rfl) (bel_keep w2) (fun W => by simp [execOp, go_sem]) (fun W hW hR => racyc_is n f t E.out.2.2.2.1 W E.out.2.2.2.2.2.1) ?_
  simp only [Act.put, List.setIfInBounds_toArray, List.set_cons_zero, List.set_cons_succ]
  repeat (refine Bo.walk_st (by rfl) (by rfl) (fun W hW => by simp [execOp, go_sem]; exact ⟨rfl, rfl⟩) ?_; simp only [Act.put, List.setIfInBounds_toArray, List.set_cons_zero, List.set_cons_succ])
  refine Bo.walk_call 22 #[] (by rfl) (by rfl) (bel_keep w2) (fun W => by simp [execOp, go_sem]) (fun W hW hR => awake_any W (HT.out W (H2.out.2.1.trans (hW.mono H2.out.2.1.size))).1 (HT.out W (H2.out.2.1.trans (hW.mono H2.out.2.1.size))).2) ?_
  simp only [Act.put, List.setIfInBounds_toArray, List.set_cons_zero, List.set_cons_succ]
  repeat (refine Bo.walk_st (by rfl) (by rfl) (fun W hW => by simp [execOp, go_sem]; exact ⟨rfl, rfl⟩) ?_; simp only [Act.put, List.setIfInBounds_toArray, List.set_cons_zero, List.set_cons_succ])

  refine Bo.walk_nil ?_
  intro w3 hb2 _

  have H3 := Lib.hid (H2.out.2.1.trans (hb2.mono H2.out.2.1.size))
  clear hb2
  go_wp2_with fail
  go_ret
  exact ⟨rfl, H3.out⟩
set_option maxRecDepth 100000 in
set_option maxHeartbeats 8000000 in
theorem relRounds_c (n : Int) (f : Rl.Rows) (w : World) (zf : Rl.Z f) (h12 : ¬ 12 < n) (hr : Rl.rightB n f = false) (N : Nat) (hN : (pairsR n f).length = N) (hT : Tab w) (hw : 0 < w.heap.size) :
    Calls Tryd.prog 6 #[.agg (relC n f)] w fun e w' => e = .returned (.bool true) ∧ Below w.heap.size w w' := by
  have hTl : ∀ W, Below w.heap.size w W → Tab W ∧ 0 < W.heap.size := fun W h => ⟨hT.below h hw, Nat.lt_of_lt_of_le hw h.size⟩
  have HT := Lib.hid hTl
  clear hTl hT
  have hR := RelAt.new w n f
  have c0 := hR.num
  have d0 : decide (12 < n) = false := decide_eq_false h12
  have hem : emptyB n f = false := by rw [empty_pairs n f zf, hr, hN]; rfl
  
  obtain ⟨t, ht⟩ : ∃ t, (topR n f).isSome = t := ⟨_, rfl⟩
  obtain ⟨ib, hib⟩ : ∃ t, irrB n f = t := ⟨_, rfl⟩
  obtain ⟨T, hTT⟩ : ∃ T, (topR n f).getD [] = T := ⟨_, rfl⟩
  obtain ⟨G, hG⟩ : ∃ T, ringR n f = T := ⟨_, rfl⟩
  obtain ⟨PP, hPP⟩ : ∃ T, pairsR n f = T := ⟨_, rfl⟩
  have top1 := fun W hT hw => top_any n f W zf hT hw
  have top2 := fun W => rtop_any n f W zf
  have ring1 := fun W hT hw => ring_any n f W zf hT hw
  have ring2 := fun W => rring_any n f W zf
  have pr := fun W => rpairs_any n f W zf
  have t48 := top_len_le n f zf
  have g48 := ring_len_le n f zf
  unfold TopOut at top1 top2
  rw [ht, hTT] at top1 top2
  rw [hG] at ring1 ring2 g48
  rw [hPP] at pr hN
  rw [hTT] at t48
  obtain ⟨K, hK⟩ : ∃ K, T.length = K := ⟨_, rfl⟩
  obtain ⟨Y, hY⟩ : ∃ K, G.length = K := ⟨_, rfl⟩
  rw [hK] at top1 top2
  have hKm : T.length ≤ maxLen := by unfold maxLen; omega
  have hYm : G.length ≤ maxLen := by unfold maxLen; omega
  have C := Lib.hid (And.intro top1 (And.intro top2 (And.intro ring1 (And.intro ring2 (And.intro pr hKm)))))
  have E := Lib.hid (And.intro hr (And.intro hN (And.intro hem (And.intro ht (And.intro hib (And.intro zf (And.intro hK (And.intro hY hYm))))))))
  have H := Lib.hid (And.intro hR ((Below.refl w.heap.size w).alloc (Nat.le_refl _) (.cells (relC n f) 26)))
  clear top1 top2 ring1 ring2 pr hKm hYm hr hN hem ht hib zf hK hY hR hTT hG hPP t48 g48 h12
  go_enter Tryd.func6, Tryd.ntmps6
  go_wp2_with (refine wpList_load_rel (by rfl) (.tmp 1) (by rfl) w.heap.size n f (by rfl) H.out.1 ?_)
  with_reducible refine (C.out.1 _ (HT.out _ H.out.2).1 (HT.out _ H.out.2).2).mono ?_
  rintro e w1 ⟨v, rfl, hrow, hb⟩
  obtain ⟨A1, c1, e1, _, _, hA⟩ := row_nums hrow
  subst e1
  have H1 := Lib.hid (And.intro (H.out.1.below hb H.out.1.lt) (And.intro (H.out.2.trans (hb.mono H.out.2.size)) hA))
  clear hb hrow hA c0
  go_wp2_with (refine wpList_load_rel (by rfl) (.tmp 1) (by rfl) w.heap.size n f (by rfl) H1.out.1 ?_)
  with_reducible refine (C.out.2.1 _).mono ?_
  rintro e w2 ⟨v, rfl, hrow, hb⟩
  obtain ⟨A2, c2, e1, _, _, hA⟩ := row_nums hrow
  subst e1
  have H2 := Lib.hid (And.intro (H1.out.1.below hb H1.out.1.lt) (And.intro (H1.out.2.1.trans (hb.mono H1.out.2.1.size)) (And.intro (H1.out.2.2.below hb (Nat.le_refl _)) hA)))
  clear hb hrow hA
  go_wp2_with fail
  refine Bm.wp_region_head 45 (by kernel_rfl) (by kernel_rfl) ?_
  simp only [List.append_eq, List.cons_append, List.nil_append, List.take_succ_cons, List.take_zero, List.drop_succ_cons, List.drop_zero]
  repeat (refine Bm.walk_st (by rfl) (by rfl) (fun W hW => by simp [execOp, go_sem]; exact ⟨rfl, rfl⟩) ?_; simp only [Act.put, List.setIfInBounds_toArray, List.set_cons_zero, List.set_cons_succ])
  refine Bm.walk_call 32 #[.slice A1 K c1, .slice A2 K c2] (by rfl) (by rfl) (fun W => by simp [execOp, go_sem]) (fun W hW => ints_eq A1 A2 T K K c1 c2 W E.out.2.2.2.2.2.2.1 E.out.2.2.2.2.2.2.1 C.out.2.2.2.2.2 (H2.out.2.2.1.below hW (Nat.le_refl _)) (H2.out.2.2.2.below hW (Nat.le_refl _))) ?_
  simp only [Act.put, List.setIfInBounds_toArray, List.set_cons_zero, List.set_cons_succ]
  repeat (refine Bm.walk_st (by rfl) (by rfl) (fun W hW => by simp [execOp, go_sem]; exact ⟨rfl, rfl⟩) ?_; simp only [Act.put, List.setIfInBounds_toArray, List.set_cons_zero, List.set_cons_succ])
  refine walk_load_rel (by rfl) (by rfl) (.tmp 1) (by rfl) w.heap.size n f (by rfl) H2.out.1 ?_
  simp only [Act.put, List.setIfInBounds_toArray, List.set_cons_zero, List.set_cons_succ]
  refine Bm.walk_open IsNone0 23 #[.agg (relC n f)] (by rfl) (by rfl) (fun W => by simp [execOp, go_sem]) (fun W hW => ring_none0 n f W E.out.1) ?_
  rintro v ⟨A3, c3, rfl⟩
  simp only [Act.put, List.setIfInBounds_toArray, List.set_cons_zero, List.set_cons_succ]
  refine walk_load_rel (by rfl) (by rfl) (.tmp 1) (by rfl) w.heap.size n f (by rfl) H2.out.1 ?_
  simp only [Act.put, List.setIfInBounds_toArray, List.set_cons_zero, List.set_cons_succ]
  refine Bm.walk_open IsNone0 33 #[.agg (relC n f)] (by rfl) (by rfl) (fun W => by simp [execOp, go_sem]) (fun W hW => rring_none0 n f W E.out.2.2.2.2.2.1 E.out.1) ?_
  rintro v ⟨A4, c4, rfl⟩
  simp only [Act.put, List.setIfInBounds_toArray, List.set_cons_zero, List.set_cons_succ]
  refine Bm.walk_call 32 #[.slice A3 0 c3, .slice A4 0 c4] (by rfl) (by rfl) (fun W => by simp [execOp, go_sem]) (fun W hW => ints_none A3 A4 c3 c4 W) ?_
  simp only [Act.put, List.setIfInBounds_toArray, List.set_cons_zero, List.set_cons_succ]
  repeat (refine Bm.walk_st (by rfl) (by rfl) (fun W hW => by simp [execOp, go_sem]; exact ⟨rfl, rfl⟩) ?_; simp only [Act.put, List.setIfInBounds_toArray, List.set_cons_zero, List.set_cons_succ])
  refine walk_load_rel (by rfl) (by rfl) (.tmp 1) (by rfl) w.heap.size n f (by rfl) H2.out.1 ?_
  simp only [Act.put, List.setIfInBounds_toArray, List.set_cons_zero, List.set_cons_succ]
  refine Bm.walk_call 34 #[.agg (relC n f)] (by rfl) (by rfl) (fun W => by simp [execOp, go_sem]) (fun W hW => empty_is n f false E.out.2.2.1 W E.out.2.2.2.2.2.1) ?_
  simp only [Act.put, List.setIfInBounds_toArray, List.set_cons_zero, List.set_cons_succ]
  refine walk_load_rel (by rfl) (by rfl) (.tmp 1) (by rfl) w.heap.size n f (by rfl) H2.out.1 ?_
  simp only [Act.put, List.setIfInBounds_toArray, List.set_cons_zero, List.set_cons_succ]
  refine Bm.walk_call 35 #[.agg (relC n f)] (by rfl) (by rfl) (fun W => by simp [execOp, go_sem]) (fun W hW => rright_is n f false E.out.1 W E.out.2.2.2.2.2.1) ?_
  simp only [Act.put, List.setIfInBounds_toArray, List.set_cons_zero, List.set_cons_succ]
  repeat (refine Bm.walk_st (by rfl) (by rfl) (fun W hW => by simp [execOp, go_sem]; exact ⟨rfl, rfl⟩) ?_; simp only [Act.put, List.setIfInBounds_toArray, List.set_cons_zero, List.set_cons_succ])
  repeat (refine Bm.walk_skip (by rfl) ?_; simp only [Act.put, List.setIfInBounds_toArray, List.set_cons_zero, List.set_cons_succ])
  repeat (refine Bm.walk_st (by rfl) (by rfl) (fun W hW => by simp [execOp, go_sem]; exact ⟨rfl, rfl⟩) ?_; simp only [Act.put, List.setIfInBounds_toArray, List.set_cons_zero, List.set_cons_succ])
  refine walk_load_rel (by rfl) (by rfl) (.tmp 1) (by rfl) w.heap.size n f (by rfl) H2.out.1 ?_
  simp only [Act.put, List.setIfInBounds_toArray, List.set_cons_zero, List.set_cons_succ]
  refine Bm.walk_call 24 #[.agg (relC n f)] (by rfl) (by rfl) (fun W => by simp [execOp, go_sem]) (fun W hW => irr_is n f ib E.out.2.2.2.2.1 W E.out.2.2.2.2.2.1) ?_
  simp only [Act.put, List.setIfInBounds_toArray, List.set_cons_zero, List.set_cons_succ]
  refine walk_load_rel (by rfl) (by rfl) (.tmp 1) (by rfl) w.heap.size n f (by rfl) H2.out.1 ?_
  simp only [Act.put, List.setIfInBounds_toArray, List.set_cons_zero, List.set_cons_succ]
  refine Bm.walk_call 37 #[.agg (relC n f)] (by rfl) (by rfl) (fun W => by simp [execOp, go_sem]) (fun W hW => rirr_is n f ib E.out.2.2.2.2.1 W E.out.2.2.2.2.2.1) ?_
  simp only [Act.put, List.setIfInBounds_toArray, List.set_cons_zero, List.set_cons_succ]
  repeat (refine Bm.walk_st (by rfl) (by rfl) (fun W hW => by simp [execOp, go_sem]; exact ⟨rfl, rfl⟩) ?_; simp only [Act.put, List.setIfInBounds_toArray, List.set_cons_zero, List.set_cons_succ])
  refine walk_load_rel (by rfl) (by rfl) (.tmp 1) (by rfl) w.heap.size n f (by rfl) H2.out.1 ?_
  simp only [Act.put, List.setIfInBounds_toArray, List.set_cons_zero, List.set_cons_succ]
  refine Bm.walk_call 26 #[.agg (relC n f)] (by rfl) (by rfl) (fun W => by simp [execOp, go_sem]) (fun W hW => acyclic_is n f t E.out.2.2.2.1 W E.out.2.2.2.2.2.1 (HT.out W (H2.out.2.1.trans (hW.mono H2.out.2.1.size))).1 (HT.out W (H2.out.2.1.trans (hW.mono H2.out.2.1.size))).2) ?_
  simp only [Act.put, List.setIfInBounds_toArray, List.set_cons_zero, List.set_cons_succ]
  refine walk_load_rel (by rfl) (by rfl) (.tmp 1) (by rfl) w.heap.size n f (by rfl) H2.out.1 ?_
  simp only [Act.put, List.setIfInBounds_toArray, List.set_cons_zero, List.set_cons_succ]
  refine Bm.walk_call 38 #[.agg (relC n f)] (by rfl) (by rfl) (fun W => by simp [execOp, go_sem]) (fun W hW => racyc_is n f t E.out.2.2.2.1 W E.out.2.2.2.2.2.1) ?_
  simp only [Act.put, List.setIfInBounds_toArray, List.set_cons_zero, List.set_cons_succ]
  repeat (refine Bm.walk_st (by rfl) (by rfl) (fun W hW => by simp [execOp, go_sem]; exact ⟨rfl, rfl⟩) ?_; simp only [Act.put, List.setIfInBounds_toArray, List.set_cons_zero, List.set_cons_succ])
  refine Bm.walk_call 22 #[] (by rfl) (by rfl) (fun W => by simp [execOp, go_sem]) (fun W hW => awake_any W (HT.out W (H2.out.2.1.trans (hW.mono H2.out.2.1.size))).1 (HT.out W (H2.out.2.1.trans (hW.mono H2.out.2.1.size))).2) ?_
  simp only [Act.put, List.setIfInBounds_toArray, List.set_cons_zero, List.set_cons_succ]
  repeat (refine Bm.walk_st (by rfl) (by rfl) (fun W hW => by simp [execOp, go_sem]; exact ⟨rfl, rfl⟩) ?_; simp only [Act.put, List.setIfInBounds_toArray, List.set_cons_zero, List.set_cons_succ])

  refine Bm.walk_nil ?_
  intro w3 hb2

  have H3 := Lib.hid (H2.out.2.1.trans (hb2.mono H2.out.2.1.size))
  clear hb2
  go_wp2_with fail
  go_ret
  exact ⟨rfl, H3.out⟩
end Go.Proofs.YtknjdfgmejobfaaDoor
