/- seisinlaw02: of, in, Pairs. -/
import Derived.Test.YtknjdfgmejobfaaDoorNx
import Derived.Test.YtknjdfgmejobfaaDoorNq
import Derived.Test.YtknjdfgmejobfaaDoorNl
namespace Go.Proofs.YtknjdfgmejobfaaDoor
open Go.RowKit Go.Shelf

attribute [-go_sem] run_eql_struct run_neq_struct
attribute [local go_sem] Bv.and_u Bv.or_u Bv.andNot_u Bv.wrap_sub1 Bv.eq0 Bv.ne0 Bv.wrap_pow Bv.wrap_powmin Bv.wrap_neg Bv.eq_u Bv.ne_u Bv.shr_min Bv.shr_pow Bv.tmod2 Bv.and1 Bv.wrap_add Bv.B1_eq1 Bv.B1_eq0 Bv.B1_ne1 Bv.B1_ne0

set_option maxRecDepth 100000 in
set_option maxHeartbeats 1000000 in
theorem of_fn (n : Int) (A : Option Addr) (l : List (Int × Int)) (cap : Nat) (w : World) (hl : l.length ≤ maxLen) (hA : PairsAt w A l) :
    Calls Tryd.prog 78 #[.int .i64 n, .slice A l.length cap] w fun e w' => e = .returned (.agg (relC (ofN n l) (ofF n l))) ∧ Below w.heap.size w w' := by
  have hzr := zero_rel
  have hne0 : ¬ relC 0 zeroR = #[] := by intro h; have := congrArg Array.size h; rw [relC_size] at this; simp at this
  have hB := (Below.refl w.heap.size w).alloc (Nat.le_refl _) (.cells (relC 0 zeroR) 26)
  obtain ⟨N, hN⟩ : ∃ N, N = ofN n l := ⟨_, rfl⟩
  obtain ⟨F, hF⟩ : ∃ F, F = ofF n l := ⟨_, rfl⟩
  have hcall := of_any n A l cap (w.alloc (.cells (relC 0 zeroR) 26)) hl (hA.below hB (Nat.le_refl _))
  rw [← hN, ← hF] at hcall
  rw [← hN, ← hF]
  have H := Lib.hid (And.intro (RelAt.new w 0 zeroR) (And.intro hB hcall))
  clear hB hA hcall hN hF
  go_enter Tryd.func78, Tryd.ntmps78
  go_wp2_with fail
  with_reducible refine H.out.2.2.mono ?_
  rintro e w1 ⟨rfl, hb⟩
  have hlt : w.heap.size < w1.heap.size := by have := hb.size; simp at this; omega
  have H1 := Lib.hid (And.intro (H.out.1.below hb (by simp)) (H.out.2.1.trans (hb.mono (by simp))))
  clear hb
  go_wp2_with (first
    | (refine wpList_store_rel (by rfl) (.tmp 5) (.tmp 11) (by rfl) w1.heap.size N 0 F zeroR (by rfl) (by rfl) (RelAt.new w1 0 zeroR) ?_; intro w2 hR2 hg2; have K0 := (H1.out.1.alloc (.cells (relC 0 zeroR) 26)).kept hg2 (by intro e; injection e with e; omega); have KB := (H1.out.2.alloc H1.out.2.size (.cells (relC 0 zeroR) 26)).grown hg2 (by have := H1.out.2.size; simp; omega) (fun j e => by injection e with e; omega); have H2 := Lib.hid (And.intro hR2 (And.intro K0 KB)); clear hR2 hg2 K0 KB)
    | (refine wpList_load_rel (by rfl) (.tmp 5) (by rfl) w1.heap.size N F (by rfl) H2.out.1 ?_)
    | (refine wpList_store_rel (by rfl) (.tmp 4) (.tmp 13) (by rfl) w.heap.size N 0 F zeroR (by rfl) (by rfl) H2.out.2.1 ?_; intro w4 hR4 hg4))
  refine bodyPost_ret (results_cell_row rfl _ _ w.heap.size 26 (relC N F) (0, 0) _ rfl hR4 uRel rfl (sRelC _ _)) rfl ⟨rfl, H2.out.2.2.grown hg4 H2.out.2.2.size (fun j e => by injection e with e; omega)⟩

/-! ### in, where it holds -/
set_option maxRecDepth 100000 in
set_option maxHeartbeats 1000000 in
theorem in_true (n : Nat) (f g : Rl.Rows) (w : World) (hf : Rl.Ok n f) (hg : Rl.Ok n g) (h : ∀ a b, Rl.bit f a b = true → Rl.bit g a b = true) :
    Calls Tryd.prog 30 #[.agg (relC n f), .agg (relC n g)] w fun e w' => e = .returned (.bool true) ∧ Below w.heap.size w w' := by
  have hzr := zero_rel
  have hne0 : ¬ relC 0 zeroR = #[] := by intro h; have := congrArg Array.size h; rw [relC_size] at this; simp at this
  have hl := Rl.ok_less (g := g) hf
  have he : emptyB n (Rl.lessF n f g) = true := by
    unfold emptyB fromS
    rw [Rl.right_of hl, if_pos rfl, Int.toNat_natCast, (Rl.less_zero hf).2 h]; rfl
  have H0 := Lib.hid (((Held.nil w).box n f).box n g)
  simp only [World.size_alloc] at H0
  have HO := Lib.hid (And.intro hf (And.intro hg (And.intro hl he)))
  clear hf hg h hl he
  go_enter Tryd.func30, Tryd.ntmps30
  go_wp2_with (first
    | (refine wpList_load_rel (by rfl) (.tmp 2) (by rfl) w.heap.size n f (by rfl) (H0.out.at 0 rfl) ?_)
    | (refine wpList_load_rel (by rfl) (.tmp 3) (by rfl) (w.heap.size + 1) n g (by rfl) (H0.out.at 1 rfl) ?_))
  with_reducible refine (less_ok n f g _ HO.out.1 HO.out.2.1).mono ?_
  rintro e w1 ⟨rfl, hb⟩
  have H1 := Lib.hid (H0.out.step hb)
  clear hb
  go_wp2_with (first
    | (refine wpList_store_rel (by rfl) (.tmp 5) (.tmp 11) (by rfl) w1.heap.size n 0 (Rl.lessF n f g) zeroR (by rfl) (by rfl) (RelAt.new w1 0 zeroR) ?_; intro w2 hR2 hg2; have H2 := Lib.hid (H1.out.push hR2 hg2); clear hR2 hg2)
    | (refine wpList_load_rel_want (by rfl) (.tmp 5) (by rfl) w1.heap.size n (Rl.lessF n f g) (by rfl) (H2.out.at 2 rfl) ?_))
  with_reducible refine (empty_is n (Rl.lessF n f g) true HO.out.2.2.2 _ HO.out.2.2.1.z).mono ?_
  rintro e w3 ⟨rfl, hb⟩
  have H3 := Lib.hid (H2.out.step hb)
  clear hb
  go_wp2_with fail
  go_ret
  exact ⟨rfl, H3.out.bel⟩

/-! ### two lists of pairs -/
def pI (l : List (Nat × Nat)) : List (Int × Int) := l.map fun p => ((p.1 : Int), (p.2 : Int))
theorem pI_len (l : List (Nat × Nat)) : (pI l).length = l.length := by simp [pI]
theorem pairV_len (l : List (Nat × Nat)) : (pairV l).length = l.length * 2 := by
  induction l with
  | nil => rfl
  | cons p l ih => rw [show pairV (p :: l) = pairC p ++ pairV l by simp [pairV], List.length_append, ih]; simp [pairC]; omega
theorem pairV_get : ∀ (l : List (Nat × Nat)) (i : Nat), i < l.length → (pairV l)[i * 2]? = some (.int .i64 ((l.getD i (0, 0)).1 : Int)) ∧ (pairV l)[i * 2 + 1]? = some (.int .i64 ((l.getD i (0, 0)).2 : Int))
  | [], i, h => by simp at h
  | p :: l, 0, _ => by rw [show pairV (p :: l) = pairC p ++ pairV l by simp [pairV]]; simp [pairC]
  | p :: l, i + 1, h => by
    have ih := pairV_get l i (by simpa using h)
    rw [show pairV (p :: l) = pairC p ++ pairV l by simp [pairV], List.getElem?_append_right (by simp [pairC]; omega), List.getElem?_append_right (by simp [pairC]; omega)]
    rw [show (i + 1) * 2 - (pairC p).length = i * 2 by simp [pairC]; omega, show (i + 1) * 2 + 1 - (pairC p).length = i * 2 + 1 by simp [pairC]; omega]
    simpa using ih
theorem row_pairs {w : World} {base n : Nat} {v : Value} {l : List (Nat × Nat)} (h : w.ownsRow base 42 2 v n (pairV l)) : ∃ A cap, v = .slice A (pI l).length cap ∧ (pI l).length = n ∧ cap ≤ maxLen ∧ PairsAt w A (pI l) := by
  have hn : l.length = n := by have := h.1; rw [pairV_len] at this; omega
  rcases h.2 with ⟨rfl, h0⟩ | ⟨g, cap, cur, rfl, hb, hg, hnc, hcm, hcs, ht⟩
  · exact ⟨none, 0, by rw [pI_len, hn, h0], by rw [pI_len, hn], Nat.zero_le _, fun hp => by rw [pI_len] at hp; omega⟩
  · refine ⟨some ⟨g, 0, none⟩, cap, by rw [pI_len, hn], by rw [pI_len, hn], hcm, fun _ => ⟨g, 0, rfl, (Array.getElem?_eq_some_iff.1 hg).1, fun i hi => ?_⟩⟩
    rw [pI_len] at hi
    have hc := fun j v hv => h.cells (g := g) rfl j v hv
    have hadd : ∀ j, (⟨g, 0, none⟩ : Addr).add j = ⟨g, 0 + j, none⟩ := by intro j; unfold Addr.add; split <;> simp_all
    have e1 := hc _ _ (pairV_get l i hi).1
    have e2 := hc _ _ (pairV_get l i hi).2
    rw [hadd] at e1 e2
    have hd : (pI l).getD i (0, 0) = (((l.getD i (0, 0)).1 : Int), ((l.getD i (0, 0)).2 : Int)) := by simp [pI, List.getD_eq_getElem?_getD, hi]
    rw [hd]
    exact ⟨e1, by rw [← Nat.add_assoc] at e2; exact e2⟩
theorem uPair : Tryd.prog.underlying 42 = some (.array 2 3) := by kernel_rfl
theorem run_pair_neq (a b : Int) (w : World) : (binOp .neq 42 (.agg #[.int .i64 a, .int .i64 b]) (.agg #[.int .i64 a, .int .i64 b])).run Tryd.prog w = .ok (.bool false) w := by
  obtain ⟨ti, hti⟩ := Option.isSome_iff_exists.1 (show (Tryd.prog.info? 3).isSome = true by kernel_rfl)
  have p0 : (part 3 #[Value.int .i64 a, .int .i64 b] 0).run Tryd.prog w = .ok (.int .i64 a) w := by kernel_rfl
  have p1 : (part 3 #[Value.int .i64 a, .int .i64 b] 1).run Tryd.prog w = .ok (.int .i64 b) w := by kernel_rfl
  rw [run_neq_struct, show (10000 : Nat) = 9999 + 1 from rfl, run_equalIn_array w 9999 _ _ uPair hti, show Tryd.prog.cellsOf 3 = 1 by kernel_rfl]
  simp only [show List.range 2 = [0, 1] from rfl, Op.eqItems, Sem.run_bind, Nat.zero_mul, Nat.one_mul, p0, p1, Result.andThen_ok]
  rw [run_equalIn_int w 9998 _ .i64 .i64 _ _ uInt]
  simp only [beq_self_eq_true, Bool.not_true, Bool.false_eq_true, if_false, Result.andThen_ok, Sem.run_bind, p1]
  rw [run_equalIn_int w 9998 _ .i64 .i64 _ _ uInt]
  simp
set_option maxRecDepth 100000 in
set_option maxHeartbeats 1000000 in
theorem pairs_same (A B : Option Addr) (l : List (Int × Int)) (c d : Nat) (w : World) (hl : l.length ≤ maxLen) (hA : PairsAt w A l) (hB : PairsAt w B l) :
    Calls Tryd.prog 64 #[.slice A l.length c, .slice B l.length d] w fun e w' => e = .returned (.bool true) ∧ Below w.heap.size w w' := by
  unfold maxLen at hl
  have H := Lib.hid (And.intro hA hB)
  clear hA hB
  have hne := run_pair_neq
  go_enter Tryd.func64, Tryd.ntmps64
  go_wp2_with fail
  go_loopw [13] (fun i wr => ∃ k : Nat, k ≤ l.length ∧ i = .int .i64 k ∧ Below w.heap.size w wr) (fun i _ => l.length - (intOf i).toNat)
  case atStart => exact ⟨0, Nat.zero_le _, rfl, Below.refl _ _⟩
  case round =>
    obtain ⟨k, hk, rfl, hb⟩ := hrel
    by_cases hlt : k < l.length
    · obtain ⟨b, off, hA, hbl, hc⟩ := H.out.1 (by omega)
      obtain ⟨b2, off2, hB, hbl2, hc2⟩ := H.out.2 (by omega)
      subst hA hB
      have hsz := hb.size
      have CA : ∀ W, Below wr.heap.size wr W → W.cell? ⟨b, off + k * 2, none⟩ = some (.int .i64 (l.getD k (0, 0)).1) ∧ W.cell? ⟨b, off + k * 2 + 1, none⟩ = some (.int .i64 (l.getD k (0, 0)).2) := fun W hW =>
        have h2 := hb.trans (hW.mono hb.size)
        ⟨(h2.cell (p := ⟨b, off + k * 2, none⟩) hbl).trans (hc k hlt).1, (h2.cell (p := ⟨b, off + k * 2 + 1, none⟩) hbl).trans (hc k hlt).2⟩
      have CB : ∀ W, Below wr.heap.size wr W → W.cell? ⟨b2, off2 + k * 2, none⟩ = some (.int .i64 (l.getD k (0, 0)).1) ∧ W.cell? ⟨b2, off2 + k * 2 + 1, none⟩ = some (.int .i64 (l.getD k (0, 0)).2) := fun W hW =>
        have h2 := hb.trans (hW.mono hb.size)
        ⟨(h2.cell (p := ⟨b2, off2 + k * 2, none⟩) hbl2).trans (hc2 k hlt).1, (h2.cell (p := ⟨b2, off2 + k * 2 + 1, none⟩) hbl2).trans (hc2 k hlt).2⟩
      obtain ⟨p, hp⟩ : ∃ p, p = l.getD k (0, 0) := ⟨_, rfl⟩
      rw [← hp] at CA CB
      obtain ⟨x, y⟩ := p
      have q0 : (0 : Int) ≤ (k : Int) := by omega
      have q1 : (k : Int) < (l.length : Int) := by omega
      have HC := Lib.hid (And.intro CA (And.intro CB hb))
      clear CA CB hb hp hc hc2
      go_wp2_with fail
      refine Bl.wp_region_head 8 (by kernel_rfl) (by kernel_rfl) ?_
      simp only [List.take_succ_cons, List.take_zero, List.drop_succ_cons, List.drop_zero]
      repeat (refine Bl.belO_step (by rfl) (fun W hW => by have c1 := HC.out.1 W hW; have c2 := HC.out.2.1 W hW; simp [execOp, go_sem, c1, c2, q0, q1]; exact ⟨rfl, rfl⟩) ?_; simp only [Act.put, List.setIfInBounds_toArray, List.set_cons_zero, List.set_cons_succ])
      refine Bl.belO_nil ?_
      intro w2 hb2
      have B2 := Lib.hid (HC.out.2.2.trans (hb2.mono HC.out.2.2.size))
      clear hb2
      go_wp2_with fail
      go_roundw
      case rel => exact ⟨k + 1, by omega, by go_num, B2.out⟩
      case measure => simp [intOf]; omega
    · have HB := Lib.hid hb
      clear hb
      go_wp2_with fail
      go_ret
      exact ⟨rfl, HB.out⟩
end Go.Proofs.YtknjdfgmejobfaaDoor
