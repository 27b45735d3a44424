/- reference of layer 2: Of. -/
import Derived.Test.YtknjdfgmejobfaaDoorPm
namespace Go.Proofs.YtknjdfgmejobfaaDoor
open Go.RowKit Go.Shelf

attribute [-go_sem] run_eql_struct run_neq_struct
attribute [local go_sem] Bv.and_u Bv.or_u Bv.andNot_u Bv.wrap_sub1 Bv.eq0 Bv.ne0 Bv.wrap_pow Bv.wrap_powmin Bv.wrap_neg Bv.eq_u Bv.ne_u Bv.shr_min Bv.shr_pow Bv.tmod2 Bv.and1 Bv.wrap_add Bv.B1_eq1 Bv.B1_eq0 Bv.B1_ne1 Bv.B1_ne0

set_option maxRecDepth 100000 in
set_option maxHeartbeats 4000000 in
theorem rof_yes (n : Nat) (A : Option Addr) (l : List (Int × Int)) (cap : Nat) (w : World) (hn : n ≤ 48) (hl : l.length ≤ maxLen) (hA : PairsAt w A l) :
    Calls Tryd.prog 59 #[.int .i64 n, .slice A l.length cap] w fun e w' => e = .returned (.tuple #[.agg (relC (ofN n l) (ofF n l)), .bool (ofB n l)]) ∧ Below w.heap.size w w' := by
  unfold maxLen at hl
  have hzr := zero_rel
  have hbr := build_rel
  have hbz := build_zero
  have hne0 : ¬ relC 0 zeroR = #[] := by intro h; have := congrArg Array.size h; rw [relC_size] at this; simp at this
  have q0 : ¬ ((n : Int) < 0) := by omega
  have q1 : ¬ ((48 : Int) < (n : Int)) := by omega
  have q2 : decide (48 < n) = false := decide_eq_false (by omega)
  have h0 := (RelAt.new w 0 zeroR).alloc (.cells (relC 0 zeroR) 26)
  have h1 := RelAt.new (w.alloc (.cells (relC 0 zeroR) 26)) 0 zeroR
  rw [World.size_alloc] at h1
  have hB := (((Below.refl w.heap.size w).alloc (Nat.le_refl _) (.cells (relC 0 zeroR) 26)).alloc (by simp) (.cells (relC 0 zeroR) 26))
  have H := Lib.hid (And.intro h0 (And.intro h1 (And.intro hB hA)))
  clear h0 h1 hB hA
  go_enter Tryd.func59, Tryd.ntmps59
  go_wp2_with (refine wpList_store_rel (by rfl) (.tmp 6) (.tmp 18) (by rfl) (w.heap.size + 1) n 0 zeroR zeroR (by rfl) (by rfl) H.out.2.1 ?_; intro w3 hR3 hg3)
  have H3 := Lib.hid (And.intro hR3 (And.intro (H.out.1.kept hg3 (by intro e; injection e with e; omega)) (H.out.2.2.1.grown hg3 H.out.2.2.1.size (fun j e => by injection e with e; omega))))
  clear hR3 hg3
  go_loopw [7, 8, 9] (fun c _ _ wr => ∃ k : Nat, k ≤ l.length ∧ c = .int .i64 k ∧ (l.take k).all (inB n) = true ∧ RelAt wr (w.heap.size + 1) n (ofR (l.take k)) ∧ RelAt wr w.heap.size 0 zeroR ∧ Below w.heap.size w wr) (fun c _ _ _ => l.length - (intOf c).toNat)
  case atStart => exact ⟨0, Nat.zero_le _, rfl, by simp, by simpa [ofR] using H3.out.1, H3.out.2⟩
  case round =>
    obtain ⟨k, hk, rfl, hall, r1, r0, hb⟩ := hrel
    by_cases hlt : k < l.length
    · obtain ⟨b, off, rfl, hbl, hc⟩ := (H.out.2.2.2.below hb (Nat.le_refl _)) (by omega)
      obtain ⟨c1, c2⟩ := hc k hlt
      obtain ⟨p, hp⟩ : ∃ p, p = l.getD k (0, 0) := ⟨_, rfl⟩
      rw [← hp] at c1 c2
      obtain ⟨x, y⟩ := p
      have hel : l[k]? = some (x, y) := by
        rw [List.getD_eq_getElem?_getD, List.getElem?_eq_getElem hlt] at hp
        rw [List.getElem?_eq_getElem hlt, hp]; rfl
      have htk : l.take (k + 1) = l.take k ++ [(x, y)] := by rw [List.take_add_one, hel]; rfl
      obtain ⟨N, hN⟩ : ∃ N, N = l.length := ⟨_, rfl⟩
      rw [← hN] at hlt hl ⊢
      have HN := Lib.hid hN
      have cX := fun d os => cell_regrown c1 d os
      have cY := fun d os => cell_regrown c2 d os
      have p0 : (0 : Int) ≤ (k : Int) := by omega
      have p1 : (k : Int) < (N : Int) := by omega
      cases hin : inB n (x, y)
      · have hnot : l.all (inB n) = false := by
          rw [Bool.eq_false_iff]
          intro h
          rw [List.all_eq_true] at h
          rw [h (x, y) (List.mem_of_getElem? hel)] at hin
          cases hin
        have hof0 : ofB n l = false := by unfold ofB; rw [hnot, Bool.and_false]
        have HF := Lib.hid (And.intro (of_false hof0) hof0)
        have hcase : x < 0 ∨ (0 ≤ x ∧ (n : Int) ≤ x) ∨ (0 ≤ x ∧ x < n ∧ y < 0) ∨ (0 ≤ x ∧ x < n ∧ 0 ≤ y ∧ (n : Int) ≤ y) := by
          have h := of_decide_eq_false hin
          simp only [] at h
          omega
        have HH := Lib.hid (And.intro r0 hb)
        clear hall r1 r0 hb hp hc hin hel htk hnot hof0 hN c1 c2
        rcases hcase with h1 | ⟨h1, h2⟩ | ⟨h1, h2, h3⟩ | ⟨h1, h2, h3, h4⟩
        all_goals
          go_wp2_with fail
          refine wp_region_quiet_below (by kernel_rfl) (by kernel_rfl) ?_
          repeat (first | go_big_quiet_step (fail) | quiet_step (fail))
          refine wpQuiet_nil ?_
          intro W1 hw1
          have HX := Lib.hid (And.intro (HH.out.1.below (below_of_regrown hw1) HH.out.1.lt) (HH.out.2.trans ((below_of_regrown hw1).mono HH.out.2.size)))
          clear hw1 cX cY
          go_wp2_with (refine wpList_store_rel (by rfl) (.tmp 4) (.tmp 51) (by rfl) w.heap.size 0 0 zeroR zeroR (by rfl) (by rfl) HX.out.1 ?_; intro w4 hR4 hg4)
          refine bodyPost_ret (results_rel_tmp rfl _ _ w.heap.size 0 zeroR rfl hR4) rfl ⟨by rw [HF.out.1.1, HF.out.1.2.1, HF.out.2]; rfl, HX.out.2.grown hg4 HX.out.2.size (fun j e => by injection e with e; omega)⟩
      · have hcase := of_decide_eq_true hin
        simp only [] at hcase
        obtain ⟨h1, h2, h3, h4⟩ := hcase
        obtain ⟨i, rfl⟩ : ∃ i : Nat, x = (i : Int) := ⟨x.toNat, by omega⟩
        obtain ⟨j, rfl⟩ : ∃ j : Nat, y = (j : Int) := ⟨y.toNat, by omega⟩
        have hi : i < n := by omega
        have hj : j < n := by omega
        have e0 : (i : Int) < 48 := by omega
        have e1 : decide ((n : Int) ≤ (i : Int)) = false := decide_eq_false (by omega)
        have e2 : decide ((n : Int) ≤ (j : Int)) = false := decide_eq_false (by omega)
        have e3 : decide (n ≤ i) = false := decide_eq_false (by omega)
        have e4 : decide (n ≤ j) = false := decide_eq_false (by omega)
        have hall2 : (l.take (k + 1)).all (inB n) = true := by rw [htk, List.all_append, hall]; simp [hin]
        have hof : ofR (l.take (k + 1)) = upd (ofR (l.take k)) i (ofR (l.take k) i ||| Bv.bit j) := by rw [htk]; unfold ofR; rw [List.foldl_append]; rfl
        obtain ⟨F, hF⟩ : ∃ F, F = ofR (l.take k) := ⟨_, rfl⟩
        rw [← hF] at hof r1
        have hw2 := withS_nat (F i) j (by omega)
        have HH := Lib.hid (And.intro r1 (And.intro r0 (And.intro hb (And.intro hall2 (And.intro hof hw2)))))
        clear hall r1 r0 hb hp hc hin hel htk hall2 hof hF hw2 hN c1 c2
        go_wp2_with fail
        refine wp_region_quiet_below (by kernel_rfl) (by kernel_rfl) ?_
        repeat (first | go_big_quiet_step (fail) | quiet_step (fail))
        refine wpQuiet_nil ?_
        intro W1 hw1
        have hx1 := HH.out.1.below (below_of_regrown hw1) HH.out.1.lt
        have d2 := hx1.row i (by omega)
        have f2 := hx1.free (1 + i)
        have HX := Lib.hid (And.intro hx1 (And.intro (HH.out.2.1.below (below_of_regrown hw1) HH.out.2.1.lt) (HH.out.2.2.1.trans ((below_of_regrown hw1).mono HH.out.2.2.1.size))))
        clear hw1 hx1 cX cY
        go_wp2_with fail
        with_reducible refine (rwith_is (F i) j _ HH.out.2.2.2.2.2 _).mono ?_
        rintro e w' ⟨rfl, rfl⟩
        go_wp2_with fail
        go_roundw
        case rel => exact ⟨k + 1, by have := HN.out; omega, by go_num, HH.out.2.2.2.1, by rw [HH.out.2.2.2.2.1]; exact HX.out.1.set i _, HX.out.2.1.other ⟨w.heap.size + 1, 1 + i, none⟩ _ (by simp), HX.out.2.2.setCell (p := ⟨w.heap.size + 1, 1 + i, none⟩) (by simp) _⟩
        case measure => simp [intOf]; omega
    · have hkl : k = l.length := by omega
      subst hkl
      rw [List.take_length] at hall r1
      have hof0 : ofB n l = true := by unfold ofB; rw [hall, Bool.and_true]; exact decide_eq_true ⟨by omega, by omega⟩
      have HF := Lib.hid (And.intro (of_true hof0) hof0)
      have HH := Lib.hid (And.intro r1 (And.intro r0 hb))
      clear hall r1 r0 hb hof0
      go_wp2_with (first | (refine wpList_load_rel (by rfl) (.tmp 6) (by rfl) (w.heap.size + 1) n (ofR l) (by rfl) HH.out.1 ?_) | (refine wpList_store_rel (by rfl) (.tmp 4) (.tmp 61) (by rfl) w.heap.size n 0 (ofR l) zeroR (by rfl) (by rfl) HH.out.2.1 ?_; intro w4 hR4 hg4))
      refine bodyPost_ret (results_rel_tmp rfl _ _ w.heap.size n (ofR l) rfl hR4) rfl ⟨by rw [HF.out.1.1, HF.out.1.2.1, HF.out.2]; rfl, HH.out.2.2.grown hg4 HH.out.2.2.size (fun j e => by injection e with e; omega)⟩
set_option maxRecDepth 100000 in
set_option maxHeartbeats 1000000 in
theorem rof_bad (n : Int) (v : Value) (l : List (Int × Int)) (w : World) (hn : n < 0 ∨ 48 < n) :
    Calls Tryd.prog 59 #[.int .i64 n, v] w fun e w' => e = .returned (.tuple #[.agg (relC (ofN n l) (ofF n l)), .bool (ofB n l)]) ∧ Below w.heap.size w w' := by
  have hzr := zero_rel
  have hbz := build_zero
  have hof0 : ofB n l = false := by unfold ofB; rw [decide_eq_false (by omega)]; rfl
  rw [hof0, (of_false hof0).1, (of_false hof0).2.1]
  have H0 := Lib.hid ((Held.nil w).box 0 zeroR)
  have d1 : n < 0 ∨ (decide (n < 0) = false ∧ decide (48 < n) = true) := by
    by_cases e : n < 0
    · exact .inl e
    · exact .inr ⟨decide_eq_false e, decide_eq_true (by omega)⟩
  clear hof0 hn
  rcases d1 with e | ⟨e1, e2⟩
  · have e1 : decide (n < 0) = true := decide_eq_true e
    go_enter Tryd.func59, Tryd.ntmps59
    go_wp2_with (refine wpList_store_rel (by rfl) (.tmp 4) (.tmp 16) (by rfl) w.heap.size 0 0 zeroR zeroR (by rfl) (by rfl) (H0.out.at 0 rfl) ?_; intro w5 hR hg; have H5 := Lib.hid (And.intro hR (H0.out.put 0 rfl hR hg)); clear hR hg)
    refine bodyPost_ret (results_rel_tmp rfl _ _ w.heap.size 0 zeroR rfl H5.out.1) rfl ⟨rfl, H5.out.2.bel⟩
  · go_enter Tryd.func59, Tryd.ntmps59
    go_wp2_with (refine wpList_store_rel (by rfl) (.tmp 4) (.tmp 16) (by rfl) w.heap.size 0 0 zeroR zeroR (by rfl) (by rfl) (H0.out.at 0 rfl) ?_; intro w5 hR hg; have H5 := Lib.hid (And.intro hR (H0.out.put 0 rfl hR hg)); clear hR hg)
    refine bodyPost_ret (results_rel_tmp rfl _ _ w.heap.size 0 zeroR rfl H5.out.1) rfl ⟨rfl, H5.out.2.bel⟩
theorem rof_any (n : Int) (A : Option Addr) (l : List (Int × Int)) (cap : Nat) (w : World) (hl : l.length ≤ maxLen) (hA : PairsAt w A l) :
    Calls Tryd.prog 59 #[.int .i64 n, .slice A l.length cap] w fun e w' => e = .returned (.tuple #[.agg (relC (ofN n l) (ofF n l)), .bool (ofB n l)]) ∧ Below w.heap.size w w' := by
  by_cases hn : n < 0 ∨ 48 < n
  · exact rof_bad n _ l w hn
  · obtain ⟨m, rfl⟩ : ∃ m : Nat, n = (m : Int) := ⟨n.toNat, by omega⟩
    exact rof_yes m A l cap w (by omega) hl hA
end Go.Proofs.YtknjdfgmejobfaaDoor
