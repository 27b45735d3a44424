/- package order: Keeps. -/
import Derived.Test.YtknjdfgmejobfaaDoorSi
namespace Go.Proofs.YtknjdfgmejobfaaDoor
open Go.RowKit Go.Shelf

/-- does the order L respect the relation f? -/
def keepsN (f : Rl.Rows) (n : Nat) (L : List Nat) : Bool := (Rl.pairsF f n).all fun p => decide (L.idxOf p.1 < L.idxOf p.2)
def keepsB (n : Int) (f : Rl.Rows) (zs : List Int) : Bool := Rl.rightB n f && okL n zs && keepsN f n.toNat (natL zs)

attribute [local go_sem] Bv.and_u Bv.or_u Bv.andNot_u Bv.wrap_sub1 Bv.eq0 Bv.ne0 Bv.wrap_pow Bv.wrap_powmin Bv.wrap_neg Bv.eq_u Bv.ne_u Bv.shr_min Bv.shr_pow Bv.tmod2 Bv.and1 Bv.wrap_add Bv.B1_eq1 Bv.B1_eq0 Bv.B1_ne1 Bv.B1_ne0
set_option maxRecDepth 100000 in
set_option maxHeartbeats 2000000 in
theorem keeps_not (n : Int) (f : Rl.Rows) (A : Option Addr) (zs : List Int) (cap : Nat) (w : World) (hr : Rl.rightB n f = false) :
    Calls Tryd.prog 54 #[.agg (relC n f), .slice A zs.length cap] w fun e w' => e = .returned (.bool false) ∧ Below w.heap.size w w' := by
  have H := Lib.hid (And.intro (RelAt.new w n f) (And.intro ((Below.refl w.heap.size w).alloc (Nat.le_refl _) (.cells (relC n f) 26)) hr))
  clear hr
  go_enter Tryd.func54, Tryd.ntmps54
  go_wp2_with (refine wpList_load_rel (by rfl) (.tmp 2) (by rfl) w.heap.size n f (by rfl) H.out.1 ?_)
  with_reducible refine (right_is _ _ _ H.out.2.2 _).mono ?_
  rintro e w1 ⟨rfl, hb⟩
  have H1 := Lib.hid (H.out.2.1.trans (hb.mono H.out.2.1.size))
  clear hb
  go_wp2_with fail
  go_ret
  exact ⟨rfl, H1.out⟩
set_option maxRecDepth 100000 in
set_option maxHeartbeats 2000000 in
theorem keeps_list (n : Int) (f : Rl.Rows) (A : Option Addr) (zs : List Int) (cap : Nat) (w : World) (hr : Rl.rightB n f = true) (hok : okL n zs = false) (hA : IntsAt w A zs) :
    Calls Tryd.prog 54 #[.agg (relC n f), .slice A zs.length cap] w fun e w' => e = .returned (.bool false) ∧ Below w.heap.size w w' := by
  have hza := zero_arr
  have H := Lib.hid (And.intro (RelAt.new w n f) (And.intro ((Below.refl w.heap.size w).alloc (Nat.le_refl _) (.cells (relC n f) 26)) (And.intro hr (And.intro hok hA))))
  clear hr hok hA
  go_enter Tryd.func54, Tryd.ntmps54
  go_wp2_with (refine wpList_load_rel (by rfl) (.tmp 2) (by rfl) w.heap.size n f (by rfl) H.out.1 ?_)
  with_reducible refine (right_is _ _ _ H.out.2.2.1 _).mono ?_
  rintro e w1 ⟨rfl, hb⟩
  have H1 := Lib.hid (And.intro (H.out.1.below hb H.out.1.lt) (H.out.2.1.trans (hb.mono H.out.2.1.size)))
  have c0 := H1.out.1.num
  clear hb
  go_wp2_with fail
  have hpl := places_any n A zs cap w1 (H.out.2.2.2.2.below H1.out.2 (Nat.le_refl _))
  rw [H.out.2.2.2.1] at hpl
  refine hpl.mono ?_
  clear hpl
  rintro e w2 ⟨g, rfl, -, hb⟩
  have H2 := Lib.hid (And.intro (H1.out.2.trans (hb.mono H1.out.2.size)) (ArrAt.new w2 zeroI))
  clear hb c0
  go_wp2_with (refine wpList_store_arr (by rfl) (.tmp 5) (.tmp 17) (by rfl) w2.heap.size g zeroI (by rfl) (by rfl) H2.out.2 ?_; intro w3 hR3 hg3)
  go_ret
  exact ⟨rfl, (H2.out.1.alloc H2.out.1.size (.cells (arrC zeroI) 100)).grown hg3 (by have := H2.out.1.size; simp; omega) (fun j e => by injection e with e; rw [← e]; exact H2.out.1.size)⟩
theorem at_idx {L : List Nat} {g : Nat → Int} (h : ∀ i, i < (ints L).length → g ((ints L).getD i 0).toNat = i) {a : Nat} (ha : a ∈ L) : g a = (L.idxOf a : Nat) := by
  have hi : L.idxOf a < L.length := List.idxOf_lt_length_of_mem ha
  have h1 := h (L.idxOf a) (by rw [ints_len]; exact hi)
  have h2 : L[L.idxOf a]? = some a := by rw [List.getElem?_eq_getElem hi, List.getElem_idxOf hi]
  rw [ints_get h2] at h1
  exact h1
set_option maxRecDepth 100000 in
set_option maxHeartbeats 4000000 in
theorem keeps_yes (n : Nat) (f : Rl.Rows) (A : Option Addr) (L : List Nat) (cap : Nat) (w : World) (oF : Rl.Ok n f) (hok : okL n (ints L) = true) (hA : IntsAt w A (ints L)) (hT : Tab w) (hw : 0 < w.heap.size) (b : Bool) (hb : b = keepsN f n L) :
    Calls Tryd.prog 54 #[.agg (relC n f), .slice A n cap] w fun e w' => e = .returned (.bool b) ∧ Below w.heap.size w w' := by
  have hza := zero_arr
  have hn := oF.le
  have hTl : ∀ W, Below w.heap.size w W → Tab W ∧ 0 < W.heap.size := fun W h => ⟨hT.below h hw, Nat.lt_of_lt_of_le hw h.size⟩
  have HT := Lib.hid hTl
  have HQ := Lib.hid (And.intro hb (And.intro oF (Rl.right_of oF)))
  have HL : Hid (L.length = n ∧ (∀ a ∈ L, a < n) ∧ L.Nodup) := by
    obtain ⟨m, e, _, h1, h2, h3⟩ := (okL_nat n L).1 hok
    have : n = m := by omega
    subst this
    exact Lib.hid ⟨h1, h2, h3⟩
  have H := Lib.hid (And.intro (RelAt.new w n f) (And.intro ((Below.refl w.heap.size w).alloc (Nat.le_refl _) (.cells (relC n f) 26)) (And.intro hok hA)))
  clear hok hA hTl hT hb oF
  go_enter Tryd.func54, Tryd.ntmps54
  go_wp2_with (refine wpList_load_rel (by rfl) (.tmp 2) (by rfl) w.heap.size n f (by rfl) H.out.1 ?_)
  with_reducible refine (right_is _ _ _ HQ.out.2.2 _).mono ?_
  rintro e w1 ⟨rfl, hb⟩
  have H1 := Lib.hid (And.intro (H.out.1.below hb H.out.1.lt) (H.out.2.1.trans (hb.mono H.out.2.1.size)))
  have c0 := H1.out.1.num
  clear hb
  go_wp2_with fail
  have hpl := places_any n A (ints L) cap w1 (H.out.2.2.2.below H1.out.2 (Nat.le_refl _))
  rw [H.out.2.2.1, ints_len, HL.out.1] at hpl
  refine hpl.mono ?_
  clear hpl
  rintro e w2 ⟨g, rfl, hg, hb⟩
  have H2 := Lib.hid (And.intro (H1.out.2.trans (hb.mono H1.out.2.size)) (And.intro (ArrAt.new w2 zeroI) (And.intro (H1.out.1.below hb H1.out.1.lt) (hg rfl))))
  clear hb c0 hg
  go_wp2_with (first | (refine wpList_store_arr (by rfl) (.tmp 5) (.tmp 17) (by rfl) w2.heap.size g zeroI (by rfl) (by rfl) H2.out.2.1 ?_; intro w3 hR3 hg3; have H3 := Lib.hid (And.intro hR3 (And.intro ((H2.out.2.2.1.alloc (.cells (arrC zeroI) 100)).kept hg3 (fun e => by injection e with e; have := H2.out.2.2.1.lt; omega)) ((H2.out.1.alloc H2.out.1.size (.cells (arrC zeroI) 100)).grown hg3 (by have := H2.out.1.size; simp; omega) (fun j e => by injection e with e; rw [← e]; exact H2.out.1.size)))); clear hR3 hg3) | (refine wpList_load_rel (by rfl) (.tmp 2) (by rfl) w.heap.size n f (by rfl) H3.out.2.1 ?_))
  with_reducible refine (pairs_yes n f _ HQ.out.2.1 (HT.out _ H3.out.2.2).1 (HT.out _ H3.out.2.2).2).mono ?_
  rintro e wp ⟨v, rfl, hrow, hbp⟩
  obtain ⟨AP, cP, eP, lP, _, hAP⟩ := row_pairs hrow
  subst eP
  have HP := Lib.hid (And.intro (H3.out.2.2.trans (hbp.mono H3.out.2.2.size)) (And.intro hAP (H3.out.1.below hbp H3.out.1.lt)))
  have hN := Rl.pairs_le f n
  have hpl : (pI (Rl.pairsF f n)).length = (Rl.pairsF f n).length := pI_len _
  obtain ⟨N, hNN⟩ : ∃ N, N = (pI (Rl.pairsF f n)).length := ⟨_, rfl⟩
  have hN2 : N ≤ 3072 := by omega
  rw [← hNN]
  have HN := Lib.hid (And.intro hNN hpl)
  clear hbp hrow hAP lP hNN hpl hN
  go_wp2_with fail
  go_loopw [24] (fun i wi => ∃ q : Nat, q ≤ N ∧ i = .int .i64 q ∧ (∀ p ∈ (Rl.pairsF f n).take q, L.idxOf p.1 < L.idxOf p.2) ∧ Below wp.heap.size wp wi) (fun i _ => N - (intOf i).toNat)
  case atStart => exact ⟨0, Nat.zero_le _, rfl, fun p hp => by simp at hp, Below.refl _ _⟩
  case round =>
    obtain ⟨q, hq, rfl, hall, hbi⟩ := hrel
    by_cases hql : q < N
    · obtain ⟨bp, ofp, hA2, hbpl, hcp⟩ := HP.out.2.1 (by rw [← HN.out.1]; omega)
      subst hA2
      obtain ⟨c1, c2⟩ := hcp q (by rw [← HN.out.1]; exact hql)
      have hq3 : q < (Rl.pairsF f n).length := by rw [← HN.out.2, ← HN.out.1]; exact hql
      obtain ⟨x, y, hel⟩ : ∃ x y : Nat, (Rl.pairsF f n)[q]? = some (x, y) := ⟨_, _, List.getElem?_eq_getElem hq3⟩
      have hxy : (pI (Rl.pairsF f n)).getD q (0, 0) = ((x : Int), (y : Int)) := by
        unfold pI; rw [List.getD_eq_getElem?_getD, List.getElem?_map, hel]; rfl
      have hbit : Rl.bit f x y = true := (Rl.mem_pairs HQ.out.2.1 (x, y)).1 (List.mem_of_getElem? hel)
      have hin := HQ.out.2.1.in_ x y hbit
      rw [hxy] at c1 c2
      have d1 := (hbi.cell (p := ⟨bp, ofp + q * 2, none⟩) hbpl).trans c1
      have d2 := (hbi.cell (p := ⟨bp, ofp + q * 2 + 1, none⟩) hbpl).trans c2
      have htk : (Rl.pairsF f n).take (q + 1) = (Rl.pairsF f n).take q ++ [(x, y)] := by rw [List.take_add_one, hel]; rfl
      obtain ⟨W, hW⟩ : ∃ W, W = wr.alloc (.cells #[.int .i64 (x : Int), .int .i64 (y : Int)] 42) := ⟨_, rfl⟩
      have rn := World.alloc_heap_new wr (.cells #[.int .i64 (x : Int), .int .i64 (y : Int)] 42)
      have hn1 := hbi.alloc hbi.size (.cells #[.int .i64 (x : Int), .int .i64 (y : Int)] 42)
      rw [← hW] at rn hn1
      have e0 : W.cell? ⟨wr.heap.size, 0, none⟩ = some (.int .i64 (x : Int)) := by rw [cell_of_row _ _ 0 _ _ _ rn]; rfl
      have e1 : W.cell? ⟨wr.heap.size, 1, none⟩ = some (.int .i64 (y : Int)) := by rw [cell_of_row _ _ 1 _ _ _ rn]; rfl
      have a1 := (HP.out.2.2.below hn1 HP.out.2.2.lt).cell x (by omega)
      have a2 := (HP.out.2.2.below hn1 HP.out.2.2.lt).cell y (by omega)
      have hmem := fun a ha => full_list HL.out.2.2 HL.out.2.1 HL.out.1 a ha
      rw [at_idx H2.out.2.2.2 (hmem x hin.1)] at a1
      rw [at_idx H2.out.2.2.2 (hmem y hin.2)] at a2
      have q0 : (0 : Int) ≤ (x : Int) := by omega
      have q1 : (x : Int) < 48 := by omega
      have q2 : (0 : Int) ≤ (y : Int) := by omega
      have q3 : (y : Int) < 48 := by omega
      obtain ⟨ix, hix⟩ : ∃ ix, ix = L.idxOf x := ⟨_, rfl⟩
      obtain ⟨iy, hiy⟩ : ∃ iy, iy = L.idxOf y := ⟨_, rfl⟩
      rw [← hix] at a1
      rw [← hiy] at a2
      have HI := Lib.hid (And.intro hn1 (And.intro hall (And.intro htk (And.intro hW (And.intro hix (And.intro hiy hel))))))
      clear hcp c1 c2 hxy hbi hin hn1 hall htk hW rn hix hiy hel hbit hmem hq3 hbpl
      by_cases hlt : ix < iy
      · have g1 : ¬ ((iy : Int) ≤ (ix : Int)) := by omega
        have g2 : decide ((iy : Int) ≤ (ix : Int)) = false := decide_eq_false g1
        have g3 : decide (iy ≤ ix) = false := decide_eq_false (by omega)
        have HX := Lib.hid hlt
        clear hlt
        go_wp2_with fail
        rw [← HI.out.2.2.2.1]
        go_quiet (fail)
        go_wp2_with fail
        go_roundw
        case rel =>
          refine ⟨q + 1, by omega, by go_num, fun p hp => ?_, by repeat (first | exact HI.out.1 | exact below_drewN HI.out.1 _ | refine Below.drew ?_)⟩
          rw [HI.out.2.2.1, List.mem_append] at hp
          rcases hp with hp | hp
          · exact HI.out.2.1 p hp
          · simp at hp; subst hp
            show L.idxOf x < L.idxOf y
            rw [← HI.out.2.2.2.2.1, ← HI.out.2.2.2.2.2.1]; exact HX.out
        case measure => simp [intOf]; omega
      · have g1 : (iy : Int) ≤ (ix : Int) := by omega
        have g2 : decide ((iy : Int) ≤ (ix : Int)) = true := decide_eq_true g1
        have g3 : decide (iy ≤ ix) = true := decide_eq_true (by omega)
        have HX := Lib.hid hlt
        clear hlt
        go_wp2_with fail
        rw [← HI.out.2.2.2.1]
        go_quiet (fail)
        go_wp2_with fail
        go_ret
        have hF : b = false := by
          rw [HQ.out.1]
          unfold keepsN
          rw [Bool.eq_false_iff]
          intro h
          rw [List.all_eq_true] at h
          have h2 := of_decide_eq_true (h (x, y) (List.mem_of_getElem? HI.out.2.2.2.2.2.2))
          rw [← HI.out.2.2.2.2.1, ← HI.out.2.2.2.2.2.1] at h2
          exact HX.out h2
        refine ⟨by rw [hF]; rfl, HP.out.1.trans (Below.mono ?_ HP.out.1.size)⟩
        repeat (first | exact HI.out.1 | exact below_drewN HI.out.1 _ | refine Below.drew ?_)
    · have hql2 : (Rl.pairsF f n).length ≤ q := by rw [← HN.out.2, ← HN.out.1]; omega
      rw [List.take_of_length_le hql2] at hall
      have HI := Lib.hid (And.intro hall hbi)
      clear hall hbi hql2
      go_wp2_with fail
      go_ret
      have hF : b = true := by
        rw [HQ.out.1]
        unfold keepsN
        rw [List.all_eq_true]
        exact fun p hp => decide_eq_true (HI.out.1 p hp)
      exact ⟨by rw [hF]; rfl, HP.out.1.trans (HI.out.2.mono HP.out.1.size)⟩
theorem keeps_any (n : Int) (f : Rl.Rows) (A : Option Addr) (zs : List Int) (cap : Nat) (w : World) (zf : Rl.Z f) (hA : IntsAt w A zs) (hT : Tab w) (hw : 0 < w.heap.size) :
    Calls Tryd.prog 54 #[.agg (relC n f), .slice A zs.length cap] w fun e w' => e = .returned (.bool (keepsB n f zs)) ∧ Below w.heap.size w w' := by
  unfold keepsB
  cases h : Rl.rightB n f
  · exact keeps_not n f A zs cap w h
  · cases h2 : okL n zs
    · exact keeps_list n f A zs cap w h h2 hA
    · obtain ⟨m, rfl, e1, e2, e3, e4, e5⟩ := okL_parts h2
      have oF := (Rl.right_iff m f zf).1 h
      have hA2 := hA
      rw [e2] at hA2
      have hh := h2
      rw [e2] at hh
      have := keeps_yes m f A (natL zs) cap w oF hh hA2 hT hw _ rfl
      rw [show zs.length = m by rw [← e3]; simp [natL]]
      rw [Bool.true_and, Bool.true_and, Int.toNat_natCast]
      exact this
end Go.Proofs.YtknjdfgmejobfaaDoor
