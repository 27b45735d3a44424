/- reference of layer 3: Orders. -/
import Derived.Test.YtknjdfgmejobfaaDoorWj
import Derived.Test.YtknjdfgmejobfaaDoorLh
import Derived.Test.YtknjdfgmejobfaaDoorSg
import Derived.Test.YtknjdfgmejobfaaDoorTe
namespace Go.Proofs.YtknjdfgmejobfaaDoor
open Go.RowKit Go.Shelf

theorem more_all (n : Nat) (f : Rl.Rows) (most base : Nat) (oF : Rl.Ok n f) (hm : most ≤ 10000) : ∀ m, MoreAll n f m most base
  | 0 => by
    intro B O A cb v w hB hO hv hk hnil hbase
    have h := more_done n f B O most base A cb v w (by omega) oF.le hO hm hv (hk w (grown_refl _ _)) (fun e => by have := hnil e; exact ⟨by omega, this.2⟩) hbase
    rw [show B.length = n by omega]
    exact h
  | m + 1 => more_step n f m most base oF hm (more_all n f most base oF hm m)

theorem flatMap_if {α β : Type} (p : α → Bool) (g : α → List β) : ∀ l : List α, (l.filter p).flatMap g = l.flatMap fun a => if p a then g a else []
  | [] => rfl
  | a :: l => by
    rw [List.flatMap_cons, ← flatMap_if p g l]
    cases h : p a
    · rw [List.filter_cons_of_neg (by simp [h])]; simp
    · rw [List.filter_cons_of_pos h, List.flatMap_cons]; simp
theorem flatMap_same {α β : Type} {g h : α → List β} : ∀ {l : List α}, (∀ a ∈ l, g a = h a) → l.flatMap g = l.flatMap h
  | [], _ => rfl
  | a :: l, hh => by rw [List.flatMap_cons, List.flatMap_cons, hh a (by simp), flatMap_same (fun b hb => hh b (by simp [hb]))]
theorem allE_ext {n : Nat} {f : Rl.Rows} (oF : Rl.Ok n f) : ∀ (m k : Nat) (B : List Nat) (left : BitVec 64), (∀ a, left.getLsbD a = true ↔ a < n ∧ a ∉ B) → Bx.card left = m → m ≤ k → allE n f m B = Rl.ext (Rl.backF n f) k left B
  | 0, k, B, left, _, hc, _ => by
    rw [Rl.card_zero hc, Rl.ext_nil]; rfl
  | m + 1, k, B, left, hl, hc, hk => by
    obtain ⟨k', rfl⟩ : ∃ k', k = k' + 1 := ⟨k - 1, by omega⟩
    have hne : left ≠ 0#64 := fun e => by
      rw [e] at hc
      have : Bx.card 0#64 = 0 := by unfold Bx.card; rw [show Bs.elems 0#64 = [] from Bs.elems_zero]; rfl
      omega
    rw [Rl.ext_step hne]
    unfold Rl.extR
    have he : Bs.elems left = (List.range n).filter fun a => decide (a ∉ B) := by
      apply Bs.sorted_ext (Bs.elems_sorted _) (List.Pairwise.filter _ List.pairwise_lt_range)
      intro i
      rw [Bs.mem_elems, hl, List.mem_filter, List.mem_range, decide_eq_true_eq]
    rw [he, flatMap_if]
    show (List.range n).flatMap _ = _
    apply flatMap_same
    intro a ha
    have ha := List.mem_range.1 ha
    by_cases hB : a ∈ B
    · have e1 : mayJ f B a n = false := by unfold mayJ; rw [decide_eq_false (fun h => h hB), Bool.false_and]
      have e2 : decide (a ∉ B) = false := decide_eq_false (fun h => h hB)
      simp only [e1, e2, Bool.false_eq_true, if_false]
    · have e2 : decide (a ∉ B) = true := decide_eq_true hB
      simp only [e2, if_true]
      have hla := (hl a).2 ⟨ha, hB⟩
      have hmay : mayJ f B a n = Rl.mayB (Rl.backF n f) left a := by
        rw [Bool.eq_iff_iff, Rl.mayB_iff]
        unfold mayJ
        rw [decide_eq_true hB, Bool.true_and, List.all_eq_true]
        constructor
        · intro h c hcl
          have h1 := (hl c).1 hcl
          have h2 := h c (List.mem_range.2 h1.1)
          rw [Rl.back_ok oF]
          cases hb : Rl.bit f c a
          · rfl
          · rw [hb, decide_eq_true h1.2] at h2; cases h2
        · intro h b hb
          by_cases hbB : b ∈ B
          · simp [hbB]
          · have h1 := h b ((hl b).2 ⟨List.mem_range.1 hb, hbB⟩)
            rw [Rl.back_ok oF] at h1
            simp [h1]
      rw [hmay]
      split
      · have hcm := Rl.card_minus left a hla
        apply allE_ext oF m k' (B ++ [a]) (left &&& ~~~ Bv.bit a) (fun b => ?_) (by omega) (by omega)
        rw [Rl.minus_iff left a b (Bx.lt64 hla), hl]
        simp only [List.mem_append, List.mem_singleton, not_or]
        exact and_assoc
      · rfl
theorem allE_ordL {n : Nat} {f : Rl.Rows} (oF : Rl.Ok n f) (h : (Rl.topL n f).isSome = true) : allE n f n [] = Rl.ordL n f := by
  have hn := oF.le
  unfold Rl.ordL
  rw [if_pos h]
  refine allE_ext oF n 64 [] _ (fun a => ?_) ?_ (by omega)
  · by_cases ha : a < 64
    · rw [Rl.below_getN n a ha, decide_eq_true_eq]; simp
    · constructor
      · intro h2; exact absurd (Bx.lt64 h2) ha
      · intro h2; omega
  · unfold Bx.card
    rw [Rl.elems_below n hn, List.length_range]

attribute [-go_sem] run_eql_struct run_neq_struct
set_option maxRecDepth 100000 in
set_option maxHeartbeats 4000000 in
theorem rorders_any (n : Int) (f : Rl.Rows) (most : Int) (w : World) (zf : Rl.Z f) (hT : Tab w) (hw : 0 < w.heap.size) :
    Calls Tryd.prog 47 #[.agg (relC n f), .int .i64 most] w (OrdersOut (ordersR n f most) (ordersE n f most) w) := by
  have hTl : ∀ W, Below w.heap.size w W → Tab W ∧ 0 < W.heap.size := fun W h => ⟨hT.below h hw, Nat.lt_of_lt_of_le hw h.size⟩
  have HT := Lib.hid hTl
  obtain ⟨R, hR⟩ : ∃ R, Rl.rightB n f = R := ⟨_, rfl⟩
  obtain ⟨l, hl⟩ : ∃ l, ordersR n f most = l := ⟨_, rfl⟩
  obtain ⟨E, hE⟩ : ∃ E, ordersE n f most = E := ⟨_, rfl⟩
  rw [hl, hE]
  have H0 := Lib.hid ((Held.nil w).box n f)
  have Z := Lib.hid (And.intro zf (And.intro hR (And.intro hl hE)))
  clear zf hTl hT hR hl hE
  go_enter Tryd.func47, Tryd.ntmps47
  go_wp2_with (first | (refine wpList_load_rel (by rfl) (.tmp 2) (by rfl) w.heap.size n f (by rfl) (H0.out.at 0 rfl) ?_))
  with_reducible refine (rright_is n f R Z.out.2.1 _ Z.out.1).mono ?_
  rintro e w1 ⟨rfl, hb⟩
  have H1 := Lib.hid (H0.out.step hb)
  clear hb
  by_cases hval : validB n f most = true
  · have hv2 := hval
    unfold validB at hv2
    rw [Bool.and_eq_true, decide_eq_true_eq, Z.out.2.1] at hv2
    obtain ⟨⟨m0, m1⟩, hRt⟩ := hv2
    obtain ⟨k, rfl⟩ : ∃ k : Nat, most = (k : Int) := ⟨most.toNat, by omega⟩
    have hk : k ≤ 10000 := by omega
    obtain ⟨j, rfl, oF⟩ := Rl.right_nat Z.out.1 (Z.out.2.1.trans hRt)
    subst hRt
    have d1 : decide ((k : Int) < 0) = false := decide_eq_false (by omega)
    have d2 : decide ((10000 : Int) < (k : Int)) = false := decide_eq_false (by omega)
    have d3 : decide (10000 < k) = false := decide_eq_false (by omega)
    obtain ⟨ac, hac⟩ : ∃ ac, (topR j f).isSome = ac := ⟨_, rfl⟩
    have V := Lib.hid (And.intro hval (And.intro oF hac))
    clear hval oF hac m0 m1
    go_wp2_with (first | (refine wpList_load_rel (by rfl) (.tmp 2) (by rfl) w.heap.size j f (by rfl) (H1.out.at 0 rfl) ?_))
    refine (racyc_is j f ac V.out.2.2 _ Z.out.1).mono ?_
    rintro e w2 ⟨rfl, hb⟩
    have H2 := Lib.hid (H1.out.step hb)
    clear hb
    have htop : (Rl.topL j f).isSome = ac := by
      have := V.out.2.2
      unfold topR at this
      rw [Rl.right_of V.out.2.1, if_pos rfl, Int.toNat_natCast] at this
      exact this
    have hl2 : l = if (Rl.ordL j f).length ≤ k then Rl.ordL j f else [] := by
      rw [← Z.out.2.2.1]; unfold ordersR; rw [V.out.1, Bool.true_and, Int.toNat_natCast]
      by_cases h : (Rl.ordL j f).length ≤ k
      · rw [if_pos h, if_pos (by simp; omega)]
      · rw [if_neg h, if_neg (by simp; omega)]
    have hE2 : E = if (Rl.ordL j f).length ≤ k then 0 else 5 := by
      rw [← Z.out.2.2.2]; unfold ordersE; rw [V.out.1, if_pos rfl, Int.toNat_natCast]
      by_cases h : (Rl.ordL j f).length ≤ k
      · rw [if_pos h, if_pos (by omega)]
      · rw [if_neg h, if_neg (by omega)]
    cases ac
    · have hnil : Rl.ordL j f = [] := by unfold Rl.ordL; rw [htop]; rfl
      rw [hnil] at hl2 hE2
      have HL := Lib.hid (And.intro hl2 hE2)
      clear hl2 hE2 hnil htop
      go_wp2_with fail
      go_ret2
      refine ⟨_, by rw [HL.out.2]; rfl, ?_, H2.out.bel⟩
      rw [HL.out.1]; exact lists_nil _ _
    · have hall := allE_ordL V.out.2.1 htop
      have hmo := more_all j f k w.heap.size V.out.2.1 hk j [] [] none 0 (.slice none 0 0) w2 (by simp) (by simp) (lists_nil _ _) (fun W' _ h => by simp [ints] at h) (fun _ => ⟨rfl, rfl⟩) H2.out.bel.size
      have HL := Lib.hid (And.intro hl2 (And.intro hE2 (And.intro hall hmo)))
      clear hl2 hE2 hall hmo htop
      go_wp2_with (first | (refine wpList_load_rel (by rfl) (.tmp 2) (by rfl) w.heap.size j f (by rfl) (H2.out.at 0 rfl) ?_))
      refine HL.out.2.2.2.mono ?_
      rintro e w3 ⟨v3, rfl, hls, hgr, _⟩
      obtain ⟨A3, c3, e3, _⟩ := lists_form hls
      have hlen : (moreF k [] (allE j f j [])).length = min (k + 1) (Rl.ordL j f).length := by
        unfold moreF; rw [HL.out.2.2.1]; simp
      have hb : Below w2.heap.size w2 w3 := ⟨hgr.os, hgr.tape, hgr.output, hgr.size, fun q hq => hgr.block q hq (fun e => by cases e)⟩
      rw [hlen] at e3
      obtain ⟨N, hN⟩ : ∃ N, min (k + 1) (Rl.ordL j f).length = N := ⟨_, rfl⟩
      rw [hN] at e3
      subst e3
      have H3 := Lib.hid (And.intro (H2.out.step hb) (And.intro hls hN))
      clear hls hgr hb hlen hN
      by_cases hle : (Rl.ordL j f).length ≤ k
      · have e1 : decide ((k : Int) < (N : Int)) = false := decide_eq_false (by have := H3.out.2.2; omega)
        have e2 : ¬ (k : Int) < (N : Int) := by have := H3.out.2.2; omega
        have HQ := Lib.hid hle
        clear hle
        go_wp2_with fail
        go_ret2
        refine ⟨_, by rw [HL.out.2.1, if_pos HQ.out]; rfl, ?_, H3.out.1.bel⟩
        rw [HL.out.1, if_pos HQ.out]
        have h := H3.out.2.1
        unfold moreF at h
        rw [HL.out.2.2.1, List.nil_append, List.take_of_length_le (by have := HQ.out; simp; omega)] at h
        exact h
      · have e1 : decide ((k : Int) < (N : Int)) = true := decide_eq_true (by have := H3.out.2.2; omega)
        have e2 : (k : Int) < (N : Int) := by have := H3.out.2.2; omega
        have HQ := Lib.hid hle
        clear hle
        go_wp2_with fail
        go_ret2
        refine ⟨_, by rw [HL.out.2.1, if_neg HQ.out]; rfl, ?_, H3.out.1.bel⟩
        rw [HL.out.1, if_neg HQ.out]; exact lists_nil _ _
  · have hl2 : l = [] := by rw [← Z.out.2.2.1]; unfold ordersR; rw [Bool.not_eq_true] at hval; rw [hval]; rfl
    have hE2 : E = 2 := by rw [← Z.out.2.2.2]; unfold ordersE; rw [if_neg hval]
    have hcase : R = false ∨ (R = true ∧ most < 0) ∨ (R = true ∧ ¬ most < 0 ∧ 10000 < most) := by
      unfold validB at hval
      rw [Z.out.2.1] at hval
      cases R
      · exact .inl rfl
      · by_cases h1 : most < 0
        · exact .inr (.inl ⟨rfl, h1⟩)
        · refine .inr (.inr ⟨rfl, h1, ?_⟩)
          apply Classical.byContradiction
          intro h2
          exact hval (by rw [decide_eq_true (show 0 ≤ most ∧ most ≤ 10000 by omega)]; rfl)
    have HL := Lib.hid (And.intro hl2 hE2)
    clear hl2 hE2 hval
    rcases hcase with rfl | ⟨rfl, h1⟩ | ⟨rfl, h1, h2⟩
    · go_wp2_with fail
      go_ret2
      refine ⟨_, by rw [HL.out.2]; rfl, ?_, H1.out.bel⟩
      rw [HL.out.1]; exact lists_nil _ _
    · have d1 : decide (most < 0) = true := decide_eq_true h1
      go_wp2_with fail
      go_ret2
      refine ⟨_, by rw [HL.out.2]; rfl, ?_, H1.out.bel⟩
      rw [HL.out.1]; exact lists_nil _ _
    · have d1 : decide (most < 0) = false := decide_eq_false h1
      have d2 : decide (10000 < most) = true := decide_eq_true h2
      go_wp2_with fail
      go_ret2
      refine ⟨_, by rw [HL.out.2]; rfl, ?_, H1.out.bel⟩
      rw [HL.out.1]; exact lists_nil _ _
end Go.Proofs.YtknjdfgmejobfaaDoor
