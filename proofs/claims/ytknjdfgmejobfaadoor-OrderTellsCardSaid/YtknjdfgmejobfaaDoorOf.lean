/- layer 2's law: the walk of RelRing. -/
import Derived.Test.YtknjdfgmejobfaaDoorLg
import Derived.Test.YtknjdfgmejobfaaDoorLb
namespace Go.Proofs.YtknjdfgmejobfaaDoor
open Go.RowKit Go.Shelf

attribute [-go_sem] run_eql_struct run_neq_struct
attribute [local go_sem] Bv.and_u Bv.or_u Bv.andNot_u Bv.wrap_sub1 Bv.eq0 Bv.ne0 Bv.wrap_pow Bv.wrap_powmin Bv.wrap_neg Bv.eq_u Bv.ne_u Bv.shr_min Bv.shr_pow Bv.tmod2 Bv.and1 Bv.wrap_add Bv.B1_eq1 Bv.B1_eq0 Bv.B1_ne1 Bv.B1_ne0 run_rel_eql run_rel_neq relEq_self

theorem Held.front {w W : World} {L M : List (Nat × Int × Rl.Rows)} (h : Held w (L ++ M) W) : Held w L W := by
  have key : ∀ (i : Nat) (x : Nat × Int × Rl.Rows), L[i]? = some x → (L ++ M)[i]? = some x := fun i x hi => by
    rw [List.getElem?_append_left (List.getElem?_eq_some_iff.1 hi).1]; exact hi
  exact ⟨fun i x hi => h.rel i x (key i x hi), fun i j x y hi hj hne => h.apart i j x y (key i x hi) (key j y hj) hne, fun i x hi => h.new i x (key i x hi), h.bel⟩
theorem split_at {l : List Nat} {j b : Nat} (h : l[j]? = some b) : l = l.take j ++ b :: l.drop (j + 1) := by
  obtain ⟨hj, hb⟩ := List.getElem?_eq_some_iff.1 h
  have e1 := List.drop_eq_getElem_cons hj
  rw [hb] at e1
  rw [← e1]; exact (List.take_append_drop j l).symm
/-- the set of the items of a list -/
def setOf (l : List Nat) : BitVec 64 := l.foldl (fun s a => s ||| Bv.bit a) 0#64
theorem setOf_any : ∀ (l : List Nat) (s : BitVec 64) (i : Nat), (∀ a ∈ l, a < 64) → ((l.foldl (fun s a => s ||| Bv.bit a) s).getLsbD i = true ↔ s.getLsbD i = true ∨ i ∈ l)
  | [], s, i, _ => by simp
  | a :: l, s, i, h => by
    rw [List.foldl_cons, setOf_any l _ i (fun b hb => h b (by simp [hb])), BitVec.getLsbD_or, Bool.or_eq_true, Bv.bit_get a i (h a (by simp)), decide_eq_true_eq, List.mem_cons, or_assoc]
theorem setOf_bit {l : List Nat} (h : ∀ a ∈ l, a < 64) (i : Nat) : (setOf l).getLsbD i = true ↔ i ∈ l := by
  unfold setOf; rw [setOf_any l _ i h, Bv.zero_get]; simp
theorem setOf_snoc (l : List Nat) (a : Nat) : setOf (l ++ [a]) = setOf l ||| Bv.bit a := by unfold setOf; rw [List.foldl_append]; rfl
theorem setOf_nil : setOf [] = 0#64 := rfl
theorem ints_get {l : List Nat} {i x : Nat} (h : l[i]? = some x) : (ints l).getD i 0 = (x : Int) := by
  unfold ints; rw [List.getD_eq_getElem?_getD, List.getElem?_map, h]; rfl
theorem nodup_len {n : Nat} {l : List Nat} (hd : l.Nodup) (h : ∀ a, a ∈ l ↔ a < n) : l.length = n := by
  have h1 : l.length ≤ (List.range n).length := List.Nodup.length_le_of_subset hd fun x hx => List.mem_range.2 ((h x).1 hx)
  have h2 : (List.range n).length ≤ l.length := List.Nodup.length_le_of_subset (List.nodup_range) fun x hx => (h x).2 (List.mem_range.1 hx)
  simp at h1 h2; omega
theorem not_in_take {l : List Nat} (hd : l.Nodup) {i x : Nat} (h : l[i]? = some x) : x ∉ l.take i := by
  intro hm
  obtain ⟨j, hj, he⟩ := List.getElem_of_mem hm
  have hj' : j < i := by simp at hj; omega
  have hi := (List.getElem?_eq_some_iff.1 h).1
  have := (List.pairwise_iff_getElem.1 hd) j i (by omega) hi hj'
  apply this
  rw [(List.getElem?_eq_some_iff.1 h).2, ← he]; simp

set_option maxRecDepth 100000 in
set_option maxHeartbeats 8000000 in
theorem relRing_top (n : Int) (f : Rl.Rows) (k : Nat) (A : Rl.Rows) (w : World) (hkk : k = fineK n 20) (hA : A = fineR k f) (oA : Rl.Ok k A) (zf : Rl.Z f) (hR : Rl.ringL k A = []) (hno : ∀ a, ¬ Rl.Path A a a) (hT : Tab w) (hw : 0 < w.heap.size) :
    Calls Tryd.prog 4 #[.agg (relC n f)] w fun e w' => e = .returned (.bool true) ∧ Below w.heap.size w w' := by
  have hzr := zero_rel
  have hne0 : ¬ relC 0 zeroR = #[] := by intro h; have := congrArg Array.size h; rw [relC_size] at this; simp at this
  have hTl : ∀ W, Below w.heap.size w W → Tab W ∧ 0 < W.heap.size := fun W h => ⟨hT.below h hw, Nat.lt_of_lt_of_le hw h.size⟩
  have HT := Lib.hid hTl
  clear hTl hT
  have hk48 := oA.le
  obtain ⟨X, hX⟩ : ∃ R, R = Rl.plusF k A := ⟨_, rfl⟩
  have oX : Rl.Ok k X := by rw [hX]; exact Rl.ok_plus oA
  have hirr : irrB k X = true := by unfold irrB; rw [Rl.right_of oX, Bool.true_and, Int.toNat_natCast, hX, Rl.plus_irr oA]; exact hno
  obtain ⟨L, hL⟩ : ∃ L, Rl.topL k A = some L := Option.isSome_iff_exists.1 ((Rl.top_iff oA).2 hno)
  have hac : (topR k A).isSome = true := by unfold topR; rw [Rl.right_of oA, if_pos rfl, Int.toNat_natCast, hL]; rfl
  have htop := top_yes k A
  rw [hL] at htop
  have hring := ring_yes k A
  rw [hR] at hring
  have hls := Rl.top_some oA hL
  have E := Lib.hid (And.intro hA (And.intro hkk (And.intro oA (And.intro zf (And.intro hX (And.intro oX (And.intro hirr hac)))))))
  have C := Lib.hid (And.intro htop hring)
  have Q := Lib.hid (And.intro hls hL)
  clear hA hkk oA zf hX oX hirr hac htop hring hls hL hR hno
  have H0 := Lib.hid ((Held.nil w).box n f)
  go_enter Tryd.func4, Tryd.ntmps4
  go_wp2_with (first | (refine wpList_load_rel (by rfl) (.tmp 1) (by rfl) w.heap.size n f (by rfl) (H0.out.at 0 rfl) ?_))
  with_reducible refine (fine_is n f 20 20 k A twenty E.out.2.1 E.out.1 _ (by omega) E.out.2.2.2.1).mono ?_
  rintro e w1 ⟨rfl, hb⟩
  have H1 := Lib.hid (H0.out.step hb)
  clear hb
  go_wp2_with (first | (refine wpList_store_rel (by rfl) (.tmp 1) (.tmp 19) (by rfl) w.heap.size k n A f (by rfl) (by rfl) (H1.out.at 0 rfl) ?_; intro w2 hR hg; have H2 := Lib.hid (H1.out.put 0 rfl hR hg); clear hR hg) | (refine wpList_load_rel (by rfl) (.tmp 1) (by rfl) w.heap.size k A (by rfl) (H2.out.at 0 rfl) ?_))
  with_reducible refine (C.out.2 _ E.out.2.2.1 (HT.out _ H2.out.bel).1 (HT.out _ H2.out.bel).2).mono ?_
  rintro e w3 ⟨v, rfl, hrow, hb⟩
  obtain ⟨AR, cR, eR, _, _, hAR⟩ := row_nums hrow
  subst eR
  have H3 := Lib.hid (H2.out.step hb)
  clear hb hrow hAR
  go_wp2_with (first | (refine wpList_load_rel (by rfl) (.tmp 1) (by rfl) w.heap.size k A (by rfl) (H3.out.at 0 rfl) ?_))
  with_reducible refine (plus_is k A X E.out.2.2.2.2.1 _ E.out.2.2.1 (HT.out _ H3.out.bel)).mono ?_
  rintro e w4 ⟨rfl, hb⟩
  have H4 := Lib.hid (H3.out.step hb)
  clear hb
  go_wp2_with fail
  with_reducible refine (irr_is k X true E.out.2.2.2.2.2.2.1 _ E.out.2.2.2.2.2.1.z).mono ?_
  rintro e w5 ⟨rfl, hb⟩
  have H5 := Lib.hid (H4.out.step hb)
  clear hb
  go_wp2_with (first | (refine wpList_load_rel (by rfl) (.tmp 1) (by rfl) w.heap.size k A (by rfl) (H5.out.at 0 rfl) ?_))
  with_reducible refine (acyclic_is k A true E.out.2.2.2.2.2.2.2 _ E.out.2.2.1.z (HT.out _ H5.out.bel).1 (HT.out _ H5.out.bel).2).mono ?_
  rintro e w6 ⟨rfl, hb⟩
  have H6 := Lib.hid (H5.out.step hb)
  clear hb
  go_wp2_with (first | (refine wpList_load_rel (by rfl) (.tmp 1) (by rfl) w.heap.size k A (by rfl) (H6.out.at 0 rfl) ?_))
  with_reducible refine (C.out.1 _ E.out.2.2.1 (HT.out _ H6.out.bel).1 (HT.out _ H6.out.bel).2).mono ?_
  rintro e w7 ⟨v, rfl, hrow, hb⟩
  obtain ⟨AT, cT, eT, _, _, hAT⟩ := row_nums hrow
  subst eT
  have HAT := Lib.hid hAT
  clear hrow hAT
  have H7 := Lib.hid (H6.out.step hb)
  clear hb
  have hlen : (ints L).length = L.length := ints_len L
  have hLk : L.length = k := nodup_len Q.out.1.1 Q.out.1.2.1
  rw [show ((some L).getD []).length = k from hLk]
  have HL := Lib.hid (And.intro hlen hLk)
  clear hlen hLk
  go_wp2_with fail
  go_loopw [7, 49] (fun x i wr => ∃ j : Nat, j ≤ k ∧ i = .int .i64 j ∧ x = .int .u64 (Bv.U (setOf (L.take j))) ∧ Below w7.heap.size w7 wr) (fun _ i _ => k - (intOf i).toNat)
  case atStart => exact ⟨0, Nat.zero_le _, rfl, by rw [List.take_zero, setOf_nil]; rfl, Below.refl _ _⟩
  case round =>
    obtain ⟨j, hj, rfl, rfl, hb⟩ := hrel
    by_cases hlt : j < k
    · obtain ⟨b, hbj⟩ : ∃ b, L[j]? = some b := ⟨_, List.getElem?_eq_getElem (by rw [HL.out.2]; exact hlt)⟩
      have hbk : b < k := (Q.out.1.2.1 b).1 (List.mem_of_getElem? hbj)
      have h64 : ∀ a ∈ L.take j, a < 64 := fun a ha => by have := (Q.out.1.2.1 a).1 (List.mem_of_mem_take ha); omega
      have hmet : Bv.G (setOf (L.take j)) b = false := by
        cases h : Bv.G (setOf (L.take j)) b
        · rfl
        · exact absurd ((setOf_bit h64 b).1 h) (not_in_take Q.out.1.1 hbj)
      have hpre : ∀ x, Rl.bit A x b = true → Bv.G (setOf (L.take j)) x = true := fun x hx => (setOf_bit h64 x).2 (Q.out.1.2.2 _ _ _ (split_at hbj) x hx)
      have hsnoc : setOf (L.take (j + 1)) = setOf (L.take j) ||| Bv.bit b := by rw [List.take_add_one, hbj]; exact setOf_snoc _ _
      obtain ⟨ba, off, hA, hbl, hc⟩ := HAT.out (by show 0 < (ints L).length; rw [HL.out.1, HL.out.2]; omega)
      have cj := (hb.cell (p := ⟨ba, off + j, none⟩) hbl).trans (hc j (by show j < (ints L).length; rw [HL.out.1, HL.out.2]; exact hlt))
      rw [show (ints ((some L).getD [])).getD j 0 = (b : Int) from ints_get hbj] at cj
      subst hA
      have hr := H7.out.step hb
      have c0 := (hr.at 0 rfl).num
      have q0 : (0 : Int) ≤ (b : Int) := by omega
      have q1 : decide ((k : Int) ≤ (b : Int)) = false := decide_eq_false (by omega)
      have q2 : (b : Int) < 64 := by omega
      have q3 : ¬ ((b : Int) < 0) := by omega
      have q4 : decide (k ≤ b) = false := decide_eq_false (by omega)
      obtain ⟨M, hM⟩ : ∃ M, M = setOf (L.take j) := ⟨_, rfl⟩
      rw [← hM] at hmet hpre hsnoc ⊢
      have HR := Lib.hid (And.intro hr (And.intro hb (And.intro hpre hsnoc)))
      clear hr hb hpre hsnoc h64 hbj hc hM
      go_wp2_with (refine wpList_load_rel (by rfl) (.tmp 1) (by rfl) w.heap.size k A (by rfl) (HR.out.1.at 0 rfl) ?_)
      with_reducible refine (pairs_yes k A _ E.out.2.2.1 (HT.out _ HR.out.1.bel).1 (HT.out _ HR.out.1.bel).2).mono ?_
      rintro e wp ⟨v, rfl, hrow, hbp⟩
      obtain ⟨AP, cP, eP, lP, _, hAP⟩ := row_pairs hrow
      subst eP
      have HP := Lib.hid (And.intro (HR.out.2.1.trans (hbp.mono HR.out.2.1.size)) hAP)
      have hN := Rl.pairs_le A k
      have hpl : (pI (Rl.pairsF A k)).length = (Rl.pairsF A k).length := pI_len _
      obtain ⟨N, hNN⟩ : ∃ N, N = (pI (Rl.pairsF A k)).length := ⟨_, rfl⟩
      have hN2 : N ≤ 3072 := by omega
      rw [← hNN]
      have HN := Lib.hid (And.intro hNN hpl)
      clear hbp hrow hAP lP c0 cj hNN hpl hN
      go_wp2_with fail
      go_loopw [71] (fun i wi => ∃ q : Nat, q ≤ N ∧ i = .int .i64 q ∧ Below wp.heap.size wp wi) (fun i _ => N - (intOf i).toNat)
      case atStart => exact ⟨0, Nat.zero_le _, rfl, Below.refl _ _⟩
      case round =>
        obtain ⟨q, hq, rfl, hbi⟩ := hrel
        by_cases hql : q < N
        · obtain ⟨bp, ofp, hA2, hbpl, hcp⟩ := HP.out.2 (by rw [← HN.out.1]; omega)
          subst hA2
          obtain ⟨c1, c2⟩ := hcp q (by rw [← HN.out.1]; exact hql)
          have hm : (pI (Rl.pairsF A k)).getD q (0, 0) ∈ pI (Rl.pairsF A k) := by
            have hq2 : q < (pI (Rl.pairsF A k)).length := by rw [← HN.out.1]; exact hql
            rw [List.getD_eq_getElem?_getD, List.getElem?_eq_getElem hq2]; exact List.getElem_mem hq2
          obtain ⟨x, y, hxy, hbit⟩ : ∃ x y : Nat, (pI (Rl.pairsF A k)).getD q (0, 0) = ((x : Int), (y : Int)) ∧ Rl.bit A x y = true := by
            obtain ⟨p, hp, he⟩ := List.mem_map.1 hm
            exact ⟨p.1, p.2, he.symm, (Rl.mem_pairs E.out.2.2.1 p).1 hp⟩
          rw [hxy] at c1 c2
          have hin := E.out.2.2.1.in_ x y hbit
          have d1 := (hbi.cell (p := ⟨bp, ofp + q * 2, none⟩) hbpl).trans c1
          have d2 := (hbi.cell (p := ⟨bp, ofp + q * 2 + 1, none⟩) hbpl).trans c2
          have e0 : (0 : Int) ≤ (x : Int) := by omega
          have e1 : (x : Int) < 64 := by omega
          have hsz := hbi.size
          have hn1 := hbi.alloc hbi.size (.cells #[.int .i64 (x : Int), .int .i64 (y : Int)] 42)
          have HI := Lib.hid hn1
          clear hm hcp c1 c2 hxy hbi hin hn1
          by_cases hyb : y = b
          · subst hyb
            have hg := HR.out.2.2.1 x hbit
            have hE : ((y : Int) == (y : Int)) = true := beq_self_eq_true _
            clear hbit
            go_wp2_with fail
            go_roundw
            case rel => exact ⟨q + 1, by omega, by go_num, HI.out⟩
            case measure => simp [intOf]; omega
          · have hE : ((y : Int) == (b : Int)) = false := by simp; omega
            clear hbit hyb
            go_wp2_with fail
            go_roundw
            case rel => exact ⟨q + 1, by omega, by go_num, HI.out⟩
            case measure => simp [intOf]; omega
        · have HI := Lib.hid hbi
          clear hbi
          go_wp2_with fail
          go_roundw
          case rel => exact ⟨j + 1, by omega, by go_num, by rw [HR.out.2.2.2], HP.out.1.trans (HI.out.mono HP.out.1.size)⟩
          case measure => simp [intOf]; omega
    · have hjk : j = k := by omega
      subst hjk
      have hr := H7.out.step hb
      have c0 := (hr.at 0 rfl).num
      have HR := Lib.hid hr
      clear hr hb
      go_wp2_with fail
      with_reducible refine (awake_any _ (HT.out _ HR.out.bel).1 (HT.out _ HR.out.bel).2).mono ?_
      rintro e wz ⟨rfl, hb⟩
      have HZ := Lib.hid (HR.out.step hb)
      clear hb
      go_wp2_with fail
      go_ret
      exact ⟨rfl, HZ.out.bel⟩
set_option maxRecDepth 100000 in
set_option maxHeartbeats 8000000 in
theorem relRing_cyc (n : Int) (f : Rl.Rows) (k : Nat) (A : Rl.Rows) (w : World) (hkk : k = fineK n 20) (hA : A = fineR k f) (oA : Rl.Ok k A) (zf : Rl.Z f) (hC : Rl.Cyc k A (Rl.ringL k A)) (hT : Tab w) (hw : 0 < w.heap.size) :
    Calls Tryd.prog 4 #[.agg (relC n f)] w fun e w' => e = .returned (.bool true) ∧ Below w.heap.size w w' := by
  have hzr := zero_rel
  have hne0 : ¬ relC 0 zeroR = #[] := by intro h; have := congrArg Array.size h; rw [relC_size] at this; simp at this
  have hTl : ∀ W, Below w.heap.size w W → Tab W ∧ 0 < W.heap.size := fun W h => ⟨hT.below h hw, Nat.lt_of_lt_of_le hw h.size⟩
  have HT := Lib.hid hTl
  clear hTl hT
  have hk48 := oA.le
  obtain ⟨X, hX⟩ : ∃ R, R = Rl.plusF k A := ⟨_, rfl⟩
  have oX : Rl.Ok k X := by rw [hX]; exact Rl.ok_plus oA
  have hirr : irrB k X = false := by
    cases h : irrB k X
    · rfl
    · unfold irrB at h; rw [Rl.right_of oX, Bool.true_and, Int.toNat_natCast, hX, Rl.plus_irr oA] at h
      obtain ⟨a, p⟩ := hC.round; exact absurd p.path (h a)
  have hac0 : Rl.topL k A = none := by
    cases h : Rl.topL k A with
    | none => rfl
    | some l => obtain ⟨a, p⟩ := hC.round; exact absurd p.path (Rl.top_acyclic oA h)
  have hac : (topR k A).isSome = false := by unfold topR; rw [Rl.right_of oA, if_pos rfl, Int.toNat_natCast, hac0]; rfl
  have htop := top_yes k A
  rw [hac0] at htop
  have hring := ring_yes k A
  obtain ⟨R, hR⟩ : ∃ R, R = Rl.ringL k A := ⟨_, rfl⟩
  rw [← hR] at hring hC
  clear hR
  have hpos : decide ((0 : Int) < (R.length : Int)) = true := decide_eq_true (by have := hC.pos; omega)
  have hpos2 : 0 < R.length := hC.pos
  have h65 := hC.len
  have E := Lib.hid (And.intro hA (And.intro hkk (And.intro oA (And.intro zf (And.intro hX (And.intro oX (And.intro hirr hac)))))))
  have C := Lib.hid (And.intro htop hring)
  have Q := Lib.hid hC
  clear hA hkk oA zf hX oX hirr hac htop hring hC hac0
  have H0 := Lib.hid ((Held.nil w).box n f)
  go_enter Tryd.func4, Tryd.ntmps4
  go_wp2_with (first | (refine wpList_load_rel (by rfl) (.tmp 1) (by rfl) w.heap.size n f (by rfl) (H0.out.at 0 rfl) ?_))
  with_reducible refine (fine_is n f 20 20 k A twenty E.out.2.1 E.out.1 _ (by omega) E.out.2.2.2.1).mono ?_
  rintro e w1 ⟨rfl, hb⟩
  have H1 := Lib.hid (H0.out.step hb)
  clear hb
  go_wp2_with (first | (refine wpList_store_rel (by rfl) (.tmp 1) (.tmp 19) (by rfl) w.heap.size k n A f (by rfl) (by rfl) (H1.out.at 0 rfl) ?_; intro w2 hR hg; have H2 := Lib.hid (H1.out.put 0 rfl hR hg); clear hR hg) | (refine wpList_load_rel (by rfl) (.tmp 1) (by rfl) w.heap.size k A (by rfl) (H2.out.at 0 rfl) ?_))
  with_reducible refine (C.out.2 _ E.out.2.2.1 (HT.out _ H2.out.bel).1 (HT.out _ H2.out.bel).2).mono ?_
  rintro e w3 ⟨v, rfl, hrow, hb⟩
  obtain ⟨AR, cR, eR, _, _, hAR⟩ := row_nums hrow
  subst eR
  have H3 := Lib.hid (H2.out.step hb)
  have hAR3 := Lib.hid hAR
  clear hb hrow hAR
  go_wp2_with (first | (refine wpList_load_rel (by rfl) (.tmp 1) (by rfl) w.heap.size k A (by rfl) (H3.out.at 0 rfl) ?_))
  with_reducible refine (plus_is k A X E.out.2.2.2.2.1 _ E.out.2.2.1 (HT.out _ H3.out.bel)).mono ?_
  rintro e w4 ⟨rfl, hb⟩
  have H4 := Lib.hid (H3.out.step hb)
  have hAR4 := Lib.hid (hAR3.out.below hb (Nat.le_refl _))
  clear hb
  go_wp2_with fail
  with_reducible refine (irr_is k X false E.out.2.2.2.2.2.2.1 _ E.out.2.2.2.2.2.1.z).mono ?_
  rintro e w5 ⟨rfl, hb⟩
  have H5 := Lib.hid (H4.out.step hb)
  have hAR5 := Lib.hid (hAR4.out.below hb (Nat.le_refl _))
  clear hb
  go_wp2_with (first | (refine wpList_load_rel (by rfl) (.tmp 1) (by rfl) w.heap.size k A (by rfl) (H5.out.at 0 rfl) ?_))
  with_reducible refine (acyclic_is k A false E.out.2.2.2.2.2.2.2 _ E.out.2.2.1.z (HT.out _ H5.out.bel).1 (HT.out _ H5.out.bel).2).mono ?_
  rintro e w6 ⟨rfl, hb⟩
  have H6 := Lib.hid (H5.out.step hb)
  have hAR6 := Lib.hid (hAR5.out.below hb (Nat.le_refl _))
  clear hb
  go_wp2_with (first | (refine wpList_load_rel (by rfl) (.tmp 1) (by rfl) w.heap.size k A (by rfl) (H6.out.at 0 rfl) ?_))
  with_reducible refine (C.out.1 _ E.out.2.2.1 (HT.out _ H6.out.bel).1 (HT.out _ H6.out.bel).2).mono ?_
  rintro e w7 ⟨v9, rfl, _, hb⟩
  have H7 := Lib.hid (H6.out.step hb)
  have hAR7 := Lib.hid (hAR6.out.below hb (Nat.le_refl _))
  clear hb
  have hlen : (ints R).length = R.length := ints_len R
  obtain ⟨m, hm⟩ : ∃ m, R.length = m + 1 := ⟨R.length - 1, by omega⟩
  have HL := Lib.hid (And.intro hlen hm)
  clear hlen
  have hm65 : m ≤ 64 := by omega
  clear h65 hpos2 hpos
  rw [hm]
  clear hm
  go_wp2_with fail
  go_loopw [12, 103] (fun x i wr => ∃ j : Nat, j ≤ m + 1 ∧ i = .int .i64 j ∧ x = .int .u64 (Bv.U (setOf (R.take j))) ∧ Below w7.heap.size w7 wr) (fun _ i _ => (m + 1) - (intOf i).toNat)
  case atStart => exact ⟨0, Nat.zero_le _, rfl, by rw [List.take_zero, setOf_nil]; rfl, Below.refl _ _⟩
  case round =>
    obtain ⟨j, hj, rfl, rfl, hb⟩ := hrel
    by_cases hlt : j < m + 1
    · obtain ⟨a, haj⟩ : ∃ a, R[j]? = some a := ⟨_, List.getElem?_eq_getElem (by rw [HL.out.2]; exact hlt)⟩
      obtain ⟨x, hx⟩ : ∃ x, (j + 1) % (m + 1) = x := ⟨_, rfl⟩
      have hxm : x < m + 1 := by rw [← hx]; exact Nat.mod_lt _ (by omega)
      obtain ⟨y, hy⟩ : ∃ y, R[x]? = some y := ⟨_, List.getElem?_eq_getElem (by rw [HL.out.2]; exact hxm)⟩
      obtain ⟨z, hz⟩ : ∃ z, R[0]? = some z := ⟨_, List.getElem?_eq_getElem (by rw [HL.out.2]; omega)⟩
      have hak : a < k := Q.out.lt a (List.mem_of_getElem? haj)
      have h64 : ∀ b ∈ R.take j, b < 64 := fun b hb => by have := Q.out.lt b (List.mem_of_mem_take hb); omega
      have hmet : Bv.G (setOf (R.take j)) a = false := by
        cases h : Bv.G (setOf (R.take j)) a
        · rfl
        · exact absurd ((setOf_bit h64 a).1 h) (not_in_take Q.out.nodup haj)
      have hsnoc : setOf (R.take (j + 1)) = setOf (R.take j) ||| Bv.bit a := by rw [List.take_add_one, haj]; exact setOf_snoc _ _
      have hbit : pairB k A a y = true := by
        rw [pairB_ok E.out.2.2.1]; exact Q.out.next j a y haj (by rw [HL.out.2, hx]; exact hy)
      have hza : z ≤ a := by have := Q.out.least a (List.mem_of_getElem? haj); rw [List.getD_eq_getElem?_getD, hz] at this; exact this
      have hmod : Int.tmod ((j : Int) + 1) ((m : Int) + 1) = (x : Int) := by rw [Int.tmod_eq_emod_of_nonneg (by omega), ← hx]; rfl
      have hwr : IntKind.i64.wrap ((j : Int) + 1) = (j : Int) + 1 := by rw [IntKind.wrap_i64]; omega
      obtain ⟨ba, off, hA, hbl, hc⟩ := hAR7.out (by rw [HL.out.1, HL.out.2]; omega)
      subst hA
      have cell : ∀ (i v : Nat), R[i]? = some v → ∀ W, Below wr.heap.size wr W → W.cell? ⟨ba, off + i, none⟩ = some (.int .i64 (v : Int)) := fun i v hi W hW => by
        have hi2 := (List.getElem?_eq_some_iff.1 hi).1
        rw [((hb.trans (hW.mono hb.size)).cell (p := ⟨ba, off + i, none⟩) hbl).trans (hc i (by rw [HL.out.1]; exact hi2)), ints_get hi]
      have cj := cell j a haj wr (Below.refl _ _)
      have cx := cell x y hy
      have c0 := cell 0 z hz
      have hr := H7.out.step hb
      have q0 : (0 : Int) ≤ (a : Int) := by omega
      have q2 : (a : Int) < 64 := by omega
      have q3 : ¬ ((a : Int) < 0) := by omega
      have q4 : decide ((a : Int) < (z : Int)) = false := decide_eq_false (by omega)
      have q9 : decide (a < z) = false := decide_eq_false (by omega)
      have q10 : ¬ (a < z) := by omega
      have q5 : (x : Int) < (m : Int) + 1 := by omega
      have q6 : (0 : Int) ≤ (x : Int) := by omega
      have q7 : ¬ ((m : Int) + 1 = 0) := by omega
      have q8 : (0 : Int) < (m : Int) + 1 := by omega
      obtain ⟨M, hM⟩ : ∃ M, M = setOf (R.take j) := ⟨_, rfl⟩
      rw [← hM] at hmet hsnoc ⊢
      have HR := Lib.hid (And.intro hr (And.intro hb (And.intro hsnoc (And.intro hbit (And.intro cx c0)))))
      clear hr hb hsnoc hbit cx c0 cell hc hM h64 haj hy hz hx hza hak
      go_wp2_with fail
      refine Bl.wp_region_head 25 (by kernel_rfl) (by kernel_rfl) ?_
      simp only [List.take_succ_cons, List.take_zero, List.drop_succ_cons, List.drop_zero]
      refine bel_load_rel (by rfl) (.tmp 1) (by rfl) w.heap.size k A (by rfl) (HR.out.1.at 0 rfl) ?_
      simp only [Act.put, List.setIfInBounds_toArray, List.set_cons_zero, List.set_cons_succ]
      repeat (refine Bl.belO_step (by rfl) (fun W hW => by have c1 := HR.out.2.2.2.2.1 W hW; have c2 := HR.out.2.2.2.2.2 W hW; rw [Nat.add_zero] at c2; simp [execOp, go_sem, c1, c2, hwr, hmod, hmet, q0, q2, q3, q4, q5, q6, q7, q8, q9, q10]; exact ⟨rfl, rfl⟩) ?_; simp only [Act.put, List.setIfInBounds_toArray, List.set_cons_zero, List.set_cons_succ])
      refine Bl.belO_call 29 #[.agg (relC k A), .int .i64 a, .int .i64 y] (by rfl) (fun W => by simp [execOp, go_sem]) (fun W hW => has_is k A a y true HR.out.2.2.2.1 W E.out.2.2.1.z) ?_
      simp only [Act.put, List.setIfInBounds_toArray, List.set_cons_zero, List.set_cons_succ]
      repeat (refine Bl.belO_step (by rfl) (fun W hW => by have c1 := HR.out.2.2.2.2.1 W hW; have c2 := HR.out.2.2.2.2.2 W hW; rw [Nat.add_zero] at c2; simp [execOp, go_sem, c1, c2, hwr, hmod, hmet, q0, q2, q3, q4, q5, q6, q7, q8, q9, q10]; exact ⟨rfl, rfl⟩) ?_; simp only [Act.put, List.setIfInBounds_toArray, List.set_cons_zero, List.set_cons_succ])
      refine Bl.belO_nil ?_
      intro wy hb2
      have HY := Lib.hid (HR.out.2.1.trans (hb2.mono HR.out.2.1.size))
      clear hb2
      go_wp2_with fail
      go_roundw
      case rel => exact ⟨j + 1, by omega, by go_num, by rw [HR.out.2.2.1], HY.out⟩
      case measure => simp [intOf]; omega
    · have hjm : j = m + 1 := by omega
      subst hjm
      have HA := Lib.hid (H7.out.step hb)
      clear hb
      go_wp2_with (first | (refine wpList_load_rel (by rfl) (.tmp 1) (by rfl) w.heap.size k A (by rfl) (HA.out.at 0 rfl) ?_) | (refine wpList_store_rel (by rfl) (.tmp 15) (.tmp 139) (by rfl) wr.heap.size k 0 A zeroR (by rfl) (by rfl) (RelAt.new wr 0 zeroR) ?_; intro w61 hR hg; have H61 := Lib.hid (HA.out.push hR hg); clear hR hg))
      obtain ⟨bw, hbw⟩ : ∃ b, b = wr.heap.size := ⟨_, rfl⟩
      rw [← hbw] at H61 ⊢
      clear hbw
      go_loopw [143] (fun i wr2 => ∃ j : Nat, j ≤ m ∧ i = .int .i64 j ∧ Held w [(w.heap.size, (k : Int), A), (bw, (k : Int), Rl.powF k A j)] wr2) (fun i _ => m - (intOf i).toNat)
      case atStart => exact ⟨0, Nat.zero_le _, rfl, H61.out⟩
      case round =>
        obtain ⟨j, hj, rfl, hh⟩ := hrel
        obtain ⟨P, hP⟩ : ∃ P, P = Rl.powF k A j := ⟨_, rfl⟩
        obtain ⟨P2, hP2⟩ : ∃ P, P = Rl.powF k A (j + 1) := ⟨_, rfl⟩
        have hthen : P2 = Rl.thenF k P A := by rw [hP2, hP]; rfl
        have oP : Rl.Ok k P := by rw [hP]; exact Rl.ok_pow E.out.2.2.1 j
        have hq : irrB k P = decide (j < m) := by
          unfold irrB; rw [Rl.right_of oP, Bool.true_and, Int.toNat_natCast, Bool.eq_iff_iff, Rl.irr_iff oP, decide_eq_true_eq]
          constructor
          · intro h
            apply Nat.lt_of_not_le; intro hle
            obtain ⟨a, p⟩ := Q.out.round
            rw [HL.out.2, show m = j by omega] at p
            have h1 := h a; rw [hP] at h1
            rw [(Rl.pow_bit E.out.2.2.1 j a a).2 p] at h1; cases h1
          · intro h a
            cases hb : Rl.bit P a a
            · rfl
            · rw [hP] at hb; exact absurd ((Rl.pow_bit E.out.2.2.1 j a a).1 hb) (Q.out.short _ _ (by rw [HL.out.2]; omega))
        rw [← hP] at hh
        by_cases hlt2 : j < m
        · rw [decide_eq_true hlt2] at hq
          have HP := Lib.hid (And.intro hq (And.intro hthen (And.intro oP hP2)))
          have HB := Lib.hid hh
          clear hq hthen oP hP2 hP hh
          go_wp2_with (first | (refine wpList_load_rel (by rfl) (.tmp 15) (by rfl) bw k P (by rfl) (HB.out.at 1 rfl) ?_))
          with_reducible refine (irr_is k P true HP.out.1 _ HP.out.2.2.1.z).mono ?_
          rintro e w71 ⟨rfl, hb⟩
          have H71 := Lib.hid (HB.out.step hb)
          clear hb
          go_wp2_with (first | (refine wpList_load_rel (by rfl) (.tmp 15) (by rfl) bw k P (by rfl) (H71.out.at 1 rfl) ?_) | (refine wpList_load_rel (by rfl) (.tmp 1) (by rfl) w.heap.size k A (by rfl) (H71.out.at 0 rfl) ?_))
          with_reducible refine (then_is k P A P2 HP.out.2.1 _ HP.out.2.2.1 E.out.2.2.1 (HT.out _ H71.out.bel)).mono ?_
          rintro e w72 ⟨rfl, hb⟩
          have H72 := Lib.hid (H71.out.step hb)
          clear hb
          go_wp2_with (first | (refine wpList_store_rel (by rfl) (.tmp 16) (.tmp 152) (by rfl) w72.heap.size k 0 P2 zeroR (by rfl) (by rfl) (RelAt.new w72 0 zeroR) ?_; intro w73 hR hg; have H73 := Lib.hid (H72.out.push hR hg); clear hR hg) | (refine wpList_load_rel (by rfl) (.tmp 16) (by rfl) w72.heap.size k P2 (by rfl) (H73.out.at 2 rfl) ?_) | (refine wpList_store_rel (by rfl) (.tmp 15) (.tmp 156) (by rfl) bw k k P2 P (by rfl) (by rfl) (H73.out.at 1 rfl) ?_; intro w74 hR hg; have H74 := Lib.hid (H73.out.put 1 rfl hR hg); clear hR hg))
          go_roundw
          case rel => exact ⟨j + 1, by omega, by go_num, by rw [← HP.out.2.2.2]; exact Held.front (L := [_, _]) (M := [_]) H74.out⟩
          case measure => simp [intOf]; omega
        · rw [decide_eq_false hlt2] at hq
          have HP := Lib.hid (And.intro hq oP)
          have HB := Lib.hid hh
          clear hq hthen oP hP2 hP hh
          go_wp2_with (first | (refine wpList_load_rel (by rfl) (.tmp 15) (by rfl) bw k P (by rfl) (HB.out.at 1 rfl) ?_))
          with_reducible refine (irr_is k P false HP.out.1 _ HP.out.2.z).mono ?_
          rintro e w81 ⟨rfl, hb⟩
          have H81 := Lib.hid (HB.out.step hb)
          clear hb
          go_wp2_with fail
          with_reducible refine (awake_any _ (HT.out _ H81.out.bel).1 (HT.out _ H81.out.bel).2).mono ?_
          rintro e w82 ⟨rfl, hb⟩
          have H82 := Lib.hid (H81.out.step hb)
          clear hb
          go_wp2_with fail
          go_ret
          exact ⟨rfl, H82.out.bel⟩
theorem relRing_con (n : Int) (f : Rl.Rows) (w : World) (z0 : Rl.Z f) (hT : Tab w) (hw : 0 < w.heap.size) :
    Calls Tryd.prog 4 #[.agg (relC n f)] w fun e w' => e = .returned (.bool true) ∧ Below w.heap.size w w' := by
  have oA : Rl.Ok (fineK n 20) (fineR (fineK n 20) f) := ok_fine (by have := fineK_le n 20; omega) f
  rcases Rl.ring_cyc oA with ⟨h1, h2⟩ | h
  · exact relRing_top n f _ _ w rfl rfl oA z0 h1 h2 hT hw
  · exact relRing_cyc n f _ _ w rfl rfl oA z0 h hT hw
end Go.Proofs.YtknjdfgmejobfaaDoor
