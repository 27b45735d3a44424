/- layer 1's law: the walk of MarksTells. -/
import Derived.Test.YtjnoiahkbdoejaaDoorMv
namespace Go.Proofs.YtjnoiahkbdoejaaDoor
open Go.RowKit Go.Shelf

attribute [local go_sem] Bv.and_u Bv.or_u Bv.andNot_u Bv.wrap_sub1 Bv.eq0 Bv.ne0 Bv.wrap_pow Bv.wrap_powmin Bv.wrap_neg Bv.eq_u Bv.ne_u Bv.shr_min Bv.shr_pow Bv.tmod2 Bv.wrap_add Bv.B1_eq1 Bv.B1_eq0 Bv.B1_ne1 Bv.B1_ne0

theorem rof_is (A : Option Addr) (zs : List Int) (n cap : Nat) (hn : zs.length = n) (hl : n ≤ maxLen) (s : BitVec 64) (b : Bool) (hs : ofS zs = s) (hb : ofOk zs = b) (w : World) (hA : IntsAt w A zs) :
    Calls Tryd.prog 12 #[.slice A n cap] w fun e' w' => e' = .returned (.tuple #[.int .u64 (Bv.U s), .bool b]) ∧ w = w' := by
  subst hn hs hb; exact rof_any A zs cap w hl hA
theorem rnext_is (s : BitVec 64) (i n : Int) (b : Bool) (hn : firstN (aboveS s i) = n) (hb : someB (aboveS s i) = b) (w : World) :
    Calls Tryd.prog 22 #[.int .u64 (Bv.U s), .int .i64 i] w fun e w' => e = .returned (.tuple #[.int .i64 n, .bool b]) ∧ w = w' := by subst hn hb; exact rnext_any s i w
theorem rrank_is (s : BitVec 64) (i : Int) (n : Int) (hn : ((Bx.card (s &&& allS i) : Nat) : Int) = n) (w : World) :
    Calls Tryd.prog 20 #[.int .u64 (Bv.U s), .int .i64 i] w fun e w' => e = .returned (.int .i64 n) ∧ w = w' := by subst hn; exact rrank_any s i w
theorem rpick_is (s : BitVec 64) (k n : Int) (b : Bool) (hn : pickN s k = n) (hb : pickB s k = b) (w : World) :
    Calls Tryd.prog 25 #[.int .u64 (Bv.U s), .int .i64 k] w fun e W' => e = .returned (.tuple #[.int .i64 n, .bool b]) ∧ Below w.heap.size w W' := by subst hn hb; exact rpick_any s k w
theorem all_is (n : Int) (t : BitVec 64) (ht : allS n = t) (w : World) :
    Calls Tryd.prog 13 #[.int .i64 n] w fun e w' => e = .returned (.int .u64 (Bv.U t)) ∧ w = w' := by subst ht; exact (all_any n w).mono fun e w' ⟨a, b⟩ => ⟨a, b.symm⟩
theorem rall_is (n : Int) (t : BitVec 64) (ht : allS n = t) (w : World) :
    Calls Tryd.prog 14 #[.int .i64 n] w fun e w' => e = .returned (.int .u64 (Bv.U t)) ∧ w = w' := by subst ht; exact rall_any n w
theorem rsubsets_is (s : BitVec 64) (most e0 : Int) (he : subsE s most = e0) (hm : most ≤ 4096 ∨ 65536 < most) (w : World) :
    Calls Tryd.prog 27 #[.int .u64 (Bv.U s), .int .i64 most] w fun e w' => ∃ v, e = .returned (.tuple #[v, .int .i64 e0]) ∧ w'.ownsRow w.heap.size 23 1 v (subsL s most).length (sets (subsL s most)) ∧ Below w.heap.size w w' := by subst he; exact rsubs_any s most w hm
theorem above_neg (s : BitVec 64) : aboveS s (-1) = s := by
  apply Bv.ext_get
  intro j hj
  rw [above_get s (-1) j hj]
  have : decide ((-1 : Int) < (j : Int)) = true := decide_eq_true (by omega)
  rw [this, Bool.and_true]

set_option maxRecDepth 100000 in
set_option maxHeartbeats 1000000 in
theorem tells_long (s i k : Int) (A : Option Addr) (n cap : Nat) (most : Int) (w : World) (hT : Tab w) (hw : 0 < w.heap.size) (hn : 100 < n) :
    Calls Tryd.prog 3 #[.int .u64 s, .int .i64 i, .int .i64 k, .slice A n cap, .int .i64 most] w fun e w' => e = .returned (.bool true) ∧ Below w.heap.size w w' := by
  have hTl : ∀ W, Below w.heap.size w W → Tab W ∧ 0 < W.heap.size := fun W h => ⟨hT.below h hw, Nat.lt_of_lt_of_le hw h.size⟩
  have HT := Lib.hid hTl
  have B0 := Lib.hid (Below.refl w.heap.size w)
  clear hTl hT
  go_enter Tryd.func3, Tryd.ntmps3
  go_wp2_with fail
  refine (awake_any _ (HT.out _ B0.out).1 (HT.out _ B0.out).2).mono ?_
  rintro e w1 ⟨rfl, hb⟩
  have B1 := Lib.hid (B0.out.trans (hb.mono B0.out.size))
  clear hb B0
  go_wp2_with fail
  go_ret
  exact ⟨rfl, B1.out⟩

set_option maxRecDepth 100000 in
set_option maxHeartbeats 8000000 in
theorem tells_short (s : BitVec 64) (i k : Int) (A : Option Addr) (zs : List Int) (n cap : Nat) (most : Int) (w : World) (hT : Tab w) (hw : 0 < w.heap.size) (hn : zs.length = n) (hn1 : n ≤ 100) (hA : IntsAt w A zs)
    (k0 : -9223372036854775808 ≤ k) (k1 : k ≤ 9223372036854775807) (b : Bool) (hok : ofOk zs = b) :
    Calls Tryd.prog 3 #[.int .u64 (Bv.U s), .int .i64 i, .int .i64 k, .slice A n cap, .int .i64 most] w fun e w' => e = .returned (.bool true) ∧ Below w.heap.size w w' := by
  have hTl : ∀ W, Below w.heap.size w W → Tab W ∧ 0 < W.heap.size := fun W h => ⟨hT.below h hw, Nat.lt_of_lt_of_le hw h.size⟩
  have HT := Lib.hid hTl
  have B0 := Lib.hid (Below.refl w.heap.size w)
  clear hTl hT
  have hL := Bs.elems_le s
  obtain ⟨L, hLe⟩ : ∃ L, L = (Bs.elems s).length := ⟨_, rfl⟩
  rw [← hLe] at hL
  have HL := Lib.hid hLe
  obtain ⟨ac, hac⟩ : ∃ t, ofS zs = t := ⟨_, rfl⟩
  obtain ⟨oe, hoe⟩ : ∃ t, ofE zs = t := ⟨_, rfl⟩
  have hcase : (b = true ∧ oe = 0) ∨ (b = false ∧ oe = 2) := by
    rw [← hoe]; unfold ofE; rw [hok]
    cases b <;> simp
  obtain ⟨al, hal⟩ : ∃ t, allS i = t := ⟨_, rfl⟩
  obtain ⟨rk, hrk⟩ : ∃ t, Bx.card (s &&& allS i) = t := ⟨_, rfl⟩
  have hrk1 : ((Bx.card (s &&& allS i) : Nat) : Int) = (rk : Int) := by rw [hrk]
  obtain ⟨fn, hfn⟩ : ∃ t, firstN s = t := ⟨_, rfl⟩
  obtain ⟨fb, hfb⟩ : ∃ t, someB s = t := ⟨_, rfl⟩
  have hfn' : firstN (aboveS s (-1)) = fn := by rw [above_neg, hfn]
  have hfb' : someB (aboveS s (-1)) = fb := by rw [above_neg, hfb]
  obtain ⟨nn, hnn⟩ : ∃ t, firstN (aboveS s i) = t := ⟨_, rfl⟩
  obtain ⟨nb, hnb⟩ : ∃ t, someB (aboveS s i) = t := ⟨_, rfl⟩
  obtain ⟨pn, hpn⟩ : ∃ t, pickN s k = t := ⟨_, rfl⟩
  obtain ⟨pb, hpb⟩ : ∃ t, pickB s k = t := ⟨_, rfl⟩
  have H1 := Lib.hid (And.intro hn (And.intro hac (And.intro hoe (And.intro hok hal))))
  have H2 := Lib.hid (And.intro hrk1 (And.intro hfn (And.intro hfb (And.intro hfn' hfb'))))
  have H3 := Lib.hid (And.intro hnn (And.intro hnb (And.intro hpn hpb)))
  have HA := Lib.hid hA
  clear hn hac hoe hok hal hrk hrk1 hfn hfb hfn' hfb' hnn hnb hpn hpb hA hLe
  have hm : n ≤ maxLen := by unfold maxLen; omega
  rcases hcase with ⟨rfl, rfl⟩ | ⟨rfl, rfl⟩
  all_goals
    go_enter Tryd.func3, Tryd.ntmps3
    go_wp2_with fail
    refine (of_is A zs n cap H1.out.1 hm ac _ H1.out.2.1 H1.out.2.2.1 _ HA.out).mono ?_
    rintro e w' ⟨rfl, rfl⟩
    go_wp2_with fail
    refine (rof_is A zs n cap H1.out.1 hm ac _ H1.out.2.1 H1.out.2.2.2.1 _ HA.out).mono ?_
    rintro e w' ⟨rfl, rfl⟩
    go_wp2_with fail
    refine (all_is _ _ H1.out.2.2.2.2 _).mono ?_
    rintro e w' ⟨rfl, rfl⟩
    go_wp2_with fail
    refine (rall_is _ _ H1.out.2.2.2.2 _).mono ?_
    rintro e w' ⟨rfl, rfl⟩
    go_wp2_with fail
    refine (list_any _ _ (HT.out _ B0.out).1 (HT.out _ B0.out).2).mono ?_
    rintro e w1 ⟨v, rfl, hrow, _, hb⟩
    obtain ⟨A1, cap1, rfl, _, _, hat⟩ := row_nums hrow
    rw [← HL.out]
    have B1 := Lib.hid (B0.out.trans (hb.mono B0.out.size))
    have HA1 := Lib.hid hat
    clear hb B0 hrow hat
    go_wp2_with fail
    refine (rlist_any _ _).mono ?_
    rintro e w2 ⟨v, rfl, hrow, hb⟩
    obtain ⟨A2, cap2, rfl, _, _, hat⟩ := row_nums hrow
    rw [← HL.out]
    have B2 := Lib.hid (B1.out.trans (hb.mono B1.out.size))
    have HA2 := Lib.hid (And.intro (HA1.out.below hb (Nat.le_refl _)) hat)
    clear hb B1 hrow hat HA1
    go_wp2_with fail
    refine (ints_lit A1 A2 (ints (Bs.elems s)) (ints (Bs.elems s)) L L cap1 cap2 _ (by rw [ints_len, ← HL.out]) (by rw [ints_len, ← HL.out]) (by rw [ints_len, ← HL.out]; unfold maxLen; omega) (by rw [ints_len, ← HL.out]; unfold maxLen; omega) HA2.out.1 HA2.out.2 true (by simp)).mono ?_
    rintro e w3 ⟨rfl, hb⟩
    have B3 := Lib.hid (B2.out.trans (hb.mono B2.out.size))
    clear hb B2 HA2
    go_wp2_with fail
    refine (len_card _ L (by rw [HL.out]; rfl) _ (HT.out _ B3.out).1 (HT.out _ B3.out).2).mono ?_
    rintro e w4 ⟨rfl, hb⟩
    have B4 := Lib.hid (B3.out.trans (hb.mono B3.out.size))
    clear hb B3
    go_wp2_with fail
    refine (rlist_any _ _).mono ?_
    rintro e w5 ⟨v, rfl, hrow, hb⟩
    obtain ⟨A3, cap3, rfl, _, _, hat⟩ := row_nums hrow
    rw [← HL.out]
    have B5 := Lib.hid (B4.out.trans (hb.mono B4.out.size))
    clear hb B4 hrow hat
    go_wp2_with fail
    refine (rank_is _ _ _ H2.out.1 _ (HT.out _ B5.out).1 (HT.out _ B5.out).2).mono ?_
    rintro e w6 ⟨rfl, hb⟩
    have B6 := Lib.hid (B5.out.trans (hb.mono B5.out.size))
    clear hb B5
    go_wp2_with fail
    refine (rrank_is _ _ _ H2.out.1 _).mono ?_
    rintro e w' ⟨rfl, rfl⟩
    go_wp2_with fail
    refine (first_is _ _ _ H2.out.2.1 H2.out.2.2.1 _ (HT.out _ B6.out).1 (HT.out _ B6.out).2).mono ?_
    rintro e w7 ⟨rfl, hb⟩
    have B7 := Lib.hid (B6.out.trans (hb.mono B6.out.size))
    clear hb B6
    go_wp2_with fail
    refine (rnext_is _ _ _ _ H2.out.2.2.2.1 H2.out.2.2.2.2 _).mono ?_
    rintro e w' ⟨rfl, rfl⟩
    go_wp2_with fail
    refine (next_is _ _ _ _ H3.out.1 H3.out.2.1 _ (HT.out _ B7.out).1 (HT.out _ B7.out).2).mono ?_
    rintro e w8 ⟨rfl, hb⟩
    have B8 := Lib.hid (B7.out.trans (hb.mono B7.out.size))
    clear hb B7
    go_wp2_with fail
    refine (rnext_is _ _ _ _ H3.out.1 H3.out.2.1 _).mono ?_
    rintro e w' ⟨rfl, rfl⟩
    go_wp2_with fail
    refine (pick_is _ _ _ _ H3.out.2.2.1 H3.out.2.2.2 k0 k1 _ (HT.out _ B8.out).1 (HT.out _ B8.out).2).mono ?_
    rintro e w9 ⟨rfl, hb⟩
    have B9 := Lib.hid (B8.out.trans (hb.mono B8.out.size))
    clear hb B8
    go_wp2_with fail
    refine (rpick_is _ _ _ _ H3.out.2.2.1 H3.out.2.2.2 _).mono ?_
    rintro e w10 ⟨rfl, hb⟩
    have B10 := Lib.hid (B9.out.trans (hb.mono B9.out.size))
    clear hb B9
    obtain ⟨m, hm2, hmm⟩ : ∃ m : Int, (m ≤ 4096 ∨ 65536 < m) ∧ ((65536 < most ∧ m = most) ∨ (most < 4096 ∧ m = most) ∨ (most = 4096 ∧ m = most) ∨ (4096 < most ∧ most ≤ 65536 ∧ m = 4096)) := by
      by_cases h1 : 65536 < most
      · exact ⟨most, .inr h1, .inl ⟨h1, rfl⟩⟩
      · by_cases h2 : most < 4096
        · exact ⟨most, .inl (by omega), .inr (.inl ⟨h2, rfl⟩)⟩
        · by_cases h3 : most = 4096
          · exact ⟨most, .inl (by omega), .inr (.inr (.inl ⟨h3, rfl⟩))⟩
          · exact ⟨4096, .inl (by omega), .inr (.inr (.inr ⟨by omega, by omega, rfl⟩))⟩
    obtain ⟨se, hse⟩ : ∃ e, subsE s m = e := ⟨_, rfl⟩
    obtain ⟨sl, hsl⟩ : ∃ l, subsL s m = l := ⟨_, rfl⟩
    have hslen : sl.length ≤ 65536 := by
      rw [← hsl]; unfold subsL
      split
      · rename_i h
        rw [subsK_len]
        unfold subsE at h
        split at h
        · omega
        · split at h
          · omega
          · split at h
            · omega
            · split at h
              · omega
              · omega
      · simp
    have HM := Lib.hid (And.intro hm2 (And.intro hse hsl))
    have H4 := Lib.hid hslen
    clear hm2 hse hsl hslen
    rcases hmm with ⟨h1, rfl⟩ | ⟨h1, rfl⟩ | ⟨rfl, rfl⟩ | ⟨h1, h1b, rfl⟩
    all_goals
      go_wp2_with fail
      refine (subsets_is _ _ _ HM.out.2.1 _ (HT.out _ B10.out).1 (HT.out _ B10.out).2).mono ?_
      rintro e w11 ⟨v, rfl, hrow, hb⟩
      rw [HM.out.2.2] at hrow
      obtain ⟨A11, cap11, rfl, _, _, hat⟩ := row_sets' hrow
      have B11 := Lib.hid (B10.out.trans (hb.mono B10.out.size))
      have HA11 := Lib.hid hat
      clear hb B10 hrow hat
      go_wp2_with fail
      refine (rsubsets_is _ _ _ HM.out.2.1 HM.out.1 _).mono ?_
      rintro e w12 ⟨v, rfl, hrow, hb⟩
      rw [HM.out.2.2] at hrow
      obtain ⟨A12, cap12, rfl, _, _, hat⟩ := row_sets' hrow
      have B12 := Lib.hid (B11.out.trans (hb.mono B11.out.size))
      have HA12 := Lib.hid (And.intro (HA11.out.below hb (Nat.le_refl _)) hat)
      clear hb B11 hrow hat HA11
      go_wp2_with fail
      refine (setsq_lit A11 A12 sl sl sl.length sl.length cap11 cap12 _ (by rfl) (by rfl) (by have := H4.out; unfold maxLen; omega) (by have := H4.out; unfold maxLen; omega) HA12.out.1 HA12.out.2 true (by simp)).mono ?_
      rintro e w13 ⟨rfl, hb⟩
      have B13 := Lib.hid (B12.out.trans (hb.mono B12.out.size))
      clear hb B12 HA12
      go_wp2_with fail
      refine (awake_any _ (HT.out _ B13.out).1 (HT.out _ B13.out).2).mono ?_
      rintro e w14 ⟨rfl, hb⟩
      have B14 := Lib.hid (B13.out.trans (hb.mono B13.out.size))
      clear hb B13
      go_wp2_with fail
      go_ret
      exact ⟨rfl, B14.out⟩
theorem marksTells_any (s : BitVec 64) (i k : Int) (A : Option Addr) (zs : List Int) (cap : Nat) (most : Int) (w : World) (hA : zs.length ≤ 100 → IntsAt w A zs)
    (k0 : -9223372036854775808 ≤ k) (k1 : k ≤ 9223372036854775807) (hT : Tab w) (hw : 0 < w.heap.size) :
    Calls Tryd.prog 3 #[.int .u64 (Bv.U s), .int .i64 i, .int .i64 k, .slice A zs.length cap, .int .i64 most] w fun e w' => e = .returned (.bool true) ∧ Below w.heap.size w w' := by
  by_cases h : 100 < zs.length
  · exact tells_long _ i k A _ cap most w hT hw h
  · exact tells_short s i k A zs _ cap most w hT hw rfl (by omega) (hA (by omega)) k0 k1 _ rfl
end Go.Proofs.YtjnoiahkbdoejaaDoor
