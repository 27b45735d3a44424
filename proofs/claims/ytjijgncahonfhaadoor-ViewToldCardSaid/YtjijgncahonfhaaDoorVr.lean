/- layer 19: the walk of ViewCleared. -/
import Derived.Test.YtjijgncahonfhaaDoorVo
namespace Go.Proofs.YtjijgncahonfhaaDoor
open Go.RowKit Go.Shelf

attribute [local go_sem] Bv.and_u Bv.or_u Bv.andNot_u Bv.wrap_sub1 Bv.eq0 Bv.ne0 Bv.wrap_pow Bv.wrap_powmin Bv.wrap_neg Bv.eq_u Bv.shr_min Bv.shr_pow Bv.and1 Bv.B1_eq1

theorem ofR {p : Bool} (h : p = true) : p = true := h

/-- what a valid view's Kind and Clear give -/
theorem new_of_right {k n : Int} {m : BitVec 64} {a : Bool} (h : rightB k m a n = true) : newK k n = k ∧ 1 ≤ n ∧ n ≤ 4 := by
  unfold rightB at h
  rw [Bool.and_eq_true] at h
  have hn := of_decide_eq_true h.1
  refine ⟨?_, hn.1, hn.2⟩
  have hk : k = 1 ∨ k = 2 ∨ k = 3 := by
    by_cases k1 : k = 1
    · exact .inl k1
    · by_cases k2 : k = 2
      · exact .inr (.inl k2)
      · by_cases k3 : k = 3
        · exact .inr (.inr k3)
        · have h2 := h.2
          rw [if_neg k1, if_neg k2, if_neg k3] at h2; cases h2
  unfold newK; rw [if_pos ⟨hk, hn⟩]

theorem told_clear (k n : Int) : toldS k 0#64 false n = 0#64 := by
  unfold toldS
  split
  · simp only [Bool.false_eq_true, if_false]
    split
    · have e : (0#64 &&& 3#64 : BitVec 64) = 0#64 := by decide
      rw [e]
      have e2 : Bs.elems 0#64 = [] := Bs.elems_zero
      rw [e2]; simp
    · simp
  · rfl

/-- a valid view's Marks is a small number -/
theorem small_of {m : BitVec 64} (h : ∀ i, 4 ≤ i → i < 64 → m.getLsbD i = false) : ∃ j, j < 16 ∧ m = BitVec.ofNat 64 j := by
  refine ⟨m.toNat, ?_, by simp⟩
  apply Nat.lt_pow_two_of_testBit (n := 4)
  intro i hi
  by_cases h64 : i < 64
  · exact h i hi h64
  · exact BitVec.getLsbD_of_ge m i (by omega)
theorem small_and {m : BitVec 64} {n : Nat} (hn : n ≤ 4) (h : (m &&& ~~~ (Bv.bit n - 1#64) == 0#64) = true) : ∃ j, j < 16 ∧ m = BitVec.ofNat 64 j := by
  apply small_of
  intro i hi h64
  have h1 := eq_of_beq h
  have h2 := congrArg (fun t => BitVec.getLsbD t i) h1
  simp only [BitVec.getLsbD_and, Bv.zero_get, Bv.not_get _ _ h64, Bv.ones_get n i (by omega) h64] at h2
  have h3 : decide (i < n) = false := decide_eq_false (by omega)
  rw [h3] at h2; simpa using h2
theorem right_small {k n : Int} {m : BitVec 64} {a : Bool} (h : rightB k m a n = true) : (k = 1 ∨ k = 2 ∨ k = 3) ∧ 1 ≤ n ∧ n ≤ 4 ∧ ∃ j, j < 16 ∧ m = BitVec.ofNat 64 j := by
  unfold rightB at h
  rw [Bool.and_eq_true] at h
  have hn := of_decide_eq_true h.1
  have h2 := h.2
  by_cases k1 : k = 1
  · rw [if_pos k1, Bool.and_eq_true] at h2
    exact ⟨.inl k1, hn.1, hn.2, small_and (by omega) h2.2⟩
  · by_cases k2 : k = 2
    · rw [if_neg k1, if_pos k2] at h2
      refine ⟨.inr (.inl k2), hn.1, hn.2, ?_⟩
      cases a
      · rw [if_neg (by simp), Bool.and_eq_true] at h2
        exact small_and (by omega) h2.1
      · rw [if_pos rfl] at h2
        exact ⟨0, by omega, by simpa using h2⟩
    · by_cases k3 : k = 3
      · rw [if_neg k1, if_neg k2, if_pos k3, Bool.and_eq_true] at h2
        exact ⟨.inr (.inr k3), hn.1, hn.2, small_and (by omega) h2.2⟩
      · rw [if_neg k1, if_neg k2, if_neg k3] at h2; cases h2

/-- what is asked of one view, as a test -/
def keepsB (k n c : Int) (m : BitVec 64) (a : Bool) : Bool :=
  !(rightB k m a n) ||
    (rightB k (noteM k m a c) (noteA k m a c) n && (noteM k (noteM k m a c) (noteA k m a c) c == noteM k m a c) && (noteA k (noteM k m a c) (noteA k m a c) c == noteA k m a c) &&
      (toldS k (noteM k m a c) (noteA k m a c) n &&& toldS k m a n == toldS k m a n) && Bv.G (toldS k (noteM k m a c) (noteA k m a c) n) c.toNat)
theorem keeps_all : ∀ k < 4, ∀ n < 5, ∀ c < n, ∀ j < 16, ∀ a : Bool, keepsB (k : Nat) (n : Nat) (c : Nat) (BitVec.ofNat 64 j) a = true := by decide +kernel

/-- recording an existing cache in a valid view -/
theorem note_keeps {k n c : Int} {m : BitVec 64} {a : Bool} (h : rightB k m a n = true) (h0 : 0 ≤ c) (h1 : c < n) :
    rightB k (noteM k m a c) (noteA k m a c) n = true ∧
    noteM k (noteM k m a c) (noteA k m a c) c = noteM k m a c ∧ noteA k (noteM k m a c) (noteA k m a c) c = noteA k m a c ∧
    toldS k (noteM k m a c) (noteA k m a c) n &&& toldS k m a n = toldS k m a n ∧ Bv.G (toldS k (noteM k m a c) (noteA k m a c) n) c.toNat = true := by
  obtain ⟨hk, hn1, hn4, j, hj, hm⟩ := right_small h
  have hc := keeps_all k.toNat (by omega) n.toNat (by omega) c.toNat (by omega) j hj a
  have ek : ((k.toNat : Nat) : Int) = k := by omega
  have en : ((n.toNat : Nat) : Int) = n := by omega
  have ec : ((c.toNat : Nat) : Int) = c := by omega
  rw [ek, en, ec, ← hm] at hc
  unfold keepsB at hc
  rw [h] at hc
  simp only [Bool.not_true, Bool.false_or, Bool.and_eq_true, beq_iff_eq] at hc
  exact ⟨hc.1.1.1.1, hc.1.1.1.2, hc.1.1.2, hc.1.2, hc.2⟩

theorem told_cleared (k n : Int) (w : World) (hT : Tab w) (hw : 0 < w.heap.size) :
    Calls Tryd.prog 15 #[.agg #[.int .u8 k, .int .u64 0, .bool false], .int .i64 n] w fun e w' => e = .returned (.int .u64 0) ∧ Below w.heap.size w w' :=
  told_lit k 0#64 false n w hT hw 0 (by rw [told_clear]; rfl)

theorem note_at (k : Int) (m : BitVec 64) (a : Bool) (c : Int) (w : World) (h0 : 0 ≤ c) (m' : BitVec 64) (a' : Bool) (hm : noteM k m a c = m') (ha : noteA k m a c = a') :
    Calls Tryd.prog 14 #[.agg #[.int .u8 k, .int .u64 (Bv.U m), .bool a], .int .u8 c] w fun e w' => e = .returned (.agg #[.int .u8 k, .int .u64 (Bv.U m'), .bool a']) ∧ Below w.heap.size w w' := note_lit k m a c w h0 m' a' hm ha

theorem keep6 {b c : Nat} {W0 W w1 : World} {x y z x' y' z' : Value} (hb : Below W.heap.size W w1) (h : Below (b + 1) W0 W) (hs : c < W.heap.size) (hz : b < W0.heap.size) (hx : W.cell? ⟨b, 0, none⟩ = some x) (hy : W.cell? ⟨b, 1, none⟩ = some y) (hw : W.cell? ⟨b, 2, none⟩ = some z)
    (hx' : W.cell? ⟨c, 0, none⟩ = some x') (hy' : W.cell? ⟨c, 1, none⟩ = some y') (hw' : W.cell? ⟨c, 2, none⟩ = some z') :
    (Below (b + 1) W0 w1 ∧ c < w1.heap.size) ∧ w1.cell? ⟨b, 0, none⟩ = some x ∧ w1.cell? ⟨b, 1, none⟩ = some y ∧ w1.cell? ⟨b, 2, none⟩ = some z ∧ w1.cell? ⟨c, 0, none⟩ = some x' ∧ w1.cell? ⟨c, 1, none⟩ = some y' ∧ w1.cell? ⟨c, 2, none⟩ = some z' := by
  obtain ⟨a1, a2, a3, a4⟩ := keep3 hb h hz hx hy hw
  exact ⟨⟨a1, Nat.lt_of_lt_of_le hs hb.size⟩, a2, a3, a4, (hb.cell (p := ⟨c, 0, none⟩) hs).trans hx', (hb.cell (p := ⟨c, 1, none⟩) hs).trans hy', (hb.cell (p := ⟨c, 2, none⟩) hs).trans hw'⟩

set_option maxRecDepth 100000 in
set_option maxHeartbeats 4000000 in
theorem viewCleared_any (k : Int) (m : BitVec 64) (a : Bool) (n c : Int) (w : World) (h0 : 0 ≤ c) (hT : Tab w) (hw : 0 < w.heap.size) :
    Calls Tryd.prog 7 #[.agg #[.int .u8 k, .int .u64 (Bv.U m), .bool a], .int .i64 n, .int .u8 c] w fun e w' => e = .returned (.bool true) ∧ Below w.heap.size w w' := by
  obtain ⟨W0, hW0⟩ : ∃ W0, W0 = w.alloc (.cells #[.int .u8 k, .int .u64 (Bv.U m), .bool a] 25) := ⟨_, rfl⟩
  have hz : w.heap.size < W0.heap.size := by rw [hW0]; simp
  have hB0 : Below w.heap.size w W0 := by rw [hW0]; exact (Below.refl _ _).alloc (Nat.le_refl _) _
  have hTl : ∀ W, Below (w.heap.size + 1) W0 W → Tab W ∧ 0 < W.heap.size := fun W h =>
    ⟨hT.below (hB0.trans (h.mono (by omega))) hw, by have := h.size; omega⟩
  have hb0 : W0.heap[w.heap.size]? = some (.cells #[.int .u8 k, .int .u64 (Bv.U m), .bool a] 25 (0, 0)) := by rw [hW0]; exact World.alloc_heap_new w _
  have HT := Lib.hid hTl
  have H0 := Lib.hid (And.intro hW0 (And.intro hB0 hb0))
  have TA : Tab (w.alloc (.cells #[.int .u8 k, .int .u64 (Bv.U m), .bool a] 25)) := by rw [← hW0]; exact hT.below hB0 hw
  have ZA : 0 < (w.alloc (.cells #[.int .u8 k, .int .u64 (Bv.U m), .bool a] 25)).heap.size := by simp
  clear hTl hB0 hW0 hb0
  go_enter Tryd.func7, Tryd.ntmps7
  go_wp2_with fail
  refine (awake_any _ TA ZA).mono ?_; rintro e w1 ⟨rfl, h1⟩
  rw [← H0.out.1] at h1
  have h1' : Below (w.heap.size + 1) W0 w1 := h1.mono (by omega)
  have hb1 := (h1.block _ hz).trans H0.out.2.2
  obtain ⟨c0, c1, c2, _, _, _⟩ := Rf.cells3 hb1
  have H1 := Lib.hid (And.intro h1' hb1)
  clear h1 h1' hb1 TA ZA
  go_wp2_with fail
  refine (right_any _ _ _ _ _).mono ?_; rintro e w2 ⟨rfl, h2⟩
  have k2 : Below (w.heap.size + 1) W0 w2 := H1.out.1.trans (h2.mono (by have := H1.out.1.size; omega))
  have hb2 := (h2.block _ (by have := H1.out.1.size; omega)).trans H1.out.2
  obtain ⟨d0, d1, d2, _, _, _⟩ := Rf.cells3 hb2
  have H2 := Lib.hid (And.intro k2 hb2)
  clear h2 hb2 c0 c1 c2
  cases hr : rightB k m a n
  · go_wp2_with fail
    go_ret
    exact ⟨rfl, H0.out.2.1.trans (H2.out.1.mono (by omega))⟩
  · obtain ⟨hnk, hn1, hn4⟩ := new_of_right hr
    obtain ⟨cc, hcc⟩ : ∃ cc, cc = c % n := ⟨_, rfl⟩
    have hc0 : 0 ≤ cc := by rw [hcc]; exact Int.emod_nonneg _ (by omega)
    have hcn : cc < n := by rw [hcc]; exact Int.emod_lt_of_pos _ (by omega)
    obtain ⟨hk1, hk2, hk3, hk4, hk5⟩ := note_keeps hr hc0 hcn
    have hmod : c % n = cc := hcc.symm
    have HK := Lib.hid (And.intro hk1 (And.intro hk2 (And.intro hk3 (And.intro hk4 hk5))))
    have HN := Lib.hid hnk
    have HR := Lib.hid hr
    clear hk1 hk2 hk3 hk4 hk5 hnk hr hcc
    have hnew : ∀ w, Calls Tryd.prog 9 #[.int .u8 k, .int .i64 n] w fun e w' => e = .returned (.agg #[.int .u8 k, .int .u64 0, .bool false]) ∧ Below w.heap.size w w' := fun w => by
      have := new_any k n w; rw [HN.out] at this; exact this
    have HNEW := Lib.hid hnew
    clear hnew
    go_wp2_with fail
    go_region_held3 (fun w' => Below (w.heap.size + 1) W0 w' ∧ w'.cell? ⟨w.heap.size, 0, none⟩ = some (.int .u8 k) ∧ w'.cell? ⟨w.heap.size, 1, none⟩ = some (.int .u64 (Bv.U m)) ∧ w'.cell? ⟨w.heap.size, 2, none⟩ = some (.bool a))
      (first
        | (go_split_ands; exact keep3 hbq (by assumption) hz (by assumption) (by assumption) (by assumption))
        | (go_split_ands; refine ⟨?_, by go_keep, by go_keep, by go_keep⟩; first | assumption | exact Below.drew (by assumption)))
      (first
        | (go_at_call 19; refine (clear_any _ _ _ _).mono ?_; rintro e w1 ⟨rfl, hbq⟩)
        | (go_at_call 9; refine (HNEW.out _).mono ?_; rintro e w1 ⟨rfl, hbq⟩)
        | (go_at_call 15; go_split_ands; refine (told_cleared _ _ _ (HT.out _ (by assumption)).1 (HT.out _ (by assumption)).2).mono ?_; rintro e w1 ⟨rfl, hbq⟩))
    go_split_ands
    have k3 : Below (w.heap.size + 1) W0 w1 := by assumption
    obtain ⟨M, hM⟩ : ∃ M, M = noteM k m a cc := ⟨_, rfl⟩
    obtain ⟨A, hA⟩ : ∃ A, A = noteA k m a cc := ⟨_, rfl⟩
    obtain ⟨T1, hT1⟩ : ∃ T1, T1 = toldS k M A n := ⟨_, rfl⟩
    obtain ⟨T2, hT2⟩ : ∃ T2, T2 = toldS k m a n := ⟨_, rfl⟩
    have hk := HK.out
    rw [← hM, ← hA, ← hT1, ← hT2] at hk
    have HK2 := Lib.hid hk
    have HM := Lib.hid (And.intro hM (And.intro hA (And.intro hT1 hT2)))
    have K3 := Lib.hid k3
    clear hk hM hA hT1 hT2 HK k2 d0 d1 d2
    go_wp2_with fail
    refine (note_at k m a cc _ hc0 M A HM.out.1.symm HM.out.2.1.symm).mono ?_; rintro e w5 ⟨rfl, h5⟩
    have k5 : Below (w.heap.size + 1) W0 w5 := K3.out.trans (h5.mono (by have := K3.out.size; omega))
    have z5 : w.heap.size < w5.heap.size := by have := k5.size; omega
    have cc0 : w5.cell? ⟨w.heap.size, 0, none⟩ = some (.int .u8 k) := (h5.cell (p := ⟨w.heap.size, 0, none⟩) (by have := K3.out.size; show w.heap.size < _; omega)).trans (by assumption)
    have cc1 : w5.cell? ⟨w.heap.size, 1, none⟩ = some (.int .u64 (Bv.U m)) := (h5.cell (p := ⟨w.heap.size, 1, none⟩) (by have := K3.out.size; show w.heap.size < _; omega)).trans (by assumption)
    have cc2 : w5.cell? ⟨w.heap.size, 2, none⟩ = some (.bool a) := (h5.cell (p := ⟨w.heap.size, 2, none⟩) (by have := K3.out.size; show w.heap.size < _; omega)).trans (by assumption)
    have K5 := Lib.hid k5
    clear h5
    have HS0 : Hid ((Below (w.heap.size + 1) W0 (w5.alloc (.cells #[.int .u8 k, .int .u64 (Bv.U M), .bool A] 25)).drew ∧ w5.heap.size < (w5.alloc (.cells #[.int .u8 k, .int .u64 (Bv.U M), .bool A] 25)).drew.heap.size) ∧
        (w5.alloc (.cells #[.int .u8 k, .int .u64 (Bv.U M), .bool A] 25)).drew.cell? ⟨w.heap.size, 0, none⟩ = some (.int .u8 k) ∧ (w5.alloc (.cells #[.int .u8 k, .int .u64 (Bv.U M), .bool A] 25)).drew.cell? ⟨w.heap.size, 1, none⟩ = some (.int .u64 (Bv.U m)) ∧ (w5.alloc (.cells #[.int .u8 k, .int .u64 (Bv.U M), .bool A] 25)).drew.cell? ⟨w.heap.size, 2, none⟩ = some (.bool a) ∧
        (w5.alloc (.cells #[.int .u8 k, .int .u64 (Bv.U M), .bool A] 25)).drew.cell? ⟨w5.heap.size, 0, none⟩ = some (.int .u8 k) ∧ (w5.alloc (.cells #[.int .u8 k, .int .u64 (Bv.U M), .bool A] 25)).drew.cell? ⟨w5.heap.size, 1, none⟩ = some (.int .u64 (Bv.U M)) ∧ (w5.alloc (.cells #[.int .u8 k, .int .u64 (Bv.U M), .bool A] 25)).drew.cell? ⟨w5.heap.size, 2, none⟩ = some (.bool A)) := by
      have hB5 := (Below.refl w5.heap.size w5).alloc (Nat.le_refl _) (.cells #[.int .u8 k, .int .u64 (Bv.U M), .bool A] 25 (0, 0))
      obtain ⟨e0, e1, e2, _, _, _⟩ := Rf.cells3 (World.alloc_heap_new w5 (.cells #[.int .u8 k, .int .u64 (Bv.U M), .bool A] 25 (0, 0)))
      exact ⟨⟨(k5.alloc (by omega) _).drew, by simp⟩, (hB5.cell (p := ⟨w.heap.size, 0, none⟩) z5).trans cc0, (hB5.cell (p := ⟨w.heap.size, 1, none⟩) z5).trans cc1, (hB5.cell (p := ⟨w.heap.size, 2, none⟩) z5).trans cc2, e0, e1, e2⟩
    obtain ⟨hk1, hk2, hk3, hk4, hk5⟩ := HK2.out
    have HKs := Lib.hid (And.intro hk2 hk3)
    clear hk2 hk3
    go_wp2_with fail
    go_region_held3 (fun w' => (Below (w.heap.size + 1) W0 w' ∧ w5.heap.size < w'.heap.size) ∧ w'.cell? ⟨w.heap.size, 0, none⟩ = some (.int .u8 k) ∧ w'.cell? ⟨w.heap.size, 1, none⟩ = some (.int .u64 (Bv.U m)) ∧ w'.cell? ⟨w.heap.size, 2, none⟩ = some (.bool a) ∧
        w'.cell? ⟨w5.heap.size, 0, none⟩ = some (.int .u8 k) ∧ w'.cell? ⟨w5.heap.size, 1, none⟩ = some (.int .u64 (Bv.U M)) ∧ w'.cell? ⟨w5.heap.size, 2, none⟩ = some (.bool A))
      (first
        | exact HS0.out
        | (go_split_ands; exact keep6 hbq (by assumption) (by assumption) hz (by assumption) (by assumption) (by assumption) (by assumption) (by assumption) (by assumption))
        | (go_split_ands; refine ⟨⟨?_, ?_⟩, by go_keep, by go_keep, by go_keep, by go_keep, by go_keep, by go_keep⟩; · (first | assumption | exact Below.drew (by assumption)); · (first | assumption | (simp; done) | (simp; omega))))
      (first
        | (go_at_call 16; refine (right_any _ _ _ _ _).mono ?_; rintro e w1 ⟨rfl, hbq⟩)
        | (go_at_call 14; refine (note_at k M A cc _ hc0 M A HKs.out.1 HKs.out.2).mono ?_; rintro e w1 ⟨rfl, hbq⟩)
        | (go_at_call 15; go_split_ands; first
            | ((with_reducible refine (told_lit k M A n _ (HT.out _ (by assumption)).1 (HT.out _ (by assumption)).2 (Bv.U T1) (by rw [HM.out.2.2.1])).mono ?_); rintro e w1 ⟨rfl, hbq⟩)
            | ((with_reducible refine (told_lit k m a n _ (HT.out _ (by assumption)).1 (HT.out _ (by assumption)).2 (Bv.U T2) (by rw [HM.out.2.2.2])).mono ?_); rintro e w1 ⟨rfl, hbq⟩)))
    go_split_ands
    have hfin : Below (w.heap.size + 1) W0 w1 := by assumption
    have HF := Lib.hid (H0.out.2.1.trans (hfin.mono (by omega)))
    clear hfin
    go_wp2
    go_ret
    exact ⟨rfl, HF.out⟩
end Go.Proofs.YtjijgncahonfhaaDoor
