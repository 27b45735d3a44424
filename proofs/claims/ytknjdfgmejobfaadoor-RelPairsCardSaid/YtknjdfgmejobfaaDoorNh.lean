/- package rel: Back. -/
import Derived.Test.YtknjdfgmejobfaaDoorNg
namespace Go.Proofs.YtknjdfgmejobfaaDoor
open Go.RowKit Go.Shelf

attribute [local go_sem] Bv.and_u Bv.or_u Bv.andNot_u Bv.wrap_sub1 Bv.eq0 Bv.ne0 Bv.wrap_pow Bv.wrap_powmin Bv.wrap_neg Bv.eq_u Bv.ne_u Bv.shr_min Bv.shr_pow Bv.tmod2 Bv.and1 Bv.wrap_add Bv.B1_eq1 Bv.B1_eq0 Bv.B1_ne1 Bv.B1_ne0

/-- the inverse of the first k rows and of the part s of row k -/
def bk (k : Nat) (f : Rl.Rows) (s : BitVec 64) : Rl.Rows := fun b => Rl.backF k f b ||| (if s.getLsbD b then Bv.bit k else 0#64)
theorem bk_zero (k : Nat) (f : Rl.Rows) : bk k f 0#64 = Rl.backF k f := by
  funext b; unfold bk; rw [Bv.zero_get]; simp
theorem bk_full (k : Nat) (f : Rl.Rows) (hk : k < 64) : bk k f (f k) = Rl.backF (k + 1) f := by
  funext b
  apply Bv.ext_get
  intro c hc
  unfold bk Rl.backF
  rw [BitVec.getLsbD_or, Bx.mk_get _ c hc, Bx.mk_get _ c hc]
  cases hb : (f k).getLsbD b
  · rw [if_neg (by simp), Bv.zero_get, Bool.or_false]
    by_cases h : c = k
    · subst h; unfold Rl.bit; rw [hb]; simp
    · rw [show decide (c < k + 1) = decide (c < k) by rw [Bool.eq_iff_iff]; simp; omega]
  · rw [if_pos rfl, Bv.bit_get k c hk]
    by_cases h : c = k
    · subst h; unfold Rl.bit; rw [hb]; simp
    · rw [show decide (c < k + 1) = decide (c < k) by rw [Bool.eq_iff_iff]; simp; omega, decide_eq_false h, Bool.or_false]
theorem bk_step (k a : Nat) (f : Rl.Rows) (d : BitVec 64) (ha : a < 64) : upd (bk k f d) a (bk k f d a ||| Bv.bit k) = bk k f (d ||| Bv.bit a) := by
  funext b
  unfold upd
  by_cases h : b = a
  · subst h
    rw [if_pos rfl]
    unfold bk
    rw [BitVec.getLsbD_or, Bv.bit_get b b ha, decide_eq_true rfl, Bool.or_true, if_pos rfl, BitVec.or_assoc]
    split
    · rw [BitVec.or_self]
    · rw [BitVec.zero_or]
  · rw [if_neg h]
    unfold bk
    rw [BitVec.getLsbD_or]
    by_cases hb : b < 64
    · rw [Bv.bit_get a b ha, decide_eq_false h, Bool.or_false]
    · rw [BitVec.getLsbD_of_ge (Bv.bit a) _ (by omega), Bool.or_false]
theorem low_or {t : BitVec 64} (h : t ≠ 0) (d : BitVec 64) : (d ||| Bv.bit (Bs.low t)) ||| Bs.rest t = d ||| t := by
  apply Bv.ext_get
  intro c hc
  rw [BitVec.getLsbD_or, BitVec.getLsbD_or, BitVec.getLsbD_or, Bs.rest_bit h, Bv.bit_get _ _ (Bs.low_lt h)]
  by_cases e : c = Bs.low t
  · subst e; rw [Bs.low_bit h]; simp
  · simp [e]
theorem back_zero (f : Rl.Rows) : Rl.backF 0 f = zeroR := by
  funext b
  apply Bv.ext_get
  intro c hc
  unfold Rl.backF zeroR
  rw [Bx.mk_get _ c hc, Bv.zero_get]; simp

set_option maxRecDepth 100000 in
set_option maxHeartbeats 1000000 in
theorem back_no (n : Int) (f : Rl.Rows) (w : World) (hr : Rl.rightB n f = false) :
    Calls Tryd.prog 20 #[.agg (relC n f)] w fun e w' => e = .returned (.agg (relC 0 zeroR)) ∧ Below w.heap.size w w' := by
  have hzr := zero_rel
  have hbz := build_zero
  have h0 := (RelAt.new w n f).alloc (.cells (relC 0 zeroR) 26)
  have h1 := RelAt.new (w.alloc (.cells (relC n f) 26)) 0 zeroR
  rw [World.size_alloc] at h1
  have hB := (((Below.refl w.heap.size w).alloc (Nat.le_refl _) (.cells (relC n f) 26)).alloc (by simp) (.cells (relC 0 zeroR) 26))
  have H := Lib.hid (And.intro h0 (And.intro h1 (And.intro hB hr)))
  clear h0 h1 hB hr
  go_enter Tryd.func20, Tryd.ntmps20
  go_wp2_with (refine wpList_load_rel (by rfl) (.tmp 1) (by rfl) w.heap.size n f (by rfl) H.out.1 ?_)
  with_reducible refine (right_is _ _ _ H.out.2.2.2 _).mono ?_
  rintro e w1 ⟨rfl, hb⟩
  have H1 := Lib.hid (And.intro (H.out.2.1.below hb (by simp)) (H.out.2.2.1.trans (hb.mono H.out.2.2.1.size)))
  clear hb
  go_wp2_with (refine wpList_store_rel (by rfl) (.tmp 2) (.tmp 11) (by rfl) (w.heap.size + 1) 0 0 zeroR zeroR (by rfl) (by rfl) H1.out.1 ?_; intro w3 hR3 hg3)
  refine bodyPost_ret (results_cell_row rfl _ _ (w.heap.size + 1) 26 (relC 0 zeroR) (0, 0) _ rfl hR3 uRel rfl (sRelC _ _)) rfl ⟨rfl, H1.out.2.grown hg3 H1.out.2.size (fun j e => by injection e with e; omega)⟩
set_option maxRecDepth 100000 in
set_option maxHeartbeats 1000000 in
theorem back_yes (n : Nat) (f : Rl.Rows) (w : World) (hr : Rl.Ok n f) (hT : Tab w) (hw : 0 < w.heap.size) :
    Calls Tryd.prog 20 #[.agg (relC n f)] w fun e w' => e = .returned (.agg (relC n (Rl.backF n f))) ∧ Below w.heap.size w w' := by
  have hzr := zero_rel
  have hbr := build_rel
  have h0 := (RelAt.new w n f).alloc (.cells (relC 0 zeroR) 26)
  have h1 := RelAt.new (w.alloc (.cells (relC n f) 26)) 0 zeroR
  rw [World.size_alloc] at h1
  have hB := (((Below.refl w.heap.size w).alloc (Nat.le_refl _) (.cells (relC n f) 26)).alloc (by simp) (.cells (relC 0 zeroR) 26))
  have hTl : ∀ W, Below w.heap.size w W → Tab W ∧ 0 < W.heap.size := fun W h => ⟨hT.below h hw, Nat.lt_of_lt_of_le hw h.size⟩
  have HT := Lib.hid hTl
  have HO := Lib.hid hr
  have H := Lib.hid (And.intro h0 (And.intro h1 (And.intro hB (Rl.right_of hr))))
  clear h0 h1 hB hr hT hTl
  go_enter Tryd.func20, Tryd.ntmps20
  go_wp2_with (refine wpList_load_rel (by rfl) (.tmp 1) (by rfl) w.heap.size n f (by rfl) H.out.1 ?_)
  with_reducible refine (right_is _ _ _ H.out.2.2.2 _).mono ?_
  rintro e w1 ⟨rfl, hb⟩
  have hR := H.out.1.below hb (by simp; omega)
  have H1 := Lib.hid (And.intro hR (And.intro (H.out.2.1.below hb (by simp)) (H.out.2.2.1.trans (hb.mono H.out.2.2.1.size))))
  have hc := hR.num
  clear hb hR
  have s1 : w.heap.size + 1 < w1.heap.size := H1.out.2.1.lt
  obtain ⟨B, hBe⟩ : ∃ B, B = w1.heap.size := ⟨_, rfl⟩
  have hne0 : ¬ relC 0 zeroR = #[] := by intro h; have := congrArg Array.size h; rw [relC_size] at this; simp at this
  go_wp2_with (refine wpList_store_rel (by rfl) (.tmp 3) (.tmp 14) (by rfl) w1.heap.size n 0 zeroR zeroR (by rfl) (by rfl) (RelAt.new w1 0 zeroR) ?_; intro w3 hR3 hg3; have hc3 := ((H1.out.1.alloc (.cells (relC 0 zeroR) 26)).kept hg3 (by intro e; injection e with e; omega)).num)
  rw [← hBe] at hR3 ⊢
  have hb3 : Below w.heap.size w w3 := (H1.out.2.2.alloc H1.out.2.2.size _).grown hg3 (by simp; omega) (fun j e => by injection e with e; omega)
  have HB3 := Lib.hid (And.intro hR3 (And.intro (((H1.out.1.alloc (.cells (relC 0 zeroR) 26)).kept hg3 (by intro e; injection e with e; omega))) (And.intro (((H1.out.2.1.alloc (.cells (relC 0 zeroR) 26)).kept hg3 (by intro e; injection e with e; omega))) hb3)))
  have hBl : w.heap.size + 1 < B := by omega
  have HS := Lib.hid (And.intro s1 hBe)
  clear hR3 hb3 hg3 hc hc3 s1 hBe
  go_loopw [17] (fun c wr => ∃ k : Nat, k ≤ n ∧ c = .int .i64 k ∧ RelAt wr B n (Rl.backF k f) ∧ RelAt wr w.heap.size n f ∧ RelAt wr (w.heap.size + 1) 0 zeroR ∧ Below w.heap.size w wr) (fun c _ => n - (intOf c).toNat)
  case atStart => exact ⟨0, Nat.zero_le _, rfl, by rw [back_zero]; exact HB3.out.1, HB3.out.2.1, HB3.out.2.2.1, HB3.out.2.2.2⟩
  case round =>
    obtain ⟨k, hk, rfl, hb1, hb2, hb3, hb4⟩ := hrel
    have n48 := HO.out.le
    by_cases hlt : k < n
    · have hrow := hb2.row k (by omega)
      obtain ⟨s, hs⟩ : ∃ s, s = f k := ⟨_, rfl⟩
      rw [← hs] at hrow
      have HH := Lib.hid (And.intro hb1 (And.intro hb2 (And.intro hb3 (And.intro hb4 hs))))
      clear hb1 hb2 hb3 hb4 hs
      have q0 : (0 : Int) ≤ (k : Int) := by omega
      have q1 : (k : Int) < 48 := by omega
      go_wp2_with fail
      refine (first_any _ _ (HT.out _ HH.out.2.2.2.1).1 (HT.out _ HH.out.2.2.2.1).2).mono ?_
      rintro e w2 ⟨rfl, hb⟩
      have bl : w.heap.size + 1 < wr.heap.size := HH.out.2.2.1.lt
      have H2 := Lib.hid (And.intro (HH.out.1.below hb HH.out.1.lt) (And.intro (HH.out.2.1.below hb HH.out.2.1.lt) (And.intro (HH.out.2.2.1.below hb HH.out.2.2.1.lt) (HH.out.2.2.2.1.trans (hb.mono HH.out.2.2.2.1.size)))))
      clear hb
      go_wp2_with fail
      go_loopw [5, 6, 7] (fun x p q wr => ∃ (t d : BitVec 64), x = .int .u64 (Bv.U t) ∧ p = .int .i64 (firstN t) ∧ q = .bool (someB t) ∧ d ||| t = f k ∧ RelAt wr B n (bk k f d) ∧ RelAt wr w.heap.size n f ∧ RelAt wr (w.heap.size + 1) 0 zeroR ∧ Below w.heap.size w wr) (fun x _ _ _ => leftOf x)
      case atStart => exact ⟨s, 0#64, rfl, rfl, rfl, by rw [← HH.out.2.2.2.2]; simp, by rw [bk_zero]; exact H2.out.1, H2.out.2⟩
      case round =>
        obtain ⟨t, d, rfl, rfl, rfl, hd, hb1, hb2, hb3, hb4⟩ := hrel
        by_cases hz : t = 0#64
        · subst hz
          rw [some_zero.1, some_zero.2]
          have hd2 : d = f k := by rw [← hd]; simp
          subst hd2
          rw [bk_full _ _ (by omega)] at hb1
          have H3 := Lib.hid (And.intro hb1 (And.intro hb2 (And.intro hb3 hb4)))
          clear hb1 hb2 hb3 hb4 hd hrow
          go_wp2_with fail
          go_roundw
          case rel => exact ⟨k + 1, by omega, by go_num, H3.out⟩
          case measure => simp [intOf]; omega
        · have h48 : Bs.low t < 48 := by
            have h1 : (f k).getLsbD (Bs.low t) = true := by rw [← hd, BitVec.getLsbD_or, Bs.low_bit hz, Bool.or_true]
            have := (HO.out.in_ k _ h1).2; omega
          have hcell := hb1.row (Bs.low t) h48
          have hset := hb1.drew.set (Bs.low t) (bk k f d (Bs.low t) ||| Bv.bit k)
          rw [bk_step k _ f d (by omega)] at hset
          have hfr := hb1.free (1 + Bs.low t)
          have hor := low_or hz d
          have hlt2 := Bs.rest_lt hz
          rw [(some_ne hz).1, (some_ne hz).2]
          obtain ⟨a, ha⟩ : ∃ a, a = Bs.low t := ⟨_, rfl⟩
          rw [← ha] at hcell hset hfr hor h48 ⊢
          obtain ⟨v, hv⟩ : ∃ v, v = bk k f d a := ⟨_, rfl⟩
          rw [← hv] at hcell hset
          have q2 : (0 : Int) ≤ (a : Int) := by omega
          have q3 : (a : Int) < 48 := by omega
          have H3 := Lib.hid (And.intro hset (And.intro (hb2.drew.other ⟨B, 1 + a, none⟩ (.int .u64 (Bv.U (v ||| Bv.bit k))) (by simp; omega)) (And.intro (hb3.drew.other ⟨B, 1 + a, none⟩ (.int .u64 (Bv.U (v ||| Bv.bit k))) (by simp; omega)) (And.intro (hb4.drew.setCell (p := ⟨B, 1 + a, none⟩) (by simp; omega) (.int .u64 (Bv.U (v ||| Bv.bit k)))) (And.intro hor (And.intro hlt2 hd))))))
          clear hset hb1 hb2 hb3 hb4 hor hlt2 hd hv ha hrow
          go_wp2_with fail
          go_still_tail 9, (by kernel_rfl)
          change wpList _ _ _ _ _ wr.drew
          have c2 : wr.drew.cell? ⟨B, 1 + a, none⟩ = some (.int .u64 (Bv.U v)) := hcell
          have f2 : wr.drew.frozen? ⟨B, 1 + a, none⟩ = false := hfr
          go_step
          go_wp2_with fail
          rw [← World.setCell_drew]
          refine (first_any _ _ (HT.out _ H3.out.2.2.2.1).1 (HT.out _ H3.out.2.2.2.1).2).mono ?_
          rintro e w4 ⟨rfl, hb⟩
          have H4 := Lib.hid (And.intro (H3.out.1.below hb H3.out.1.lt) (And.intro (H3.out.2.1.below hb H3.out.2.1.lt) (And.intro (H3.out.2.2.1.below hb H3.out.2.2.1.lt) (H3.out.2.2.2.1.trans (hb.mono H3.out.2.2.2.1.size)))))
          clear hb c2 f2 hcell hfr
          go_wp2_with fail
          go_roundw
          case rel => exact ⟨Bs.rest t, d ||| Bv.bit a, rfl, rfl, rfl, by rw [H3.out.2.2.2.2.1]; exact H3.out.2.2.2.2.2.2, H4.out⟩
          case measure => rw [leftOf_eq t]; exact Nat.lt_of_le_of_lt (Nat.le_of_eq (leftOf_eq (Bs.rest t))) H3.out.2.2.2.2.2.1
    · have hkn : k = n := by omega
      subst hkn
      have H3 := Lib.hid (And.intro hb1 (And.intro hb3 hb4))
      clear hb1 hb2 hb3 hb4
      go_wp2_with (first | (refine wpList_load_rel (by rfl) (.tmp 3) (by rfl) B k (Rl.backF k f) (by rfl) H3.out.1 ?_) | (refine wpList_store_rel (by rfl) (.tmp 2) (.tmp 49) (by rfl) (w.heap.size + 1) k 0 (Rl.backF k f) zeroR (by rfl) (by rfl) H3.out.2.1 ?_; intro w3 hR3 hg3))
      refine bodyPost_ret (results_cell_row rfl _ _ (w.heap.size + 1) 26 (relC k (Rl.backF k f)) (0, 0) _ rfl hR3 uRel rfl (sRelC _ _)) rfl ⟨rfl, H3.out.2.2.grown hg3 H3.out.2.2.size (fun j e => by injection e with e; omega)⟩
end Go.Proofs.YtknjdfgmejobfaaDoor
