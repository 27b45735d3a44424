/- package rel: From, Into, Empty, Irreflexive. -/
import Derived.Test.YtknjdfgmejobfaaDoorNi
import Derived.Test.YtknjdfgmejobfaaDoorRo
namespace Go.Proofs.YtknjdfgmejobfaaDoor
open Go.RowKit Go.Shelf

attribute [local go_sem] Bv.and_u Bv.or_u Bv.andNot_u Bv.wrap_sub1 Bv.eq0 Bv.ne0 Bv.wrap_pow Bv.wrap_powmin Bv.wrap_neg Bv.eq_u Bv.ne_u Bv.shr_min Bv.shr_pow Bv.tmod2 Bv.and1 Bv.wrap_add Bv.B1_eq1 Bv.B1_eq0 Bv.B1_ne1 Bv.B1_ne0

/-- a relation read whole, behind a guard -/
theorem wpList_load_rel_want {ops : Array Oper} {rest : List Oper} {op : Oper} {a : Act} {w : World} {Q : Exit → Act → World → Prop} (hw : Region.wanted op (yielded ops a.tmps) = true) (x : Operand) (ho : op.op = .load 26 x)
    (b : Nat) (n : Int) (f : Rl.Rows) (hx : a.eval x = .pointer (some ⟨b, 0, none⟩)) (hR : RelAt w b n f)
    (h : wpList Tryd.prog ops Q rest (a.put op.dst (.agg (relC n f))) w) : wpList Tryd.prog ops Q (op :: rest) a w :=
  BigFrame.wpList_want hw fun K hK => by
    unfold Oper.wp execOp
    simp only [ho, hx, Instr.loadAt, Instr.sureAddr, Sem.run_bind, Sem.run_pure, Result.andThen_ok, run_loadVar_row (P := Tryd.prog) w b 26 26 (relC n f) (0, 0) _ hR uRel rfl (sRelC n f)]
    exact hK _ _ h

/-! ### From -/
def fromK (f : Rl.Rows) (k : Nat) : BitVec 64 := Bx.mk fun a => decide (a < k) && !(f a == 0#64)
theorem fromK_hit (f : Rl.Rows) (k : Nat) (hk : k < 48) (h : (f k == 0#64) = false) : fromK f k ||| Bv.bit k = fromK f (k + 1) := by
  apply Bv.ext_get; intro i hi
  unfold fromK
  rw [BitVec.getLsbD_or, Bx.mk_get _ i hi, Bx.mk_get _ i hi, Bv.bit_get k i (by omega)]
  by_cases e : i = k
  · subst e; simp [h]
  · have e1 : decide (i < k + 1) = decide (i < k) := by rw [Bool.eq_iff_iff]; simp; omega
    rw [e1, decide_eq_false e, Bool.or_false]
theorem fromK_miss (f : Rl.Rows) (k : Nat) (h : (f k == 0#64) = true) : fromK f k = fromK f (k + 1) := by
  apply Bv.ext_get; intro i hi
  unfold fromK
  rw [Bx.mk_get _ i hi, Bx.mk_get _ i hi]
  by_cases e : i = k
  · subst e; simp [h]
  · have e1 : decide (i < k + 1) = decide (i < k) := by rw [Bool.eq_iff_iff]; simp; omega
    rw [e1]
theorem fromK_zero (f : Rl.Rows) : fromK f 0 = 0#64 := by
  apply Bv.ext_get; intro i hi; unfold fromK; rw [Bx.mk_get _ i hi, Bv.zero_get]; simp

def fromS (n : Int) (f : Rl.Rows) : BitVec 64 := if Rl.rightB n f then Rl.fromF n.toNat f else 0#64
set_option maxRecDepth 100000 in
set_option maxHeartbeats 1000000 in
theorem from_no (n : Int) (f : Rl.Rows) (w : World) (hr : Rl.rightB n f = false) :
    Calls Tryd.prog 43 #[.agg (relC n f)] w fun e w' => e = .returned (.int .u64 (Bv.U 0#64)) ∧ Below w.heap.size w w' := by
  have H := Lib.hid (And.intro (RelAt.new w n f) (And.intro ((Below.refl w.heap.size w).alloc (Nat.le_refl _) (.cells (relC n f) 26)) hr))
  clear hr
  go_enter Tryd.func43, Tryd.ntmps43
  go_wp2_with (refine wpList_load_rel (by rfl) (.tmp 1) (by rfl) w.heap.size n f (by rfl) H.out.1 ?_)
  with_reducible refine (right_is _ _ _ H.out.2.2 _).mono ?_
  rintro e w1 ⟨rfl, hb⟩
  have H1 := Lib.hid (H.out.2.1.trans (hb.mono H.out.2.1.size))
  clear hb
  go_wp2_with fail
  go_ret
  exact ⟨rfl, H1.out⟩
set_option maxRecDepth 100000 in
set_option maxHeartbeats 1000000 in
theorem from_yes (n : Nat) (f : Rl.Rows) (w : World) (hr : Rl.Ok n f) :
    Calls Tryd.prog 43 #[.agg (relC n f)] w fun e w' => e = .returned (.int .u64 (Bv.U (Rl.fromF n f))) ∧ Below w.heap.size w w' := by
  have hn := hr.le
  have H := Lib.hid (And.intro (RelAt.new w n f) (And.intro ((Below.refl w.heap.size w).alloc (Nat.le_refl _) (.cells (relC n f) 26)) (Rl.right_of hr)))
  clear hr
  go_enter Tryd.func43, Tryd.ntmps43
  go_wp2_with (refine wpList_load_rel (by rfl) (.tmp 1) (by rfl) w.heap.size n f (by rfl) H.out.1 ?_)
  with_reducible refine (right_is _ _ _ H.out.2.2 _).mono ?_
  rintro e w1 ⟨rfl, hb⟩
  have H1 := Lib.hid (And.intro (H.out.1.below hb (by simp)) (H.out.2.1.trans (hb.mono H.out.2.1.size)))
  clear hb
  have c0 := H1.out.1.num
  go_wp2_with fail
  go_loop [3, 10] (fun x i => ∃ k : Nat, k ≤ n ∧ i = .int .i64 k ∧ x = .int .u64 (Bv.U (fromK f k))) (fun _ i => n - (intOf i).toNat)
  case atStart => exact ⟨0, Nat.zero_le _, rfl, by rw [fromK_zero]; rfl⟩
  case round =>
    obtain ⟨k, hk, rfl, rfl⟩ := hrel
    by_cases hlt : k < n
    · have c1 := H1.out.1.row k (by omega)
      have q0 : (0 : Int) ≤ (k : Int) := by omega
      have q1 : (k : Int) < 48 := by omega
      have q2 : (k : Int) < 64 := by omega
      cases hz : (f k == 0#64)
      · have HK := Lib.hid (fromK_hit f k (by omega) hz)
        have he : (f k != 0#64) = true := by simp only [bne, hz]; rfl
        clear hz
        go_wp2_with fail
        go_round
        case rel => exact ⟨k + 1, by omega, by go_num, by rw [← HK.out]⟩
        case measure => simp [intOf]; omega
      · have HK := Lib.hid (fromK_miss f k hz)
        have he : (f k != 0#64) = false := by simp only [bne, hz]; rfl
        clear hz
        go_wp2_with fail
        go_round
        case rel => exact ⟨k + 1, by omega, by go_num, by rw [← HK.out]⟩
        case measure => simp [intOf]; omega
    · have hkn : k = n := by omega
      subst hkn
      go_wp2_with fail
      go_ret
      exact ⟨rfl, H1.out.2⟩
theorem from_any (n : Int) (f : Rl.Rows) (w : World) (zf : Rl.Z f) :
    Calls Tryd.prog 43 #[.agg (relC n f)] w fun e w' => e = .returned (.int .u64 (Bv.U (fromS n f))) ∧ Below w.heap.size w w' := by
  unfold fromS
  cases h : Rl.rightB n f
  · rw [if_neg (by simp)]; exact from_no n f w h
  · obtain ⟨m, rfl, hm⟩ := Rl.right_nat zf h
    rw [if_pos rfl, Int.toNat_natCast]; exact from_yes m f w hm
theorem from_is (n : Int) (f : Rl.Rows) (s : BitVec 64) (hs : fromS n f = s) (w : World) (zf : Rl.Z f) :
    Calls Tryd.prog 43 #[.agg (relC n f)] w fun e w' => e = .returned (.int .u64 (Bv.U s)) ∧ Below w.heap.size w w' := by subst hs; exact from_any n f w zf

/-! ### Into -/
def intoS (n : Int) (f : Rl.Rows) : BitVec 64 := if Rl.rightB n f then Rl.intoF n.toNat f else 0#64
theorem below48 {n : Nat} (hn : n ≤ 48) (i : Nat) (h : (Rl.below (n : Int)).getLsbD i = true) : i < 48 := by
  rw [Rl.below_getN _ _ (Bx.lt64 h)] at h
  have := of_decide_eq_true h; omega
set_option maxRecDepth 100000 in
set_option maxHeartbeats 1000000 in
theorem into_no (n : Int) (f : Rl.Rows) (w : World) (hr : Rl.rightB n f = false) :
    Calls Tryd.prog 44 #[.agg (relC n f)] w fun e w' => e = .returned (.int .u64 (Bv.U 0#64)) ∧ Below w.heap.size w w' := by
  have H := Lib.hid (And.intro (RelAt.new w n f) (And.intro ((Below.refl w.heap.size w).alloc (Nat.le_refl _) (.cells (relC n f) 26)) hr))
  clear hr
  go_enter Tryd.func44, Tryd.ntmps44
  go_wp2_with (refine wpList_load_rel (by rfl) (.tmp 1) (by rfl) w.heap.size n f (by rfl) H.out.1 ?_)
  with_reducible refine (right_is _ _ _ H.out.2.2 _).mono ?_
  rintro e w1 ⟨rfl, hb⟩
  have H1 := Lib.hid (H.out.2.1.trans (hb.mono H.out.2.1.size))
  clear hb
  go_wp2_with fail
  go_ret
  exact ⟨rfl, H1.out⟩
set_option maxRecDepth 100000 in
set_option maxHeartbeats 1000000 in
theorem into_yes (n : Nat) (f : Rl.Rows) (w : World) (hr : Rl.Ok n f) (hT : Tab w) (hw : 0 < w.heap.size) :
    Calls Tryd.prog 44 #[.agg (relC n f)] w fun e w' => e = .returned (.int .u64 (Bv.U (Rl.intoF n f))) ∧ Below w.heap.size w w' := by
  have hn := hr.le
  have hTl : ∀ W, Below w.heap.size w W → Tab W ∧ 0 < W.heap.size := fun W h => ⟨hT.below h hw, Nat.lt_of_lt_of_le hw h.size⟩
  have HT := Lib.hid hTl
  have H := Lib.hid (And.intro (RelAt.new w n f) (And.intro ((Below.refl w.heap.size w).alloc (Nat.le_refl _) (.cells (relC n f) 26)) (Rl.right_of hr)))
  clear hr hT hTl
  go_enter Tryd.func44, Tryd.ntmps44
  go_wp2_with (refine wpList_load_rel (by rfl) (.tmp 1) (by rfl) w.heap.size n f (by rfl) H.out.1 ?_)
  with_reducible refine (right_is _ _ _ H.out.2.2 _).mono ?_
  rintro e w1 ⟨rfl, hb⟩
  have H1 := Lib.hid (And.intro (H.out.1.below hb (by simp)) (H.out.2.1.trans (hb.mono H.out.2.1.size)))
  clear hb
  have c0 := H1.out.1.num
  go_wp2_with fail
  refine (all_is _ _ (allS_below n) _).mono ?_
  rintro e w2 ⟨rfl, rfl⟩
  go_wp2_with fail
  refine (image_any w.heap.size n f (Rl.below (n : Int)) w1 H1.out.1 (below48 hn) (HT.out _ H1.out.2).1 (HT.out _ H1.out.2).2).mono ?_
  rintro e w3 ⟨rfl, hb⟩
  have H3 := Lib.hid (H1.out.2.trans (hb.mono H1.out.2.size))
  clear hb
  go_wp2_with fail
  go_ret
  exact ⟨rfl, H3.out⟩
theorem into_any (n : Int) (f : Rl.Rows) (w : World) (zf : Rl.Z f) (hT : Tab w) (hw : 0 < w.heap.size) :
    Calls Tryd.prog 44 #[.agg (relC n f)] w fun e w' => e = .returned (.int .u64 (Bv.U (intoS n f))) ∧ Below w.heap.size w w' := by
  unfold intoS
  cases h : Rl.rightB n f
  · rw [if_neg (by simp)]; exact into_no n f w h
  · obtain ⟨m, rfl, hm⟩ := Rl.right_nat zf h
    rw [if_pos rfl, Int.toNat_natCast]; exact into_yes m f w hm hT hw

/-! ### Empty -/
def emptyB (n : Int) (f : Rl.Rows) : Bool := Rl.rightB n f && (fromS n f == 0#64)
set_option maxRecDepth 100000 in
set_option maxHeartbeats 1000000 in
theorem empty_any (n : Int) (f : Rl.Rows) (w : World) (zf : Rl.Z f) :
    Calls Tryd.prog 34 #[.agg (relC n f)] w fun e w' => e = .returned (.bool (emptyB n f)) ∧ Below w.heap.size w w' := by
  unfold emptyB
  have HZ := Lib.hid zf
  cases hr : Rl.rightB n f
  all_goals
    have H := Lib.hid (And.intro (RelAt.new w n f) (And.intro ((Below.refl w.heap.size w).alloc (Nat.le_refl _) (.cells (relC n f) 26)) hr))
    clear hr
    go_enter Tryd.func34, Tryd.ntmps34
    go_wp2_with (refine wpList_load_rel (by rfl) (.tmp 1) (by rfl) w.heap.size n f (by rfl) H.out.1 ?_)
    with_reducible refine (right_is _ _ _ H.out.2.2 _).mono ?_
    rintro e w1 ⟨rfl, hb⟩
    have H1 := Lib.hid (And.intro (H.out.1.below hb (by simp)) (H.out.2.1.trans (hb.mono H.out.2.1.size)))
    clear hb
  · go_wp2_with fail
    go_ret
    exact ⟨rfl, H1.out.2⟩
  · go_wp2_with (refine wpList_load_rel_want (by rfl) (.tmp 1) (by rfl) w.heap.size n f (by rfl) H1.out.1 ?_)
    with_reducible refine (from_any _ _ _ HZ.out).mono ?_
    rintro e w2 ⟨rfl, hb⟩
    have H2 := Lib.hid (H1.out.2.trans (hb.mono H1.out.2.size))
    clear hb
    go_wp2_with fail
    go_ret
    exact ⟨rfl, H2.out⟩
theorem empty_is (n : Int) (f : Rl.Rows) (b : Bool) (hb : emptyB n f = b) (w : World) (zf : Rl.Z f) :
    Calls Tryd.prog 34 #[.agg (relC n f)] w fun e w' => e = .returned (.bool b) ∧ Below w.heap.size w w' := by subst hb; exact empty_any n f w zf

/-! ### Irreflexive -/
def irrB (n : Int) (f : Rl.Rows) : Bool := Rl.rightB n f && Rl.irrF n.toNat f
theorem irrF_succ (k : Nat) (f : Rl.Rows) : Rl.irrF (k + 1) f = (Rl.irrF k f && !Rl.bit f k k) := by simp [Rl.irrF, List.range_succ]
theorem irrF_mono {k n : Nat} {f : Rl.Rows} (hk : k < n) (h : Bv.G (f k) k = true) : Rl.irrF n f = false := by
  rw [Bool.eq_false_iff]
  intro h2
  unfold Rl.irrF at h2
  rw [List.all_eq_true] at h2
  have := h2 k (List.mem_range.2 hk)
  unfold Rl.bit at this
  rw [show (f k).getLsbD k = true from h] at this
  cases this
set_option maxRecDepth 100000 in
set_option maxHeartbeats 1000000 in
theorem irr_no (n : Int) (f : Rl.Rows) (w : World) (hr : Rl.rightB n f = false) :
    Calls Tryd.prog 24 #[.agg (relC n f)] w fun e w' => e = .returned (.bool false) ∧ Below w.heap.size w w' := by
  have H := Lib.hid (And.intro (RelAt.new w n f) (And.intro ((Below.refl w.heap.size w).alloc (Nat.le_refl _) (.cells (relC n f) 26)) hr))
  clear hr
  go_enter Tryd.func24, Tryd.ntmps24
  go_wp2_with (refine wpList_load_rel (by rfl) (.tmp 1) (by rfl) w.heap.size n f (by rfl) H.out.1 ?_)
  with_reducible refine (right_is _ _ _ H.out.2.2 _).mono ?_
  rintro e w1 ⟨rfl, hb⟩
  have H1 := Lib.hid (H.out.2.1.trans (hb.mono H.out.2.1.size))
  clear hb
  go_wp2_with fail
  go_ret
  exact ⟨rfl, H1.out⟩
set_option maxRecDepth 100000 in
set_option maxHeartbeats 1000000 in
theorem irr_yes (n : Nat) (f : Rl.Rows) (w : World) (hr : Rl.Ok n f) :
    Calls Tryd.prog 24 #[.agg (relC n f)] w fun e w' => e = .returned (.bool (Rl.irrF n f)) ∧ Below w.heap.size w w' := by
  have hn := hr.le
  have H := Lib.hid (And.intro (RelAt.new w n f) (And.intro ((Below.refl w.heap.size w).alloc (Nat.le_refl _) (.cells (relC n f) 26)) (Rl.right_of hr)))
  clear hr
  go_enter Tryd.func24, Tryd.ntmps24
  go_wp2_with (refine wpList_load_rel (by rfl) (.tmp 1) (by rfl) w.heap.size n f (by rfl) H.out.1 ?_)
  with_reducible refine (right_is _ _ _ H.out.2.2 _).mono ?_
  rintro e w1 ⟨rfl, hb⟩
  have H1 := Lib.hid (And.intro (H.out.1.below hb (by simp)) (H.out.2.1.trans (hb.mono H.out.2.1.size)))
  clear hb
  have c0 := H1.out.1.num
  go_wp2_with fail
  go_loop [9] (fun i => ∃ k : Nat, k ≤ n ∧ i = .int .i64 k ∧ Rl.irrF k f = true) (fun i => n - (intOf i).toNat)
  case atStart => exact ⟨0, Nat.zero_le _, rfl, rfl⟩
  case round =>
    obtain ⟨k, hk, rfl, hok⟩ := hrel
    by_cases hlt : k < n
    · have c1 := H1.out.1.row k (by omega)
      have q0 : (0 : Int) ≤ (k : Int) := by omega
      have q1 : (k : Int) < 48 := by omega
      have q2 : (k : Int) < 64 := by omega
      cases hb : Bv.G (f k) k
      · have HK := Lib.hid (show Rl.irrF (k + 1) f = true by rw [irrF_succ, hok, show Rl.bit f k k = false from hb]; rfl)
        clear hok
        go_wp2_with fail
        go_round
        case rel => exact ⟨k + 1, by omega, by go_num, HK.out⟩
        case measure => simp [intOf]; omega
      · have HK := Lib.hid (irrF_mono hlt hb)
        clear hok
        go_wp2_with fail
        go_ret
        exact ⟨by rw [HK.out]; rfl, H1.out.2⟩
    · have hkn : k = n := by omega
      subst hkn
      have HK := Lib.hid hok
      clear hok
      go_wp2_with fail
      go_ret
      exact ⟨by rw [HK.out]; rfl, H1.out.2⟩
theorem irr_any (n : Int) (f : Rl.Rows) (w : World) (zf : Rl.Z f) :
    Calls Tryd.prog 24 #[.agg (relC n f)] w fun e w' => e = .returned (.bool (irrB n f)) ∧ Below w.heap.size w w' := by
  unfold irrB
  cases h : Rl.rightB n f
  · exact irr_no n f w h
  · obtain ⟨m, rfl, hm⟩ := Rl.right_nat zf h
    rw [Bool.true_and, Int.toNat_natCast]; exact irr_yes m f w hm
theorem irr_is (n : Int) (f : Rl.Rows) (b : Bool) (hb : irrB n f = b) (w : World) (zf : Rl.Z f) :
    Calls Tryd.prog 24 #[.agg (relC n f)] w fun e w' => e = .returned (.bool b) ∧ Below w.heap.size w w' := by subst hb; exact irr_any n f w zf
end Go.Proofs.YtknjdfgmejobfaaDoor
