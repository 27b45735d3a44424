/- package rel: Ring. -/
import Derived.Test.YtknjdfgmejobfaaDoorNp
import Derived.Lib.QuietBelow
import Derived.Test.YtknjdfgmejobfaaDoorNk
namespace Go.Proofs.YtknjdfgmejobfaaDoor
open Go.RowKit Go.Shelf

attribute [local go_sem] Bv.and_u Bv.or_u Bv.andNot_u Bv.wrap_sub1 Bv.eq0 Bv.ne0 Bv.wrap_pow Bv.wrap_powmin Bv.wrap_neg Bv.eq_u Bv.ne_u Bv.shr_min Bv.shr_pow Bv.tmod2 Bv.and1 Bv.wrap_add Bv.B1_eq1 Bv.B1_eq0 Bv.B1_ne1 Bv.B1_ne0

theorem run_nil_eql (A : Option Addr) (n c : Nat) (w : World) : (binOp .eql 86 (.slice A n c) (.slice none 0 0)).run Tryd.prog w = .ok (.bool A.isNone) w := by
  simp only [binOp]
  simp [Op.equal, Op.maxDepth, Lib.run_equalIn_slice_nil w 9999 86 23 A n c 0 0 Tryd.underlying86]
theorem wpList_nil_want {ops : Array Oper} {rest : List Oper} {op : Oper} {a : Act} {w : World} {Q : Exit → Act → World → Prop} (hw : Region.wanted op (yielded ops a.tmps) = true) (x : Operand) (ho : op.op = .binOp .eql 86 x (.const (.slice none 0 0)) 86)
    (A : Option Addr) (n c : Nat) (b : Bool) (hx : a.eval x = .slice A n c) (hA : A.isNone = b)
    (h : wpList Tryd.prog ops Q rest (a.put op.dst (.bool b)) w) : wpList Tryd.prog ops Q (op :: rest) a w :=
  BigFrame.wpList_want hw fun K hK => by
    unfold Oper.wp execOp
    subst hA
    simp only [ho, hx, BigFrame.eval_const, Sem.run_bind, Sem.run_pure, run_nil_eql]
    exact hK _ _ h
/-- what the first loop has found: the start and its layers -/
def BestAt (base : Nat) (w : World) (o : Option (Nat × List (BitVec 64))) (x v : Value) : Prop := match o with
  | none => x = .int .i64 0 ∧ v = .slice none 0 0
  | some (s, l) => x = .int .i64 s ∧ 0 < l.length ∧ l.length ≤ 65 ∧ w.ownsRow base 23 1 v l.length (setV l)
theorem BestAt.below {base k : Nat} {w w' : World} {o : Option (Nat × List (BitVec 64))} {x v : Value} (h : BestAt base w o x v) (hb : Below k w w') (hk : w.heap.size ≤ k) : BestAt base w' o x v := by
  cases o with
  | none => exact h
  | some p => exact ⟨h.1, h.2.1, h.2.2.1, owns_below h.2.2.2 hb hk⟩
theorem layGo_pos {f : Rl.Rows} {a : Nat} : ∀ {k : Nat} {layer seen : BitVec 64} {l : List (BitVec 64)}, Rl.layGo f a k layer seen = some l → 0 < l.length ∧ l.length ≤ k
  | 0, _, _, _, h => by simp [Rl.layGo] at h
  | k + 1, layer, seen, l, h => by
    unfold Rl.layGo at h
    split at h
    · cases h
    · split at h
      · injection h with h; subst h; exact ⟨by simp, by simp⟩
      · rw [Option.map_eq_some_iff] at h
        obtain ⟨m, hm, rfl⟩ := h
        have := layGo_pos hm
        refine ⟨by simp, ?_⟩
        simp only [List.length_cons]; omega
theorem best_none1 {f : Rl.Rows} {k : Nat} (h : Rl.layL f k = none) : Rl.bestGo f (k + 1) = Rl.bestGo f k := by
  rw [Rl.bestGo, h]
theorem best_first {f : Rl.Rows} {k : Nat} {l : List (BitVec 64)} (h : Rl.layL f k = some l) (hb : Rl.bestGo f k = none) : Rl.bestGo f (k + 1) = some (k, l) := by
  rw [Rl.bestGo, h, hb]
theorem best_less {f : Rl.Rows} {k s : Nat} {l m : List (BitVec 64)} (h : Rl.layL f k = some l) (hb : Rl.bestGo f k = some (s, m)) (hl : l.length < m.length) : Rl.bestGo f (k + 1) = some (k, l) := by
  rw [Rl.bestGo, h, hb]; exact if_pos hl
theorem best_more {f : Rl.Rows} {k s : Nat} {l m : List (BitVec 64)} (h : Rl.layL f k = some l) (hb : Rl.bestGo f k = some (s, m)) (hl : ¬ l.length < m.length) : Rl.bestGo f (k + 1) = some (s, m) := by
  rw [Rl.bestGo, h, hb]; exact if_neg hl

/-- what Ring answers -/
def ringR (n : Int) (f : Rl.Rows) : List Nat := if Rl.rightB n f then Rl.ringL n.toNat f else []
def RingOut (l : List Nat) (w : World) (e : Ending) (w' : World) : Prop :=
  ∃ v, e = .returned v ∧ w'.ownsRow w.heap.size 3 1 v l.length (nums l) ∧ Below w.heap.size w w'
set_option maxRecDepth 100000 in
set_option maxHeartbeats 1000000 in
theorem ring_no (n : Int) (f : Rl.Rows) (w : World) (hr : Rl.rightB n f = false) :
    Calls Tryd.prog 23 #[.agg (relC n f)] w (RingOut [] w) := by
  have H := Lib.hid (And.intro (RelAt.new w n f) (And.intro ((Below.refl w.heap.size w).alloc (Nat.le_refl _) (.cells (relC n f) 26)) hr))
  clear hr
  go_enter Tryd.func23, Tryd.ntmps23
  go_wp2_with (refine wpList_load_rel (by rfl) (.tmp 1) (by rfl) w.heap.size n f (by rfl) H.out.1 ?_)
  with_reducible refine (right_is _ _ _ H.out.2.2 _).mono ?_
  rintro e w1 ⟨rfl, hb⟩
  have H1 := Lib.hid (H.out.2.1.trans (hb.mono H.out.2.1.size))
  clear hb
  go_wp2_with fail
  go_ret
  exact ⟨_, rfl, World.ownsRow_nil _ _ _ _, H1.out⟩
set_option maxRecDepth 100000 in
set_option maxHeartbeats 4000000 in
theorem ring_yes (n : Nat) (f : Rl.Rows) (w : World) (hr : Rl.Ok n f) (hT : Tab w) (hw : 0 < w.heap.size) :
    Calls Tryd.prog 23 #[.agg (relC n f)] w (RingOut (Rl.ringL n f) w) := by
  have hn := hr.le
  have hzr := zero_rel
  obtain ⟨i0, hi, hz0, hz1, hz2⟩ := info_parts infoInt
  have hTl : ∀ W, Below w.heap.size w W → Tab W ∧ 0 < W.heap.size := fun W h => ⟨hT.below h hw, Nat.lt_of_lt_of_le hw h.size⟩
  have HT := Lib.hid hTl
  have H := Lib.hid (And.intro (RelAt.new w n f) (And.intro ((Below.refl w.heap.size w).alloc (Nat.le_refl _) (.cells (relC n f) 26)) (And.intro (Rl.right_of hr) hr)))
  have hne0 : ¬ relC 0 zeroR = #[] := by intro h; have := congrArg Array.size h; rw [relC_size] at this; simp at this
  clear hr hT hTl
  go_enter Tryd.func23, Tryd.ntmps23
  go_wp2_with (refine wpList_load_rel (by rfl) (.tmp 1) (by rfl) w.heap.size n f (by rfl) H.out.1 ?_)
  with_reducible refine (right_is _ _ _ H.out.2.2.1 _).mono ?_
  rintro e w1 ⟨rfl, hb⟩
  have H1 := Lib.hid (And.intro (H.out.1.below hb (by simp)) (H.out.2.1.trans (hb.mono H.out.2.1.size)))
  clear hb
  go_wp2_with (refine wpList_load_rel (by rfl) (.tmp 1) (by rfl) w.heap.size n f (by rfl) H1.out.1 ?_)
  with_reducible refine (back_yes n f w1 H.out.2.2.2 (HT.out _ H1.out.2).1 (HT.out _ H1.out.2).2).mono ?_
  rintro e w2 ⟨rfl, hb⟩
  have H2 := Lib.hid (And.intro (H1.out.1.below hb H1.out.1.lt) (H1.out.2.trans (hb.mono H1.out.2.size)))
  clear hb
  go_wp2_with (refine wpList_store_rel (by rfl) (.tmp 3) (.tmp 17) (by rfl) w2.heap.size n 0 (Rl.backF n f) zeroR (by rfl) (by rfl) (RelAt.new w2 0 zeroR) ?_; intro w3 hR3 hg3; have K0 := (H2.out.1.alloc (.cells (relC 0 zeroR) 26)).kept hg3 (by have := H2.out.1.lt; intro e; injection e with e; omega); have KB := (H2.out.2.alloc H2.out.2.size (.cells (relC 0 zeroR) 26)).grown hg3 (by have := H2.out.2.size; simp; omega) (fun j e => by have := H2.out.2.size; injection e with e; omega); have c0 := K0.num; have H3 := Lib.hid (And.intro hR3 (And.intro K0 KB)); clear hR3 hg3 K0 KB)
  clear c0
  have hs3 : w.heap.size ≤ w3.heap.size := H3.out.2.2.size
  go_loopw [4, 5, 20] (fun x v i wr => ∃ k : Nat, k ≤ n ∧ i = .int .i64 k ∧ BestAt w3.heap.size wr (Rl.bestGo (Rl.backF n f) k) x v ∧ Below w3.heap.size w3 wr) (fun _ _ i _ => n - (intOf i).toNat)
  case atStart => exact ⟨0, Nat.zero_le _, rfl, ⟨rfl, rfl⟩, Below.refl _ _⟩
  case round =>
    obtain ⟨k, hk, rfl, hbest, hb⟩ := hrel
    by_cases hlt : k < n
    · have hbw := H3.out.2.2.trans (hb.mono hs3)
      have HR := Lib.hid (And.intro hbest (And.intro hb (And.intro hbw (H3.out.1.below hb H3.out.1.lt))))
      clear hbest hb hbw
      go_wp2_with fail
      refine (layers_any w2.heap.size n k (Rl.backF n f) _ HR.out.2.2.2 (Rl.ok_back H.out.2.2.2) hlt (HT.out _ HR.out.2.2.1).1 (HT.out _ HR.out.2.2.1).2).mono ?_
      rintro e w4 ⟨v4, rfl, hrow4, hb4⟩
      have hbest := HR.out.1.below hb4 (Nat.le_refl _)
      have hb5 := HR.out.2.1.trans (hb4.mono HR.out.2.1.size)
      have hrow5 := owns_base hrow4 HR.out.2.1.size
      clear hrow4 hb4
      cases hl : Rl.layL (Rl.backF n f) k with
      | none =>
        have HX := Lib.hid (And.intro (best_none1 hl) (And.intro hbest hb5))
        clear hrow5 hbest hb5 hl
        go_wp2_with fail
        go_roundw
        case rel => exact ⟨k + 1, by omega, by go_num, by rw [HX.out.1]; exact HX.out.2.1, HX.out.2.2⟩
        case measure => simp [intOf]; omega
      | some l =>
        have hlp := layGo_pos hl
        rw [hl] at hrow5
        obtain ⟨g4, c4, hv4, _⟩ := hrow5.form hlp.1
        change v4 = Value.slice (some ⟨g4, 0, none⟩) l.length c4 at hv4
        subst hv4
        cases hbo : Rl.bestGo (Rl.backF n f) k with
        | none =>
          rw [hbo] at hbest
          obtain ⟨e1, e2⟩ := hbest
          subst e1 e2
          have HX := Lib.hid (And.intro (best_first hl hbo) (And.intro hrow5 (And.intro hb5 hlp)))
          clear hrow5 hb5 hl hbo hlp
          go_wp2_with (refine wpList_nil_want (by rfl) (.tmp 30) (by rfl) none 0 0 true (by rfl) (by rfl) ?_)
          go_roundw
          case rel => exact ⟨k + 1, by omega, by go_num, by rw [HX.out.1]; exact ⟨rfl, HX.out.2.2.2.1, HX.out.2.2.2.2, HX.out.2.1⟩, HX.out.2.2.1⟩
          case measure => simp [intOf]; omega
        | some sm =>
          obtain ⟨s0, m⟩ := sm
          rw [hbo] at hbest
          obtain ⟨e1, hmp, hm65, hrowm⟩ := hbest
          obtain ⟨gm, cm, hvm, _⟩ := hrowm.form hmp
          subst e1 hvm
          by_cases hlm : l.length < m.length
          · have he : decide (l.length < m.length) = true := decide_eq_true hlm
            have HX := Lib.hid (And.intro (best_less hl hbo hlm) (And.intro hrow5 (And.intro hb5 hlp)))
            clear hrow5 hb5 hl hbo hlp hlm hrowm
            go_wp2_with (refine wpList_nil_want (by rfl) (.tmp 30) (by rfl) (some ⟨gm, 0, none⟩) m.length cm false (by rfl) (by rfl) ?_)
            go_roundw
            case rel => exact ⟨k + 1, by omega, by go_num, by rw [HX.out.1]; exact ⟨rfl, HX.out.2.2.2.1, HX.out.2.2.2.2, HX.out.2.1⟩, HX.out.2.2.1⟩
            case measure => simp [intOf]; omega
          · have he : decide (l.length < m.length) = false := decide_eq_false hlm
            have HX := Lib.hid (And.intro (best_more hl hbo hlm) (And.intro hrowm (And.intro hb5 (And.intro hmp hm65))))
            clear hrow5 hb5 hl hbo hlp hlm hrowm
            go_wp2_with (refine wpList_nil_want (by rfl) (.tmp 30) (by rfl) (some ⟨gm, 0, none⟩) m.length cm false (by rfl) (by rfl) ?_)
            go_roundw
            case rel => exact ⟨k + 1, by omega, by go_num, by rw [HX.out.1]; exact ⟨rfl, HX.out.2.2.2.1, HX.out.2.2.2.2, HX.out.2.1⟩, HX.out.2.2.1⟩
            case measure => simp [intOf]; omega
    · have hkn : k = n := by omega
      subst hkn
      have hbw := H3.out.2.2.trans (hb.mono hs3)
      have hRf := H3.out.2.1.below hb H3.out.2.1.lt
      cases hbo : Rl.bestGo (Rl.backF k f) k with
      | none =>
        rw [hbo] at hbest
        obtain ⟨e1, e2⟩ := hbest
        subst e1 e2
        have HX := Lib.hid (And.intro (show Rl.ringL k f = [] by unfold Rl.ringL; rw [hbo]) hbw)
        clear hbw hb hRf hbo
        go_wp2_with (refine wpList_nil_want (by rfl) (.tmp 43) (by rfl) none 0 0 true (by rfl) (by rfl) ?_)
        go_ret
        exact ⟨_, rfl, by rw [HX.out.1]; exact World.ownsRow_nil _ _ _ _, HX.out.2⟩
      | some sm =>
        obtain ⟨s0, m⟩ := sm
        rw [hbo] at hbest
        obtain ⟨e1, hmp, hm65, hrowm⟩ := hbest
        obtain ⟨gm, cm, hvm, _⟩ := hrowm.form hmp
        subst e1 hvm
        have hbs := (Rl.best_spec H.out.2.2.2 k (Nat.le_refl _)).2 s0 m hbo
        have hls := Rl.lay_some H.out.2.2.2 (by omega) hbs.2.1
        have hr0 : Rl.ringL k f = s0 :: Rl.wayGo f m (m.length - 1) s0 := by unfold Rl.ringL; rw [hbo]
        have hrowm' := owns_base hrowm hs3
        have HX := Lib.hid (And.intro hr0 (And.intro hrowm' (And.intro hbw (And.intro hRf hls))))
        clear hbw hb hRf hbo hbs hls hr0 hrowm hrowm'
        go_wp2_with (refine wpList_nil_want (by rfl) (.tmp 43) (by rfl) (some ⟨gm, 0, none⟩) m.length cm false (by rfl) (by rfl) ?_)
        obtain ⟨W0, rfl⟩ : ∃ W0, W0 = wr := ⟨wr, rfl⟩
        have hW0 : w.heap.size ≤ W0.heap.size := HX.out.2.2.1.size
        have hlit := World.ownsRow_lit (base := W0.heap.size) (e := 3) (size := 1) W0 #[.int .i64 s0] 1 (Nat.le_refl _) (by unfold maxLen; omega) rfl
        have HL := Lib.hid (And.intro hlit ((Below.refl W0.heap.size W0).alloc (Nat.le_refl _) (.cells #[.int .i64 s0] 3)))
        clear hlit
        go_loopw [9, 10] (fun v i wr => ∃ (j : Nat) (pre : List Nat) (x : Nat), i = .int .i64 ((j : Int) - 1) ∧ j < m.length ∧ pre.length + j + 1 = m.length ∧ wr.ownsRow W0.heap.size 3 1 v (pre.length + 1) (nums (pre ++ [x])) ∧ Rl.ringL k f = pre ++ x :: Rl.wayGo f m j x ∧ Rl.Dist f s0 (j + 1) x ∧ Below W0.heap.size W0 wr) (fun _ i _ => (intOf i + 1).toNat)
        case atStart => exact ⟨m.length - 1, [], s0, by rw [show (((m.length - 1 : Nat) : Int) - 1) = (m.length : Int) - 2 by omega], by omega, by simp; omega, HL.out.1, HX.out.1, by rw [show m.length - 1 + 1 = m.length by omega]; exact HX.out.2.2.2.2.1, HL.out.2⟩
        case round =>
          obtain ⟨j, pre, x, rfl, hj, hlen, hrow, hring, hd, hb⟩ := hrel
          cases j with
          | zero =>
            rw [show (((0 : Nat) : Int) - 1) = -1 from rfl]
            have hfin : Rl.ringL k f = pre ++ [x] := hring
            have hrow2 := owns_base hrow hW0
            rw [show pre.length + 1 = (pre ++ [x]).length by simp] at hrow2
            have HF := Lib.hid (And.intro hfin (And.intro hrow2 (HX.out.2.2.1.trans (hb.mono hW0))))
            clear hfin hrow2 hb hring hrow hd
            go_wp2_with fail
            go_ret
            exact ⟨_, rfl, by rw [HF.out.1]; exact HF.out.2.1, HF.out.2.2⟩
          | succ q =>
            rw [show (((q + 1 : Nat) : Int) - 1) = (q : Int) by omega]
            have hws := Rl.way_step H.out.2.2.2 HX.out.2.2.2.2.2 (k := q) (by omega) hd
            have hxk : x < k := (hd.1.path.lt H.out.2.2.2).1
            obtain ⟨s, hs⟩ : ∃ s, m[q]? = some s := ⟨_, List.getElem?_eq_getElem (by omega)⟩
            have hwg : Rl.wayGo f m (q + 1) x = Bs.low (f x &&& s) :: Rl.wayGo f m q (Bs.low (f x &&& s)) := by
              show (let y := Bs.low (f x &&& (m[q]?.getD 0#64)); y :: Rl.wayGo f m q y) = _
              rw [hs]; rfl
            rw [hs] at hws
            change Rl.bit f x (Bs.low (f x &&& s)) = true ∧ Rl.Dist f s0 (q + 1) (Bs.low (f x &&& s)) at hws
            have hnz : f x &&& s ≠ 0#64 := by
              intro e0
              obtain ⟨⟨y, h1, h2⟩, _⟩ := (Rl.dist_succ (by omega)).1 hd
              have hy := (H.out.2.2.2.in_ x y h1).2
              have h3 := (HX.out.2.2.2.2.2 q s hs y hy).2 h2
              have h4 : (f x &&& s).getLsbD y = true := by rw [BitVec.getLsbD_and, Bool.and_eq_true]; exact ⟨h1, h3⟩
              rw [e0, Bv.zero_get] at h4; cases h4
            have hfs := some_ne hnz
            rw [hwg] at hring
            obtain ⟨y, hy⟩ : ∃ y, y = Bs.low (f x &&& s) := ⟨_, rfl⟩
            rw [← hy] at hws hring hfs
            obtain ⟨g, cap, hv, hg1, hg2⟩ := hrow.form (by omega)
            subst hv
            have hrel := HX.out.2.2.2.1.below hb HX.out.2.2.2.1.lt
            have hbest := owns_below HX.out.2.1 hb (Nat.le_refl _)
            have cR := fun d os => (rel_grow hrel d os).row x (by omega)
            have cV := fun d os => (owns_below hrow (below_regrown wr d os) (Nat.le_refl _)).cellAt pre.length (by omega)
            have cM := fun d os => (owns_below hbest (below_regrown wr d os) (Nat.le_refl _)).cellAt q (by omega)
            have e1 : (nums (pre ++ [x]))[pre.length]? = some (.int .i64 (x : Int)) := by simp [nums]
            have e2 : (setV m)[q]? = some (.int .u64 (Bv.U s)) := by simp [setV, hs]
            rw [e1] at cV
            rw [e2] at cM
            have hbw := HX.out.2.2.1.trans (hb.mono hW0)
            obtain ⟨P, hP⟩ : ∃ P, P = pre.length := ⟨_, rfl⟩
            rw [← hP] at cV hlen hrow ⊢
            obtain ⟨N, hN⟩ : ∃ N, N = P + 1 := ⟨_, rfl⟩
            rw [← hN] at hrow ⊢
            have q0 : (0 : Int) ≤ (x : Int) := by omega
            have q1 : (x : Int) < 48 := by omega
            have q2 : (0 : Int) ≤ (P : Int) := by omega
            have q3 : (P : Int) < (N : Int) := by omega
            have q4 : (0 : Int) ≤ (q : Int) := by omega
            have q5 : (q : Int) < (m.length : Int) := by omega
            have q6 : IntKind.i64.wrap ((N : Int) - 1) = (P : Int) := by rw [IntWalk.i64_in _ (by omega)]; omega
            have HF := Lib.hid (And.intro hrow (And.intro hws (And.intro hring (And.intro hb (And.intro hfs (And.intro (And.intro (HT.out _ hbw).1 (HT.out _ hbw).2) (And.intro hP hN)))))))
            clear hrow hws hring hb hfs hbw hnz hwg hs hy hrel hbest hd e1 e2 hP
            go_wp2_with fail
            refine wp_region_quiet_below (by kernel_rfl) (by kernel_rfl) ?_
            repeat (first | go_big_quiet_step (first | (go_at_call 75; with_reducible exact Calls.regrown_of (first_is (f x &&& s) y true HF.out.2.2.2.2.1.1 HF.out.2.2.2.2.1.2 _ (tab_grow HF.out.2.2.2.2.2.1.1 HF.out.2.2.2.2.2.1.2 _ _).1 (tab_grow HF.out.2.2.2.2.2.1.1 HF.out.2.2.2.2.2.1.2 _ _).2)) | fail) | quiet_step (first | (go_at_call 75; with_reducible exact Calls.regrown_of (first_is (f x &&& s) y true HF.out.2.2.2.2.1.1 HF.out.2.2.2.2.1.2 _ (tab_grow HF.out.2.2.2.2.2.1.1 HF.out.2.2.2.2.2.1.2 _ _).1 (tab_grow HF.out.2.2.2.2.2.1.1 HF.out.2.2.2.2.2.1.2 _ _).2)) | fail))
            refine wpQuiet_nil ?_
            intro W1 hw1
            have hb1 : Below wr.heap.size wr W1 := by obtain ⟨⟨d, os⟩, rfl⟩ := hw1; exact below_regrown _ _ _
            have hW1 : W0.heap.size ≤ W1.heap.size := Nat.le_trans HF.out.2.2.2.1.size hb1.size
            have hrow1 := owns_below HF.out.1 hb1 (Nat.le_refl _)
            rw [HF.out.2.2.2.2.2.2.2] at hrow1
            have H1x := Lib.hid (And.intro hrow1 (HF.out.2.2.2.1.trans (hb1.mono HF.out.2.2.2.1.size)))
            clear hw1 hb1 hrow1 cR cV cM
            go_wp2_with (at_builtin; refine wpList_append_own _ rfl _ _ 35 rfl W0.heap.size 3 i0 (.int .i64 0) 1 8 Tryd.underlying35 hi hz0 hz1 hz2 rfl (by decide) _ _ _ rfl (H1x.out.1.alloc _) ⟨W1.heap.size, 0, none⟩ 1 1 [.int .i64 y] rfl rfl (cell_one_new _ _ _) (by simp [Value.oneCell']) (by unfold maxLen; omega) (by omega) (by simp; omega) ?_; intro v' w7 hown' hgrow hnil')
            go_roundw
            case rel =>
              have hbn : Below W0.heap.size W0 w7 := (H1x.out.2.alloc hW1 _).grown hgrow (by simp; omega) (fun z e => (H1x.out.1.lt z e).1)
              have hP := HF.out.2.2.2.2.2.2.1
              refine ⟨q, pre ++ [x], y, rfl, by omega, by simp; omega, ?_, by rw [HF.out.2.2.1]; simp, HF.out.2.1.2, hbn⟩
              rw [show (pre ++ [x]).length = P + 1 by simp; omega, nums_snoc (pre ++ [x]) y]
              exact hown'
            case measure => simp [intOf]
theorem ring_any (n : Int) (f : Rl.Rows) (w : World) (zf : Rl.Z f) (hT : Tab w) (hw : 0 < w.heap.size) :
    Calls Tryd.prog 23 #[.agg (relC n f)] w (RingOut (ringR n f) w) := by
  unfold ringR
  cases h : Rl.rightB n f
  · rw [if_neg (by simp)]; exact ring_no n f w h
  · obtain ⟨m, rfl, hm⟩ := Rl.right_nat zf h
    rw [if_pos rfl, Int.toNat_natCast]; exact ring_yes m f w hm hT hw
end Go.Proofs.YtknjdfgmejobfaaDoor
