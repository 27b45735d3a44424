/- package order: valid; slices.Clone of a list of items; single operations inside a round. -/
import Derived.Test.YtknjdfgmejobfaaDoorSc
namespace Go.Proofs.YtknjdfgmejobfaaDoor
open Go.RowKit Go.Shelf

attribute [local go_sem] Bv.and_u Bv.or_u Bv.andNot_u Bv.wrap_sub1 Bv.eq0 Bv.ne0 Bv.wrap_pow Bv.wrap_powmin Bv.wrap_neg Bv.eq_u Bv.ne_u

theorem run_nilI_eql (A : Option Addr) (n c : Nat) (w : World) : (binOp .eql 35 (.slice A n c) (.slice none 0 0)).run Tryd.prog w = .ok (.bool A.isNone) w := by
  simp only [binOp]
  simp [Op.equal, Op.maxDepth, Lib.run_equalIn_slice_nil w 9999 35 3 A n c 0 0 Tryd.underlying35]
theorem wpList_nilI {ops : Array Oper} {rest : List Oper} {op : Oper} {a : Act} {w : World} {Q : Exit → Act → World → Prop} (hw : Region.wanted op (yielded ops a.tmps) = true) (x : Operand) (ho : op.op = .binOp .eql 35 x (.const (.slice none 0 0)) 35)
    (A : Option Addr) (n c : Nat) (b : Bool) (hx : a.eval x = .slice A n c) (hA : A.isNone = b)
    (h : wpList Tryd.prog ops Q rest (a.put op.dst (.bool b)) w) : wpList Tryd.prog ops Q (op :: rest) a w :=
  BigFrame.wpList_want hw fun K hK => by
    unfold Oper.wp execOp
    subst hA
    simp only [ho, hx, BigFrame.eval_const, Sem.run_bind, Sem.run_pure, run_nilI_eql]
    exact hK _ _ h
def CloneOut (x : List Nat) (w : World) (e : Ending) (w' : World) : Prop :=
  ∃ g c, e = .returned (.slice (some ⟨g, 0, none⟩) x.length c) ∧ w'.ownsRow w.heap.size 3 1 (.slice (some ⟨g, 0, none⟩) x.length c) x.length (nums x) ∧ Below w.heap.size w w'
set_option maxRecDepth 100000 in
set_option maxHeartbeats 1000000 in
/-- a copy of a list that is not nil: it is not nil, and lies in new memory -/
theorem clone_is (x : List Nat) (v : Value) (w : World) (hv : ListV x v w) (hx : x.length ≤ 1000) :
    Calls Tryd.prog 92 #[v] w (CloneOut x w) := by
  obtain ⟨i0, hi, hz0, hz1, hz2⟩ := info_parts infoInt
  obtain ⟨g, c, rfl, hA⟩ := hv
  have hlit := World.ownsRow_lit (base := w.heap.size) (e := 3) (size := 1) w #[] 0 (Nat.le_refl _) (by unfold maxLen; omega) rfl
  have hcell : ∀ j u, (nums x)[j]? = some u → (w.alloc (.cells #[] 3)).cell? ((⟨g, 0, none⟩ : Addr).add j) = some u := fun j u hu => by
    have hj : j < x.length := by have := (List.getElem?_eq_some_iff.1 hu).1; simpa [nums] using this
    obtain ⟨b, off, e1, hlt, hc⟩ := hA (by rw [ints_len]; omega)
    injection e1 with e1; injection e1 with e1 e2
    subst e1 e2
    have h1 := hc j (by rw [ints_len]; exact hj)
    rw [show (⟨g, 0, none⟩ : Addr).add j = ⟨g, 0 + j, none⟩ from Go.WideShapes.add_plain .., World.cell?_alloc_old _ _ _ (show (⟨g, 0 + j, none⟩ : Addr).block ≠ w.heap.size from Nat.ne_of_lt hlt), h1]
    have h2 : x[j]? = some x[j] := List.getElem?_eq_getElem hj
    have h3 : (nums x)[j]? = some (.int .i64 (x[j] : Int)) := by unfold nums; rw [List.getElem?_map, h2]; rfl
    rw [h3] at hu
    injection hu with hu
    rw [← hu]
    congr 2
    unfold ints; rw [List.getD_eq_getElem?_getD, List.getElem?_map, h2]; rfl
  have H := Lib.hid (And.intro hlit hcell)
  clear hlit hcell hA
  go_enter Tryd.func92, Tryd.ntmps92
  go_wp2_with (first | (refine wpList_nilI (by rfl) (.tmp 3) (by rfl) (some ⟨g, 0, none⟩) x.length c false (by rfl) (by rfl) ?_) | (at_builtin; refine wpList_append_own _ rfl _ _ 35 rfl w.heap.size 3 i0 (.int .i64 0) 1 8 Tryd.underlying35 hi hz0 hz1 hz2 rfl (by decide) _ 0 [] rfl H.out.1 ⟨g, 0, none⟩ x.length c (nums x) rfl (by simp [nums]) H.out.2 (by intro u hu; simp [nums] at hu; obtain ⟨k, _, rfl⟩ := hu; rfl) (by unfold maxLen; omega) (by omega) (by simp) ?_; intro v' w7 hown' hgrow hnil'))
  have hne : v' ≠ .slice none 0 0 := fun h => by
    have := (hnil'.1 h).1; cases this
  rw [Nat.zero_add, List.nil_append] at hown'
  obtain ⟨A', c', e1, _, _, hA'⟩ := row_nums hown'
  have hb := ((Below.refl w.heap.size w).alloc (Nat.le_refl _) (.cells #[] 3)).grown hgrow (by simp) (fun k e => (H.out.1.lt k e).1)
  have hform : ∃ g' c', v' = .slice (some ⟨g', 0, none⟩) x.length c' ∧ w.heap.size ≤ g' ∧ g' < w7.heap.size := by
    rcases hown'.2 with ⟨h0, _⟩ | ⟨g', cap', cur, hv', hbg, hg', _⟩
    · exact absurd h0 hne
    · exact ⟨g', cap', hv', hbg, (Array.getElem?_eq_some_iff.1 hg').1⟩
  obtain ⟨g', c2, e2, h1, h2⟩ := hform
  subst e2
  have HF := Lib.hid (And.intro hown' hb)
  clear hown' hgrow hnil' hne hA' hb e1
  go_wp2_with fail
  go_ret
  exact ⟨g', c2, rfl, HF.out.1, HF.out.2⟩
set_option maxRecDepth 100000 in
set_option maxHeartbeats 1000000 in
theorem valid_is (pb : Nat) (n : Int) (f : Rl.Rows) (most : Int) (b : Bool) (hb : (decide (0 ≤ most ∧ most ≤ 10000) && Rl.rightB n f) = b) (w : World) (hR : RelAt w pb n f) :
    Calls Tryd.prog 90 #[.pointer (some ⟨pb, 0, none⟩), .int .i64 most] w fun e w' => e = .returned (.bool b) ∧ Below w.heap.size w w' := by
  obtain ⟨rb, hrb⟩ : ∃ x, Rl.rightB n f = x := ⟨_, rfl⟩
  rw [hrb] at hb
  have H := Lib.hid (And.intro hR (And.intro hrb hb))
  clear hR hrb hb
  by_cases h0 : 0 ≤ most
  · have d0 : decide (0 ≤ most) = true := decide_eq_true h0
    by_cases h1 : most ≤ 10000
    · have d1 : decide (most ≤ 10000) = true := decide_eq_true h1
      have hbb : rb = b := by have := H.out.2.2; rw [decide_eq_true ⟨h0, h1⟩, Bool.true_and] at this; exact this
      go_enter Tryd.func90, Tryd.ntmps90
      go_wp2_with (refine wpList_load_rel_want (by rfl) (.tmp 13) (by rfl) pb n f (by rfl) H.out.1 ?_)
      with_reducible refine (right_is n f rb H.out.2.1 _).mono ?_
      rintro e w1 ⟨rfl, hb⟩
      have HB := Lib.hid (And.intro hb hbb)
      clear hb hbb
      go_wp2_with fail
      go_ret
      exact ⟨by rw [HB.out.2]; rfl, HB.out.1⟩
    · have d1 : decide (most ≤ 10000) = false := decide_eq_false h1
      have hbb : b = false := by have := H.out.2.2; rw [decide_eq_false (by omega)] at this; exact this.symm
      have HB := Lib.hid hbb
      clear hbb
      go_enter Tryd.func90, Tryd.ntmps90
      go_wp2_with fail
      go_ret
      exact ⟨by rw [HB.out]; rfl, Below.refl _ _⟩
  · have d0 : decide (0 ≤ most) = false := decide_eq_false h0
    have hbb : b = false := by have := H.out.2.2; rw [decide_eq_false (by omega)] at this; exact this.symm
    have HB := Lib.hid hbb
    clear hbb
    go_enter Tryd.func90, Tryd.ntmps90
    go_wp2_with fail
    go_ret
    exact ⟨by rw [HB.out]; rfl, Below.refl _ _⟩

/-! ### single operations, in a round or not -/
theorem opIn_call {F : Fence} (hF : ∀ f, F.fn f) (hd : F.depth = none) {n : Nat} {P : Program} {w : World} {o : Oper} {a : Act} {K : Act → World → Prop} {Q : Exit → Act → World → Prop} (f : FuncId) (args : Array Value) (hnd : ∀ c, o.op ≠ .defer c)
    (hv : (execOp a.eval o).run P w = .ok (.enter f args) w) (h : CallsIn F (n - 1) P f args w fun e w' => ∃ v, e = .returned v ∧ K (a.put o.dst v) w') : Oper.wpIn F n P o a w K Q := by
  unfold Oper.wpIn
  refine ⟨fun _ _ => hF _, ?_⟩
  rw [Oper.semAt_plain F _ _ hnd, hv, Oper.uponIn_enter]
  exact ⟨fun h => (by rw [hd] at h; cases h), h.mono fun e w' ⟨v, he, hk⟩ => by subst he; exact hk⟩
theorem opIn_value {F : Fence} (hF : ∀ f, F.fn f) {n : Nat} {P : Program} {w : World} {o : Oper} {a : Act} {K : Act → World → Prop} {Q : Exit → Act → World → Prop} (v : Value) (w' : World) (hnd : ∀ c, o.op ≠ .defer c)
    (hv : (execOp a.eval o).run P w = .ok (.value v) w') (h : K (a.put o.dst v) w') : Oper.wpIn F n P o a w K Q := by
  unfold Oper.wpIn
  refine ⟨fun _ _ => hF _, ?_⟩
  rw [Oper.semAt_plain F _ _ hnd, hv, Oper.uponIn_value]
  exact h
theorem opIn_append_own {F : Fence} (hF : ∀ f, F.fn f) {n : Nat} {P : Program} (w : World) {o : Oper} {a : Act} {K : Act → World → Prop} {Q : Exit → Act → World → Prop}
    (s x : Operand) (t : TypeId) (hop : o.op = Op.call { callee := Callee.builtin Builtin.append, args := #[s, x], argTypes := #[t, t] })
    (base : Nat) (e : TypeId) (i : TypeInfo) (z : Value) (size bytes : Nat) (h1 : P.underlying t = some (.slice e)) (h2 : P.info? e = some i) (h3 : i.zero = some z) (h4 : i.size = size) (h5 : i.bytes = bytes) (h6 : z.cells.size = size) (h7 : 0 < size)
    (v : Value) (k : Nat) (xs : List Value) (hs : a.eval s = v) (hown : w.ownsRow base e size v k xs) (ad : Addr) (m c : Nat) (news : List Value) (hx : a.eval x = .slice (some ad) m c) (hn : news.length = m * size)
    (hc : ∀ j u, news[j]? = some u → w.cell? (ad.add j) = some u) (h1c : ∀ u ∈ news, u.oneCell' = true) (b1 : k + m ≤ maxLen) (b2 : (k + m) * bytes ≤ 140737488355328) (b3 : base ≤ w.heap.size)
    (hK : ∀ v' w', w'.ownsRow base e size v' (k + m) (xs ++ news) → w.grownBy w' v.ownBlock → (v' = .slice none 0 0 ↔ v = .slice none 0 0 ∧ m = 0) → K (a.put o.dst v') w') :
    Oper.wpIn F n P o a w K Q := by
  obtain ⟨v', w', hrun, r1, r2, r3⟩ := run_append_own (P := P) w base t o.type e i z size bytes h1 h2 h3 h4 h5 h6 h7 v k xs hown ad m c news hn hc h1c b1 b2 b3
  unfold Oper.wpIn
  refine ⟨fun _ _ => hF _, ?_⟩
  rw [Oper.semAt_plain F _ _ (by rw [hop]; intro c hc'; cases hc')]
  simp [execOp, hop, resolve, invoke, builtin, hs, hx, hrun, Result.andThen]
  exact hK v' w' r1 r2 r3
end Go.Proofs.YtknjdfgmejobfaaDoor
