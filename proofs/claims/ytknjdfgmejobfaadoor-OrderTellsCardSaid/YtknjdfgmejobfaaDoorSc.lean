/- package order: all and the iterator that it hands back. -/
import Derived.Test.YtknjdfgmejobfaaDoorSb
namespace Go.Rl
/-- all orders that respect f, as the iterator hands them -/
def ordL (n : Nat) (f : Rows) : List (List Nat) := if (topL n f).isSome then ext (backF n f) 64 (below (n : Int)) [] else []
end Go.Rl
namespace Go.Proofs.YtknjdfgmejobfaaDoor
open Go.RowKit Go.Shelf

attribute [local go_sem] Oper.semAt_some
attribute [local go_sem] Bv.and_u Bv.or_u Bv.andNot_u Bv.wrap_sub1 Bv.eq0 Bv.ne0 Bv.wrap_pow Bv.wrap_powmin Bv.wrap_neg Bv.eq_u Bv.ne_u

/-- where no depth is asked the figures are all one -/
theorem room_none (k : Nat) : Fence.wide.room k := fun d h => by cases h
theorem yield_any {m : Nat} (m' : Nat) {P : Program} {l : Nat} {args : Array Value} {W : World} {R : Ending → World → Prop} (h : YieldAt Fence.wide m P l args W R) : YieldAt Fence.wide m' P l args W R := by
  obtain ⟨fn, tmps, assign, body, hy, hR⟩ := h
  exact ⟨fn, tmps, assign, body, hy, hR.1, fun c cs _ => hR.2 c cs (room_none _)⟩
theorem wpIn_op_make {n : Nat} {P : Program} (w : World) {o : Oper} {a : Act} {K : Act → World → Prop} {Q : Exit → Act → World → Prop} (l c : Operand) (t : TypeId) (hop : o.op = Op.makeSlice t l c)
    (base : Nat) (e : TypeId) (i : TypeInfo) (z : Value) (size : Nat) (h1 : P.underlying t = some (.slice e)) (h2 : P.info? e = some i) (h3 : i.zero = some z) (h4 : i.size = size)
    (kl kc : IntKind) (m : Nat) (hl : a.eval l = .int kl 0) (hc : a.eval c = .int kc (m : Int)) (b2 : i.bytes * m ≤ 281474976710656) (b3 : m ≤ maxLen) (b4 : base ≤ w.heap.size)
    (hK : ∀ w', w'.ownsRow base e size (.slice (some ⟨w.heap.size, 0, none⟩) 0 m) 0 [] → w.grownBy w' none → K (a.put o.dst (.slice (some ⟨w.heap.size, 0, none⟩) 0 m)) w') : Oper.wpIn Fence.wide n P o a w K Q := by
  obtain ⟨w', hrun, r1, r2⟩ := run_make_own (P := P) w base t e i z size h1 h2 h3 h4 kl kc m b2 b3 b4
  unfold Oper.wpIn
  refine ⟨fun _ _ => trivial, ?_⟩
  rw [Oper.semAt_plain Fence.wide _ _ (by rw [hop]; intro c hc'; cases hc')]
  simp [execOp, hop, hl, hc, hrun, Result.andThen]
  exact hK w' r1 r2
theorem all_fn (n : Int) (f : Rl.Rows) (w : World) :
    Calls Tryd.prog 91 #[.agg (relC n f)] w fun e w' => e = .returned (.func (.func 100) #[] #[.pointer (some ⟨w.heap.size, 0, none⟩)]) ∧ w' = w.alloc (.cells (relC n f) 26) := by
  go_enter Tryd.func91, Tryd.ntmps91
  go_wp2
  go_ret
  exact ⟨rfl, rfl⟩
theorem wpListIn_load_rel {m : Nat} {ops : Array Oper} {rest : List Oper} {op : Oper} {a : Act} {w : World} {Q : Exit → Act → World → Prop} (hgd : op.guard = none) (x : Operand) (ho : op.op = .load 26 x)
    (b : Nat) (n : Int) (f : Rl.Rows) (hx : a.eval x = .pointer (some ⟨b, 0, none⟩)) (hR : RelAt w b n f)
    (h : wpListIn Fence.wide m Tryd.prog ops Q rest (a.put op.dst (.agg (relC n f))) w) : wpListIn Fence.wide m Tryd.prog ops Q (op :: rest) a w := by
  refine wpListIn_plain hgd fun K hK' => ?_
  unfold Oper.wpIn
  refine ⟨fun _ _ => trivial, ?_⟩
  rw [Oper.semAt_plain Fence.wide _ _ (by rw [ho]; intro c hc'; cases hc')]
  unfold execOp
  simp only [ho, hx, Instr.loadAt, Instr.sureAddr, Sem.run_bind, Sem.run_pure, Result.andThen_ok, run_loadVar_row (P := Tryd.prog) _ b 26 26 (relC n f) (0, 0) _ hR uRel rfl (sRelC n f)]
  exact hK' _ _ h
theorem wpListIn_store_rel {m' : Nat} {ops : Array Oper} {rest : List Oper} {op : Oper} {a : Act} {w : World} {Q : Exit → Act → World → Prop} (hgd : op.guard = none) (x y : Operand) (ho : op.op = .store 26 x y)
    (b : Nat) (m n : Int) (g f : Rl.Rows) (hx : a.eval x = .pointer (some ⟨b, 0, none⟩)) (hy : a.eval y = .agg (relC m g)) (hR : RelAt w b n f)
    (h : ∀ w', RelAt w' b m g → w.grownBy w' (some b) → wpListIn Fence.wide m' Tryd.prog ops Q rest (a.put op.dst undef) w') : wpListIn Fence.wide m' Tryd.prog ops Q (op :: rest) a w := by
  refine wpListIn_plain hgd fun K hK' => ?_
  have hrun := run_storeVar_row (P := Tryd.prog) w b 26 26 (relC n f) (relC m g) hR (sRelC m g) (by rw [relC_size, relC_size]) (relC_one m g)
  have h1 : RelAt (w.setRow b (relC m g)) b m g := setRow_heap w b (relC n f) _ 26 (0, 0) hR
  have h2 : w.grownBy (w.setRow b (relC m g)) (some b) := ⟨rfl, rfl, rfl, by simp, fun k _ hk => setRow_other w b k _ (fun e => hk (by rw [e]))⟩
  have h3 := h _ h1 h2
  unfold Oper.wpIn
  refine ⟨fun _ _ => trivial, ?_⟩
  rw [Oper.semAt_plain Fence.wide _ _ (by rw [ho]; intro c hc'; cases hc')]
  unfold execOp
  simp only [ho, hx, hy, Instr.storeAt, Instr.sureAddr, Sem.run_bind, Sem.run_pure, Result.andThen_ok, hrun]
  exact hK' _ _ h3
set_option maxRecDepth 100000 in
set_option maxHeartbeats 1000000 in
theorem all1_no (n : Nat) (f : Rl.Rows) (hf : Rl.Ok n f) (hno : (Rl.topL n f).isSome = false) (pb : Nat) (w0 : World) (hR : RelAt w0 pb n f) (m : Nat) :
    Rg.Gives Fence.wide m Tryd.prog 100 #[.pointer (some ⟨pb, 0, none⟩)] ListV (Rl.ordL n f) (fun W => Tab W ∧ 0 < W.heap.size) w0 := by
  intro lp J Jx fp W hW hfp hT hJ hY h0
  have hx : Rl.ordL n f = [] := by unfold Rl.ordL; rw [hno]; rfl
  rw [hx]
  have he : (topR n f).isSome = false := by unfold topR; rw [Rl.right_of hf, if_pos rfl, Int.toNat_natCast]; exact hno
  have H := Lib.hid (And.intro (hR.below hW hR.lt) (And.intro (hT _ _ _ h0) (And.intro h0 (And.intro hJ (And.intro he hf.z)))))
  clear hR hT h0 hJ hY he hf hno hx
  refine callsIn_of_wp Tryd.func100 rfl trivial ?_ rfl
  simp only [Tryd.ntmps100, List.size_toArray, List.length_cons, List.length_nil, Nat.reduceAdd, Nat.reduceSub, Array.replicate_succ, Array.replicate_zero, List.push_toArray, List.append_toArray, List.nil_append, List.cons_append]
  gi_wp2_with (refine wpListIn_load_rel (by rfl) (.tmp 1) (by rfl) pb n f (by rfl) H.out.1 ?_)
  first | refine ⟨trivial, fun h => (by cases h), ?_⟩ | refine ⟨trivial, ?_⟩
  refine (callsIn_wide.2 (acyclic_is n f false H.out.2.2.2.2.1 W H.out.2.2.2.2.2 H.out.2.1.1 H.out.2.1.2)).mono ?_
  rintro e w1 ⟨rfl, hb⟩
  have H1 := Lib.hid (H.out.2.2.2.1 _ _ _ _ H.out.2.2.1 (.of_below hb))
  clear hb
  gi_wp2_with fail
  refine bodyPost_ret (results_none rfl _ _ _) rfl ?_
  exact ⟨⟨_, rfl⟩, .inl ⟨fp, H1.out⟩⟩

set_option maxRecDepth 100000 in
set_option maxHeartbeats 4000000 in
theorem all1_yes (n : Nat) (f : Rl.Rows) (hf : Rl.Ok n f) (hac : (Rl.topL n f).isSome = true) (pb : Nat) (w0 : World) (hR : RelAt w0 pb n f) (m : Nat) :
    Rg.Gives Fence.wide m Tryd.prog 100 #[.pointer (some ⟨pb, 0, none⟩)] ListV (Rl.ordL n f) (fun W => Tab W ∧ 0 < W.heap.size) w0 := by
  obtain ⟨i0, hi, hz0, hz1, hz2⟩ := info_parts infoInt
  have hzr := zero_rel
  have hne0 : ¬ relC 0 zeroR = #[] := by intro h; have := congrArg Array.size h; rw [relC_size] at this; simp at this
  intro lp J Jx fp W hW hfp hT hJ hY h0
  have hx : Rl.ordL n f = Rl.ext (Rl.backF n f) 64 (Rl.below (n : Int)) [] := by unfold Rl.ordL; rw [hac]; rfl
  obtain ⟨xs, hxs⟩ : ∃ xs, xs = Rl.ordL n f := ⟨_, rfl⟩
  rw [← hxs] at hY hx ⊢
  have he : (topR n f).isSome = true := by unfold topR; rw [Rl.right_of hf, if_pos rfl, Int.toNat_natCast]; exact hac
  have hn := hf.le
  have hY2 : Yields lp W.heap.size xs J Jx := fun m' pre fp' x v W1 h1 h2 h3 h4 => yield_any m' (hY pre fp' x v W1 h1 h2 h3 h4)
  -- the recursion, from wherever the region has laid its slice
  have hfin : ∀ (m' : Nat) (bb : Nat) (fp' : List Nat) (Wx : World) (g : Nat), W.heap.size ≤ bb → bb ≠ g → bb ∉ fp' → g ∉ fp' → W.heap.size ≤ Wx.heap.size → RelAt Wx bb n (Rl.backF n f) → Wx.ownsRow W.heap.size 3 1 (.slice (some ⟨g, 0, none⟩) 0 n) 0 [] → J [] fp' Wx →
      CallsIn Fence.wide m' Tryd.prog 101 #[.pointer (some ⟨bb, 0, none⟩), .int .u64 (Bv.U (Rl.below (n : Int))), .slice (some ⟨g, 0, none⟩) 0 n, .func (.yield lp) #[] #[]] Wx fun e W' =>
        ∃ b, e = .returned (.bool b) ∧ ((∃ fp', J xs fp' W') ∨ (∃ q, q <+: xs ∧ Jx q W')) := fun m' bb fp' Wx g h1 h2 h3 h4 h5 h6 h7 h8 => by
    have hcard : Bx.card (Rl.below (n : Int)) ≤ n := by
      have hle : (Bs.elems (Rl.below (n : Int))).length ≤ (List.range n).length := List.Nodup.length_le_of_subset (Bs.elems_sorted _ |>.imp (fun h => Nat.ne_of_lt h)) fun x hx => by
        have := Bs.mem_elems.1 hx
        rw [Rl.below_getN _ _ (Bx.lt64 this)] at this
        exact List.mem_range.2 (of_decide_eq_true this)
      simpa [Bx.card] using hle
    refine (extend_in lp W.heap.size xs n (Rl.backF n f) bb g n J Jx hT hJ hY2 h1 64 (Rl.below (n : Int)) [] m' [] fp' Wx (Bx.card_le _) (by simpa using hcard) (fun i hi => by
      rw [Rl.below_getN _ _ (Bx.lt64 hi)] at hi; have := of_decide_eq_true hi; omega) (by rw [hx]; exact List.prefix_refl _) h8 ⟨h2, h3, h4, h5, h6, h7⟩).mono ?_
    rintro e W' ⟨b, he, hb1, hb2⟩
    refine ⟨b, he, ?_⟩
    cases b with
    | true => obtain ⟨fq, hj, _⟩ := hb1 rfl; exact .inl ⟨fq, by rw [hx]; exact hj⟩
    | false => exact .inr (hb2 rfl)
  have H := Lib.hid (And.intro (hR.below hW hR.lt) (And.intro (hT _ _ _ h0) (And.intro h0 (And.intro hJ (And.intro he (And.intro hf (And.intro hT (And.intro hfin hfp))))))))
  clear hR hT h0 hJ hY hY2 he hf hac hx hfin hxs hfp
  refine callsIn_of_wp Tryd.func100 rfl trivial ?_ rfl
  simp only [Tryd.ntmps100, List.size_toArray, List.length_cons, List.length_nil, Nat.reduceAdd, Nat.reduceSub, Array.replicate_succ, Array.replicate_zero, List.push_toArray, List.append_toArray, List.nil_append, List.cons_append]
  gi_wp2_with (refine wpListIn_load_rel (by rfl) (.tmp 1) (by rfl) pb n f (by rfl) H.out.1 ?_)
  first | refine ⟨trivial, fun h => (by cases h), ?_⟩ | refine ⟨trivial, ?_⟩
  refine (callsIn_wide.2 (acyclic_is n f true H.out.2.2.2.2.1 W H.out.2.2.2.2.2.1.z H.out.2.1.1 H.out.2.1.2)).mono ?_
  rintro e w1 ⟨rfl, hb⟩
  have hj1 := H.out.2.2.2.1 _ _ _ _ H.out.2.2.1 (.of_below hb)
  have H1 := Lib.hid (And.intro hj1 (And.intro (H.out.1.below hb H.out.1.lt) (And.intro (H.out.2.2.2.2.2.2.1 _ _ _ hj1) hb)))
  clear hb hj1
  gi_wp2_with (refine wpListIn_load_rel (by rfl) (.tmp 1) (by rfl) pb n f (by rfl) H1.out.2.1 ?_)
  first | refine ⟨trivial, fun h => (by cases h), ?_⟩ | refine ⟨trivial, ?_⟩
  refine (callsIn_wide.2 (back_yes n f w1 H.out.2.2.2.2.2.1 H1.out.2.2.1.1 H1.out.2.2.1.2)).mono ?_
  rintro e w2 ⟨rfl, hb⟩
  have hj2 := H.out.2.2.2.1 _ _ _ _ H1.out.1 (.of_below hb)
  have H2 := Lib.hid (And.intro hj2 (And.intro (H1.out.2.1.below hb H1.out.2.1.lt) (H1.out.2.2.2.trans (hb.mono H1.out.2.2.2.size))))
  clear hb hj2
  gi_wp2_with (refine wpListIn_store_rel (by rfl) (.tmp 3) (.tmp 8) (by rfl) w2.heap.size n 0 (Rl.backF n f) zeroR (by rfl) (by rfl) (RelAt.new w2 0 zeroR) ?_; intro w3 hR3 hg3)
  have hb3 : Below w2.heap.size w2 w3 := below_push hg3
  have hj3 := H.out.2.2.2.1 _ _ _ _ H2.out.1 (.of_below hb3)
  have hlt2 := H2.out.2.2.size
  have hfp3 : ∀ b ∈ fp, b < w2.heap.size := fun b hb => Nat.lt_of_lt_of_le (H.out.2.2.2.2.2.2.2.2 b hb) hlt2
  have hR1 := H2.out.2.1.below hb3 H2.out.2.1.lt
  have H3 := Lib.hid (And.intro hj3 (And.intro hR3 (And.intro hR1 (And.intro (H2.out.2.2.trans (hb3.mono hlt2)) hfp3))))
  have cn := hR1.num
  have hlt3 : W.heap.size ≤ w3.heap.size := Nat.le_trans hlt2 hb3.size
  have hsz3 : w2.heap.size < w3.heap.size := hR3.lt
  have hpn : ((n : Nat) : Int) = (n : Int) := rfl
  clear hb3 hj3 hR3 hg3 hfp3 hR1
  gi_wp2_with fail
  refine wpIn_region_any (by kernel_rfl) ?_
  change wpAnyIn _ _ _ _ _ _ _ _ _ (World.drew _)
  refine wpAnyIn_take (i := 0) (v := ?_) rfl (by simp only [List.getElem?_toArray, List.getElem?_cons_succ, List.getElem?_cons_zero]; rfl) (by kernel_rfl) (by kernel_rfl) (by kernel_rfl) (by exact fun _ _ _ h => h) ⟨Or.inl ⟨by rfl, ?_⟩, by exact fun _ => rfl⟩ ?_
  rotate_left
  · intro w; go_simp; try (with_reducible rfl)
  try simp only [Act.put, List.setIfInBounds_toArray, List.set_cons_zero, List.set_cons_succ]
  refine wpAnyIn_take (i := 3) (v := ?_) rfl (by simp only [List.getElem?_toArray, List.getElem?_cons_succ, List.getElem?_cons_zero]; rfl) (by kernel_rfl) (by kernel_rfl) (by kernel_rfl) (by exact fun _ _ _ h => h) ⟨Or.inl ⟨by rfl, ?_⟩, by exact fun _ => rfl⟩ ?_
  rotate_left
  · intro w; go_simp; try (with_reducible rfl)
  try simp only [Act.put, List.setIfInBounds_toArray, List.set_cons_zero, List.set_cons_succ]
  refine wpAnyIn_take (i := 6) (v := ?_) rfl (by simp only [List.getElem?_toArray, List.getElem?_cons_succ, List.getElem?_cons_zero]; rfl) (by kernel_rfl) (by kernel_rfl) (by kernel_rfl) (by exact fun _ _ _ h => h) ⟨Or.inl ⟨by rfl, ?_⟩, by exact fun _ => rfl⟩ ?_
  rotate_left
  · intro w; go_simp; try (with_reducible rfl)
  try simp only [Act.put, List.setIfInBounds_toArray, List.set_cons_zero, List.set_cons_succ]
  refine wpAnyIn_ready (rs := [1, 4]) (by kernel_rfl) (by simp) ?_
  refine (AllReadyIn.cons (by simp only [List.getElem?_toArray, List.getElem?_cons_succ, List.getElem?_cons_zero]; rfl) (fun K hK => ?_) (AllReadyIn.cons (by simp only [List.getElem?_toArray, List.getElem?_cons_succ, List.getElem?_cons_zero]; rfl) (fun K hK => ?_) AllReadyIn.nil))
  · -- 1
    go_simp
    refine hK _ _ ?_
    clear hK K
    try simp only [Act.put, List.setIfInBounds_toArray, List.set_cons_zero, List.set_cons_succ]
    refine wpAnyIn_ready (rs := [2, 4]) (by kernel_rfl) (by simp) ?_
    refine (AllReadyIn.cons (by simp only [List.getElem?_toArray, List.getElem?_cons_succ, List.getElem?_cons_zero]; rfl) (fun K hK => ?_) (AllReadyIn.cons (by simp only [List.getElem?_toArray, List.getElem?_cons_succ, List.getElem?_cons_zero]; rfl) (fun K hK => ?_) AllReadyIn.nil))
    · -- 2
      rw [if_pos (by rfl)]
      refine wpIn_op_call 81 #[.int .i64 n] (by intro c h; cases h) (by simp [execOp, go_sem]) ?_
      refine (callsIn_wide.2 (all_any (n : Int) _)).mono ?_
      rintro e wa ⟨rfl, hwa⟩
      refine ⟨_, rfl, ?_⟩
      rw [hwa]
      clear hwa
      refine hK _ _ ?_
      clear hK K
      try simp only [Act.put, List.setIfInBounds_toArray, List.set_cons_zero, List.set_cons_succ]
      refine wpAnyIn_ready (rs := [4]) (by kernel_rfl) (by simp) ?_
      refine (AllReadyIn.cons (by simp only [List.getElem?_toArray, List.getElem?_cons_succ, List.getElem?_cons_zero]; rfl) (fun K hK => ?_) AllReadyIn.nil)
      go_simp
      refine hK _ _ ?_
      clear hK K
      try simp only [Act.put, List.setIfInBounds_toArray, List.set_cons_zero, List.set_cons_succ]
      refine wpAnyIn_ready (rs := [5]) (by kernel_rfl) (by simp) ?_
      refine (AllReadyIn.cons (by simp only [List.getElem?_toArray, List.getElem?_cons_succ, List.getElem?_cons_zero]; rfl) (fun K hK => ?_) AllReadyIn.nil)
      rw [if_pos (by rfl)]
      refine wpIn_op_make _ (.const (.int .i64 0)) (.tmp 13) 35 rfl W.heap.size 3 i0 (.int .i64 0) 1 Tryd.underlying35 hi hz0 hz1 .i64 .i64 n rfl rfl (by rw [hz2]; omega) (by unfold maxLen; omega) hlt3 ?_
      intro w4 hown hgrow
      have hb4 : Below w3.heap.size w3 w4 := (show Below w3.heap.size w3 w3.drew from ⟨rfl, rfl, rfl, Nat.le_refl _, fun _ _ => rfl⟩).grown hgrow (Nat.le_refl _) (fun k e => by cases e)
      have cn4 := (H3.out.2.2.1.below hb4 H3.out.2.2.1.lt).num
      have HB4 := Lib.hid (And.intro hb4 hown)
      clear hb4 hown hgrow
      refine hK _ _ ?_
      clear hK K
      try simp only [Act.put, List.setIfInBounds_toArray, List.set_cons_zero, List.set_cons_succ]
      refine wpAnyIn_ready (rs := [7]) (by kernel_rfl) (by simp) ?_
      refine (AllReadyIn.cons (by simp only [List.getElem?_toArray, List.getElem?_cons_succ, List.getElem?_cons_zero]; rfl) (fun K hK => ?_) AllReadyIn.nil)
      rw [if_pos (by rfl)]
      have hb4 := HB4.out.1
      have hown := HB4.out.2
      refine wpIn_op_call 101 #[.pointer (some ⟨w2.heap.size, 0, none⟩), .int .u64 (Bv.U (Rl.below (n : Int))), .slice (some ⟨w3.heap.size, 0, none⟩) 0 n, .func (.yield lp) #[] #[]] (by intro c h; cases h) (by simp [execOp, go_sem]; try rfl) ?_
      refine (H.out.2.2.2.2.2.2.2.1 _ w2.heap.size fp w4 w3.heap.size hlt2 (by omega) (fun hm => by have := H3.out.2.2.2.2 _ hm; omega) (fun hm => by have := H3.out.2.2.2.2 _ hm; omega) (Nat.le_trans hlt3 hb4.size) (H3.out.2.1.below hb4 H3.out.2.1.lt) hown (H.out.2.2.2.1 _ _ _ _ H3.out.1 (.of_below hb4))).mono ?_
      rintro e w5 ⟨b, rfl, hend⟩
      refine ⟨_, rfl, ?_⟩
      refine hK _ _ ?_
      clear hK K
      try simp only [Act.put, List.setIfInBounds_toArray, List.set_cons_zero, List.set_cons_succ]
      refine wpAnyIn_done (by kernel_rfl) ?_ _
      gi_wp2_with fail
      go_end0
      exact ⟨⟨_, rfl⟩, hend⟩
    · -- 4
      go_simp
      refine hK _ _ ?_
      clear hK K
      try simp only [Act.put, List.setIfInBounds_toArray, List.set_cons_zero, List.set_cons_succ]
      refine wpAnyIn_ready (rs := [2, 5]) (by kernel_rfl) (by simp) ?_
      refine (AllReadyIn.cons (by simp only [List.getElem?_toArray, List.getElem?_cons_succ, List.getElem?_cons_zero]; rfl) (fun K hK => ?_) (AllReadyIn.cons (by simp only [List.getElem?_toArray, List.getElem?_cons_succ, List.getElem?_cons_zero]; rfl) (fun K hK => ?_) AllReadyIn.nil))
      · -- 2
        rw [if_pos (by rfl)]
        refine wpIn_op_call 81 #[.int .i64 n] (by intro c h; cases h) (by simp [execOp, go_sem]) ?_
        refine (callsIn_wide.2 (all_any (n : Int) _)).mono ?_
        rintro e wa ⟨rfl, hwa⟩
        refine ⟨_, rfl, ?_⟩
        rw [hwa]
        clear hwa
        refine hK _ _ ?_
        clear hK K
        try simp only [Act.put, List.setIfInBounds_toArray, List.set_cons_zero, List.set_cons_succ]
        refine wpAnyIn_ready (rs := [5]) (by kernel_rfl) (by simp) ?_
        refine (AllReadyIn.cons (by simp only [List.getElem?_toArray, List.getElem?_cons_succ, List.getElem?_cons_zero]; rfl) (fun K hK => ?_) AllReadyIn.nil)
        rw [if_pos (by rfl)]
        refine wpIn_op_make _ (.const (.int .i64 0)) (.tmp 13) 35 rfl W.heap.size 3 i0 (.int .i64 0) 1 Tryd.underlying35 hi hz0 hz1 .i64 .i64 n rfl rfl (by rw [hz2]; omega) (by unfold maxLen; omega) hlt3 ?_
        intro w4 hown hgrow
        have hb4 : Below w3.heap.size w3 w4 := (show Below w3.heap.size w3 w3.drew from ⟨rfl, rfl, rfl, Nat.le_refl _, fun _ _ => rfl⟩).grown hgrow (Nat.le_refl _) (fun k e => by cases e)
        have cn4 := (H3.out.2.2.1.below hb4 H3.out.2.2.1.lt).num
        have HB4 := Lib.hid (And.intro hb4 hown)
        clear hb4 hown hgrow
        refine hK _ _ ?_
        clear hK K
        try simp only [Act.put, List.setIfInBounds_toArray, List.set_cons_zero, List.set_cons_succ]
        refine wpAnyIn_ready (rs := [7]) (by kernel_rfl) (by simp) ?_
        refine (AllReadyIn.cons (by simp only [List.getElem?_toArray, List.getElem?_cons_succ, List.getElem?_cons_zero]; rfl) (fun K hK => ?_) AllReadyIn.nil)
        rw [if_pos (by rfl)]
        have hb4 := HB4.out.1
        have hown := HB4.out.2
        refine wpIn_op_call 101 #[.pointer (some ⟨w2.heap.size, 0, none⟩), .int .u64 (Bv.U (Rl.below (n : Int))), .slice (some ⟨w3.heap.size, 0, none⟩) 0 n, .func (.yield lp) #[] #[]] (by intro c h; cases h) (by simp [execOp, go_sem]; try rfl) ?_
        refine (H.out.2.2.2.2.2.2.2.1 _ w2.heap.size fp w4 w3.heap.size hlt2 (by omega) (fun hm => by have := H3.out.2.2.2.2 _ hm; omega) (fun hm => by have := H3.out.2.2.2.2 _ hm; omega) (Nat.le_trans hlt3 hb4.size) (H3.out.2.1.below hb4 H3.out.2.1.lt) hown (H.out.2.2.2.1 _ _ _ _ H3.out.1 (.of_below hb4))).mono ?_
        rintro e w5 ⟨b, rfl, hend⟩
        refine ⟨_, rfl, ?_⟩
        refine hK _ _ ?_
        clear hK K
        try simp only [Act.put, List.setIfInBounds_toArray, List.set_cons_zero, List.set_cons_succ]
        refine wpAnyIn_done (by kernel_rfl) ?_ _
        gi_wp2_with fail
        go_end0
        exact ⟨⟨_, rfl⟩, hend⟩
      · -- 5
        rw [if_pos (by rfl)]
        refine wpIn_op_make _ (.const (.int .i64 0)) (.tmp 13) 35 rfl W.heap.size 3 i0 (.int .i64 0) 1 Tryd.underlying35 hi hz0 hz1 .i64 .i64 n rfl rfl (by rw [hz2]; omega) (by unfold maxLen; omega) hlt3 ?_
        intro w4 hown hgrow
        have hb4 : Below w3.heap.size w3 w4 := (show Below w3.heap.size w3 w3.drew from ⟨rfl, rfl, rfl, Nat.le_refl _, fun _ _ => rfl⟩).grown hgrow (Nat.le_refl _) (fun k e => by cases e)
        have cn4 := (H3.out.2.2.1.below hb4 H3.out.2.2.1.lt).num
        have HB4 := Lib.hid (And.intro hb4 hown)
        clear hb4 hown hgrow
        refine hK _ _ ?_
        clear hK K
        try simp only [Act.put, List.setIfInBounds_toArray, List.set_cons_zero, List.set_cons_succ]
        refine wpAnyIn_ready (rs := [2]) (by kernel_rfl) (by simp) ?_
        refine (AllReadyIn.cons (by simp only [List.getElem?_toArray, List.getElem?_cons_succ, List.getElem?_cons_zero]; rfl) (fun K hK => ?_) AllReadyIn.nil)
        rw [if_pos (by rfl)]
        refine wpIn_op_call 81 #[.int .i64 n] (by intro c h; cases h) (by simp [execOp, go_sem]) ?_
        refine (callsIn_wide.2 (all_any (n : Int) _)).mono ?_
        rintro e wa ⟨rfl, hwa⟩
        refine ⟨_, rfl, ?_⟩
        rw [hwa]
        clear hwa
        refine hK _ _ ?_
        clear hK K
        try simp only [Act.put, List.setIfInBounds_toArray, List.set_cons_zero, List.set_cons_succ]
        refine wpAnyIn_ready (rs := [7]) (by kernel_rfl) (by simp) ?_
        refine (AllReadyIn.cons (by simp only [List.getElem?_toArray, List.getElem?_cons_succ, List.getElem?_cons_zero]; rfl) (fun K hK => ?_) AllReadyIn.nil)
        rw [if_pos (by rfl)]
        have hb4 := HB4.out.1
        have hown := HB4.out.2
        refine wpIn_op_call 101 #[.pointer (some ⟨w2.heap.size, 0, none⟩), .int .u64 (Bv.U (Rl.below (n : Int))), .slice (some ⟨w3.heap.size, 0, none⟩) 0 n, .func (.yield lp) #[] #[]] (by intro c h; cases h) (by simp [execOp, go_sem]; try rfl) ?_
        refine (H.out.2.2.2.2.2.2.2.1 _ w2.heap.size fp w4 w3.heap.size hlt2 (by omega) (fun hm => by have := H3.out.2.2.2.2 _ hm; omega) (fun hm => by have := H3.out.2.2.2.2 _ hm; omega) (Nat.le_trans hlt3 hb4.size) (H3.out.2.1.below hb4 H3.out.2.1.lt) hown (H.out.2.2.2.1 _ _ _ _ H3.out.1 (.of_below hb4))).mono ?_
        rintro e w5 ⟨b, rfl, hend⟩
        refine ⟨_, rfl, ?_⟩
        refine hK _ _ ?_
        clear hK K
        try simp only [Act.put, List.setIfInBounds_toArray, List.set_cons_zero, List.set_cons_succ]
        refine wpAnyIn_done (by kernel_rfl) ?_ _
        gi_wp2_with fail
        go_end0
        exact ⟨⟨_, rfl⟩, hend⟩
  · -- 4
    go_simp
    refine hK _ _ ?_
    clear hK K
    try simp only [Act.put, List.setIfInBounds_toArray, List.set_cons_zero, List.set_cons_succ]
    refine wpAnyIn_ready (rs := [1, 5]) (by kernel_rfl) (by simp) ?_
    refine (AllReadyIn.cons (by simp only [List.getElem?_toArray, List.getElem?_cons_succ, List.getElem?_cons_zero]; rfl) (fun K hK => ?_) (AllReadyIn.cons (by simp only [List.getElem?_toArray, List.getElem?_cons_succ, List.getElem?_cons_zero]; rfl) (fun K hK => ?_) AllReadyIn.nil))
    · -- 1
      go_simp
      refine hK _ _ ?_
      clear hK K
      try simp only [Act.put, List.setIfInBounds_toArray, List.set_cons_zero, List.set_cons_succ]
      refine wpAnyIn_ready (rs := [2, 5]) (by kernel_rfl) (by simp) ?_
      refine (AllReadyIn.cons (by simp only [List.getElem?_toArray, List.getElem?_cons_succ, List.getElem?_cons_zero]; rfl) (fun K hK => ?_) (AllReadyIn.cons (by simp only [List.getElem?_toArray, List.getElem?_cons_succ, List.getElem?_cons_zero]; rfl) (fun K hK => ?_) AllReadyIn.nil))
      · -- 2
        rw [if_pos (by rfl)]
        refine wpIn_op_call 81 #[.int .i64 n] (by intro c h; cases h) (by simp [execOp, go_sem]) ?_
        refine (callsIn_wide.2 (all_any (n : Int) _)).mono ?_
        rintro e wa ⟨rfl, hwa⟩
        refine ⟨_, rfl, ?_⟩
        rw [hwa]
        clear hwa
        refine hK _ _ ?_
        clear hK K
        try simp only [Act.put, List.setIfInBounds_toArray, List.set_cons_zero, List.set_cons_succ]
        refine wpAnyIn_ready (rs := [5]) (by kernel_rfl) (by simp) ?_
        refine (AllReadyIn.cons (by simp only [List.getElem?_toArray, List.getElem?_cons_succ, List.getElem?_cons_zero]; rfl) (fun K hK => ?_) AllReadyIn.nil)
        rw [if_pos (by rfl)]
        refine wpIn_op_make _ (.const (.int .i64 0)) (.tmp 13) 35 rfl W.heap.size 3 i0 (.int .i64 0) 1 Tryd.underlying35 hi hz0 hz1 .i64 .i64 n rfl rfl (by rw [hz2]; omega) (by unfold maxLen; omega) hlt3 ?_
        intro w4 hown hgrow
        have hb4 : Below w3.heap.size w3 w4 := (show Below w3.heap.size w3 w3.drew from ⟨rfl, rfl, rfl, Nat.le_refl _, fun _ _ => rfl⟩).grown hgrow (Nat.le_refl _) (fun k e => by cases e)
        have cn4 := (H3.out.2.2.1.below hb4 H3.out.2.2.1.lt).num
        have HB4 := Lib.hid (And.intro hb4 hown)
        clear hb4 hown hgrow
        refine hK _ _ ?_
        clear hK K
        try simp only [Act.put, List.setIfInBounds_toArray, List.set_cons_zero, List.set_cons_succ]
        refine wpAnyIn_ready (rs := [7]) (by kernel_rfl) (by simp) ?_
        refine (AllReadyIn.cons (by simp only [List.getElem?_toArray, List.getElem?_cons_succ, List.getElem?_cons_zero]; rfl) (fun K hK => ?_) AllReadyIn.nil)
        rw [if_pos (by rfl)]
        have hb4 := HB4.out.1
        have hown := HB4.out.2
        refine wpIn_op_call 101 #[.pointer (some ⟨w2.heap.size, 0, none⟩), .int .u64 (Bv.U (Rl.below (n : Int))), .slice (some ⟨w3.heap.size, 0, none⟩) 0 n, .func (.yield lp) #[] #[]] (by intro c h; cases h) (by simp [execOp, go_sem]; try rfl) ?_
        refine (H.out.2.2.2.2.2.2.2.1 _ w2.heap.size fp w4 w3.heap.size hlt2 (by omega) (fun hm => by have := H3.out.2.2.2.2 _ hm; omega) (fun hm => by have := H3.out.2.2.2.2 _ hm; omega) (Nat.le_trans hlt3 hb4.size) (H3.out.2.1.below hb4 H3.out.2.1.lt) hown (H.out.2.2.2.1 _ _ _ _ H3.out.1 (.of_below hb4))).mono ?_
        rintro e w5 ⟨b, rfl, hend⟩
        refine ⟨_, rfl, ?_⟩
        refine hK _ _ ?_
        clear hK K
        try simp only [Act.put, List.setIfInBounds_toArray, List.set_cons_zero, List.set_cons_succ]
        refine wpAnyIn_done (by kernel_rfl) ?_ _
        gi_wp2_with fail
        go_end0
        exact ⟨⟨_, rfl⟩, hend⟩
      · -- 5
        rw [if_pos (by rfl)]
        refine wpIn_op_make _ (.const (.int .i64 0)) (.tmp 13) 35 rfl W.heap.size 3 i0 (.int .i64 0) 1 Tryd.underlying35 hi hz0 hz1 .i64 .i64 n rfl rfl (by rw [hz2]; omega) (by unfold maxLen; omega) hlt3 ?_
        intro w4 hown hgrow
        have hb4 : Below w3.heap.size w3 w4 := (show Below w3.heap.size w3 w3.drew from ⟨rfl, rfl, rfl, Nat.le_refl _, fun _ _ => rfl⟩).grown hgrow (Nat.le_refl _) (fun k e => by cases e)
        have cn4 := (H3.out.2.2.1.below hb4 H3.out.2.2.1.lt).num
        have HB4 := Lib.hid (And.intro hb4 hown)
        clear hb4 hown hgrow
        refine hK _ _ ?_
        clear hK K
        try simp only [Act.put, List.setIfInBounds_toArray, List.set_cons_zero, List.set_cons_succ]
        refine wpAnyIn_ready (rs := [2]) (by kernel_rfl) (by simp) ?_
        refine (AllReadyIn.cons (by simp only [List.getElem?_toArray, List.getElem?_cons_succ, List.getElem?_cons_zero]; rfl) (fun K hK => ?_) AllReadyIn.nil)
        rw [if_pos (by rfl)]
        refine wpIn_op_call 81 #[.int .i64 n] (by intro c h; cases h) (by simp [execOp, go_sem]) ?_
        refine (callsIn_wide.2 (all_any (n : Int) _)).mono ?_
        rintro e wa ⟨rfl, hwa⟩
        refine ⟨_, rfl, ?_⟩
        rw [hwa]
        clear hwa
        refine hK _ _ ?_
        clear hK K
        try simp only [Act.put, List.setIfInBounds_toArray, List.set_cons_zero, List.set_cons_succ]
        refine wpAnyIn_ready (rs := [7]) (by kernel_rfl) (by simp) ?_
        refine (AllReadyIn.cons (by simp only [List.getElem?_toArray, List.getElem?_cons_succ, List.getElem?_cons_zero]; rfl) (fun K hK => ?_) AllReadyIn.nil)
        rw [if_pos (by rfl)]
        have hb4 := HB4.out.1
        have hown := HB4.out.2
        refine wpIn_op_call 101 #[.pointer (some ⟨w2.heap.size, 0, none⟩), .int .u64 (Bv.U (Rl.below (n : Int))), .slice (some ⟨w3.heap.size, 0, none⟩) 0 n, .func (.yield lp) #[] #[]] (by intro c h; cases h) (by simp [execOp, go_sem]; try rfl) ?_
        refine (H.out.2.2.2.2.2.2.2.1 _ w2.heap.size fp w4 w3.heap.size hlt2 (by omega) (fun hm => by have := H3.out.2.2.2.2 _ hm; omega) (fun hm => by have := H3.out.2.2.2.2 _ hm; omega) (Nat.le_trans hlt3 hb4.size) (H3.out.2.1.below hb4 H3.out.2.1.lt) hown (H.out.2.2.2.1 _ _ _ _ H3.out.1 (.of_below hb4))).mono ?_
        rintro e w5 ⟨b, rfl, hend⟩
        refine ⟨_, rfl, ?_⟩
        refine hK _ _ ?_
        clear hK K
        try simp only [Act.put, List.setIfInBounds_toArray, List.set_cons_zero, List.set_cons_succ]
        refine wpAnyIn_done (by kernel_rfl) ?_ _
        gi_wp2_with fail
        go_end0
        exact ⟨⟨_, rfl⟩, hend⟩
    · -- 5
      rw [if_pos (by rfl)]
      refine wpIn_op_make _ (.const (.int .i64 0)) (.tmp 13) 35 rfl W.heap.size 3 i0 (.int .i64 0) 1 Tryd.underlying35 hi hz0 hz1 .i64 .i64 n rfl rfl (by rw [hz2]; omega) (by unfold maxLen; omega) hlt3 ?_
      intro w4 hown hgrow
      have hb4 : Below w3.heap.size w3 w4 := (show Below w3.heap.size w3 w3.drew from ⟨rfl, rfl, rfl, Nat.le_refl _, fun _ _ => rfl⟩).grown hgrow (Nat.le_refl _) (fun k e => by cases e)
      have cn4 := (H3.out.2.2.1.below hb4 H3.out.2.2.1.lt).num
      have HB4 := Lib.hid (And.intro hb4 hown)
      clear hb4 hown hgrow
      refine hK _ _ ?_
      clear hK K
      try simp only [Act.put, List.setIfInBounds_toArray, List.set_cons_zero, List.set_cons_succ]
      refine wpAnyIn_ready (rs := [1]) (by kernel_rfl) (by simp) ?_
      refine (AllReadyIn.cons (by simp only [List.getElem?_toArray, List.getElem?_cons_succ, List.getElem?_cons_zero]; rfl) (fun K hK => ?_) AllReadyIn.nil)
      go_simp
      refine hK _ _ ?_
      clear hK K
      try simp only [Act.put, List.setIfInBounds_toArray, List.set_cons_zero, List.set_cons_succ]
      refine wpAnyIn_ready (rs := [2]) (by kernel_rfl) (by simp) ?_
      refine (AllReadyIn.cons (by simp only [List.getElem?_toArray, List.getElem?_cons_succ, List.getElem?_cons_zero]; rfl) (fun K hK => ?_) AllReadyIn.nil)
      rw [if_pos (by rfl)]
      refine wpIn_op_call 81 #[.int .i64 n] (by intro c h; cases h) (by simp [execOp, go_sem]) ?_
      refine (callsIn_wide.2 (all_any (n : Int) _)).mono ?_
      rintro e wa ⟨rfl, hwa⟩
      refine ⟨_, rfl, ?_⟩
      rw [hwa]
      clear hwa
      refine hK _ _ ?_
      clear hK K
      try simp only [Act.put, List.setIfInBounds_toArray, List.set_cons_zero, List.set_cons_succ]
      refine wpAnyIn_ready (rs := [7]) (by kernel_rfl) (by simp) ?_
      refine (AllReadyIn.cons (by simp only [List.getElem?_toArray, List.getElem?_cons_succ, List.getElem?_cons_zero]; rfl) (fun K hK => ?_) AllReadyIn.nil)
      rw [if_pos (by rfl)]
      have hb4 := HB4.out.1
      have hown := HB4.out.2
      refine wpIn_op_call 101 #[.pointer (some ⟨w2.heap.size, 0, none⟩), .int .u64 (Bv.U (Rl.below (n : Int))), .slice (some ⟨w3.heap.size, 0, none⟩) 0 n, .func (.yield lp) #[] #[]] (by intro c h; cases h) (by simp [execOp, go_sem]; try rfl) ?_
      refine (H.out.2.2.2.2.2.2.2.1 _ w2.heap.size fp w4 w3.heap.size hlt2 (by omega) (fun hm => by have := H3.out.2.2.2.2 _ hm; omega) (fun hm => by have := H3.out.2.2.2.2 _ hm; omega) (Nat.le_trans hlt3 hb4.size) (H3.out.2.1.below hb4 H3.out.2.1.lt) hown (H.out.2.2.2.1 _ _ _ _ H3.out.1 (.of_below hb4))).mono ?_
      rintro e w5 ⟨b, rfl, hend⟩
      refine ⟨_, rfl, ?_⟩
      refine hK _ _ ?_
      clear hK K
      try simp only [Act.put, List.setIfInBounds_toArray, List.set_cons_zero, List.set_cons_succ]
      refine wpAnyIn_done (by kernel_rfl) ?_ _
      gi_wp2_with fail
      go_end0
      exact ⟨⟨_, rfl⟩, hend⟩
theorem all1_gives (n : Nat) (f : Rl.Rows) (hf : Rl.Ok n f) (pb : Nat) (w0 : World) (hR : RelAt w0 pb n f) (m : Nat) :
    Rg.Gives Fence.wide m Tryd.prog 100 #[.pointer (some ⟨pb, 0, none⟩)] ListV (Rl.ordL n f) (fun W => Tab W ∧ 0 < W.heap.size) w0 := by
  cases h : (Rl.topL n f).isSome
  · exact all1_no n f hf h pb w0 hR m
  · exact all1_yes n f hf h pb w0 hR m
end Go.Proofs.YtknjdfgmejobfaaDoor
