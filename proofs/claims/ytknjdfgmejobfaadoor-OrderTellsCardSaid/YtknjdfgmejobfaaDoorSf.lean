/- package order: Orders. -/
import Derived.Test.YtknjdfgmejobfaaDoorSe
namespace Go.Proofs.YtknjdfgmejobfaaDoor
open Go.RowKit Go.Shelf

attribute [local go_sem] Oper.semAt_some
attribute [local go_sem] Bv.and_u Bv.or_u Bv.andNot_u Bv.wrap_sub1 Bv.eq0 Bv.ne0 Bv.wrap_pow Bv.wrap_powmin Bv.wrap_neg Bv.eq_u Bv.ne_u

/-- a list of lists in memory -/
def ListsV (base : Nat) (l : List (List Nat)) (v : Value) (W : World) : Prop := ∃ vs, W.ownsRow base 35 1 v l.length vs ∧ ∀ (i : Nat) (x : List Nat), l[i]? = some x → ∃ u, vs[i]? = some u ∧ ∃ g c, u = .slice (some ⟨g, 0, none⟩) x.length c ∧ base ≤ g ∧ W.ownsRow 0 3 1 u x.length (nums x)
def OrdersOut (l : List (List Nat)) (err : Int) (w : World) (e : Ending) (w' : World) : Prop :=
  ∃ v, e = .returned (.tuple #[v, .int .i64 err]) ∧ ListsV w.heap.size l v w' ∧ Below w.heap.size w w'
/-- the loop's own memory -/
structure OrdI (w : World) (b4 most : Nat) (pre : List (List Nat)) (fp : List Nat) (W : World) : Prop where
  most_ : Boxed W (w.heap.size + 1) 3 (.int .i64 most)
  res : Boxed W (w.heap.size + 2) 52 (.slice none 0 0)
  err : Boxed W (w.heap.size + 3) 28 (.int .i64 0)
  gath : ∃ v vs, Gath w.heap.size b4 pre fp v vs W
  bel : Below w.heap.size w W
  new : ∀ b ∈ fp, b4 < b
  len : pre.length ≤ most
def OrdX (w : World) (L most : Nat) (c : Code) (_pre : List (List Nat)) (W : World) : Prop :=
  c = .ret ∧ Boxed W (w.heap.size + 2) 52 (.slice none 0 0) ∧ Boxed W (w.heap.size + 3) 28 (.int .i64 5) ∧ Below w.heap.size w W ∧ most < L
theorem OrdI.steps {w : World} {b4 most B : Nat} {pre : List (List Nat)} {fp : List Nat} {W W' : World} (h : OrdI w b4 most pre fp W) (h4 : w.heap.size + 4 ≤ b4) (hB : b4 < B) (hst : Rg.Steps B fp W W') : OrdI w b4 most pre fp W' := by
  have key : ∀ {b : Nat} {t : TypeId} {v : Value}, b < B → Boxed W b t v → Boxed W' b t v := fun hb h => (hst.block _ h.lt (.inl hb)).trans h
  obtain ⟨v, vs, hg⟩ := h.gath
  exact ⟨key (by omega) h.most_, key (by omega) h.res, key (by omega) h.err, ⟨v, vs, hg.steps (by omega) hst⟩,
    ⟨hst.os.trans h.bel.os, hst.tape.trans h.bel.tape, hst.output.trans h.bel.output, Nat.le_trans h.bel.size hst.size, fun k hk => (hst.block k (Nat.lt_of_lt_of_le hk h.bel.size) (.inl (by omega))).trans (h.bel.block k hk)⟩, h.new, h.len⟩

theorem listV_put {x : List Nat} {v : Value} (W : World) (l : Nat) (o o' : Obj) (hl : W.heap[l]? = some o) (ho : o.isCells = false) (h : ListV x v W) : ListV x v (W.putObj l o') := by
  obtain ⟨g, c, rfl, hA⟩ := h
  refine ⟨g, c, rfl, fun hp => ?_⟩
  obtain ⟨b, off, e, hb, hc⟩ := hA hp
  exact ⟨b, off, e, by simpa [World.putObj] using hb, fun i hi => cell_kept (hc i hi) (grownBy_putObj' W l o') (fun r e => by cases e; exact ⟨o, hl, ho⟩)⟩
theorem OrdX.put {w : World} {L most l : Nat} {c : Code} {pre : List (List Nat)} {W : World} {o o' : Obj} (h : OrdX w L most c pre W) (hl : w.heap.size + 4 ≤ l) (_ : W.heap[l]? = some o) : OrdX w L most c pre (W.putObj l o') :=
  ⟨h.1, (World.putObj_heap_other (by omega)).trans h.2.1, (World.putObj_heap_other (by omega)).trans h.2.2.1, h.2.2.2.1.grown (grownBy_putObj' W l o') h.2.2.2.1.size (fun k e => by cases e; omega), h.2.2.2.2⟩
theorem ext_len {before : Rl.Rows} : ∀ (k : Nat) (left : BitVec 64) (l x : List Nat), x ∈ Rl.ext before k left l → x.length ≤ l.length + k
  | 0, left, l, x, h => by simp [Rl.ext] at h; subst h; omega
  | k + 1, left, l, x, h => by
    unfold Rl.ext at h
    split at h
    · simp at h; subst h; omega
    · obtain ⟨a, _, h2⟩ := List.mem_flatMap.1 h
      split at h2
      · have := ext_len k _ _ x h2; simp at this; omega
      · cases h2
theorem ord_len {n : Nat} {f : Rl.Rows} {x : List Nat} (h : x ∈ Rl.ordL n f) : x.length ≤ 64 := by
  unfold Rl.ordL at h
  split at h
  · have := ext_len 64 _ _ x h; simpa using this
  · cases h
/-- one more round -/
theorem OrdI.next {w : World} {b4 most B : Nat} {pre : List (List Nat)} {fp : List Nat} {W W2 W3 : World} {v v' : Value} {vs : List Value} {x : List Nat} {g c : Nat} (h : OrdI w b4 most pre fp W) (hg : Gath w.heap.size b4 pre fp v vs W) (h4 : w.heap.size + 4 ≤ b4) (hB : b4 < B) (hlt : pre.length < most)
    (hcl : Below W.heap.size W W2) (hu : W2.ownsRow W.heap.size 3 1 (.slice (some ⟨g, 0, none⟩) x.length c) x.length (nums x))
    (hown : W3.ownsRow w.heap.size 35 1 v' (pre.length + 1) (vs ++ [.slice (some ⟨g, 0, none⟩) x.length c])) (hgr : (W2.alloc (.cells #[.slice (some ⟨g, 0, none⟩) x.length c] 35)).grownBy W3 v.ownBlock)
    (hblk : ∀ b, v'.ownBlock = some b → v.ownBlock = some b ∨ (W2.alloc (.cells #[.slice (some ⟨g, 0, none⟩) x.length c] 35)).heap.size ≤ b) :
    ∃ fp', OrdI w b4 most (pre ++ [x]) fp' (W3.setCell ⟨b4, 0, none⟩ v') ∧ Rg.Grew B fp fp' W (W3.setCell ⟨b4, 0, none⟩ v') := by
  obtain ⟨fp', hG, hGr⟩ := hg.next hB hcl hu hown hgr hblk
  have hba : Below W.heap.size W (W2.alloc (.cells #[.slice (some ⟨g, 0, none⟩) x.length c] 35)) := hcl.alloc hcl.size _
  have hsz := h.bel.size
  have box : ∀ {b : Nat} {t : TypeId} {y : Value}, t ≠ 35 → b ≠ b4 → Boxed W b t y → Boxed (W3.setCell ⟨b4, 0, none⟩ v') b t y := fun {b t y} ht hb hbx =>
    (Below.heap_setCell _ _ _ _ hb).trans ((hgr.block b (Nat.lt_of_lt_of_le hbx.lt hba.size) (hbx.not_row ht hg.row)).trans ((hba.block b hbx.lt).trans hbx))
  refine ⟨fp', ⟨box (by decide) (by omega) h.most_, box (by decide) (by omega) h.res, box (by decide) (by omega) h.err, ⟨_, _, hG⟩, ?_, fun b hb => ?_, by rw [List.length_append]; simp; omega⟩, hGr⟩
  · exact ((h.bel.trans (hba.mono hsz)).grown hgr (Nat.le_trans hsz hba.size) (fun k e => (hg.row.lt k e).1)).setCell (p := ⟨b4, 0, none⟩) (by show w.heap.size ≤ b4; omega) _
  · rcases hGr.new b hb with h1 | h1
    · exact h.new b h1
    · have := hg.box.lt; omega
theorem Gath.lists {base b4 : Nat} {l : List (List Nat)} {fp : List Nat} {v : Value} {vs : List Value} {W W' : World} (h : Gath base b4 l fp v vs W) (hn : ∀ b ∈ fp, b4 < b) (hb : base ≤ b4) (hk : ∀ b ∈ fp, b < W.heap.size → W'.heap[b]? = W.heap[b]?) : ListsV base l v W' :=
  ⟨vs, ownsRow_same h.row fun b e hl => hk b (h.blk b e) hl, fun i x hi => by
    obtain ⟨u, hu, g, c, e, hg, hr⟩ := h.els i x hi
    exact ⟨u, hu, g, c, e, by have := hn g hg; omega, ownsRow_same hr fun b e2 hl => hk b (by rw [e] at e2; injection e2 with e2; rw [← e2]; exact hg) hl⟩⟩
theorem results_lists {fn : Func} {p q : Tmp} (h : fn.results = #[.cell p 52, .cell q 28]) (tmps : Array Value) (w : World) (b c : Nat) (A : Option Addr) (n cp : Nat) (e : Int)
    (hp : tmps.getD p undef = .pointer (some ⟨b, 0, none⟩)) (hq : tmps.getD q undef = .pointer (some ⟨c, 0, none⟩)) (hb : w.cell? ⟨b, 0, none⟩ = some (.slice A n cp)) (hc : w.cell? ⟨c, 0, none⟩ = some (.int .i64 e)) :
    (results fn tmps).run Tryd.prog w = .ok (.tuple #[.slice A n cp, .int .i64 e]) w := by
  have hp' : tmps[p]?.getD undef = .pointer (some ⟨b, 0, none⟩) := by simpa using hp
  have hq' : tmps[q]?.getD undef = .pointer (some ⟨c, 0, none⟩) := by simpa using hq
  simp [results, h, hp', hq', asAddr, go_sem, hb, hc]
set_option maxRecDepth 100000 in
set_option maxHeartbeats 4000000 in
theorem orders_yes (n : Nat) (f : Rl.Rows) (most : Nat) (hmost : most ≤ 10000) (w : World) (hf : Rl.Ok n f) (hT : Tab w) (hw : 0 < w.heap.size) :
    Calls Tryd.prog 46 #[.agg (relC n f), .int .i64 most] w (OrdersOut (if (Rl.ordL n f).length ≤ most then Rl.ordL n f else []) (if (Rl.ordL n f).length ≤ most then 0 else 5) w) := by
  obtain ⟨i0, hi, hz0, hz1, hz2⟩ := info_parts infoInts
  obtain ⟨O, hO⟩ : ∃ O, O = (if (Rl.ordL n f).length ≤ most then Rl.ordL n f else []) := ⟨_, rfl⟩
  obtain ⟨E, hE⟩ : ∃ E : Int, E = (if (Rl.ordL n f).length ≤ most then 0 else 5) := ⟨_, rfl⟩
  rw [← hO, ← hE]
  have HO := Lib.hid (And.intro hO (And.intro hE (And.intro hT hw)))
  clear hO hE hT hw
  -- the four variables that the function begins with
  have hV : ∀ W0, W0 = (((w.alloc (.cells (relC n f) 26)).alloc (.cells #[.int .i64 most] 3)).alloc (.cells #[.slice none 0 0] 52)).alloc (.cells #[.int .i64 0] 28) →
      RelAt W0 w.heap.size n f ∧ Boxed W0 (w.heap.size + 1) 3 (.int .i64 most) ∧ Boxed W0 (w.heap.size + 2) 52 (.slice none 0 0) ∧ Boxed W0 (w.heap.size + 3) 28 (.int .i64 0) ∧ Below w.heap.size w W0 ∧ W0.heap.size = w.heap.size + 4 := by
    rintro W0 rfl
    have b1 := Boxed.new (w.alloc (.cells (relC n f) 26)) 3 (.int .i64 most)
    have b2 := Boxed.new ((w.alloc (.cells (relC n f) 26)).alloc (.cells #[.int .i64 most] 3)) 52 (.slice none 0 0)
    have b3 := Boxed.new (((w.alloc (.cells (relC n f) 26)).alloc (.cells #[.int .i64 most] 3)).alloc (.cells #[.slice none 0 0] 52)) 28 (.int .i64 0)
    simp only [World.size_alloc, Nat.add_assoc, Nat.reduceAdd] at b1 b2 b3
    exact ⟨(((RelAt.new w n f).alloc _).alloc _).alloc _, (b1.alloc _).alloc _, b2.alloc _, b3, ((((Below.refl _ w).alloc (Nat.le_refl _) _).alloc (by simp) _).alloc (by simp; omega) _).alloc (by simp; omega) _, by simp⟩
  refine (callsIn_wide (n := 9)).1 ?_
  refine callsIn_of_wp_marks Tryd.func46 rfl trivial ?_ rfl
  simp only [Tryd.ntmps46, List.size_toArray, List.length_cons, List.length_nil, Nat.reduceAdd, Nat.reduceSub, Array.replicate_succ, Array.replicate_zero, List.push_toArray, List.append_toArray, List.nil_append, List.cons_append]
  gi_wp2_with fail
  generalize hW0 : (((w.alloc (.cells (relC n f) 26)).alloc (.cells #[.int .i64 most] 3)).alloc (.cells #[.slice none 0 0] 52)).alloc (.cells #[.int .i64 0] 28) = W0
  obtain ⟨hR, hB1, hB2, hB3, hbw, hsz⟩ := hV W0 hW0.symm
  have hval : (decide ((0 : Int) ≤ (most : Int) ∧ (most : Int) ≤ 10000) && Rl.rightB n f) = true := by rw [Rl.right_of hf, decide_eq_true ⟨by omega, by omega⟩]; rfl
  refine ⟨trivial, ?_⟩
  refine (callsIn_wide.2 (valid_is w.heap.size n f most true hval _ hR)).mono ?_
  rintro e w1 ⟨rfl, hb⟩
  have H1 := Lib.hid (And.intro (hR.below hb hR.lt) (And.intro (show Boxed w1 _ _ _ from (hb.block _ hB1.lt).trans hB1) (And.intro (show Boxed w1 _ _ _ from (hb.block _ hB2.lt).trans hB2) (And.intro (show Boxed w1 _ _ _ from (hb.block _ hB3.lt).trans hB3) (And.intro (hbw.trans (hb.mono hbw.size)) (show w.heap.size + 4 ≤ w1.heap.size by have := hb.size; omega))))))
  clear hV hR hB1 hB2 hB3 hbw hsz hb hval hW0
  gi_wp2_with (refine wpListIn_load_rel (by rfl) (.tmp 2) (by rfl) w.heap.size n f (by rfl) (H1.out.1.alloc _) ?_)
  refine ⟨trivial, ?_⟩
  refine (callsIn_wide.2 (all_fn n f _)).mono ?_
  rintro e w2 ⟨rfl, rfl⟩
  gi_wp2_with fail
  have hRb : RelAt ((w1.alloc (.cells #[.slice none 0 0] 52)).alloc (.cells (relC n f) 26)) (w1.heap.size + 1) n f := by
    have := RelAt.new (w1.alloc (.cells #[.slice none 0 0] 52)) n f
    simpa using this
  have hz5 : ((w1.alloc (.cells #[.slice none 0 0] 52)).alloc (.cells (relC n f) 26)).heap.size = w1.heap.size + 2 := by simp
  have hb5 : Below w1.heap.size w1 ((w1.alloc (.cells #[.slice none 0 0] 52)).alloc (.cells (relC n f) 26)) := ((Below.refl _ w1).alloc (Nat.le_refl _) _).alloc (by simp) _
  have hI0 : OrdI w w1.heap.size most [] [] ((w1.alloc (.cells #[.slice none 0 0] 52)).alloc (.cells (relC n f) 26)) :=
    ⟨(H1.out.2.1.alloc _).alloc _, (H1.out.2.2.1.alloc _).alloc _, (H1.out.2.2.2.1.alloc _).alloc _, ⟨.slice none 0 0, [], (Boxed.new w1 _ _).alloc _, World.ownsRow_nil _ _ _ _, fun b e => (by cases e), fun i x e => (by simp at e)⟩, H1.out.2.2.2.2.1.trans (hb5.mono H1.out.2.2.2.2.1.size), fun b hb => (by cases hb), Nat.zero_le _⟩
  have HK := Lib.hid (And.intro hRb (And.intro hI0 hf))
  have h14 := H1.out.2.2.2.2.2
  clear hRb hI0 hb5
  refine Rg.wpIn_rangeFunc_fp (n := 9) rfl (by omega) (gf := 100) (lb := #[.pointer (some ⟨w1.heap.size + 1, 0, none⟩)]) rfl trivial (enters_of Tryd.func100 (by kernel_rfl) rfl)
    (all1_gives n f HK.out.2.2 (w1.heap.size + 1) _ HK.out.1 8) (Below.refl _ _) rfl (fun x v W l o o' h1 h2 h3 => listV_put W l o o' h1 h2 h3)
    (OrdI w w1.heap.size most) (OrdX w (Rl.ordL n f).length most) (fun pre fp W h => ⟨HO.out.2.2.1.below h.bel HO.out.2.2.2, Nat.lt_of_lt_of_le HO.out.2.2.2 h.bel.size⟩)
    (fun pre fp W W' h hs => h.steps h14 (by rw [hz5]; omega) hs) (fun c pre W l o o' h1 h2 _ h4 => h4.put (by rw [hz5] at h1; omega) h2) [] (fun b hb => by cases hb) HK.out.2.1
    (fun v => { tmps := #[.agg (relC n f), .int .i64 most, .pointer (some ⟨w.heap.size, 0, none⟩), .pointer (some ⟨w.heap.size + 1, 0, none⟩), .pointer (some ⟨w.heap.size + 1 + 1, 0, none⟩), .pointer (some ⟨w.heap.size + 1 + 1 + 1, 0, none⟩), .pointer (some ⟨w1.heap.size, 0, none⟩), v, .int .i64 most, .bool true, .bool false, .agg (relC n f), .func (.func 100) #[] #[.pointer (some ⟨w1.heap.size + 1, 0, none⟩)], v, undef, undef, undef, undef, undef, undef, undef, undef, undef, undef], defers := [] }) ?assign ?body ?done ?stop
  case assign =>
    intro l v W K hK
    gi_wp2
    exact hK
  case body =>
    rintro l pre fp x v W hin hpre ⟨g, c, rfl, hA⟩ hsz hfp
    obtain ⟨v, vs, hg⟩ := hin.gath
    obtain ⟨A, cap, rfl⟩ : ∃ A cap, v = .slice A pre.length cap := by
      rcases hg.row.2 with ⟨h, h0⟩ | ⟨g', cap', cur, h, _⟩
      · exact ⟨none, 0, by rw [h, h0]⟩
      · exact ⟨_, _, h⟩
    have c4 := hg.box.cell
    have c1 := hin.most_.cell
    have hx64 : x.length ≤ 64 := ord_len (by obtain ⟨t, ht⟩ := hpre; rw [← ht]; simp)
    by_cases hml : pre.length = most
    · have d0 : ((pre.length : Int) == (most : Int)) = true := by rw [hml]; exact beq_self_eq_true _
      have d1 : (pre.length == most) = true := by rw [hml]; exact beq_self_eq_true _
      have c2 := hin.res.cell
      have c3 := hin.err.cell
      have f2 := hin.res.frozen
      have f3 := hin.err.frozen
      have hlen : most < (Rl.ordL n f).length := by
        have := hpre.length_le; simp at this; omega
      have HB := Lib.hid (And.intro hin (And.intro hlen hsz))
      clear hin hg hA hpre hfp hml hlen hsz
      gi_wp2
      have hbel := HB.out.1.bel
      refine ⟨fp, ⟨rfl, (HB.out.1.res.set (.slice none 0 0)).other (by omega) _, (HB.out.1.err.other (by omega) _).set _, (hbel.setCell (p := ⟨w.heap.size + 1 + 1, 0, none⟩) (by show w.heap.size ≤ w.heap.size + 1 + 1; omega) _).setCell (p := ⟨w.heap.size + 1 + 1 + 1, 0, none⟩) (by show w.heap.size ≤ w.heap.size + 1 + 1 + 1; omega) _, HB.out.2.1⟩, ⟨by simp [World.setCell], fun b hb => .inl hb, fun b h1 h2 h3 => ?_⟩⟩
      rw [hz5] at h1
      exact (Below.heap_setCell _ _ _ _ (by show b ≠ w.heap.size + 1 + 1 + 1; omega)).trans (Below.heap_setCell _ _ _ _ (by show b ≠ w.heap.size + 1 + 1; omega))
    · have d0 : ((pre.length : Int) == (most : Int)) = false := by simp; omega
      have d1 : (pre.length == most) = false := by simp; omega
      have hlt : pre.length < most := by have := hin.len; omega
      have HB := Lib.hid (And.intro hin (And.intro hg (And.intro hA (And.intro hlt (And.intro hx64 hsz)))))
      clear hin hg hA hpre hfp hml hlt hsz hx64
      gi_wp2_with fail
      refine wpIn_region_any (by kernel_rfl) ?_
      change wpAnyIn _ _ _ _ _ _ _ _ _ (World.drew _)
      refine wpAnyIn_ready (rs := [0, 1]) (by kernel_rfl) (by simp) ?_
      refine (AllReadyIn.cons (by simp only [List.getElem?_toArray, List.getElem?_cons_succ, List.getElem?_cons_zero]; rfl) (fun K hK => ?_) (AllReadyIn.cons (by simp only [List.getElem?_toArray, List.getElem?_cons_succ, List.getElem?_cons_zero]; rfl) (fun K hK => ?_) AllReadyIn.nil))
      · -- 0
        go_simp
        refine hK _ _ ?_
        clear hK K
        try simp only [Act.put, List.setIfInBounds_toArray, List.set_cons_zero, List.set_cons_succ]
        refine wpAnyIn_ready (rs := [1]) (by kernel_rfl) (by simp) ?_
        refine (AllReadyIn.cons (by simp only [List.getElem?_toArray, List.getElem?_cons_succ, List.getElem?_cons_zero]; rfl) (fun K hK => ?_) AllReadyIn.nil)
        go_simp
        refine hK _ _ ?_
        clear hK K
        try simp only [Act.put, List.setIfInBounds_toArray, List.set_cons_zero, List.set_cons_succ]
        refine wpAnyIn_ready (rs := [2]) (by kernel_rfl) (by simp) ?_
        refine (AllReadyIn.cons (by simp only [List.getElem?_toArray, List.getElem?_cons_succ, List.getElem?_cons_zero]; rfl) (fun K hK => ?_) AllReadyIn.nil)
        rw [if_pos (by rfl)]
        refine opIn_call (fun _ => trivial) rfl 92 #[.slice (some ⟨g, 0, none⟩) x.length c] (by intro c h; cases h) (by simp [execOp, go_sem]) ?_
        refine (CallsIn.inRound l (callsIn_wide.2 (clone_is x _ W.drew ⟨g, c, rfl, HB.out.2.2.1⟩ (by have := HB.out.2.2.2.2.1; omega)))).mono ?_
        rintro e W2 ⟨g2, k2, rfl, hrow, hcl⟩
        have hcl : Below W.heap.size W W2 := ⟨hcl.os, hcl.tape, hcl.output, hcl.size, hcl.block⟩
        have hrow : W2.ownsRow W.heap.size 3 1 (.slice (some ⟨g2, 0, none⟩) x.length k2) x.length (nums x) := hrow
        have c4b : W2.cell? ⟨w1.heap.size, 0, none⟩ = some (.slice A pre.length cap) := (hcl.cell (p := ⟨w1.heap.size, 0, none⟩) HB.out.2.1.box.lt).trans c4
        have c4c : (W2.alloc (.cells #[.slice (some ⟨g2, 0, none⟩) x.length k2] 35)).cell? ⟨w1.heap.size, 0, none⟩ = some (.slice A pre.length cap) := by rw [World.cell?_alloc_old _ _ _ (show w1.heap.size ≠ W2.heap.size by have := HB.out.2.1.box.lt; have := hcl.size; omega)]; exact c4b
        refine ⟨_, rfl, ?_⟩
        refine hK _ _ ?_
        clear hK K
        try simp only [Act.put, List.setIfInBounds_toArray, List.set_cons_zero, List.set_cons_succ]
        refine wpAnyIn_ready (rs := [3]) (by kernel_rfl) (by simp) ?_
        refine (AllReadyIn.cons (by simp only [List.getElem?_toArray, List.getElem?_cons_succ, List.getElem?_cons_zero]; rfl) (fun K hK => ?_) AllReadyIn.nil)
        go_simp
        refine hK _ _ ?_
        clear hK K
        try simp only [Act.put, List.setIfInBounds_toArray, List.set_cons_zero, List.set_cons_succ]
        refine wpAnyIn_ready (rs := [4]) (by kernel_rfl) (by simp) ?_
        refine (AllReadyIn.cons (by simp only [List.getElem?_toArray, List.getElem?_cons_succ, List.getElem?_cons_zero]; rfl) (fun K hK => ?_) AllReadyIn.nil)
        rw [if_pos (by rfl)]
        refine opIn_append_blk (fun _ => trivial) _ (.tmp 18) (.tmp 21) 52 rfl w.heap.size 35 i0 (.slice none 0 0) 1 24 Tryd.underlying52 hi hz0 hz1 hz2 rfl (by decide) (.slice A pre.length cap) pre.length vs rfl ((owns_below HB.out.2.1.row hcl (Nat.le_refl _)).alloc _) ⟨W2.heap.size, 0, none⟩ 1 1 [.slice (some ⟨g2, 0, none⟩) x.length k2] rfl rfl (cell_one_new _ _ _) (by simp [Value.oneCell']) (by omega) (by unfold maxLen; have := HB.out.2.2.2.1; omega) (by have := HB.out.2.2.2.1; omega) (by have := HB.out.1.bel.size; have := hcl.size; simp; omega) ?_
        intro v' W3 hown hgr hblk
        have hbox3 : Boxed W3 w1.heap.size 52 (.slice A pre.length cap) := (show Boxed W2 _ _ _ from (hcl.block _ HB.out.2.1.box.lt).trans HB.out.2.1.box).alloc (.cells #[.slice (some ⟨g2, 0, none⟩) x.length k2] 35) |>.kept hgr (HB.out.2.1.box.not_row (by decide) HB.out.2.1.row)
        have c5 := hbox3.cell
        have f5 := hbox3.frozen
        obtain ⟨A9, cap9, rfl⟩ : ∃ A cap, v' = .slice A (pre.length + 1) cap := by
          rcases hown.2 with ⟨h, h0⟩ | ⟨g', cap', cur, h, _⟩
          · omega
          · exact ⟨_, _, h⟩
        refine hK _ _ ?_
        clear hK K
        try simp only [Act.put, List.setIfInBounds_toArray, List.set_cons_zero, List.set_cons_succ]
        refine wpAnyIn_ready (rs := [5]) (by kernel_rfl) (by simp) ?_
        refine (AllReadyIn.cons (by simp only [List.getElem?_toArray, List.getElem?_cons_succ, List.getElem?_cons_zero]; rfl) (fun K hK => ?_) AllReadyIn.nil)
        go_simp
        refine hK _ _ ?_
        clear hK K
        try simp only [Act.put, List.setIfInBounds_toArray, List.set_cons_zero, List.set_cons_succ]
        refine wpAnyIn_done (by kernel_rfl) ?_ _
        gi_wp2_with fail
        exact HB.out.1.next HB.out.2.1 h14 (by rw [hz5]; omega) HB.out.2.2.2.1 hcl hrow hown hgr hblk
      · -- 1
        go_simp
        refine hK _ _ ?_
        clear hK K
        try simp only [Act.put, List.setIfInBounds_toArray, List.set_cons_zero, List.set_cons_succ]
        refine wpAnyIn_ready (rs := [0, 2]) (by kernel_rfl) (by simp) ?_
        refine (AllReadyIn.cons (by simp only [List.getElem?_toArray, List.getElem?_cons_succ, List.getElem?_cons_zero]; rfl) (fun K hK => ?_) (AllReadyIn.cons (by simp only [List.getElem?_toArray, List.getElem?_cons_succ, List.getElem?_cons_zero]; rfl) (fun K hK => ?_) AllReadyIn.nil))
        · -- 0
          go_simp
          refine hK _ _ ?_
          clear hK K
          try simp only [Act.put, List.setIfInBounds_toArray, List.set_cons_zero, List.set_cons_succ]
          refine wpAnyIn_ready (rs := [2]) (by kernel_rfl) (by simp) ?_
          refine (AllReadyIn.cons (by simp only [List.getElem?_toArray, List.getElem?_cons_succ, List.getElem?_cons_zero]; rfl) (fun K hK => ?_) AllReadyIn.nil)
          rw [if_pos (by rfl)]
          refine opIn_call (fun _ => trivial) rfl 92 #[.slice (some ⟨g, 0, none⟩) x.length c] (by intro c h; cases h) (by simp [execOp, go_sem]) ?_
          refine (CallsIn.inRound l (callsIn_wide.2 (clone_is x _ W.drew ⟨g, c, rfl, HB.out.2.2.1⟩ (by have := HB.out.2.2.2.2.1; omega)))).mono ?_
          rintro e W2 ⟨g2, k2, rfl, hrow, hcl⟩
          have hcl : Below W.heap.size W W2 := ⟨hcl.os, hcl.tape, hcl.output, hcl.size, hcl.block⟩
          have hrow : W2.ownsRow W.heap.size 3 1 (.slice (some ⟨g2, 0, none⟩) x.length k2) x.length (nums x) := hrow
          have c4b : W2.cell? ⟨w1.heap.size, 0, none⟩ = some (.slice A pre.length cap) := (hcl.cell (p := ⟨w1.heap.size, 0, none⟩) HB.out.2.1.box.lt).trans c4
          have c4c : (W2.alloc (.cells #[.slice (some ⟨g2, 0, none⟩) x.length k2] 35)).cell? ⟨w1.heap.size, 0, none⟩ = some (.slice A pre.length cap) := by rw [World.cell?_alloc_old _ _ _ (show w1.heap.size ≠ W2.heap.size by have := HB.out.2.1.box.lt; have := hcl.size; omega)]; exact c4b
          refine ⟨_, rfl, ?_⟩
          refine hK _ _ ?_
          clear hK K
          try simp only [Act.put, List.setIfInBounds_toArray, List.set_cons_zero, List.set_cons_succ]
          refine wpAnyIn_ready (rs := [3]) (by kernel_rfl) (by simp) ?_
          refine (AllReadyIn.cons (by simp only [List.getElem?_toArray, List.getElem?_cons_succ, List.getElem?_cons_zero]; rfl) (fun K hK => ?_) AllReadyIn.nil)
          go_simp
          refine hK _ _ ?_
          clear hK K
          try simp only [Act.put, List.setIfInBounds_toArray, List.set_cons_zero, List.set_cons_succ]
          refine wpAnyIn_ready (rs := [4]) (by kernel_rfl) (by simp) ?_
          refine (AllReadyIn.cons (by simp only [List.getElem?_toArray, List.getElem?_cons_succ, List.getElem?_cons_zero]; rfl) (fun K hK => ?_) AllReadyIn.nil)
          rw [if_pos (by rfl)]
          refine opIn_append_blk (fun _ => trivial) _ (.tmp 18) (.tmp 21) 52 rfl w.heap.size 35 i0 (.slice none 0 0) 1 24 Tryd.underlying52 hi hz0 hz1 hz2 rfl (by decide) (.slice A pre.length cap) pre.length vs rfl ((owns_below HB.out.2.1.row hcl (Nat.le_refl _)).alloc _) ⟨W2.heap.size, 0, none⟩ 1 1 [.slice (some ⟨g2, 0, none⟩) x.length k2] rfl rfl (cell_one_new _ _ _) (by simp [Value.oneCell']) (by omega) (by unfold maxLen; have := HB.out.2.2.2.1; omega) (by have := HB.out.2.2.2.1; omega) (by have := HB.out.1.bel.size; have := hcl.size; simp; omega) ?_
          intro v' W3 hown hgr hblk
          have hbox3 : Boxed W3 w1.heap.size 52 (.slice A pre.length cap) := (show Boxed W2 _ _ _ from (hcl.block _ HB.out.2.1.box.lt).trans HB.out.2.1.box).alloc (.cells #[.slice (some ⟨g2, 0, none⟩) x.length k2] 35) |>.kept hgr (HB.out.2.1.box.not_row (by decide) HB.out.2.1.row)
          have c5 := hbox3.cell
          have f5 := hbox3.frozen
          obtain ⟨A9, cap9, rfl⟩ : ∃ A cap, v' = .slice A (pre.length + 1) cap := by
            rcases hown.2 with ⟨h, h0⟩ | ⟨g', cap', cur, h, _⟩
            · omega
            · exact ⟨_, _, h⟩
          refine hK _ _ ?_
          clear hK K
          try simp only [Act.put, List.setIfInBounds_toArray, List.set_cons_zero, List.set_cons_succ]
          refine wpAnyIn_ready (rs := [5]) (by kernel_rfl) (by simp) ?_
          refine (AllReadyIn.cons (by simp only [List.getElem?_toArray, List.getElem?_cons_succ, List.getElem?_cons_zero]; rfl) (fun K hK => ?_) AllReadyIn.nil)
          go_simp
          refine hK _ _ ?_
          clear hK K
          try simp only [Act.put, List.setIfInBounds_toArray, List.set_cons_zero, List.set_cons_succ]
          refine wpAnyIn_done (by kernel_rfl) ?_ _
          gi_wp2_with fail
          exact HB.out.1.next HB.out.2.1 h14 (by rw [hz5]; omega) HB.out.2.2.2.1 hcl hrow hown hgr hblk
        · -- 2
          rw [if_pos (by rfl)]
          refine opIn_call (fun _ => trivial) rfl 92 #[.slice (some ⟨g, 0, none⟩) x.length c] (by intro c h; cases h) (by simp [execOp, go_sem]) ?_
          refine (CallsIn.inRound l (callsIn_wide.2 (clone_is x _ W.drew ⟨g, c, rfl, HB.out.2.2.1⟩ (by have := HB.out.2.2.2.2.1; omega)))).mono ?_
          rintro e W2 ⟨g2, k2, rfl, hrow, hcl⟩
          have hcl : Below W.heap.size W W2 := ⟨hcl.os, hcl.tape, hcl.output, hcl.size, hcl.block⟩
          have hrow : W2.ownsRow W.heap.size 3 1 (.slice (some ⟨g2, 0, none⟩) x.length k2) x.length (nums x) := hrow
          have c4b : W2.cell? ⟨w1.heap.size, 0, none⟩ = some (.slice A pre.length cap) := (hcl.cell (p := ⟨w1.heap.size, 0, none⟩) HB.out.2.1.box.lt).trans c4
          have c4c : (W2.alloc (.cells #[.slice (some ⟨g2, 0, none⟩) x.length k2] 35)).cell? ⟨w1.heap.size, 0, none⟩ = some (.slice A pre.length cap) := by rw [World.cell?_alloc_old _ _ _ (show w1.heap.size ≠ W2.heap.size by have := HB.out.2.1.box.lt; have := hcl.size; omega)]; exact c4b
          refine ⟨_, rfl, ?_⟩
          refine hK _ _ ?_
          clear hK K
          try simp only [Act.put, List.setIfInBounds_toArray, List.set_cons_zero, List.set_cons_succ]
          refine wpAnyIn_ready (rs := [0, 3]) (by kernel_rfl) (by simp) ?_
          refine (AllReadyIn.cons (by simp only [List.getElem?_toArray, List.getElem?_cons_succ, List.getElem?_cons_zero]; rfl) (fun K hK => ?_) (AllReadyIn.cons (by simp only [List.getElem?_toArray, List.getElem?_cons_succ, List.getElem?_cons_zero]; rfl) (fun K hK => ?_) AllReadyIn.nil))
          · -- 0
            go_simp
            refine hK _ _ ?_
            clear hK K
            try simp only [Act.put, List.setIfInBounds_toArray, List.set_cons_zero, List.set_cons_succ]
            refine wpAnyIn_ready (rs := [3]) (by kernel_rfl) (by simp) ?_
            refine (AllReadyIn.cons (by simp only [List.getElem?_toArray, List.getElem?_cons_succ, List.getElem?_cons_zero]; rfl) (fun K hK => ?_) AllReadyIn.nil)
            go_simp
            refine hK _ _ ?_
            clear hK K
            try simp only [Act.put, List.setIfInBounds_toArray, List.set_cons_zero, List.set_cons_succ]
            refine wpAnyIn_ready (rs := [4]) (by kernel_rfl) (by simp) ?_
            refine (AllReadyIn.cons (by simp only [List.getElem?_toArray, List.getElem?_cons_succ, List.getElem?_cons_zero]; rfl) (fun K hK => ?_) AllReadyIn.nil)
            rw [if_pos (by rfl)]
            refine opIn_append_blk (fun _ => trivial) _ (.tmp 18) (.tmp 21) 52 rfl w.heap.size 35 i0 (.slice none 0 0) 1 24 Tryd.underlying52 hi hz0 hz1 hz2 rfl (by decide) (.slice A pre.length cap) pre.length vs rfl ((owns_below HB.out.2.1.row hcl (Nat.le_refl _)).alloc _) ⟨W2.heap.size, 0, none⟩ 1 1 [.slice (some ⟨g2, 0, none⟩) x.length k2] rfl rfl (cell_one_new _ _ _) (by simp [Value.oneCell']) (by omega) (by unfold maxLen; have := HB.out.2.2.2.1; omega) (by have := HB.out.2.2.2.1; omega) (by have := HB.out.1.bel.size; have := hcl.size; simp; omega) ?_
            intro v' W3 hown hgr hblk
            have hbox3 : Boxed W3 w1.heap.size 52 (.slice A pre.length cap) := (show Boxed W2 _ _ _ from (hcl.block _ HB.out.2.1.box.lt).trans HB.out.2.1.box).alloc (.cells #[.slice (some ⟨g2, 0, none⟩) x.length k2] 35) |>.kept hgr (HB.out.2.1.box.not_row (by decide) HB.out.2.1.row)
            have c5 := hbox3.cell
            have f5 := hbox3.frozen
            obtain ⟨A9, cap9, rfl⟩ : ∃ A cap, v' = .slice A (pre.length + 1) cap := by
              rcases hown.2 with ⟨h, h0⟩ | ⟨g', cap', cur, h, _⟩
              · omega
              · exact ⟨_, _, h⟩
            refine hK _ _ ?_
            clear hK K
            try simp only [Act.put, List.setIfInBounds_toArray, List.set_cons_zero, List.set_cons_succ]
            refine wpAnyIn_ready (rs := [5]) (by kernel_rfl) (by simp) ?_
            refine (AllReadyIn.cons (by simp only [List.getElem?_toArray, List.getElem?_cons_succ, List.getElem?_cons_zero]; rfl) (fun K hK => ?_) AllReadyIn.nil)
            go_simp
            refine hK _ _ ?_
            clear hK K
            try simp only [Act.put, List.setIfInBounds_toArray, List.set_cons_zero, List.set_cons_succ]
            refine wpAnyIn_done (by kernel_rfl) ?_ _
            gi_wp2_with fail
            exact HB.out.1.next HB.out.2.1 h14 (by rw [hz5]; omega) HB.out.2.2.2.1 hcl hrow hown hgr hblk
          · -- 3
            go_simp
            refine hK _ _ ?_
            clear hK K
            try simp only [Act.put, List.setIfInBounds_toArray, List.set_cons_zero, List.set_cons_succ]
            refine wpAnyIn_ready (rs := [0]) (by kernel_rfl) (by simp) ?_
            refine (AllReadyIn.cons (by simp only [List.getElem?_toArray, List.getElem?_cons_succ, List.getElem?_cons_zero]; rfl) (fun K hK => ?_) AllReadyIn.nil)
            go_simp
            refine hK _ _ ?_
            clear hK K
            try simp only [Act.put, List.setIfInBounds_toArray, List.set_cons_zero, List.set_cons_succ]
            refine wpAnyIn_ready (rs := [4]) (by kernel_rfl) (by simp) ?_
            refine (AllReadyIn.cons (by simp only [List.getElem?_toArray, List.getElem?_cons_succ, List.getElem?_cons_zero]; rfl) (fun K hK => ?_) AllReadyIn.nil)
            rw [if_pos (by rfl)]
            refine opIn_append_blk (fun _ => trivial) _ (.tmp 18) (.tmp 21) 52 rfl w.heap.size 35 i0 (.slice none 0 0) 1 24 Tryd.underlying52 hi hz0 hz1 hz2 rfl (by decide) (.slice A pre.length cap) pre.length vs rfl ((owns_below HB.out.2.1.row hcl (Nat.le_refl _)).alloc _) ⟨W2.heap.size, 0, none⟩ 1 1 [.slice (some ⟨g2, 0, none⟩) x.length k2] rfl rfl (cell_one_new _ _ _) (by simp [Value.oneCell']) (by omega) (by unfold maxLen; have := HB.out.2.2.2.1; omega) (by have := HB.out.2.2.2.1; omega) (by have := HB.out.1.bel.size; have := hcl.size; simp; omega) ?_
            intro v' W3 hown hgr hblk
            have hbox3 : Boxed W3 w1.heap.size 52 (.slice A pre.length cap) := (show Boxed W2 _ _ _ from (hcl.block _ HB.out.2.1.box.lt).trans HB.out.2.1.box).alloc (.cells #[.slice (some ⟨g2, 0, none⟩) x.length k2] 35) |>.kept hgr (HB.out.2.1.box.not_row (by decide) HB.out.2.1.row)
            have c5 := hbox3.cell
            have f5 := hbox3.frozen
            obtain ⟨A9, cap9, rfl⟩ : ∃ A cap, v' = .slice A (pre.length + 1) cap := by
              rcases hown.2 with ⟨h, h0⟩ | ⟨g', cap', cur, h, _⟩
              · omega
              · exact ⟨_, _, h⟩
            refine hK _ _ ?_
            clear hK K
            try simp only [Act.put, List.setIfInBounds_toArray, List.set_cons_zero, List.set_cons_succ]
            refine wpAnyIn_ready (rs := [5]) (by kernel_rfl) (by simp) ?_
            refine (AllReadyIn.cons (by simp only [List.getElem?_toArray, List.getElem?_cons_succ, List.getElem?_cons_zero]; rfl) (fun K hK => ?_) AllReadyIn.nil)
            go_simp
            refine hK _ _ ?_
            clear hK K
            try simp only [Act.put, List.setIfInBounds_toArray, List.set_cons_zero, List.set_cons_succ]
            refine wpAnyIn_done (by kernel_rfl) ?_ _
            gi_wp2_with fail
            exact HB.out.1.next HB.out.2.1 h14 (by rw [hz5]; omega) HB.out.2.2.2.1 hcl hrow hown hgr hblk
  case done =>
    rintro D fp W hD hin hDn hK
    obtain ⟨v, vs, hg⟩ := hin.gath
    have c4 := hg.box.cell
    have c2 := hin.res.cell
    have c3 := hin.err.cell
    have f2 := hin.res.frozen
    have f3 := hin.err.frozen
    have HB := Lib.hid (And.intro hin (And.intro hg hDn))
    clear hin hg hDn
    obtain ⟨A, cap, rfl⟩ : ∃ A cap, v = .slice A (Rl.ordL n f).length cap := by
      rcases HB.out.2.1.row.2 with ⟨h, h0⟩ | ⟨g', cap', cur, h, _⟩
      · exact ⟨none, 0, by rw [h, h0]⟩
      · exact ⟨_, _, h⟩
    gi_wp2
    have hbel := HB.out.1.bel
    have hle : (Rl.ordL n f).length ≤ most := HB.out.1.len
    have hw1 : ∀ b, b ≠ w.heap.size + 1 + 1 → b ≠ w.heap.size + 1 + 1 + 1 → ((W.setCell ⟨w.heap.size + 1 + 1, 0, none⟩ (.slice A (Rl.ordL n f).length cap)).setCell ⟨w.heap.size + 1 + 1 + 1, 0, none⟩ (.int .i64 0)).heap[b]? = W.heap[b]? := fun b h1 h2 =>
      (Below.heap_setCell _ _ _ _ h2).trans (Below.heap_setCell _ _ _ _ h1)
    have hK2 := (hw1 D (by rw [hz5] at hD; omega) (by rw [hz5] at hD; omega)).trans hK
    have r2 := ((HB.out.1.res.set (.slice A (Rl.ordL n f).length cap)).other (show w.heap.size + 2 ≠ w.heap.size + 1 + 1 + 1 by omega) (.int .i64 0)).cell
    have r3 := ((HB.out.1.err.other (show w.heap.size + 3 ≠ w.heap.size + 1 + 1 by omega) (.slice A (Rl.ordL n f).length cap)).set (.int .i64 0)).cell
    refine ⟨by simp, .inl ⟨_, _, rfl, run_takeDeferred hK2, ?_⟩⟩
    refine ⟨_, results_lists rfl _ _ (w.heap.size + 2) (w.heap.size + 3) A (Rl.ordL n f).length cap 0 rfl rfl (cell_kept r2 (grownBy_putObj' _ D (.deferred none)) (fun r e => by cases e; exact ⟨_, hK2, rfl⟩)) (cell_kept r3 (grownBy_putObj' _ D (.deferred none)) (fun r e => by cases e; exact ⟨_, hK2, rfl⟩)), ?_⟩
    have hO := HO.out.1
    have hE := HO.out.2.1
    rw [if_pos hle] at hO hE
    rw [hO, hE]
    refine ⟨_, rfl, HB.out.2.1.lists HB.out.1.new (by omega) (fun b hb hl => ?_), ?_⟩
    · have h1 := HB.out.1.new b hb
      have h2 : b ≠ D := fun e => HB.out.2.2 (by rw [← e]; exact hb)
      exact (World.putObj_heap_other h2).trans (hw1 b (by omega) (by omega))
    · exact ((hbel.setCell (p := ⟨w.heap.size + 1 + 1, 0, none⟩) (by show w.heap.size ≤ w.heap.size + 1 + 1; omega) _).setCell (p := ⟨w.heap.size + 1 + 1 + 1, 0, none⟩) (by show w.heap.size ≤ w.heap.size + 1 + 1 + 1; omega) _).grown (grownBy_putObj' _ D _) (by have := hbel.size; simp [World.setCell]; omega) (fun k e => by cases e; rw [hz5] at hD; omega)
  case stop =>
    rintro D c pre W hD hpre ⟨rfl, hx1, hx2, hx3, hx4⟩ hK
    have HB := Lib.hid (And.intro hx1 (And.intro hx2 (And.intro hx3 hx4)))
    clear hx1 hx2 hx3 hx4
    gi_wp2
    have r2 := HB.out.1.cell
    have r3 := HB.out.2.1.cell
    refine ⟨by simp, .inl ⟨_, _, rfl, run_takeDeferred hK, ?_⟩⟩
    refine ⟨_, results_lists rfl _ _ (w.heap.size + 2) (w.heap.size + 3) none 0 0 5 rfl rfl (cell_kept r2 (grownBy_putObj' _ D (.deferred none)) (fun r e => by cases e; exact ⟨_, hK, rfl⟩)) (cell_kept r3 (grownBy_putObj' _ D (.deferred none)) (fun r e => by cases e; exact ⟨_, hK, rfl⟩)), ?_⟩
    have hO := HO.out.1
    have hE := HO.out.2.1
    rw [if_neg (by have := HB.out.2.2.2; omega)] at hO hE
    rw [hO, hE]
    exact ⟨_, rfl, ⟨[], World.ownsRow_nil _ _ _ _, fun i x e => by simp at e⟩, HB.out.2.2.1.grown (grownBy_putObj' _ D _) HB.out.2.2.1.size (fun k e => by cases e; rw [hz5] at hD; omega)⟩
end Go.Proofs.YtknjdfgmejobfaaDoor
