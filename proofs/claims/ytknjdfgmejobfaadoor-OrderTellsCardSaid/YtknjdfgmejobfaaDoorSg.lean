/- package order: Orders of what is not valid; Count. -/
import Derived.Test.YtknjdfgmejobfaaDoorSf
namespace Go.Proofs.YtknjdfgmejobfaaDoor
open Go.RowKit Go.Shelf

attribute [local go_sem] Oper.semAt_some
attribute [local go_sem] Bv.and_u Bv.or_u Bv.andNot_u Bv.wrap_sub1 Bv.eq0 Bv.ne0 Bv.wrap_pow Bv.wrap_powmin Bv.wrap_neg Bv.eq_u Bv.ne_u

def validB (n : Int) (f : Rl.Rows) (most : Int) : Bool := decide (0 ≤ most ∧ most ≤ 10000) && Rl.rightB n f
/-- what Orders and Count answer -/
def ordersR (n : Int) (f : Rl.Rows) (most : Int) : List (List Nat) := if validB n f most && decide (((Rl.ordL n.toNat f).length : Int) ≤ most) then Rl.ordL n.toNat f else []
def ordersE (n : Int) (f : Rl.Rows) (most : Int) : Int := if validB n f most then (if ((Rl.ordL n.toNat f).length : Int) ≤ most then 0 else 5) else 2
theorem lists_nil (base : Nat) (W : World) : ListsV base [] (.slice none 0 0) W := ⟨[], World.ownsRow_nil _ _ _ _, fun i x e => by simp at e⟩
set_option maxRecDepth 100000 in
set_option maxHeartbeats 1000000 in
theorem orders_no (n : Int) (f : Rl.Rows) (most : Int) (hv : validB n f most = false) (w : World) :
    Calls Tryd.prog 46 #[.agg (relC n f), .int .i64 most] w (OrdersOut [] 2 w) := by
  have b0 := RelAt.new w n f
  have b1 := Boxed.new (w.alloc (.cells (relC n f) 26)) 3 (.int .i64 most)
  have b2 := Boxed.new ((w.alloc (.cells (relC n f) 26)).alloc (.cells #[.int .i64 most] 3)) 52 (.slice none 0 0)
  have b3 := Boxed.new (((w.alloc (.cells (relC n f) 26)).alloc (.cells #[.int .i64 most] 3)).alloc (.cells #[.slice none 0 0] 52)) 28 (.int .i64 0)
  simp only [World.size_alloc, Nat.add_assoc, Nat.reduceAdd] at b1 b2 b3
  have bb : Below w.heap.size w ((((w.alloc (.cells (relC n f) 26)).alloc (.cells #[.int .i64 most] 3)).alloc (.cells #[.slice none 0 0] 52)).alloc (.cells #[.int .i64 0] 28)) := ((((Below.refl _ w).alloc (Nat.le_refl _) _).alloc (by simp) _).alloc (by simp; omega) _).alloc (by simp; omega) _
  have H := Lib.hid (And.intro (((b0.alloc (.cells #[.int .i64 most] 3)).alloc (.cells #[.slice none 0 0] 52)).alloc (.cells #[.int .i64 0] 28)) (And.intro (b2.alloc (.cells #[.int .i64 0] 28)) (And.intro b3 (And.intro bb hv))))
  clear b0 b1 b2 b3 bb hv
  refine (callsIn_wide (n := 9)).1 ?_
  refine callsIn_of_wp_marks Tryd.func46 rfl trivial ?_ rfl
  simp only [Tryd.ntmps46, List.size_toArray, List.length_cons, List.length_nil, Nat.reduceAdd, Nat.reduceSub, Array.replicate_succ, Array.replicate_zero, List.push_toArray, List.append_toArray, List.nil_append, List.cons_append]
  gi_wp2_with fail
  generalize (((w.alloc (.cells (relC n f) 26)).alloc (.cells #[.int .i64 most] 3)).alloc (.cells #[.slice none 0 0] 52)).alloc (.cells #[.int .i64 0] 28) = W0 at H ⊢
  refine ⟨trivial, ?_⟩
  refine (callsIn_wide.2 (valid_is w.heap.size n f most false H.out.2.2.2.2 _ H.out.1)).mono ?_
  rintro e w1 ⟨rfl, hb⟩
  have hb2 : Boxed w1 (w.heap.size + 2) 52 (.slice none 0 0) := (hb.block _ H.out.2.1.lt).trans H.out.2.1
  have hb3 : Boxed w1 (w.heap.size + 3) 28 (.int .i64 0) := (hb.block _ H.out.2.2.1.lt).trans H.out.2.2.1
  have c2 := hb2.cell
  have c3 := hb3.cell
  have f2 := hb2.frozen
  have f3 := hb3.frozen
  have H1 := Lib.hid (And.intro hb2 (And.intro hb3 (H.out.2.2.2.1.trans (hb.mono H.out.2.2.2.1.size))))
  clear hb hb2 hb3
  gi_wp2_with fail
  have r2 := ((H1.out.1.set (.slice none 0 0)).other (show w.heap.size + 2 ≠ w.heap.size + 1 + 1 + 1 by omega) (.int .i64 2)).cell
  have r3 := ((H1.out.2.1.other (show w.heap.size + 3 ≠ w.heap.size + 1 + 1 by omega) (.slice none 0 0)).set (.int .i64 2)).cell
  refine ⟨_, results_lists rfl _ _ (w.heap.size + 2) (w.heap.size + 3) none 0 0 2 rfl rfl r2 r3, ?_⟩
  exact ⟨_, rfl, lists_nil _ _, (H1.out.2.2.setCell (p := ⟨w.heap.size + 1 + 1, 0, none⟩) (by show w.heap.size ≤ w.heap.size + 1 + 1; omega) _).setCell (p := ⟨w.heap.size + 1 + 1 + 1, 0, none⟩) (by show w.heap.size ≤ w.heap.size + 1 + 1 + 1; omega) _⟩
theorem orders_any (n : Int) (f : Rl.Rows) (most : Int) (w : World) (zf : Rl.Z f) (hT : Tab w) (hw : 0 < w.heap.size) :
    Calls Tryd.prog 46 #[.agg (relC n f), .int .i64 most] w (OrdersOut (ordersR n f most) (ordersE n f most) w) := by
  unfold ordersR ordersE
  cases h : validB n f most
  · exact orders_no n f most h w
  · have h2 := h
    unfold validB at h2
    rw [Bool.and_eq_true, decide_eq_true_eq] at h2
    obtain ⟨m, rfl, hm⟩ := Rl.right_nat zf h2.2
    obtain ⟨k, rfl⟩ : ∃ k : Nat, most = (k : Int) := ⟨most.toNat, by omega⟩
    have h3 := orders_yes m f k (by omega) w hm hT hw
    rw [Int.toNat_natCast, if_pos rfl]
    by_cases hle : (Rl.ordL m f).length ≤ k
    · rw [if_pos hle, if_pos hle] at h3
      rw [if_pos (by simp; omega), if_pos (by omega)]; exact h3
    · rw [if_neg hle, if_neg hle] at h3
      rw [if_neg (by simp; omega), if_neg (by omega)]; exact h3

/-! ### Count -/
def CountOut (k err : Int) (w : World) (e : Ending) (w' : World) : Prop := e = .returned (.tuple #[.int .i64 k, .int .i64 err]) ∧ Below w.heap.size w w'
theorem results_ints {fn : Func} {p q : Tmp} (h : fn.results = #[.cell p 3, .cell q 28]) (tmps : Array Value) (w : World) (b c : Nat) (k e : Int)
    (hp : tmps.getD p undef = .pointer (some ⟨b, 0, none⟩)) (hq : tmps.getD q undef = .pointer (some ⟨c, 0, none⟩)) (hb : w.cell? ⟨b, 0, none⟩ = some (.int .i64 k)) (hc : w.cell? ⟨c, 0, none⟩ = some (.int .i64 e)) :
    (results fn tmps).run Tryd.prog w = .ok (.tuple #[.int .i64 k, .int .i64 e]) w := by
  have hp' : tmps[p]?.getD undef = .pointer (some ⟨b, 0, none⟩) := by simpa using hp
  have hq' : tmps[q]?.getD undef = .pointer (some ⟨c, 0, none⟩) := by simpa using hq
  simp [results, h, hp', hq', asAddr, go_sem, hb, hc]
structure CntI (w : World) (b4 most : Nat) (pre : List (List Nat)) (fp : List Nat) (W : World) : Prop where
  most_ : Boxed W (w.heap.size + 1) 3 (.int .i64 most)
  res : Boxed W (w.heap.size + 2) 3 (.int .i64 0)
  err : Boxed W (w.heap.size + 3) 28 (.int .i64 0)
  cnt : Boxed W b4 3 (.int .i64 pre.length)
  bel : Below w.heap.size w W
  none : fp = []
  len : pre.length ≤ most
def CntX (w : World) (L most : Nat) (c : Code) (_pre : List (List Nat)) (W : World) : Prop :=
  c = .ret ∧ Boxed W (w.heap.size + 2) 3 (.int .i64 0) ∧ Boxed W (w.heap.size + 3) 28 (.int .i64 5) ∧ Below w.heap.size w W ∧ most < L
theorem CntI.steps {w : World} {b4 most B : Nat} {pre : List (List Nat)} {fp : List Nat} {W W' : World} (h : CntI w b4 most pre fp W) (h4 : w.heap.size + 4 ≤ b4) (hB : b4 < B) (hst : Rg.Steps B fp W W') : CntI w b4 most pre fp W' := by
  have key : ∀ {b : Nat} {t : TypeId} {v : Value}, b < B → Boxed W b t v → Boxed W' b t v := fun hb h => (hst.block _ h.lt (.inl hb)).trans h
  exact ⟨key (by omega) h.most_, key (by omega) h.res, key (by omega) h.err, key hB h.cnt,
    ⟨hst.os.trans h.bel.os, hst.tape.trans h.bel.tape, hst.output.trans h.bel.output, Nat.le_trans h.bel.size hst.size, fun k hk => (hst.block k (Nat.lt_of_lt_of_le hk h.bel.size) (.inl (by omega))).trans (h.bel.block k hk)⟩, h.none, h.len⟩
theorem CntX.put {w : World} {L most l : Nat} {c : Code} {pre : List (List Nat)} {W : World} {o o' : Obj} (h : CntX w L most c pre W) (hl : w.heap.size + 4 ≤ l) (_ : W.heap[l]? = some o) : CntX w L most c pre (W.putObj l o') :=
  ⟨h.1, (World.putObj_heap_other (by omega)).trans h.2.1, (World.putObj_heap_other (by omega)).trans h.2.2.1, h.2.2.2.1.grown (grownBy_putObj' W l o') h.2.2.2.1.size (fun k e => by cases e; omega), h.2.2.2.2⟩
set_option maxRecDepth 100000 in
set_option maxHeartbeats 1000000 in
theorem count_no (n : Int) (f : Rl.Rows) (most : Int) (hv : validB n f most = false) (w : World) :
    Calls Tryd.prog 48 #[.agg (relC n f), .int .i64 most] w (CountOut 0 2 w) := by
  have b0 := RelAt.new w n f
  have b1 := Boxed.new (w.alloc (.cells (relC n f) 26)) 3 (.int .i64 most)
  have b2 := Boxed.new ((w.alloc (.cells (relC n f) 26)).alloc (.cells #[.int .i64 most] 3)) 3 (.int .i64 0)
  have b3 := Boxed.new (((w.alloc (.cells (relC n f) 26)).alloc (.cells #[.int .i64 most] 3)).alloc (.cells #[.int .i64 0] 3)) 28 (.int .i64 0)
  simp only [World.size_alloc, Nat.add_assoc, Nat.reduceAdd] at b1 b2 b3
  have bb : Below w.heap.size w ((((w.alloc (.cells (relC n f) 26)).alloc (.cells #[.int .i64 most] 3)).alloc (.cells #[.int .i64 0] 3)).alloc (.cells #[.int .i64 0] 28)) := ((((Below.refl _ w).alloc (Nat.le_refl _) _).alloc (by simp) _).alloc (by simp; omega) _).alloc (by simp; omega) _
  have H := Lib.hid (And.intro (((b0.alloc (.cells #[.int .i64 most] 3)).alloc (.cells #[.int .i64 0] 3)).alloc (.cells #[.int .i64 0] 28)) (And.intro (b2.alloc (.cells #[.int .i64 0] 28)) (And.intro b3 (And.intro bb hv))))
  clear b0 b1 b2 b3 bb hv
  refine (callsIn_wide (n := 9)).1 ?_
  refine callsIn_of_wp_marks Tryd.func48 rfl trivial ?_ rfl
  simp only [Tryd.ntmps48, List.size_toArray, List.length_cons, List.length_nil, Nat.reduceAdd, Nat.reduceSub, Array.replicate_succ, Array.replicate_zero, List.push_toArray, List.append_toArray, List.nil_append, List.cons_append]
  gi_wp2_with fail
  generalize (((w.alloc (.cells (relC n f) 26)).alloc (.cells #[.int .i64 most] 3)).alloc (.cells #[.int .i64 0] 3)).alloc (.cells #[.int .i64 0] 28) = W0 at H ⊢
  refine ⟨trivial, ?_⟩
  refine (callsIn_wide.2 (valid_is w.heap.size n f most false H.out.2.2.2.2 _ H.out.1)).mono ?_
  rintro e w1 ⟨rfl, hb⟩
  have hb2 : Boxed w1 (w.heap.size + 2) 3 (.int .i64 0) := (hb.block _ H.out.2.1.lt).trans H.out.2.1
  have hb3 : Boxed w1 (w.heap.size + 3) 28 (.int .i64 0) := (hb.block _ H.out.2.2.1.lt).trans H.out.2.2.1
  have c2 := hb2.cell
  have c3 := hb3.cell
  have f2 := hb2.frozen
  have f3 := hb3.frozen
  have H1 := Lib.hid (And.intro hb2 (And.intro hb3 (H.out.2.2.2.1.trans (hb.mono H.out.2.2.2.1.size))))
  clear hb hb2 hb3
  gi_wp2_with fail
  have r2 := ((H1.out.1.set (.int .i64 0)).other (show w.heap.size + 2 ≠ w.heap.size + 1 + 1 + 1 by omega) (.int .i64 2)).cell
  have r3 := ((H1.out.2.1.other (show w.heap.size + 3 ≠ w.heap.size + 1 + 1 by omega) (.int .i64 0)).set (.int .i64 2)).cell
  refine ⟨_, results_ints rfl _ _ (w.heap.size + 2) (w.heap.size + 3) 0 2 rfl rfl r2 r3, ?_⟩
  exact ⟨rfl, (H1.out.2.2.setCell (p := ⟨w.heap.size + 1 + 1, 0, none⟩) (by show w.heap.size ≤ w.heap.size + 1 + 1; omega) _).setCell (p := ⟨w.heap.size + 1 + 1 + 1, 0, none⟩) (by show w.heap.size ≤ w.heap.size + 1 + 1 + 1; omega) _⟩
set_option maxRecDepth 100000 in
set_option maxHeartbeats 4000000 in
theorem count_yes (n : Nat) (f : Rl.Rows) (most : Nat) (hmost : most ≤ 10000) (w : World) (hf : Rl.Ok n f) (hT : Tab w) (hw : 0 < w.heap.size) :
    Calls Tryd.prog 48 #[.agg (relC n f), .int .i64 most] w (CountOut (if (Rl.ordL n f).length ≤ most then (Rl.ordL n f).length else 0) (if (Rl.ordL n f).length ≤ most then 0 else 5) w) := by
  obtain ⟨O, hO⟩ : ∃ O : Int, O = (if (Rl.ordL n f).length ≤ most then ((Rl.ordL n f).length : Int) else 0) := ⟨_, rfl⟩
  obtain ⟨E, hE⟩ : ∃ E : Int, E = (if (Rl.ordL n f).length ≤ most then 0 else 5) := ⟨_, rfl⟩
  rw [← hO, ← hE]
  have HO := Lib.hid (And.intro hO (And.intro hE (And.intro hT hw)))
  clear hO hE hT hw
  have hV : ∀ W0, W0 = (((w.alloc (.cells (relC n f) 26)).alloc (.cells #[.int .i64 most] 3)).alloc (.cells #[.int .i64 0] 3)).alloc (.cells #[.int .i64 0] 28) →
      RelAt W0 w.heap.size n f ∧ Boxed W0 (w.heap.size + 1) 3 (.int .i64 most) ∧ Boxed W0 (w.heap.size + 2) 3 (.int .i64 0) ∧ Boxed W0 (w.heap.size + 3) 28 (.int .i64 0) ∧ Below w.heap.size w W0 ∧ W0.heap.size = w.heap.size + 4 := by
    rintro W0 rfl
    have b1 := Boxed.new (w.alloc (.cells (relC n f) 26)) 3 (.int .i64 most)
    have b2 := Boxed.new ((w.alloc (.cells (relC n f) 26)).alloc (.cells #[.int .i64 most] 3)) 3 (.int .i64 0)
    have b3 := Boxed.new (((w.alloc (.cells (relC n f) 26)).alloc (.cells #[.int .i64 most] 3)).alloc (.cells #[.int .i64 0] 3)) 28 (.int .i64 0)
    simp only [World.size_alloc, Nat.add_assoc, Nat.reduceAdd] at b1 b2 b3
    exact ⟨(((RelAt.new w n f).alloc _).alloc _).alloc _, (b1.alloc _).alloc _, b2.alloc _, b3, ((((Below.refl _ w).alloc (Nat.le_refl _) _).alloc (by simp) _).alloc (by simp; omega) _).alloc (by simp; omega) _, by simp⟩
  refine (callsIn_wide (n := 9)).1 ?_
  refine callsIn_of_wp_marks Tryd.func48 rfl trivial ?_ rfl
  simp only [Tryd.ntmps48, List.size_toArray, List.length_cons, List.length_nil, Nat.reduceAdd, Nat.reduceSub, Array.replicate_succ, Array.replicate_zero, List.push_toArray, List.append_toArray, List.nil_append, List.cons_append]
  gi_wp2_with fail
  generalize hW0 : (((w.alloc (.cells (relC n f) 26)).alloc (.cells #[.int .i64 most] 3)).alloc (.cells #[.int .i64 0] 3)).alloc (.cells #[.int .i64 0] 28) = W0
  obtain ⟨hR, hB1, hB2, hB3, hbw, hsz⟩ := hV W0 hW0.symm
  have hval : (decide ((0 : Int) ≤ (most : Int) ∧ (most : Int) ≤ 10000) && Rl.rightB n f) = true := by rw [Rl.right_of hf, decide_eq_true ⟨by omega, by omega⟩]; rfl
  refine ⟨trivial, ?_⟩
  refine (callsIn_wide.2 (valid_is w.heap.size n f most true hval _ hR)).mono ?_
  rintro e w1 ⟨rfl, hb⟩
  have H1 := Lib.hid (And.intro (hR.below hb hR.lt) (And.intro (show Boxed w1 _ _ _ from (hb.block _ hB1.lt).trans hB1) (And.intro (show Boxed w1 _ _ _ from (hb.block _ hB2.lt).trans hB2) (And.intro (show Boxed w1 _ _ _ from (hb.block _ hB3.lt).trans hB3) (And.intro (hbw.trans (hb.mono hbw.size)) (show w.heap.size + 4 ≤ w1.heap.size by have := hb.size; omega))))))
  clear hV hR hB1 hB2 hB3 hbw hsz hb hval hW0
  gi_wp2_with (refine wpListIn_load_rel (by rfl) (.tmp 2) (by rfl) w.heap.size n f (by rfl) (H1.out.1.alloc _) ?_)
  refine ⟨trivial, ?_⟩
  refine (callsIn_wide.2 (all_fn n f _)).mono ?_
  rintro e w2 ⟨rfl, rfl⟩
  gi_wp2_with fail
  have hRb : RelAt ((w1.alloc (.cells #[.int .i64 0] 3)).alloc (.cells (relC n f) 26)) (w1.heap.size + 1) n f := by
    have := RelAt.new (w1.alloc (.cells #[.int .i64 0] 3)) n f
    simpa using this
  have hz5 : ((w1.alloc (.cells #[.int .i64 0] 3)).alloc (.cells (relC n f) 26)).heap.size = w1.heap.size + 2 := by simp
  have hb5 : Below w1.heap.size w1 ((w1.alloc (.cells #[.int .i64 0] 3)).alloc (.cells (relC n f) 26)) := ((Below.refl _ w1).alloc (Nat.le_refl _) _).alloc (by simp) _
  have hI0 : CntI w w1.heap.size most [] [] ((w1.alloc (.cells #[.int .i64 0] 3)).alloc (.cells (relC n f) 26)) :=
    ⟨(H1.out.2.1.alloc _).alloc _, (H1.out.2.2.1.alloc _).alloc _, (H1.out.2.2.2.1.alloc _).alloc _, (Boxed.new w1 3 (.int .i64 0)).alloc _, H1.out.2.2.2.2.1.trans (hb5.mono H1.out.2.2.2.2.1.size), rfl, Nat.zero_le _⟩
  have HK := Lib.hid (And.intro hRb (And.intro hI0 (And.intro hf hmost)))
  have h14 := H1.out.2.2.2.2.2
  clear hRb hI0 hb5 hmost
  refine Rg.wpIn_rangeFunc_fp (n := 9) rfl (by omega) (gf := 100) (lb := #[.pointer (some ⟨w1.heap.size + 1, 0, none⟩)]) rfl trivial (enters_of Tryd.func100 (by kernel_rfl) rfl)
    (all1_gives n f HK.out.2.2.1 (w1.heap.size + 1) _ HK.out.1 8) (Below.refl _ _) rfl (fun x v W l o o' h1 h2 h3 => listV_put W l o o' h1 h2 h3)
    (CntI w w1.heap.size most) (CntX w (Rl.ordL n f).length most) (fun pre fp W h => ⟨HO.out.2.2.1.below h.bel HO.out.2.2.2, Nat.lt_of_lt_of_le HO.out.2.2.2 h.bel.size⟩)
    (fun pre fp W W' h hs => h.steps h14 (by rw [hz5]; omega) hs) (fun c pre W l o o' h1 h2 _ h4 => h4.put (by rw [hz5] at h1; omega) h2) [] (fun b hb => by cases hb) HK.out.2.1
    (fun v => { tmps := #[.agg (relC n f), .int .i64 most, .pointer (some ⟨w.heap.size, 0, none⟩), .pointer (some ⟨w.heap.size + 1, 0, none⟩), .pointer (some ⟨w.heap.size + 1 + 1, 0, none⟩), .pointer (some ⟨w.heap.size + 1 + 1 + 1, 0, none⟩), .pointer (some ⟨w1.heap.size, 0, none⟩), .int .i64 most, .bool true, .bool false, .agg (relC n f), .func (.func 100) #[] #[.pointer (some ⟨w1.heap.size + 1, 0, none⟩)], v, undef, undef, undef, undef, undef, undef], defers := [] }) ?assign ?body ?done ?stop
  case assign =>
    intro l v W K hK
    gi_wp2
    simpa using hK
  case body =>
    rintro l pre fp x v W hin hpre hA hsz hfp
    have c4 := hin.cnt.cell
    have f4 := hin.cnt.frozen
    have c1 := hin.most_.cell
    by_cases hml : pre.length = most
    · have d0 : ((pre.length : Int) == (most : Int)) = true := by rw [hml]; exact beq_self_eq_true _
      have d1 : (pre.length == most) = true := by rw [hml]; exact beq_self_eq_true _
      have c2 := hin.res.cell
      have c3 := hin.err.cell
      have f2 := hin.res.frozen
      have f3 := hin.err.frozen
      have hlen : most < (Rl.ordL n f).length := by
        have := hpre.length_le; simp at this; omega
      have HB := Lib.hid (And.intro hin (And.intro hlen hsz))
      clear hin hA hpre hfp hml hlen hsz
      gi_wp2
      have hbel := HB.out.1.bel
      refine ⟨fp, ⟨rfl, (HB.out.1.res.set (.int .i64 0)).other (by omega) _, (HB.out.1.err.other (by omega) _).set _, (hbel.setCell (p := ⟨w.heap.size + 1 + 1, 0, none⟩) (by show w.heap.size ≤ w.heap.size + 1 + 1; omega) _).setCell (p := ⟨w.heap.size + 1 + 1 + 1, 0, none⟩) (by show w.heap.size ≤ w.heap.size + 1 + 1 + 1; omega) _, HB.out.2.1⟩, ⟨by simp [World.setCell], fun b hb => .inl hb, fun b h1 h2 h3 => ?_⟩⟩
      rw [hz5] at h1
      exact (Below.heap_setCell _ _ _ _ (by show b ≠ w.heap.size + 1 + 1 + 1; omega)).trans (Below.heap_setCell _ _ _ _ (by show b ≠ w.heap.size + 1 + 1; omega))
    · have d0 : ((pre.length : Int) == (most : Int)) = false := by simp; omega
      have d1 : (pre.length == most) = false := by simp; omega
      have hlt : pre.length < most := by have := hin.len; omega
      have hwr : wrap64 ((pre.length : Int) + 1) = ((pre.length + 1 : Nat) : Int) := by have := HK.out.2.2.2; unfold wrap64; omega
      have HB := Lib.hid (And.intro hin (And.intro hlt hsz))
      clear hin hA hpre hfp hml hlt hsz
      gi_wp2
      have hin := HB.out.1
      refine ⟨fp, ⟨hin.most_.other (by omega) _, hin.res.other (by omega) _, hin.err.other (by omega) _, by rw [List.length_append]; exact hin.cnt.set _, hin.bel.setCell (p := ⟨w1.heap.size, 0, none⟩) (by show w.heap.size ≤ w1.heap.size; omega) _, hin.none, by rw [List.length_append]; have := HB.out.2.1; simp; omega⟩, ⟨by simp [World.setCell], fun b hb => .inl hb, fun b h1 h2 h3 => ?_⟩⟩
      rw [hz5] at h1
      exact Below.heap_setCell _ _ _ _ (by show b ≠ w1.heap.size; omega)
  case done =>
    rintro D fp W hD hin hDn hK
    have c4 := hin.cnt.cell
    have c2 := hin.res.cell
    have c3 := hin.err.cell
    have f2 := hin.res.frozen
    have f3 := hin.err.frozen
    have HB := Lib.hid (And.intro hin hDn)
    clear hin hDn
    gi_wp2
    have hbel := HB.out.1.bel
    have hle : (Rl.ordL n f).length ≤ most := HB.out.1.len
    have hw1 : ∀ b, b ≠ w.heap.size + 1 + 1 → b ≠ w.heap.size + 1 + 1 + 1 → ((W.setCell ⟨w.heap.size + 1 + 1, 0, none⟩ (.int .i64 (Rl.ordL n f).length)).setCell ⟨w.heap.size + 1 + 1 + 1, 0, none⟩ (.int .i64 0)).heap[b]? = W.heap[b]? := fun b h1 h2 =>
      (Below.heap_setCell _ _ _ _ h2).trans (Below.heap_setCell _ _ _ _ h1)
    have hK2 := (hw1 D (by rw [hz5] at hD; omega) (by rw [hz5] at hD; omega)).trans hK
    have r2 := ((HB.out.1.res.set (.int .i64 (Rl.ordL n f).length)).other (show w.heap.size + 2 ≠ w.heap.size + 1 + 1 + 1 by omega) (.int .i64 0)).cell
    have r3 := ((HB.out.1.err.other (show w.heap.size + 3 ≠ w.heap.size + 1 + 1 by omega) (.int .i64 (Rl.ordL n f).length)).set (.int .i64 0)).cell
    refine ⟨by simp, .inl ⟨_, _, rfl, run_takeDeferred hK2, ?_⟩⟩
    refine ⟨_, results_ints rfl _ _ (w.heap.size + 2) (w.heap.size + 3) (Rl.ordL n f).length 0 rfl rfl (cell_kept r2 (grownBy_putObj' _ D (.deferred none)) (fun r e => by cases e; exact ⟨_, hK2, rfl⟩)) (cell_kept r3 (grownBy_putObj' _ D (.deferred none)) (fun r e => by cases e; exact ⟨_, hK2, rfl⟩)), ?_⟩
    have hO := HO.out.1
    have hE := HO.out.2.1
    rw [if_pos hle] at hO hE
    rw [hO, hE]
    exact ⟨rfl, ((hbel.setCell (p := ⟨w.heap.size + 1 + 1, 0, none⟩) (by show w.heap.size ≤ w.heap.size + 1 + 1; omega) _).setCell (p := ⟨w.heap.size + 1 + 1 + 1, 0, none⟩) (by show w.heap.size ≤ w.heap.size + 1 + 1 + 1; omega) _).grown (grownBy_putObj' _ D _) (by have := hbel.size; simp [World.setCell]; omega) (fun k e => by cases e; rw [hz5] at hD; omega)⟩
  case stop =>
    rintro D c pre W hD hpre ⟨rfl, hx1, hx2, hx3, hx4⟩ hK
    have HB := Lib.hid (And.intro hx1 (And.intro hx2 (And.intro hx3 hx4)))
    clear hx1 hx2 hx3 hx4
    gi_wp2
    have r2 := HB.out.1.cell
    have r3 := HB.out.2.1.cell
    refine ⟨by simp, .inl ⟨_, _, rfl, run_takeDeferred hK, ?_⟩⟩
    refine ⟨_, results_ints rfl _ _ (w.heap.size + 2) (w.heap.size + 3) 0 5 rfl rfl (cell_kept r2 (grownBy_putObj' _ D (.deferred none)) (fun r e => by cases e; exact ⟨_, hK, rfl⟩)) (cell_kept r3 (grownBy_putObj' _ D (.deferred none)) (fun r e => by cases e; exact ⟨_, hK, rfl⟩)), ?_⟩
    have hO := HO.out.1
    have hE := HO.out.2.1
    rw [if_neg (by have := HB.out.2.2.2; omega)] at hO hE
    rw [hO, hE]
    exact ⟨rfl, HB.out.2.2.1.grown (grownBy_putObj' _ D _) HB.out.2.2.1.size (fun k e => by cases e; rw [hz5] at hD; omega)⟩
/-- what Count answers -/
def countR (n : Int) (f : Rl.Rows) (most : Int) : Int := if validB n f most && decide (((Rl.ordL n.toNat f).length : Int) ≤ most) then (Rl.ordL n.toNat f).length else 0
theorem count_any (n : Int) (f : Rl.Rows) (most : Int) (w : World) (zf : Rl.Z f) (hT : Tab w) (hw : 0 < w.heap.size) :
    Calls Tryd.prog 48 #[.agg (relC n f), .int .i64 most] w (CountOut (countR n f most) (ordersE n f most) w) := by
  unfold countR ordersE
  cases h : validB n f most
  · exact count_no n f most h w
  · have h2 := h
    unfold validB at h2
    rw [Bool.and_eq_true, decide_eq_true_eq] at h2
    obtain ⟨m, rfl, hm⟩ := Rl.right_nat zf h2.2
    obtain ⟨k, rfl⟩ : ∃ k : Nat, most = (k : Int) := ⟨most.toNat, by omega⟩
    have h3 := count_yes m f k (by omega) w hm hT hw
    rw [Int.toNat_natCast, if_pos rfl]
    by_cases hle : (Rl.ordL m f).length ≤ k
    · rw [if_pos hle, if_pos hle] at h3
      rw [if_pos (by simp; omega), if_pos (by omega)]; exact h3
    · rw [if_neg hle, if_neg hle] at h3
      rw [if_neg (by simp; omega), if_neg (by omega)]; exact h3
end Go.Proofs.YtknjdfgmejobfaaDoor
