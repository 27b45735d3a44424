/- package rel: free, Top, Acyclic. -/
import Derived.Test.YtknjdfgmejobfaaDoorNn
import Derived.OwnWalk
import Derived.Deep.AppendLies
namespace Go.Proofs.YtknjdfgmejobfaaDoor
open Go.RowKit Go.Shelf

attribute [local go_sem] Bv.and_u Bv.or_u Bv.andNot_u Bv.wrap_sub1 Bv.eq0 Bv.ne0 Bv.wrap_pow Bv.wrap_powmin Bv.wrap_neg Bv.eq_u Bv.ne_u Bv.shr_min Bv.shr_pow Bv.tmod2 Bv.and1 Bv.wrap_add Bv.B1_eq1 Bv.B1_eq0 Bv.B1_ne1 Bv.B1_ne0

theorem owns_below {k : Nat} {w w' : World} {base n : Nat} {e : TypeId} {size : Nat} {v : Value} {xs : List Value} (h : w.ownsRow base e size v n xs) (hb : Below k w w') (hk : w.heap.size ≤ k) : w'.ownsRow base e size v n xs :=
  ⟨h.1, h.2.imp id fun ⟨g, cap, cur, h1, h2, h3, h4⟩ => ⟨g, cap, cur, h1, h2, (hb.block g (Nat.lt_of_lt_of_le (Array.getElem?_eq_some_iff.1 h3).1 hk)).trans h3, h4⟩⟩
/-- the item that free gives, or 0; is there one? -/
def freeI (f : Rl.Rows) (s : BitVec 64) : Int := match Rl.freeN f s with
  | some a => (a : Int)
  | none => 0
def freeB (f : Rl.Rows) (s : BitVec 64) : Bool := (Rl.freeN f s).isSome
def freeP (f : Rl.Rows) (s t : BitVec 64) : Option Nat := (Bs.elems t).find? fun a => f a &&& s == 0#64
theorem freeP_zero (f : Rl.Rows) (s : BitVec 64) : freeP f s 0#64 = none := by unfold freeP; rw [show Bs.elems 0#64 = [] from Bs.elems_zero]; rfl
theorem freeP_hit {f : Rl.Rows} {s t : BitVec 64} (ht : t ≠ 0#64) (h : (f (Bs.low t) &&& s == 0#64) = true) : freeP f s t = some (Bs.low t) := by unfold freeP; rw [Bs.elems_step ht, List.find?_cons, h]
theorem freeP_miss {f : Rl.Rows} {s t : BitVec 64} (ht : t ≠ 0#64) (h : (f (Bs.low t) &&& s == 0#64) = false) : freeP f s t = freeP f s (Bs.rest t) := by unfold freeP; rw [Bs.elems_step ht, List.find?_cons, h]

set_option maxRecDepth 100000 in
set_option maxHeartbeats 1000000 in
theorem free_any (b : Nat) (n : Int) (f : Rl.Rows) (s : BitVec 64) (w : World) (hR : RelAt w b n f) (hs : ∀ i, s.getLsbD i = true → i < 48) (hT : Tab w) (hw : 0 < w.heap.size) :
    Calls Tryd.prog 82 #[.pointer (some ⟨b, 0, none⟩), .int .u64 (Bv.U s)] w fun e w' => e = .returned (.tuple #[.int .i64 (freeI f s), .bool (freeB f s)]) ∧ Below w.heap.size w w' := by
  have hTl : ∀ W, Below w.heap.size w W → Tab W ∧ 0 < W.heap.size := fun W h => ⟨hT.below h hw, Nat.lt_of_lt_of_le hw h.size⟩
  have HT := Lib.hid hTl
  have H0 := Lib.hid (And.intro hR hs)
  have HTw := Lib.hid hT
  clear hTl hT hR hs
  go_enter Tryd.func82, Tryd.ntmps82
  go_wp2_with fail
  refine (first_any _ _ HTw.out hw).mono ?_
  rintro e w1 ⟨rfl, hb⟩
  have B1 := Lib.hid hb
  clear hb
  go_wp2_with fail
  go_loopw [6, 7, 8] (fun x p q wr => ∃ t : BitVec 64, x = .int .u64 (Bv.U t) ∧ p = .int .i64 (firstN t) ∧ q = .bool (someB t) ∧ freeP f s t = Rl.freeN f s ∧ (∀ i, t.getLsbD i = true → s.getLsbD i = true) ∧ Below w.heap.size w wr) (fun x _ _ _ => leftOf x)
  case atStart => exact ⟨s, rfl, rfl, rfl, rfl, fun _ h => h, B1.out⟩
  case round =>
    obtain ⟨t, rfl, rfl, rfl, hfr, hsub, hb⟩ := hrel
    by_cases hz : t = 0#64
    · subst hz
      have hno : Rl.freeN f s = none := by rw [← hfr, freeP_zero]
      have HF := Lib.hid (And.intro hno hb)
      clear hno hb hfr hsub
      rw [some_zero.1, some_zero.2]
      go_wp2_with fail
      go_ret2
      exact ⟨by unfold freeI freeB; rw [HF.out.1]; rfl, HF.out.2⟩
    · have hlow := Bs.low_bit hz
      have h48 := H0.out.2 _ (hsub _ hlow)
      have hcell := ((H0.out.1.below hb H0.out.1.lt)).row (Bs.low t) h48
      have hlt := Bs.rest_lt hz
      have hsub2 : ∀ i, (Bs.rest t).getLsbD i = true → s.getLsbD i = true := fun i hi => hsub i (by rw [Bs.rest_bit hz] at hi; simp at hi; exact hi.1)
      rw [(some_ne hz).1, (some_ne hz).2]
      have hh := @freeP_hit f s t hz
      have hm := @freeP_miss f s t hz
      obtain ⟨a, ha⟩ : ∃ a, a = Bs.low t := ⟨_, rfl⟩
      rw [← ha] at hcell h48 hh hm ⊢
      have q0 : (0 : Int) ≤ (a : Int) := by omega
      have q1 : (a : Int) < 48 := by omega
      cases hc : (f a &&& s == 0#64)
      · have hstep := (hm hc).symm.trans hfr
        have HH := Lib.hid (And.intro hstep (And.intro hsub2 (And.intro hb hlt)))
        clear hstep hsub2 hb hlt hfr hsub hlow ha hz hh hm
        go_wp2_with fail
        refine (first_any _ _ (HT.out _ HH.out.2.2.1).1 (HT.out _ HH.out.2.2.1).2).mono ?_
        rintro e w2 ⟨rfl, hb⟩
        have B2 := Lib.hid (HH.out.2.2.1.trans (hb.mono HH.out.2.2.1.size))
        clear hb
        go_wp2_with fail
        go_roundw
        case rel => exact ⟨Bs.rest t, rfl, rfl, rfl, HH.out.1, HH.out.2.1, B2.out⟩
        case measure => rw [leftOf_eq t]; exact Nat.lt_of_le_of_lt (Nat.le_of_eq (leftOf_eq (Bs.rest t))) HH.out.2.2.2
      · have hfin : Rl.freeN f s = some a := by rw [← hfr]; exact hh hc
        have HF := Lib.hid (And.intro hfin hb)
        clear hfin hb hfr hsub hsub2 hlow ha hz hh hm hlt
        go_wp2_with fail
        go_ret2
        exact ⟨by unfold freeI freeB; rw [HF.out.1]; rfl, HF.out.2⟩
theorem free_is (b : Nat) (n : Int) (f : Rl.Rows) (s : BitVec 64) (x : Int) (y : Bool) (hx : freeI f s = x) (hy : freeB f s = y) (w : World) (hR : RelAt w b n f) (hs : ∀ i, s.getLsbD i = true → i < 48) (hT : Tab w) (hw : 0 < w.heap.size) :
    Calls Tryd.prog 82 #[.pointer (some ⟨b, 0, none⟩), .int .u64 (Bv.U s)] w fun e w' => e = .returned (.tuple #[.int .i64 x, .bool y]) ∧ Below w.heap.size w w' := by subst hx hy; exact free_any b n f s w hR hs hT hw

/-! ### Top -/
theorem topGo_zero (f : Rl.Rows) (k : Nat) : Rl.topGo f k 0#64 = some [] := by cases k <;> simp [Rl.topGo]
theorem topGo_none1 {f : Rl.Rows} {k : Nat} {s : BitVec 64} (hs : s ≠ 0#64) (h : Rl.freeN f s = none) : Rl.topGo f (k + 1) s = none := by simp [Rl.topGo, hs, h]
theorem topGo_some1 {f : Rl.Rows} {k : Nat} {s : BitVec 64} {a : Nat} (hs : s ≠ 0#64) (h : Rl.freeN f s = some a) : Rl.topGo f (k + 1) s = (Rl.topGo f k (s &&& ~~~ Bv.bit a)).map (a :: ·) := by simp [Rl.topGo, hs, h]
/-- what Top answers -/
def topR (n : Int) (f : Rl.Rows) : Option (List Nat) := if Rl.rightB n f then Rl.topL n.toNat f else none
def TopOut (o : Option (List Nat)) (w : World) (e : Ending) (w' : World) : Prop :=
  ∃ v, e = .returned (.tuple #[v, .bool o.isSome]) ∧ w'.ownsRow w.heap.size 3 1 v (o.getD []).length (nums (o.getD [])) ∧ Below w.heap.size w w'
set_option maxRecDepth 100000 in
set_option maxHeartbeats 1000000 in
theorem top_no (n : Int) (f : Rl.Rows) (w : World) (hr : Rl.rightB n f = false) :
    Calls Tryd.prog 27 #[.agg (relC n f)] w (TopOut none w) := by
  have H := Lib.hid (And.intro (RelAt.new w n f) (And.intro ((Below.refl w.heap.size w).alloc (Nat.le_refl _) (.cells (relC n f) 26)) hr))
  clear hr
  go_enter Tryd.func27, Tryd.ntmps27
  go_wp2_with (refine wpList_load_rel (by rfl) (.tmp 1) (by rfl) w.heap.size n f (by rfl) H.out.1 ?_)
  with_reducible refine (right_is _ _ _ H.out.2.2 _).mono ?_
  rintro e w1 ⟨rfl, hb⟩
  have H1 := Lib.hid (H.out.2.1.trans (hb.mono H.out.2.1.size))
  clear hb
  go_wp2_with fail
  go_ret2
  exact ⟨_, rfl, World.ownsRow_nil _ _ _ _, H1.out⟩
set_option maxRecDepth 100000 in
set_option maxHeartbeats 2000000 in
theorem top_yes (n : Nat) (f : Rl.Rows) (w : World) (hr : Rl.Ok n f) (hT : Tab w) (hw : 0 < w.heap.size) :
    Calls Tryd.prog 27 #[.agg (relC n f)] w (TopOut (Rl.topL n f) w) := by
  have hn := hr.le
  have hzr := zero_rel
  obtain ⟨i0, hi, hz0, hz1, hz2⟩ := info_parts infoInt
  have hTl : ∀ W, Below w.heap.size w W → Tab W ∧ 0 < W.heap.size := fun W h => ⟨hT.below h hw, Nat.lt_of_lt_of_le hw h.size⟩
  have HT := Lib.hid hTl
  have H := Lib.hid (And.intro (RelAt.new w n f) (And.intro ((Below.refl w.heap.size w).alloc (Nat.le_refl _) (.cells (relC n f) 26)) (And.intro (Rl.right_of hr) hr)))
  have hne0 : ¬ relC 0 zeroR = #[] := by intro h; have := congrArg Array.size h; rw [relC_size] at this; simp at this
  clear hr hT hTl
  go_enter Tryd.func27, Tryd.ntmps27
  go_wp2_with (refine wpList_load_rel (by rfl) (.tmp 1) (by rfl) w.heap.size n f (by rfl) H.out.1 ?_)
  with_reducible refine (right_is _ _ _ H.out.2.2.1 _).mono ?_
  rintro e w1 ⟨rfl, hb⟩
  have H1 := Lib.hid (And.intro (H.out.1.below hb (by simp)) (H.out.2.1.trans (hb.mono H.out.2.1.size)))
  clear hb
  go_wp2_with (refine wpList_load_rel (by rfl) (.tmp 1) (by rfl) w.heap.size n f (by rfl) H1.out.1 ?_)
  with_reducible refine (back_yes n f w1 H.out.2.2.2 (HT.out _ H1.out.2).1 (HT.out _ H1.out.2).2).mono ?_
  rintro e w2 ⟨rfl, hb⟩
  have H2 := Lib.hid (And.intro (H1.out.1.below hb H1.out.1.lt) (H1.out.2.trans (hb.mono H1.out.2.size)))
  clear hb
  go_wp2_with (refine wpList_store_rel (by rfl) (.tmp 4) (.tmp 13) (by rfl) w2.heap.size n 0 (Rl.backF n f) zeroR (by rfl) (by rfl) (RelAt.new w2 0 zeroR) ?_; intro w3 hR3 hg3; have K0 := (H2.out.1.alloc (.cells (relC 0 zeroR) 26)).kept hg3 (by have := H2.out.1.lt; intro e; injection e with e; omega); have KB := (H2.out.2.alloc H2.out.2.size (.cells (relC 0 zeroR) 26)).grown hg3 (by have := H2.out.2.size; simp; omega) (fun j e => by have := H2.out.2.size; injection e with e; omega); have c0 := K0.num; have H3 := Lib.hid (And.intro hR3 (And.intro K0 KB)); clear hR3 hg3 K0 KB)
  refine (all_is _ _ (allS_below n) _).mono ?_
  rintro e w4 ⟨rfl, rfl⟩
  go_wp2_with (at_make; refine wpList_make_own _ rfl _ _ 35 rfl w3.heap.size 3 i0 (.int .i64 0) 1 Tryd.underlying35 hi hz0 hz1 .i64 .i64 _ n rfl rfl (by first | rfl | (simp; done) | omega) (by rw [hz2]; omega) (by unfold maxLen; omega) (Nat.le_refl _) ?_; intro w5 hown5 hgrow5)
  have hb5 := (Below.refl w3.heap.size w3).grown hgrow5 (Nat.le_refl _) (fun k e => by cases e)
  have H5 := Lib.hid (And.intro hown5 hb5)
  clear hown5 hgrow5 hb5 c0
  go_loopw [5, 6] (fun x v wr => ∃ (s : BitVec 64) (k : Nat) (L : List Nat), x = .int .u64 (Bv.U s) ∧ wr.ownsRow w3.heap.size 3 1 v L.length (nums L) ∧ Rl.topL n f = (Rl.topGo (Rl.backF n f) k s).map (L ++ ·) ∧ Bx.card s ≤ k ∧ L.length + k = 64 ∧ (∀ i, s.getLsbD i = true → i < 48) ∧ Below w3.heap.size w3 wr) (fun x _ _ => leftOf x)
  case atStart => exact ⟨Rl.below (n : Int), 64, [], rfl, H5.out.1, by unfold Rl.topL; simp, Bx.card_le _, rfl, below48 hn, H5.out.2⟩
  case round =>
    obtain ⟨s, k, L, rfl, hrow, htop, hcard, hlen, hsub, hb⟩ := hrel
    by_cases hz : s = 0#64
    · subst hz
      have he : (0#64 != 0#64) = false := rfl
      have hfin : Rl.topL n f = some L := by rw [htop, topGo_zero]; simp
      have hs3 : w.heap.size ≤ w3.heap.size := H3.out.2.2.size
      have HF := Lib.hid (And.intro hfin (And.intro (owns_base hrow hs3) (H3.out.2.2.trans (hb.mono hs3))))
      clear hfin hrow htop hcard hsub hb hs3
      go_wp2_with fail
      go_ret2
      exact ⟨_, by rw [HF.out.1]; rfl, by rw [HF.out.1]; exact HF.out.2.1, HF.out.2.2⟩
    · have he : (s != 0#64) = true := by simpa using hz
      have hlow := Bs.low_bit hz
      have hc1 : 0 < Bx.card s := by unfold Bx.card; rw [Bs.elems_step hz]; simp
      obtain ⟨j, rfl⟩ : ∃ j, k = j + 1 := ⟨k - 1, by omega⟩
      have hs3 : w.heap.size ≤ w3.heap.size := H3.out.2.2.size
      have hbw := H3.out.2.2.trans (hb.mono hs3)
      have hRb := H3.out.1.below hb H3.out.1.lt
      cases hfr : Rl.freeN (Rl.backF n f) s with
      | none =>
        have hfin : Rl.topL n f = none := by rw [htop, topGo_none1 hz hfr]; rfl
        have HF := Lib.hid (And.intro hfin (And.intro hRb (And.intro hbw (And.intro hsub (And.intro (show freeI (Rl.backF n f) s = 0 by unfold freeI; rw [hfr]) (show freeB (Rl.backF n f) s = false by unfold freeB; rw [hfr]; rfl))))))
        clear hfin hrow htop hcard hsub hb hs3 hbw hRb hfr hlow hz hc1
        go_wp2_with fail
        refine (free_is w2.heap.size n (Rl.backF n f) s 0 false HF.out.2.2.2.2.1 HF.out.2.2.2.2.2 _ HF.out.2.1 HF.out.2.2.2.1 (HT.out _ HF.out.2.2.1).1 (HT.out _ HF.out.2.2.1).2).mono ?_
        rintro e w6 ⟨rfl, hb⟩
        have H6 := Lib.hid (HF.out.2.2.1.trans (hb.mono HF.out.2.2.1.size))
        clear hb
        go_wp2_with fail
        go_ret2
        exact ⟨_, by rw [HF.out.1]; rfl, by rw [HF.out.1]; exact World.ownsRow_nil _ _ _ _, H6.out⟩
      | some a =>
        have ha := (Rl.free_some hfr).1
        have ha48 := hsub a ha
        have hcm := Rl.card_minus s a ha
        have hstep : Rl.topL n f = (Rl.topGo (Rl.backF n f) j (s &&& ~~~ Bv.bit a)).map ((L ++ [a]) ++ ·) := by
          rw [htop, topGo_some1 hz hfr, Option.map_map]
          congr 1; funext m; simp
        have hsub2 : ∀ i, (s &&& ~~~ Bv.bit a).getLsbD i = true → i < 48 := fun i hi => hsub i ((Rl.minus_iff s a i (by omega)).1 hi).1
        have HF := Lib.hid (And.intro hstep (And.intro hRb (And.intro hbw (And.intro hsub (And.intro (show freeI (Rl.backF n f) s = (a : Int) by unfold freeI; rw [hfr]) (And.intro (show freeB (Rl.backF n f) s = true by unfold freeB; rw [hfr]; rfl) (And.intro hsub2 (And.intro hcm (And.intro hrow hb)))))))))
        clear hstep hrow htop hsub hb hs3 hbw hRb hfr hlow hz hc1 ha hsub2 hcm
        have q0 : (0 : Int) ≤ (a : Int) := by omega
        have q1 : (a : Int) < 64 := by omega
        go_wp2_with fail
        refine (free_is w2.heap.size n (Rl.backF n f) s a true HF.out.2.2.2.2.1 HF.out.2.2.2.2.2.1 _ HF.out.2.1 HF.out.2.2.2.1 (HT.out _ HF.out.2.2.1).1 (HT.out _ HF.out.2.2.1).2).mono ?_
        rintro e w6 ⟨rfl, hb⟩
        have hrow := owns_below HF.out.2.2.2.2.2.2.2.2.1 hb (Nat.le_refl _)
        have hb6 := HF.out.2.2.2.2.2.2.2.2.2.trans (hb.mono HF.out.2.2.2.2.2.2.2.2.2.size)
        have hs6 : w3.heap.size ≤ w6.heap.size := hb6.size
        have H6 := Lib.hid (And.intro hrow hb6)
        clear hb hrow hb6
        go_wp2_with (at_builtin; refine wpList_append_own _ rfl _ _ 35 rfl w3.heap.size 3 i0 (.int .i64 0) 1 8 Tryd.underlying35 hi hz0 hz1 hz2 rfl (by decide) _ _ _ rfl (H6.out.1.alloc _) ⟨w6.heap.size, 0, none⟩ 1 1 [.int .i64 a] rfl rfl (cell_one_new _ _ _) (by simp [Value.oneCell']) (by unfold maxLen; omega) (by omega) (by simp; omega) ?_; intro v' w7 hown' hgrow hnil')
        go_roundw
        case rel =>
          have hbn : Below w3.heap.size w3 w7 := (H6.out.2.alloc hs6 _).grown hgrow (by simp; omega) (fun j e => (H6.out.1.lt j e).1)
          refine ⟨s &&& ~~~ Bv.bit a, j, L ++ [a], rfl, ?_, HF.out.1, by have := HF.out.2.2.2.2.2.2.2.1; omega, by simp; omega, HF.out.2.2.2.2.2.2.1, hbn⟩
          rw [nums_snoc]; simpa using hown'
        case measure =>
          have hcm := HF.out.2.2.2.2.2.2.2.1
          rw [leftOf_eq s]
          refine Nat.lt_of_le_of_lt (Nat.le_of_eq (leftOf_eq (s &&& ~~~ Bv.bit a))) ?_
          unfold Bx.card at hcm; omega
theorem top_any (n : Int) (f : Rl.Rows) (w : World) (zf : Rl.Z f) (hT : Tab w) (hw : 0 < w.heap.size) :
    Calls Tryd.prog 27 #[.agg (relC n f)] w (TopOut (topR n f) w) := by
  unfold topR
  cases h : Rl.rightB n f
  · rw [if_neg (by simp)]; exact top_no n f w h
  · obtain ⟨m, rfl, hm⟩ := Rl.right_nat zf h
    rw [if_pos rfl, Int.toNat_natCast]; exact top_yes m f w hm hT hw

/-! ### Acyclic -/
set_option maxRecDepth 100000 in
set_option maxHeartbeats 1000000 in
theorem acyclic_any (n : Int) (f : Rl.Rows) (w : World) (zf : Rl.Z f) (hT : Tab w) (hw : 0 < w.heap.size) :
    Calls Tryd.prog 26 #[.agg (relC n f)] w fun e w' => e = .returned (.bool (topR n f).isSome) ∧ Below w.heap.size w w' := by
  have hB := (Below.refl w.heap.size w).alloc (Nat.le_refl _) (.cells (relC n f) 26)
  have H := Lib.hid (And.intro (RelAt.new w n f) (And.intro hB (And.intro zf (And.intro (hT.below hB hw) (show 0 < (w.alloc (.cells (relC n f) 26)).heap.size by simp)))))
  clear zf hT hB
  go_enter Tryd.func26, Tryd.ntmps26
  go_wp2_with (refine wpList_load_rel (by rfl) (.tmp 1) (by rfl) w.heap.size n f (by rfl) H.out.1 ?_)
  with_reducible refine (top_any n f _ H.out.2.2.1 H.out.2.2.2.1 H.out.2.2.2.2).mono ?_
  rintro e w1 ⟨v, rfl, hrow, hb⟩
  obtain ⟨b, hb0⟩ : ∃ b, b = (topR n f).isSome := ⟨_, rfl⟩
  rw [← hb0]
  have H1 := Lib.hid (And.intro hb0 (H.out.2.1.trans (hb.mono (by simp))))
  clear hb hrow hb0
  go_wp2_with fail
  go_ret
  exact ⟨by rw [← H1.out.1]; rfl, H1.out.2⟩
theorem acyclic_is (n : Int) (f : Rl.Rows) (b : Bool) (hb : (topR n f).isSome = b) (w : World) (zf : Rl.Z f) (hT : Tab w) (hw : 0 < w.heap.size) :
    Calls Tryd.prog 26 #[.agg (relC n f)] w fun e w' => e = .returned (.bool b) ∧ Below w.heap.size w w' := by subst hb; exact acyclic_any n f w zf hT hw
end Go.Proofs.YtknjdfgmejobfaaDoor
