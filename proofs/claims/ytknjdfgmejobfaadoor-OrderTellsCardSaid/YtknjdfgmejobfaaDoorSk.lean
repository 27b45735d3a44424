/- package order: Of. -/
import Derived.Test.YtknjdfgmejobfaaDoorSj
namespace Go.Proofs.YtknjdfgmejobfaaDoor
open Go.RowKit Go.Shelf

/-- what Of answers -/
def ofO (n : Int) (f : Rl.Rows) : Option (List Nat) := (topR n f).filter fun L => relEq n n (totL L) f

attribute [-go_sem] run_eql_struct run_neq_struct
attribute [local go_sem] Bv.and_u Bv.or_u Bv.andNot_u Bv.wrap_sub1 Bv.eq0 Bv.ne0 Bv.wrap_pow Bv.wrap_powmin Bv.wrap_neg Bv.eq_u Bv.ne_u Bv.shr_min Bv.shr_pow Bv.tmod2 Bv.and1 Bv.wrap_add Bv.B1_eq1 Bv.B1_eq0 Bv.B1_ne1 Bv.B1_ne0 run_rel_eql run_rel_neq
set_option maxRecDepth 100000 in
set_option maxHeartbeats 2000000 in
theorem oof_none (n : Int) (f : Rl.Rows) (w : World) (zf : Rl.Z f) (hT : Tab w) (hw : 0 < w.heap.size) (ht : topR n f = none) :
    Calls Tryd.prog 51 #[.agg (relC n f)] w (TopOut none w) := by
  have hB := (Below.refl w.heap.size w).alloc (Nat.le_refl _) (.cells (relC n f) 26)
  have H := Lib.hid (And.intro (RelAt.new w n f) (And.intro hB (And.intro zf (And.intro (hT.below hB hw) (And.intro (show 0 < (w.alloc (.cells (relC n f) 26)).heap.size by simp) ht)))))
  clear zf hT hB ht
  go_enter Tryd.func51, Tryd.ntmps51
  go_wp2_with (refine wpList_load_rel (by rfl) (.tmp 1) (by rfl) w.heap.size n f (by rfl) H.out.1 ?_)
  have htop := top_any n f (w.alloc (.cells (relC n f) 26)) H.out.2.2.1 H.out.2.2.2.1 H.out.2.2.2.2.1
  rw [H.out.2.2.2.2.2] at htop
  refine htop.mono ?_
  clear htop
  rintro e w1 ⟨v, rfl, hrow, hb⟩
  have H1 := Lib.hid (H.out.2.1.trans (hb.mono (by simp)))
  clear hb hrow
  go_wp2_with fail
  go_ret2
  exact ⟨_, rfl, World.ownsRow_nil _ _ _ _, H1.out⟩
theorem top_gives (n : Nat) (f : Rl.Rows) (w : World) (oF : Rl.Ok n f) (hT : Tab w) (hw : 0 < w.heap.size) (L : List Nat) (ht : Rl.topL n f = some L) (hlen : L.length = n) :
    Calls Tryd.prog 27 #[.agg (relC n f)] w fun e w' => ∃ A c, e = .returned (.tuple #[.slice A n c, .bool true]) ∧ IntsAt w' A (ints L) ∧ w'.ownsRow w.heap.size 3 1 (.slice A n c) n (nums L) ∧ Below w.heap.size w w' := by
  have htop := top_yes n f w oF hT hw
  rw [ht] at htop
  refine htop.mono ?_
  rintro e w1 ⟨v, rfl, hrow, hb⟩
  have hrow : w1.ownsRow w.heap.size 3 1 v L.length (nums L) := hrow
  obtain ⟨A1, c1, e1, e2, hcm, hA1⟩ := row_ints hrow
  subst e1
  rw [ints_len, hlen] at hrow
  exact ⟨A1, c1, by rw [ints_len, hlen]; rfl, hA1, hrow, hb⟩
set_option maxRecDepth 100000 in
set_option maxHeartbeats 2000000 in
theorem oof_eq (n : Nat) (f : Rl.Rows) (w : World) (oF : Rl.Ok n f) (hT : Tab w) (hw : 0 < w.heap.size) (L : List Nat) (ht : Rl.topL n f = some L) (hq : relEq n n (totL L) f = true) :
    Calls Tryd.prog 51 #[.agg (relC n f)] w (TopOut (some L) w) := by
  have hn := oF.le
  have hzr := zero_rel
  have hne0 : ¬ relC 0 zeroR = #[] := by intro h; have := congrArg Array.size h; rw [relC_size] at this; simp at this
  have hls := Rl.top_some oF ht
  have hlen := nodup_len hls.1 hls.2.1
  have hok : okL n (ints L) = true := (okL_nat n L).2 ⟨n, rfl, hn, hlen, fun a ha => (hls.2.1 a).1 ha, hls.1⟩
  have hB := (Below.refl w.heap.size w).alloc (Nat.le_refl _) (.cells (relC n f) 26)
  have H := Lib.hid (And.intro (RelAt.new w n f) (And.intro hB (And.intro oF (And.intro (hT.below hB hw) (And.intro (show 0 < (w.alloc (.cells (relC n f) 26)).heap.size by simp) ht)))))
  have HL := Lib.hid (And.intro hlen (And.intro (fun a ha => (hls.2.1 a).1 ha) (And.intro hls.1 hok)))
  clear oF hT hB ht hls hlen hok
  go_enter Tryd.func51, Tryd.ntmps51
  go_wp2_with (refine wpList_load_rel (by rfl) (.tmp 1) (by rfl) w.heap.size n f (by rfl) H.out.1 ?_)
  refine (top_gives n f (w.alloc (.cells (relC n f) 26)) H.out.2.2.1 H.out.2.2.2.1 H.out.2.2.2.2.1 L H.out.2.2.2.2.2 HL.out.1).mono ?_
  rintro e w1 ⟨A1, c1, rfl, hA1, hrow, hb⟩
  have hrow2 := owns_base hrow (show w.heap.size ≤ (w.alloc (.cells (relC n f) 26)).heap.size by simp)
  have H1 := Lib.hid (And.intro (H.out.1.below hb H.out.1.lt) (And.intro (H.out.2.1.trans (hb.mono (by simp))) (And.intro hA1 hrow2)))
  have c0 := H1.out.1.num
  clear hb hrow hA1 hrow2
  go_wp2_with fail
  refine (total_yes n A1 L c1 w1 hn HL.out.1 HL.out.2.1 HL.out.2.2.1 H1.out.2.2.1 HL.out.2.2.2).mono ?_
  rintro e w2 ⟨rfl, hb⟩
  have hrow3 := owns_below H1.out.2.2.2 hb (Nat.le_refl _)
  have H2 := Lib.hid (And.intro (H1.out.1.below hb H1.out.1.lt) (And.intro (H1.out.2.1.trans (hb.mono H1.out.2.1.size)) (And.intro hrow3 (RelAt.new w2 0 zeroR))))
  clear hb hrow3 c0
  go_wp2_with (first | (refine wpList_store_rel (by rfl) (.tmp 6) (.tmp 20) (by rfl) w2.heap.size n 0 (totL L) zeroR (by rfl) (by rfl) H2.out.2.2.2 ?_; intro w3 hR3 hg3; have H3 := Lib.hid (And.intro hR3 (And.intro ((H2.out.1.alloc (.cells (relC 0 zeroR) 26)).kept hg3 (fun e => by injection e with e; have := H2.out.1.lt; omega)) (And.intro (owns_below H2.out.2.2.1 (below_push hg3) (Nat.le_refl _)) (H2.out.2.1.trans ((below_push hg3).mono H2.out.2.1.size))))); clear hR3 hg3) | (refine wpList_load_rel (by rfl) (.tmp 6) (by rfl) w2.heap.size n (totL L) (by rfl) H3.out.1 ?_) | (refine wpList_load_rel (by rfl) (.tmp 1) (by rfl) w.heap.size n f (by rfl) H3.out.2.1 ?_))
  go_ret2
  exact ⟨_, rfl, by rw [show ((some L).getD []).length = n from HL.out.1]; exact H3.out.2.2.1, H3.out.2.2.2⟩
set_option maxRecDepth 100000 in
set_option maxHeartbeats 2000000 in
theorem oof_ne (n : Nat) (f : Rl.Rows) (w : World) (oF : Rl.Ok n f) (hT : Tab w) (hw : 0 < w.heap.size) (L : List Nat) (ht : Rl.topL n f = some L) (hq : relEq n n (totL L) f = false) :
    Calls Tryd.prog 51 #[.agg (relC n f)] w (TopOut none w) := by
  have hn := oF.le
  have hzr := zero_rel
  have hne0 : ¬ relC 0 zeroR = #[] := by intro h; have := congrArg Array.size h; rw [relC_size] at this; simp at this
  have hls := Rl.top_some oF ht
  have hlen := nodup_len hls.1 hls.2.1
  have hok : okL n (ints L) = true := (okL_nat n L).2 ⟨n, rfl, hn, hlen, fun a ha => (hls.2.1 a).1 ha, hls.1⟩
  have hB := (Below.refl w.heap.size w).alloc (Nat.le_refl _) (.cells (relC n f) 26)
  have H := Lib.hid (And.intro (RelAt.new w n f) (And.intro hB (And.intro oF (And.intro (hT.below hB hw) (And.intro (show 0 < (w.alloc (.cells (relC n f) 26)).heap.size by simp) ht)))))
  have HL := Lib.hid (And.intro hlen (And.intro (fun a ha => (hls.2.1 a).1 ha) (And.intro hls.1 hok)))
  clear oF hT hB ht hls hlen hok
  go_enter Tryd.func51, Tryd.ntmps51
  go_wp2_with (refine wpList_load_rel (by rfl) (.tmp 1) (by rfl) w.heap.size n f (by rfl) H.out.1 ?_)
  refine (top_gives n f (w.alloc (.cells (relC n f) 26)) H.out.2.2.1 H.out.2.2.2.1 H.out.2.2.2.2.1 L H.out.2.2.2.2.2 HL.out.1).mono ?_
  rintro e w1 ⟨A1, c1, rfl, hA1, hrow, hb⟩
  have hrow2 := owns_base hrow (show w.heap.size ≤ (w.alloc (.cells (relC n f) 26)).heap.size by simp)
  have H1 := Lib.hid (And.intro (H.out.1.below hb H.out.1.lt) (And.intro (H.out.2.1.trans (hb.mono (by simp))) (And.intro hA1 hrow2)))
  have c0 := H1.out.1.num
  clear hb hrow hA1 hrow2
  go_wp2_with fail
  refine (total_yes n A1 L c1 w1 hn HL.out.1 HL.out.2.1 HL.out.2.2.1 H1.out.2.2.1 HL.out.2.2.2).mono ?_
  rintro e w2 ⟨rfl, hb⟩
  have hrow3 := owns_below H1.out.2.2.2 hb (Nat.le_refl _)
  have H2 := Lib.hid (And.intro (H1.out.1.below hb H1.out.1.lt) (And.intro (H1.out.2.1.trans (hb.mono H1.out.2.1.size)) (And.intro hrow3 (RelAt.new w2 0 zeroR))))
  clear hb hrow3 c0
  go_wp2_with (first | (refine wpList_store_rel (by rfl) (.tmp 6) (.tmp 20) (by rfl) w2.heap.size n 0 (totL L) zeroR (by rfl) (by rfl) H2.out.2.2.2 ?_; intro w3 hR3 hg3; have H3 := Lib.hid (And.intro hR3 (And.intro ((H2.out.1.alloc (.cells (relC 0 zeroR) 26)).kept hg3 (fun e => by injection e with e; have := H2.out.1.lt; omega)) (And.intro (owns_below H2.out.2.2.1 (below_push hg3) (Nat.le_refl _)) (H2.out.2.1.trans ((below_push hg3).mono H2.out.2.1.size))))); clear hR3 hg3) | (refine wpList_load_rel (by rfl) (.tmp 6) (by rfl) w2.heap.size n (totL L) (by rfl) H3.out.1 ?_) | (refine wpList_load_rel (by rfl) (.tmp 1) (by rfl) w.heap.size n f (by rfl) H3.out.2.1 ?_))
  go_ret2
  exact ⟨_, rfl, World.ownsRow_nil _ _ _ _, H3.out.2.2.2⟩
theorem oof_any (n : Int) (f : Rl.Rows) (w : World) (zf : Rl.Z f) (hT : Tab w) (hw : 0 < w.heap.size) :
    Calls Tryd.prog 51 #[.agg (relC n f)] w (TopOut (ofO n f) w) := by
  unfold ofO
  cases ht : topR n f with
  | none => exact oof_none n f w zf hT hw ht
  | some L =>
    have hr : Rl.rightB n f = true := by
      cases h : Rl.rightB n f
      · unfold topR at ht; rw [h] at ht; simp at ht
      · rfl
    obtain ⟨m, rfl, oF⟩ := Rl.right_nat zf hr
    unfold topR at ht
    rw [hr, if_pos rfl, Int.toNat_natCast] at ht
    rw [Option.filter_some]
    cases hq : relEq (m : Int) m (totL L) f
    · rw [if_neg (by simp)]; exact oof_ne m f w oF hT hw L ht hq
    · rw [if_pos rfl]; exact oof_eq m f w oF hT hw L ht hq
end Go.Proofs.YtknjdfgmejobfaaDoor
