/- package rel: Plus. -/
import Derived.Test.YtknjdfgmejobfaaDoorNj
namespace Go.Proofs.YtknjdfgmejobfaaDoor
open Go.RowKit Go.Shelf

attribute [-go_sem] run_eql_struct run_neq_struct
attribute [local go_sem] Bv.and_u Bv.or_u Bv.andNot_u Bv.wrap_sub1 Bv.eq0 Bv.ne0 Bv.wrap_pow Bv.wrap_powmin Bv.wrap_neg Bv.eq_u Bv.ne_u Bv.shr_min Bv.shr_pow Bv.tmod2 Bv.and1 Bv.wrap_add Bv.B1_eq1 Bv.B1_eq0 Bv.B1_ne1 Bv.B1_ne0 run_rel_eql run_rel_neq

theorem tab_grow {W : World} (hT : Tab W) (hw : 0 < W.heap.size) (d : Nat) (os : Array Obj) : Tab (Go.Sort.grow (redrawn W d) os) ∧ 0 < (Go.Sort.grow (redrawn W d) os).heap.size :=
  ⟨hT.below (below_regrown W d os) hw, Nat.lt_of_lt_of_le hw (below_regrown W d os).size⟩
set_option maxRecDepth 100000 in
set_option maxHeartbeats 1000000 in
theorem plus1 (pb k : Nat) (n : Int) (f : Rl.Rows) (W : World) (hk : k < 48) (hR : RelAt W pb n f) (hs : ∀ i, (f k).getLsbD i = true → i < 48) (hT : Tab W) (hw : 0 < W.heap.size) :
    Calls Tryd.prog 80 #[.int .i64 k, .pointer (some ⟨pb, 0, none⟩)] W fun e w' => e = .returned (.int .u64 (Bv.U (f k ||| Rl.image f (f k)))) ∧ Below W.heap.size W w' := by
  have q0 : (0 : Int) ≤ (k : Int) := by omega
  have q1 : (k : Int) < 48 := by omega
  have ca := fun d os => (rel_grow hR d os).row k hk
  obtain ⟨x, hx⟩ : ∃ x, x = f k := ⟨_, rfl⟩
  rw [← hx] at hs ⊢
  simp only [← hx] at ca
  have GA := Lib.hid (And.intro hR (And.intro hs (And.intro hT hw)))
  clear hR hs hx hT
  go_enter Tryd.func80, Tryd.ntmps80
  go_wp2_with fail
  refine wp_region_quiet_below (by kernel_rfl) (by kernel_rfl) ?_
  repeat (first | go_big_quiet_step (first | (go_at_call 73; with_reducible exact Calls.regrown_of (image_any pb n f x _ (rel_grow GA.out.1 _ _) GA.out.2.1 (tab_grow GA.out.2.2.1 GA.out.2.2.2 _ _).1 (tab_grow GA.out.2.2.1 GA.out.2.2.2 _ _).2)) | fail) | quiet_step (first | (go_at_call 73; with_reducible exact Calls.regrown_of (image_any pb n f x _ (rel_grow GA.out.1 _ _) GA.out.2.1 (tab_grow GA.out.2.2.1 GA.out.2.2.2 _ _).1 (tab_grow GA.out.2.2.1 GA.out.2.2.2 _ _).2)) | fail))
  refine wpQuiet_nil ?_
  intro W1 hw1
  have hb1 : Below W.heap.size W W1 := by obtain ⟨⟨d, os⟩, rfl⟩ := hw1; exact below_regrown _ _ _
  have H1 := Lib.hid hb1
  clear hw1 hb1
  go_wp2_with fail
  go_ret
  exact ⟨rfl, H1.out⟩
theorem gap_congr {f g : Rl.Rows} : ∀ (k : Nat), (∀ a, a < k → f a = g a) → Rl.gap f k = Rl.gap g k
  | 0, _ => rfl
  | k + 1, h => by
    show Rl.gap f k + (64 - Bx.card (f k)) = Rl.gap g k + (64 - Bx.card (g k))
    rw [gap_congr k (fun a ha => h a (by omega)), h k (by omega)]
/-- the rows that lie in a block -/
def rowsIn (w : World) (b : Nat) : Rl.Rows := fun i => match w.cell? ⟨b, 1 + i, none⟩ with
  | some (.int _ z) => BitVec.ofInt 64 z
  | _ => 0#64
def gapAt (w : World) (b : Nat) : Nat := Rl.gap (rowsIn w b) 48
theorem gapAt_eq {w : World} {b : Nat} {n : Int} {f : Rl.Rows} (h : RelAt w b n f) : gapAt w b = Rl.gap f 48 :=
  gap_congr 48 fun a ha => by unfold rowsIn; rw [h.row a ha]; exact Bv.ofInt_U _
theorem relEq_true {n : Int} {f g : Rl.Rows} (h : f = g) : relEq n n f g = true := by subst h; unfold relEq rowsEq; simp
theorem relEq_false {n m : Int} {f g : Rl.Rows} (zf : Rl.Z f) (zg : Rl.Z g) (h : ¬ (n = m ∧ f = g)) : relEq n m f g = false := by
  cases hb : relEq n m f g
  · rfl
  · exact absurd ((relEq_iff zf zg).1 hb) h

set_option maxRecDepth 100000 in
set_option maxHeartbeats 1000000 in
theorem plus_no (n : Int) (f : Rl.Rows) (w : World) (hr : Rl.rightB n f = false) :
    Calls Tryd.prog 25 #[.agg (relC n f)] w fun e w' => e = .returned (.agg (relC 0 zeroR)) ∧ Below w.heap.size w w' := by
  have hzr := zero_rel
  have hbz := build_zero
  have h0 := (RelAt.new w n f).alloc (.cells (relC 0 zeroR) 26)
  have h1 := RelAt.new (w.alloc (.cells (relC n f) 26)) 0 zeroR
  rw [World.size_alloc] at h1
  have hB := (((Below.refl w.heap.size w).alloc (Nat.le_refl _) (.cells (relC n f) 26)).alloc (by simp) (.cells (relC 0 zeroR) 26))
  have H := Lib.hid (And.intro h0 (And.intro h1 (And.intro hB hr)))
  clear h0 h1 hB hr
  go_enter Tryd.func25, Tryd.ntmps25
  go_wp2_with (refine wpList_load_rel (by rfl) (.tmp 1) (by rfl) w.heap.size n f (by rfl) H.out.1 ?_)
  with_reducible refine (right_is _ _ _ H.out.2.2.2 _).mono ?_
  rintro e w1 ⟨rfl, hb⟩
  have H1 := Lib.hid (And.intro (H.out.2.1.below hb (by simp)) (H.out.2.2.1.trans (hb.mono H.out.2.2.1.size)))
  clear hb
  go_wp2_with (refine wpList_store_rel (by rfl) (.tmp 2) (.tmp 7) (by rfl) (w.heap.size + 1) 0 0 zeroR zeroR (by rfl) (by rfl) H1.out.1 ?_; intro w3 hR3 hg3)
  refine bodyPost_ret (results_cell_row rfl _ _ (w.heap.size + 1) 26 (relC 0 zeroR) (0, 0) _ rfl hR3 uRel rfl (sRelC _ _)) rfl ⟨rfl, H1.out.2.grown hg3 H1.out.2.size (fun j e => by injection e with e; omega)⟩
set_option maxRecDepth 100000 in
set_option maxHeartbeats 1000000 in
theorem plus_yes (n : Nat) (f : Rl.Rows) (w : World) (hr : Rl.Ok n f) (hT : Tab w) (hw : 0 < w.heap.size) :
    Calls Tryd.prog 25 #[.agg (relC n f)] w fun e w' => e = .returned (.agg (relC n (Rl.plusF n f))) ∧ Below w.heap.size w w' := by
  have hzr := zero_rel
  have h0 := (RelAt.new w n f).alloc (.cells (relC 0 zeroR) 26)
  have h1 := RelAt.new (w.alloc (.cells (relC n f) 26)) 0 zeroR
  rw [World.size_alloc] at h1
  have hB := (((Below.refl w.heap.size w).alloc (Nat.le_refl _) (.cells (relC n f) 26)).alloc (by simp) (.cells (relC 0 zeroR) 26))
  have hTl : ∀ W, Below w.heap.size w W → Tab W ∧ 0 < W.heap.size := fun W h => ⟨hT.below h hw, Nat.lt_of_lt_of_le hw h.size⟩
  have HT := Lib.hid hTl
  have HO := Lib.hid hr
  have eg := enters_of Tryd.func80 (by kernel_rfl) rfl
  have EG := Lib.hid eg
  have H := Lib.hid (And.intro h0 (And.intro h1 (And.intro hB (Rl.right_of hr))))
  have hne0 : ¬ relC 0 zeroR = #[] := by intro h; have := congrArg Array.size h; rw [relC_size] at this; simp at this
  clear h0 h1 hB hr hT hTl eg
  go_enter Tryd.func25, Tryd.ntmps25
  go_wp2_with (refine wpList_load_rel (by rfl) (.tmp 1) (by rfl) w.heap.size n f (by rfl) H.out.1 ?_)
  with_reducible refine (right_is _ _ _ H.out.2.2.2 _).mono ?_
  rintro e w1 ⟨rfl, hb⟩
  have H1 := Lib.hid (And.intro (H.out.1.below hb (by simp; omega)) (And.intro (H.out.2.1.below hb (by simp)) (H.out.2.2.1.trans (hb.mono H.out.2.2.1.size))))
  clear hb
  go_wp2_with fail
  go_loopw [3] (fun x wr => ∃ (v : Value) (g : Rl.Rows), x = v ∧ Rl.Ok n g ∧ (∀ a b, Rl.Path g a b ↔ Rl.Path f a b) ∧ RelAt wr w.heap.size n g ∧ RelAt wr (w.heap.size + 1) 0 zeroR ∧ Below w.heap.size w wr) (fun _ wr => gapAt wr w.heap.size)
  case atStart => exact ⟨_, f, rfl, HO.out, fun _ _ => Iff.rfl, H1.out⟩
  case round =>
    obtain ⟨v0, g, rfl, og, hp, r0, r1, hb⟩ := hrel
    have hc := r0.num
    have HH := Lib.hid (And.intro og (And.intro hp (And.intro r0 (And.intro r1 hb))))
    clear og hp r0 r1 hb
    go_wp2_with fail
    refine (build_any n 80 #[.pointer (some ⟨w.heap.size, 0, none⟩)] (fun k => g k ||| Rl.image g (g k)) _ HH.out.1.le EG.out ?_).mono ?_
    · intro a W ha hb
      have hBW := HH.out.2.2.2.2.trans (hb.mono HH.out.2.2.2.2.size)
      exact plus1 w.heap.size a n g W (by have := HH.out.1.le; omega) (HH.out.2.2.1.below hb HH.out.2.2.1.lt) (fun i hi => by have := (HH.out.1.in_ a i hi).2; have := HH.out.1.le; omega) (HT.out W hBW).1 (HT.out W hBW).2
    rintro e w2 ⟨rfl, hb⟩
    rw [show Rl.cut n (fun k => g k ||| Rl.image g (g k)) = Rl.sqF n g from rfl]
    have r0 := HH.out.2.2.1.below hb HH.out.2.2.1.lt
    have r1 := HH.out.2.2.2.1.below hb HH.out.2.2.2.1.lt
    have hlt := r1.lt
    have H2 := Lib.hid (And.intro r0 (And.intro r1 (And.intro (HH.out.2.2.2.2.trans (hb.mono HH.out.2.2.2.2.size)) hlt)))
    have zs := (Rl.ok_sq HH.out.1).z
    have zg := HH.out.1.z
    clear hb r0 r1 hc hlt
    by_cases hfix : Rl.sqF n g = g
    · have he := relEq_true (n := (n : Int)) hfix
      have hfin : g = Rl.plusF n f := Rl.plus_eq HO.out HH.out.1 HH.out.2.1 hfix
      have HF := Lib.hid hfin
      clear hfix hfin zs zg
      go_wp2_with (first
        | (refine wpList_store_rel (by rfl) (.tmp 3) (.tmp 11) (by rfl) w2.heap.size n 0 (Rl.sqF n g) zeroR (by rfl) (by rfl) (RelAt.new w2 0 zeroR) ?_; intro w3 hR3 hg3; have K0 := (H2.out.1.alloc (.cells (relC 0 zeroR) 26)).kept hg3 (by have := H2.out.2.2.2; intro e; injection e with e; omega); have K1 := (H2.out.2.1.alloc (.cells (relC 0 zeroR) 26)).kept hg3 (by have := H2.out.2.2.2; intro e; injection e with e; omega); have KB := (H2.out.2.2.1.alloc H2.out.2.2.1.size (.cells (relC 0 zeroR) 26)).grown hg3 (by have := H2.out.2.2.1.size; simp; omega) (fun j e => by have := H2.out.2.2.2; injection e with e; omega); have H3 := Lib.hid (And.intro hR3 (And.intro K0 (And.intro K1 KB))); clear hR3 hg3 K0 K1 KB)
        | (refine wpList_load_rel (by rfl) (.tmp 3) (by rfl) w2.heap.size n (Rl.sqF n g) (by rfl) H3.out.1 ?_)
        | (refine wpList_load_rel (by rfl) (.tmp 1) (by rfl) w.heap.size n g (by rfl) H3.out.2.1 ?_)
        | (refine wpList_store_rel (by rfl) (.tmp 2) (.tmp 15) (by rfl) (w.heap.size + 1) n 0 g zeroR (by rfl) (by rfl) H3.out.2.2.1 ?_; intro w4 hR4 hg4))
      refine bodyPost_ret (results_cell_row rfl _ _ (w.heap.size + 1) 26 (relC n g) (0, 0) _ rfl hR4 uRel rfl (sRelC _ _)) rfl ⟨by rw [← HF.out], H3.out.2.2.2.grown hg4 H3.out.2.2.2.size (fun j e => by injection e with e; omega)⟩
    · have he := relEq_false (n := (n : Int)) (m := (n : Int)) zs zg (fun h => hfix h.2)
      have HF := Lib.hid (Rl.gap_sq HH.out.1 hfix)
      clear hfix zs zg
      go_wp2_with (first
        | (refine wpList_store_rel (by rfl) (.tmp 3) (.tmp 11) (by rfl) w2.heap.size n 0 (Rl.sqF n g) zeroR (by rfl) (by rfl) (RelAt.new w2 0 zeroR) ?_; intro w3 hR3 hg3; have K0 := (H2.out.1.alloc (.cells (relC 0 zeroR) 26)).kept hg3 (by have := H2.out.2.2.2; intro e; injection e with e; omega); have K1 := (H2.out.2.1.alloc (.cells (relC 0 zeroR) 26)).kept hg3 (by have := H2.out.2.2.2; intro e; injection e with e; omega); have KB := (H2.out.2.2.1.alloc H2.out.2.2.1.size (.cells (relC 0 zeroR) 26)).grown hg3 (by have := H2.out.2.2.1.size; simp; omega) (fun j e => by have := H2.out.2.2.2; injection e with e; omega); have H3 := Lib.hid (And.intro hR3 (And.intro K0 (And.intro K1 KB))); clear hR3 hg3 K0 K1 KB)
        | (refine wpList_load_rel (by rfl) (.tmp 3) (by rfl) w2.heap.size n (Rl.sqF n g) (by rfl) H3.out.1 ?_)
        | (refine wpList_load_rel (by rfl) (.tmp 1) (by rfl) w.heap.size n g (by rfl) H3.out.2.1 ?_)
        | (refine wpList_store_rel (by rfl) (.tmp 1) (.tmp 16) (by rfl) w.heap.size n n (Rl.sqF n g) g (by rfl) (by rfl) H3.out.2.1 ?_; intro w4 hR4 hg4; have K1 := H3.out.2.2.1.kept hg4 (by intro e; injection e with e; omega); have KB := H3.out.2.2.2.grown hg4 H3.out.2.2.2.size (fun j e => by injection e with e; omega); have H4 := Lib.hid (And.intro hR4 (And.intro K1 KB)); clear hR4 hg4 K1 KB))
      go_roundw
      case rel => exact ⟨_, _, _, _, _, _, _, _, _, _, ⟨_, Rl.sqF n g, rfl, Rl.ok_sq HH.out.1, fun a b => (Rl.sq_path HH.out.1).trans (HH.out.2.1 a b), H4.out⟩, rfl⟩
      case measure => rw [gapAt_eq H4.out.1, gapAt_eq HH.out.2.2.1]; exact HF.out
/-- the closure, valid or not -/
noncomputable def plusR (n : Int) (f : Rl.Rows) : Rl.Rows := if Rl.rightB n f then Rl.plusF n.toNat f else zeroR
theorem plus_any (n : Int) (f : Rl.Rows) (w : World) (zf : Rl.Z f) (hT : Tab w) (hw : 0 < w.heap.size) :
    Calls Tryd.prog 25 #[.agg (relC n f)] w fun e w' => e = .returned (.agg (relC (backN n f) (plusR n f))) ∧ Below w.heap.size w w' := by
  unfold backN plusR
  cases h : Rl.rightB n f
  · rw [if_neg (by simp), if_neg (by simp)]; exact plus_no n f w h
  · obtain ⟨m, rfl, hm⟩ := Rl.right_nat zf h
    rw [if_pos rfl, if_pos rfl, Int.toNat_natCast]; exact plus_yes m f w hm hT hw
end Go.Proofs.YtknjdfgmejobfaaDoor
