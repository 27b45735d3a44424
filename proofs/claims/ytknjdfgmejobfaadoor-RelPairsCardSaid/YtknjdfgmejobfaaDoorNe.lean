/- package rel: combine. -/
import Derived.Test.YtknjdfgmejobfaaDoorNd
import Derived.Laws.ResultCell
namespace Go.Proofs.YtknjdfgmejobfaaDoor
open Go.RowKit Go.Shelf

attribute [local go_sem] Bv.and_u Bv.or_u Bv.andNot_u Bv.wrap_sub1 Bv.eq0 Bv.ne0 Bv.wrap_pow Bv.wrap_powmin Bv.wrap_neg

/-- results: a relation that lies in a variable, and a slot -/
theorem results_rel_tmp {fn : Func} {p q : Tmp} (h : fn.results = #[.cell p 26, .tmp q]) (tmps : Array Value) (w : World) (b : Nat) (n : Int) (f : Rl.Rows)
    (hp : tmps.getD p undef = .pointer (some ⟨b, 0, none⟩)) (hR : RelAt w b n f) : (results fn tmps).run Tryd.prog w = .ok (.tuple #[.agg (relC n f), tmps.getD q undef]) w := by
  have hl := run_loadVar_row (P := Tryd.prog) w b 26 26 (relC n f) (0, 0) _ hR uRel rfl (sRelC n f)
  have hp' : tmps[p]?.getD undef = .pointer (some ⟨b, 0, none⟩) := by simpa using hp
  simp [results, h, hp', asAddr, hl]
theorem rel_grow {w : World} {b : Nat} {n : Int} {f : Rl.Rows} (h : RelAt w b n f) (d : Nat) (os : Array Obj) : RelAt (Go.Sort.grow (redrawn w d) os) b n f := h.below (below_regrown w d os) h.lt
/-- a load of a relation in a region that is walked quietly -/
theorem wpQuiet_load_rel {ops : Array Oper} {C : World → Prop} {Q : Act → Prop} {o : Oper} {rest : List Oper} {a : Act} (hw : Region.wanted o (yielded ops a.tmps) = true) (x : Operand) (ho : o.op = .load 26 x) (b : Nat) (n : Int) (f : Rl.Rows) (hx : a.eval x = .pointer (some ⟨b, 0, none⟩))
    (hC : ∀ w, C w → RelAt w b n f) (h : wpQuiet Tryd.prog ops C Q rest (a.put o.dst (.agg (relC n f)))) : wpQuiet Tryd.prog ops C Q (o :: rest) a :=
  BigFrame.wpQuiet_want hw fun K hK => ⟨_, fun w hw' => by
    unfold Oper.quietAt execOp
    simp only [ho, hx, Instr.loadAt, Instr.sureAddr, Sem.run_bind, Sem.run_pure, Result.andThen_ok, run_loadVar_row (P := Tryd.prog) _ b 26 26 (relC n f) (0, 0) _ (hC w hw') uRel rfl (sRelC n f)]
    exact ⟨rfl, rfl⟩, hK _ h⟩
theorem rel_class {w : World} {b : Nat} {n : Int} {f : Rl.Rows} (h : RelAt w b n f) : ∀ w', (∃ p : Regrown, w' = Go.Sort.grow (redrawn w p.d) p.os) → RelAt w' b n f := by
  rintro w' ⟨p, rfl⟩; exact rel_grow h p.d p.os
set_option maxRecDepth 100000 in
set_option maxHeartbeats 1000000 in
theorem combine_ne (pa pb : Nat) (n m : Int) (f g : Rl.Rows) (gf : FuncId) (caps : Array Value) (w : World) (ha : RelAt w pa n f) (hb : RelAt w pb m g) (hne : (n != m) = true) :
    Calls Tryd.prog 71 #[.pointer (some ⟨pa, 0, none⟩), .pointer (some ⟨pb, 0, none⟩), .func (.func gf) #[] caps] w fun e w' => e = .returned (.tuple #[.agg (relC 0 zeroR), .int .i64 2]) ∧ Below w.heap.size w w' := by
  have HC := Lib.hid (And.intro (Eq.refl (Rl.rightB n f)) (Eq.refl (Rl.rightB m g)))
  obtain ⟨W, hW⟩ : ∃ W, W = w.alloc (.cells (relC 0 zeroR) 26) := ⟨_, rfl⟩
  have ha1 := ha.alloc (.cells (relC 0 zeroR) 26)
  have hb1 := hb.alloc (.cells (relC 0 zeroR) 26)
  have hr1 := RelAt.new w 0 zeroR
  have hbel := (Below.refl w.heap.size w).alloc (Nat.le_refl _) (.cells (relC 0 zeroR) 26)
  have hlt : w.heap.size < (w.alloc (.cells (relC 0 zeroR) 26)).heap.size := by simp
  rw [← hW] at ha1 hb1 hr1 hbel hlt
  have GA := Lib.hid (rel_class ha1)
  have GB := Lib.hid (rel_class hb1)
  have na := fun d os => (rel_grow ha1 d os).num
  have nb := fun d os => (rel_grow hb1 d os).num
  have hzr := zero_rel
  have hbz := build_zero
  have HW := Lib.hid (And.intro hW (And.intro hr1 (And.intro hbel (And.intro hlt ha1))))
  clear ha hb ha1 hb1 hW hr1 hbel hlt
  go_enter Tryd.func71, Tryd.ntmps71
  go_wp2_with fail
  rw [← HW.out.1]
  refine wp_region_quiet_below (by kernel_rfl) (by kernel_rfl) ?_
  repeat (first | (refine wpQuiet_load_rel (by rfl) _ (by rfl) pa n f (by rfl) GA.out ?_) | (refine wpQuiet_load_rel (by rfl) _ (by rfl) pb m g (by rfl) GB.out ?_) | go_big_quiet_step (first | (go_at_call 58; with_reducible exact Calls.regrown_of (right_is _ _ _ HC.out.1 _)) | (go_at_call 58; with_reducible exact Calls.regrown_of (right_is _ _ _ HC.out.2 _))) | quiet_step (first | (go_at_call 58; with_reducible exact Calls.regrown_of (right_is _ _ _ HC.out.1 _)) | (go_at_call 58; with_reducible exact Calls.regrown_of (right_is _ _ _ HC.out.2 _))))
  refine wpQuiet_nil ?_
  intro W1 hw1
  have hb1 : Below W.heap.size W W1 := by obtain ⟨⟨d, os⟩, rfl⟩ := hw1; exact below_regrown _ _ _
  have H1 := Lib.hid (And.intro hb1 (And.intro (HW.out.2.1.below hb1 HW.out.2.2.2.1) (HW.out.2.2.1.trans (hb1.mono (Nat.le_of_lt HW.out.2.2.2.1)))))
  clear hw1 hb1 na nb
  go_wp2_with (refine wpList_store_rel (by rfl) (.tmp 6) (.tmp 31) (by rfl) w.heap.size 0 0 zeroR zeroR (by rfl) (by rfl) H1.out.2.1 ?_; intro w3 hR3 hg3)
  refine bodyPost_ret (results_rel_tmp rfl _ _ w.heap.size 0 zeroR rfl hR3) rfl ⟨rfl, H1.out.2.2.grown hg3 H1.out.2.2.size (fun j e => by injection e with e; omega)⟩
set_option maxRecDepth 100000 in
set_option maxHeartbeats 1000000 in
theorem combine_a (pa pb : Nat) (n m : Int) (f g : Rl.Rows) (gf : FuncId) (caps : Array Value) (w : World) (ha : RelAt w pa n f) (hb : RelAt w pb m g) (hne : (n != m) = false) (b1 : Rl.rightB n f = false) :
    Calls Tryd.prog 71 #[.pointer (some ⟨pa, 0, none⟩), .pointer (some ⟨pb, 0, none⟩), .func (.func gf) #[] caps] w fun e w' => e = .returned (.tuple #[.agg (relC 0 zeroR), .int .i64 2]) ∧ Below w.heap.size w w' := by
  have HC := Lib.hid (And.intro b1 (Eq.refl (Rl.rightB m g)))
  clear b1
  obtain ⟨W, hW⟩ : ∃ W, W = w.alloc (.cells (relC 0 zeroR) 26) := ⟨_, rfl⟩
  have ha1 := ha.alloc (.cells (relC 0 zeroR) 26)
  have hb1 := hb.alloc (.cells (relC 0 zeroR) 26)
  have hr1 := RelAt.new w 0 zeroR
  have hbel := (Below.refl w.heap.size w).alloc (Nat.le_refl _) (.cells (relC 0 zeroR) 26)
  have hlt : w.heap.size < (w.alloc (.cells (relC 0 zeroR) 26)).heap.size := by simp
  rw [← hW] at ha1 hb1 hr1 hbel hlt
  have GA := Lib.hid (rel_class ha1)
  have GB := Lib.hid (rel_class hb1)
  have na := fun d os => (rel_grow ha1 d os).num
  have nb := fun d os => (rel_grow hb1 d os).num
  have hzr := zero_rel
  have hbz := build_zero
  have HW := Lib.hid (And.intro hW (And.intro hr1 (And.intro hbel (And.intro hlt ha1))))
  clear ha hb ha1 hb1 hW hr1 hbel hlt
  go_enter Tryd.func71, Tryd.ntmps71
  go_wp2_with fail
  rw [← HW.out.1]
  refine wp_region_quiet_below (by kernel_rfl) (by kernel_rfl) ?_
  repeat (first | (refine wpQuiet_load_rel (by rfl) _ (by rfl) pa n f (by rfl) GA.out ?_) | (refine wpQuiet_load_rel (by rfl) _ (by rfl) pb m g (by rfl) GB.out ?_) | go_big_quiet_step (first | (go_at_call 58; with_reducible exact Calls.regrown_of (right_is _ _ _ HC.out.1 _)) | (go_at_call 58; with_reducible exact Calls.regrown_of (right_is _ _ _ HC.out.2 _))) | quiet_step (first | (go_at_call 58; with_reducible exact Calls.regrown_of (right_is _ _ _ HC.out.1 _)) | (go_at_call 58; with_reducible exact Calls.regrown_of (right_is _ _ _ HC.out.2 _))))
  refine wpQuiet_nil ?_
  intro W1 hw1
  have hb1 : Below W.heap.size W W1 := by obtain ⟨⟨d, os⟩, rfl⟩ := hw1; exact below_regrown _ _ _
  have H1 := Lib.hid (And.intro hb1 (And.intro (HW.out.2.1.below hb1 HW.out.2.2.2.1) (HW.out.2.2.1.trans (hb1.mono (Nat.le_of_lt HW.out.2.2.2.1)))))
  clear hw1 hb1 na nb
  go_wp2_with (refine wpList_store_rel (by rfl) (.tmp 6) (.tmp 31) (by rfl) w.heap.size 0 0 zeroR zeroR (by rfl) (by rfl) H1.out.2.1 ?_; intro w3 hR3 hg3)
  refine bodyPost_ret (results_rel_tmp rfl _ _ w.heap.size 0 zeroR rfl hR3) rfl ⟨rfl, H1.out.2.2.grown hg3 H1.out.2.2.size (fun j e => by injection e with e; omega)⟩
set_option maxRecDepth 100000 in
set_option maxHeartbeats 1000000 in
theorem combine_b (pa pb : Nat) (n m : Int) (f g : Rl.Rows) (gf : FuncId) (caps : Array Value) (w : World) (ha : RelAt w pa n f) (hb : RelAt w pb m g) (hne : (n != m) = false) (b1 : Rl.rightB n f = true) (b2 : Rl.rightB m g = false) :
    Calls Tryd.prog 71 #[.pointer (some ⟨pa, 0, none⟩), .pointer (some ⟨pb, 0, none⟩), .func (.func gf) #[] caps] w fun e w' => e = .returned (.tuple #[.agg (relC 0 zeroR), .int .i64 2]) ∧ Below w.heap.size w w' := by
  have HC := Lib.hid (And.intro b1 b2)
  clear b1 b2
  obtain ⟨W, hW⟩ : ∃ W, W = w.alloc (.cells (relC 0 zeroR) 26) := ⟨_, rfl⟩
  have ha1 := ha.alloc (.cells (relC 0 zeroR) 26)
  have hb1 := hb.alloc (.cells (relC 0 zeroR) 26)
  have hr1 := RelAt.new w 0 zeroR
  have hbel := (Below.refl w.heap.size w).alloc (Nat.le_refl _) (.cells (relC 0 zeroR) 26)
  have hlt : w.heap.size < (w.alloc (.cells (relC 0 zeroR) 26)).heap.size := by simp
  rw [← hW] at ha1 hb1 hr1 hbel hlt
  have GA := Lib.hid (rel_class ha1)
  have GB := Lib.hid (rel_class hb1)
  have na := fun d os => (rel_grow ha1 d os).num
  have nb := fun d os => (rel_grow hb1 d os).num
  have hzr := zero_rel
  have hbz := build_zero
  have HW := Lib.hid (And.intro hW (And.intro hr1 (And.intro hbel (And.intro hlt ha1))))
  clear ha hb ha1 hb1 hW hr1 hbel hlt
  go_enter Tryd.func71, Tryd.ntmps71
  go_wp2_with fail
  rw [← HW.out.1]
  refine wp_region_quiet_below (by kernel_rfl) (by kernel_rfl) ?_
  repeat (first | (refine wpQuiet_load_rel (by rfl) _ (by rfl) pa n f (by rfl) GA.out ?_) | (refine wpQuiet_load_rel (by rfl) _ (by rfl) pb m g (by rfl) GB.out ?_) | go_big_quiet_step (first | (go_at_call 58; with_reducible exact Calls.regrown_of (right_is _ _ _ HC.out.1 _)) | (go_at_call 58; with_reducible exact Calls.regrown_of (right_is _ _ _ HC.out.2 _))) | quiet_step (first | (go_at_call 58; with_reducible exact Calls.regrown_of (right_is _ _ _ HC.out.1 _)) | (go_at_call 58; with_reducible exact Calls.regrown_of (right_is _ _ _ HC.out.2 _))))
  refine wpQuiet_nil ?_
  intro W1 hw1
  have hb1 : Below W.heap.size W W1 := by obtain ⟨⟨d, os⟩, rfl⟩ := hw1; exact below_regrown _ _ _
  have H1 := Lib.hid (And.intro hb1 (And.intro (HW.out.2.1.below hb1 HW.out.2.2.2.1) (HW.out.2.2.1.trans (hb1.mono (Nat.le_of_lt HW.out.2.2.2.1)))))
  clear hw1 hb1 na nb
  go_wp2_with (refine wpList_store_rel (by rfl) (.tmp 6) (.tmp 31) (by rfl) w.heap.size 0 0 zeroR zeroR (by rfl) (by rfl) H1.out.2.1 ?_; intro w3 hR3 hg3)
  refine bodyPost_ret (results_rel_tmp rfl _ _ w.heap.size 0 zeroR rfl hR3) rfl ⟨rfl, H1.out.2.2.grown hg3 H1.out.2.2.size (fun j e => by injection e with e; omega)⟩
set_option maxRecDepth 100000 in
set_option maxHeartbeats 1000000 in
theorem combine_yes (pa pb : Nat) (n : Nat) (f g rows : Rl.Rows) (gf : FuncId) (caps : Array Value) (w : World) (ha : RelAt w pa n f) (hb : RelAt w pb n g) (b1 : Rl.Ok n f) (b2 : Rl.Ok n g)
    (eg : ∀ args w, (callFunc gf args).run Tryd.prog w = .ok (.enter gf args) w)
    (hrow : ∀ (a : Nat) (W : World), a < n → Below w.heap.size w W → Calls Tryd.prog gf (#[.int .i64 a] ++ caps) W fun e W' => e = .returned (.int .u64 (Bv.U (rows a))) ∧ Below W.heap.size W W') :
    Calls Tryd.prog 71 #[.pointer (some ⟨pa, 0, none⟩), .pointer (some ⟨pb, 0, none⟩), .func (.func gf) #[] caps] w fun e w' => e = .returned (.tuple #[.agg (relC n (Rl.cut n rows)), .int .i64 0]) ∧ Below w.heap.size w w' := by
  have HC := Lib.hid (And.intro (Rl.right_of b1) (Rl.right_of b2))
  have hne : ((n : Int) != (n : Int)) = false := by simp
  have HQ := Lib.hid (And.intro hrow (And.intro eg b1.le))
  clear b1 b2 hrow eg
  obtain ⟨W, hW⟩ : ∃ W, W = w.alloc (.cells (relC 0 zeroR) 26) := ⟨_, rfl⟩
  have ha1 := ha.alloc (.cells (relC 0 zeroR) 26)
  have hb1 := hb.alloc (.cells (relC 0 zeroR) 26)
  have hr1 := RelAt.new w 0 zeroR
  have hbel := (Below.refl w.heap.size w).alloc (Nat.le_refl _) (.cells (relC 0 zeroR) 26)
  have hlt : w.heap.size < (w.alloc (.cells (relC 0 zeroR) 26)).heap.size := by simp
  rw [← hW] at ha1 hb1 hr1 hbel hlt
  have GA := Lib.hid (rel_class ha1)
  have GB := Lib.hid (rel_class hb1)
  have na := fun d os => (rel_grow ha1 d os).num
  have nb := fun d os => (rel_grow hb1 d os).num
  have hzr := zero_rel
  have hbz := build_zero
  have HW := Lib.hid (And.intro hW (And.intro hr1 (And.intro hbel (And.intro hlt ha1))))
  clear ha hb ha1 hb1 hW hr1 hbel hlt
  go_enter Tryd.func71, Tryd.ntmps71
  go_wp2_with fail
  rw [← HW.out.1]
  refine wp_region_quiet_below (by kernel_rfl) (by kernel_rfl) ?_
  repeat (first | (refine wpQuiet_load_rel (by rfl) _ (by rfl) pa n f (by rfl) GA.out ?_) | (refine wpQuiet_load_rel (by rfl) _ (by rfl) pb n g (by rfl) GB.out ?_) | go_big_quiet_step (first | (go_at_call 58; with_reducible exact Calls.regrown_of (right_is _ _ _ HC.out.1 _)) | (go_at_call 58; with_reducible exact Calls.regrown_of (right_is _ _ _ HC.out.2 _))) | quiet_step (first | (go_at_call 58; with_reducible exact Calls.regrown_of (right_is _ _ _ HC.out.1 _)) | (go_at_call 58; with_reducible exact Calls.regrown_of (right_is _ _ _ HC.out.2 _))))
  refine wpQuiet_nil ?_
  intro W1 hw1
  have hb1 : Below W.heap.size W W1 := by obtain ⟨⟨d, os⟩, rfl⟩ := hw1; exact below_regrown _ _ _
  have H1 := Lib.hid (And.intro hb1 (And.intro (HW.out.2.1.below hb1 HW.out.2.2.2.1) (HW.out.2.2.1.trans (hb1.mono (Nat.le_of_lt HW.out.2.2.2.1)))))
  clear hw1 hb1 na nb
  have ca := (HW.out.2.2.2.2.below H1.out.1 HW.out.2.2.2.2.lt).num
  go_wp2_with fail
  refine (build_any n gf caps rows W1 HQ.out.2.2 HQ.out.2.1 (fun a W ha hb => HQ.out.1 a W ha (H1.out.2.2.trans (hb.mono H1.out.2.2.size)))).mono ?_
  rintro e w2 ⟨rfl, hb2⟩
  have HB2 := Lib.hid (And.intro (H1.out.2.2.trans (hb2.mono H1.out.2.2.size)) (H1.out.2.1.below hb2 H1.out.2.1.lt))
  clear hb2 ca
  go_wp2_with (refine wpList_store_rel (by rfl) (.tmp 6) (.tmp 37) (by rfl) w.heap.size n 0 (Rl.cut n rows) zeroR (by rfl) (by rfl) HB2.out.2 ?_; intro w3 hR3 hg3)
  refine bodyPost_ret (results_rel_tmp rfl _ _ w.heap.size n (Rl.cut n rows) rfl hR3) rfl ⟨rfl, HB2.out.1.grown hg3 HB2.out.1.size (fun j e => by injection e with e; omega)⟩
/-- what combine answers: the number, the rows, the error -/
def okB (n m : Int) (f g : Rl.Rows) : Bool := !(n != m) && Rl.rightB n f && Rl.rightB m g
def combN (n m : Int) (f g : Rl.Rows) : Int := if okB n m f g then n else 0
def combF (n m : Int) (f g rows : Rl.Rows) : Rl.Rows := if okB n m f g then Rl.cut n.toNat rows else zeroR
def combE (n m : Int) (f g : Rl.Rows) : Int := if okB n m f g then 0 else 2
theorem combine_any (pa pb : Nat) (n m : Int) (f g rows : Rl.Rows) (gf : FuncId) (caps : Array Value) (w : World) (zf : Rl.Z f) (zg : Rl.Z g) (ha : RelAt w pa n f) (hb : RelAt w pb m g)
    (eg : ∀ args w, (callFunc gf args).run Tryd.prog w = .ok (.enter gf args) w)
    (hrow : ∀ (k a : Nat) (W : World), n = k → m = k → Rl.Ok k f → Rl.Ok k g → a < k → Below w.heap.size w W → Calls Tryd.prog gf (#[.int .i64 a] ++ caps) W fun e W' => e = .returned (.int .u64 (Bv.U (rows a))) ∧ Below W.heap.size W W') :
    Calls Tryd.prog 71 #[.pointer (some ⟨pa, 0, none⟩), .pointer (some ⟨pb, 0, none⟩), .func (.func gf) #[] caps] w fun e w' => e = .returned (.tuple #[.agg (relC (combN n m f g) (combF n m f g rows)), .int .i64 (combE n m f g)]) ∧ Below w.heap.size w w' := by
  have hno : okB n m f g = false → relC (combN n m f g) (combF n m f g rows) = relC 0 zeroR ∧ combE n m f g = 2 := by
    intro h; unfold combN combF combE; rw [h]; exact ⟨rfl, rfl⟩
  cases h1 : (n != m)
  · cases h2 : Rl.rightB n f
    · obtain ⟨e1, e2⟩ := hno (by unfold okB; rw [h1, h2]; rfl)
      rw [e1, e2]; exact combine_a pa pb n m f g gf caps w ha hb h1 h2
    · cases h3 : Rl.rightB m g
      · obtain ⟨e1, e2⟩ := hno (by unfold okB; rw [h1, h2, h3]; rfl)
        rw [e1, e2]; exact combine_b pa pb n m f g gf caps w ha hb h1 h2 h3
      · obtain ⟨k, rfl, o1⟩ := Rl.right_nat zf h2
        obtain rfl : m = (k : Int) := by have : ¬ ((k : Int) ≠ m) := by simpa using h1
                                         omega
        have o2 := (Rl.right_iff k g zg).1 h3
        have hk : okB (k : Int) (k : Int) f g = true := by unfold okB; rw [h1, h2, h3]; rfl
        unfold combN combF combE
        rw [hk]
        exact combine_yes pa pb k f g rows gf caps w ha hb o1 o2 eg (fun a W => hrow k a W rfl rfl o1 o2)
  · obtain ⟨e1, e2⟩ := hno (by unfold okB; rw [h1]; rfl)
    rw [e1, e2]; exact combine_ne pa pb n m f g gf caps w ha hb h1
end Go.Proofs.YtknjdfgmejobfaaDoor
