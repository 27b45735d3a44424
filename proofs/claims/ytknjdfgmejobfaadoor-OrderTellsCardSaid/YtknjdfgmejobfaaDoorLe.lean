/- Texts that stand together: Ne, Nf, Ng, Nh, Ni, Nj, Nk. -/
import Derived.Test.YtknjdfgmejobfaaDoorLd
import Derived.Laws.ResultCell
import Derived.StillTailTactics
import Derived.Laws.StructEq
import Derived.ChangeKeysEq
/- package rel: combine. -/
namespace Go.Proofs.YtknjdfgmejobfaaDoor
open Go.RowKit Go.Shelf

attribute [local go_sem] Bv.and_u Bv.or_u Bv.andNot_u Bv.wrap_sub1 Bv.eq0 Bv.ne0 Bv.wrap_pow Bv.wrap_powmin Bv.wrap_neg

/-- results: a relation that lies in a variable, and a slot -/
theorem results_rel_tmp {fn : Func} {p q : Tmp} (h : fn.results = #[.cell p 26, .tmp q]) (tmps : Array Value) (w : World) (b : Nat) (n : Int) (f : Rl.Rows)
    (hp : tmps.getD p undef = .pointer (some ⟨b, 0, none⟩)) (hR : RelAt w b n f) : (results fn tmps).run Tryd.prog w = .ok (.tuple #[.agg (relC n f), tmps.getD q undef]) w := by
  have hl := run_loadVar_row (P := Tryd.prog) w b 26 26 (relC n f) (0, 0) _ hR uRel rfl (sRelC n f)
  have hp' : tmps[p]?.getD undef = .pointer (some ⟨b, 0, none⟩) := by simpa using hp
  simp [results, h, hp', asAddr, hl]
theorem rel_grow {w : World} {b : Nat} {n : Int} {f : Rl.Rows} (h : RelAt w b n f) (d : Nat) (os : Array Obj) : RelAt (Go.Sort.grow (redrawn w d) os) b n f := h.below (below_regrown w d os) h.lt
/-- a load of a relation in a region that is walked quietly -/
theorem wpQuiet_load_rel {ops : Array Oper} {C : World → Prop} {Q : Act → Prop} {o : Oper} {rest : List Oper} {a : Act} (hw : Region.wanted o (yielded ops a.tmps) = true) (x : Operand) (ho : o.op = .load 26 x) (b : Nat) (n : Int) (f : Rl.Rows) (hx : a.eval x = .pointer (some ⟨b, 0, none⟩))
    (hC : ∀ w, C w → RelAt w b n f) (h : wpQuiet Tryd.prog ops C Q rest (a.put o.dst (.agg (relC n f)))) : wpQuiet Tryd.prog ops C Q (o :: rest) a :=
  BigFrame.wpQuiet_want hw fun K hK => ⟨_, fun w hw' => by
    unfold Oper.quietAt execOp
    simp only [ho, hx, Instr.loadAt, Instr.sureAddr, Sem.run_bind, Sem.run_pure, Result.andThen_ok, run_loadVar_row (P := Tryd.prog) _ b 26 26 (relC n f) (0, 0) _ (hC w hw') uRel rfl (sRelC n f)]
    exact ⟨rfl, rfl⟩, hK _ h⟩
theorem rel_class {w : World} {b : Nat} {n : Int} {f : Rl.Rows} (h : RelAt w b n f) : ∀ w', (∃ p : Regrown, w' = Go.Sort.grow (redrawn w p.d) p.os) → RelAt w' b n f := by
  rintro w' ⟨p, rfl⟩; exact rel_grow h p.d p.os
set_option maxRecDepth 100000 in
set_option maxHeartbeats 1000000 in
theorem combine_ne (pa pb : Nat) (n m : Int) (f g : Rl.Rows) (gf : FuncId) (caps : Array Value) (w : World) (ha : RelAt w pa n f) (hb : RelAt w pb m g) (hne : (n != m) = true) :
    Calls Tryd.prog 71 #[.pointer (some ⟨pa, 0, none⟩), .pointer (some ⟨pb, 0, none⟩), .func (.func gf) #[] caps] w fun e w' => e = .returned (.tuple #[.agg (relC 0 zeroR), .int .i64 2]) ∧ Below w.heap.size w w' := by
  have HC := Lib.hid (And.intro (Eq.refl (Rl.rightB n f)) (Eq.refl (Rl.rightB m g)))
  obtain ⟨W, hW⟩ : ∃ W, W = w.alloc (.cells (relC 0 zeroR) 26) := ⟨_, rfl⟩
  have ha1 := ha.alloc (.cells (relC 0 zeroR) 26)
  have hb1 := hb.alloc (.cells (relC 0 zeroR) 26)
  have hr1 := RelAt.new w 0 zeroR
  have hbel := (Below.refl w.heap.size w).alloc (Nat.le_refl _) (.cells (relC 0 zeroR) 26)
  have hlt : w.heap.size < (w.alloc (.cells (relC 0 zeroR) 26)).heap.size := by simp
  rw [← hW] at ha1 hb1 hr1 hbel hlt
  have GA := Lib.hid (rel_class ha1)
  have GB := Lib.hid (rel_class hb1)
  have na := fun d os => (rel_grow ha1 d os).num
  have nb := fun d os => (rel_grow hb1 d os).num
  have hzr := zero_rel
  have hbz := build_zero
  have HW := Lib.hid (And.intro hW (And.intro hr1 (And.intro hbel (And.intro hlt ha1))))
  clear ha hb ha1 hb1 hW hr1 hbel hlt
  go_enter Tryd.func71, Tryd.ntmps71
  go_wp2_with fail
  rw [← HW.out.1]
  refine wp_region_quiet_below (by kernel_rfl) (by kernel_rfl) ?_
  repeat (first | (refine wpQuiet_load_rel (by rfl) _ (by rfl) pa n f (by rfl) GA.out ?_) | (refine wpQuiet_load_rel (by rfl) _ (by rfl) pb m g (by rfl) GB.out ?_) | go_big_quiet_step (first | (go_at_call 58; with_reducible exact Calls.regrown_of (right_is _ _ _ HC.out.1 _)) | (go_at_call 58; with_reducible exact Calls.regrown_of (right_is _ _ _ HC.out.2 _))) | quiet_step (first | (go_at_call 58; with_reducible exact Calls.regrown_of (right_is _ _ _ HC.out.1 _)) | (go_at_call 58; with_reducible exact Calls.regrown_of (right_is _ _ _ HC.out.2 _))))
  refine wpQuiet_nil ?_
  intro W1 hw1
  have hb1 : Below W.heap.size W W1 := by obtain ⟨⟨d, os⟩, rfl⟩ := hw1; exact below_regrown _ _ _
  have H1 := Lib.hid (And.intro hb1 (And.intro (HW.out.2.1.below hb1 HW.out.2.2.2.1) (HW.out.2.2.1.trans (hb1.mono (Nat.le_of_lt HW.out.2.2.2.1)))))
  clear hw1 hb1 na nb
  go_wp2_with (refine wpList_store_rel (by rfl) (.tmp 6) (.tmp 31) (by rfl) w.heap.size 0 0 zeroR zeroR (by rfl) (by rfl) H1.out.2.1 ?_; intro w3 hR3 hg3)
  refine bodyPost_ret (results_rel_tmp rfl _ _ w.heap.size 0 zeroR rfl hR3) rfl ⟨rfl, H1.out.2.2.grown hg3 H1.out.2.2.size (fun j e => by injection e with e; omega)⟩
set_option maxRecDepth 100000 in
set_option maxHeartbeats 1000000 in
theorem combine_a (pa pb : Nat) (n m : Int) (f g : Rl.Rows) (gf : FuncId) (caps : Array Value) (w : World) (ha : RelAt w pa n f) (hb : RelAt w pb m g) (hne : (n != m) = false) (b1 : Rl.rightB n f = false) :
    Calls Tryd.prog 71 #[.pointer (some ⟨pa, 0, none⟩), .pointer (some ⟨pb, 0, none⟩), .func (.func gf) #[] caps] w fun e w' => e = .returned (.tuple #[.agg (relC 0 zeroR), .int .i64 2]) ∧ Below w.heap.size w w' := by
  have HC := Lib.hid (And.intro b1 (Eq.refl (Rl.rightB m g)))
  clear b1
  obtain ⟨W, hW⟩ : ∃ W, W = w.alloc (.cells (relC 0 zeroR) 26) := ⟨_, rfl⟩
  have ha1 := ha.alloc (.cells (relC 0 zeroR) 26)
  have hb1 := hb.alloc (.cells (relC 0 zeroR) 26)
  have hr1 := RelAt.new w 0 zeroR
  have hbel := (Below.refl w.heap.size w).alloc (Nat.le_refl _) (.cells (relC 0 zeroR) 26)
  have hlt : w.heap.size < (w.alloc (.cells (relC 0 zeroR) 26)).heap.size := by simp
  rw [← hW] at ha1 hb1 hr1 hbel hlt
  have GA := Lib.hid (rel_class ha1)
  have GB := Lib.hid (rel_class hb1)
  have na := fun d os => (rel_grow ha1 d os).num
  have nb := fun d os => (rel_grow hb1 d os).num
  have hzr := zero_rel
  have hbz := build_zero
  have HW := Lib.hid (And.intro hW (And.intro hr1 (And.intro hbel (And.intro hlt ha1))))
  clear ha hb ha1 hb1 hW hr1 hbel hlt
  go_enter Tryd.func71, Tryd.ntmps71
  go_wp2_with fail
  rw [← HW.out.1]
  refine wp_region_quiet_below (by kernel_rfl) (by kernel_rfl) ?_
  repeat (first | (refine wpQuiet_load_rel (by rfl) _ (by rfl) pa n f (by rfl) GA.out ?_) | (refine wpQuiet_load_rel (by rfl) _ (by rfl) pb m g (by rfl) GB.out ?_) | go_big_quiet_step (first | (go_at_call 58; with_reducible exact Calls.regrown_of (right_is _ _ _ HC.out.1 _)) | (go_at_call 58; with_reducible exact Calls.regrown_of (right_is _ _ _ HC.out.2 _))) | quiet_step (first | (go_at_call 58; with_reducible exact Calls.regrown_of (right_is _ _ _ HC.out.1 _)) | (go_at_call 58; with_reducible exact Calls.regrown_of (right_is _ _ _ HC.out.2 _))))
  refine wpQuiet_nil ?_
  intro W1 hw1
  have hb1 : Below W.heap.size W W1 := by obtain ⟨⟨d, os⟩, rfl⟩ := hw1; exact below_regrown _ _ _
  have H1 := Lib.hid (And.intro hb1 (And.intro (HW.out.2.1.below hb1 HW.out.2.2.2.1) (HW.out.2.2.1.trans (hb1.mono (Nat.le_of_lt HW.out.2.2.2.1)))))
  clear hw1 hb1 na nb
  go_wp2_with (refine wpList_store_rel (by rfl) (.tmp 6) (.tmp 31) (by rfl) w.heap.size 0 0 zeroR zeroR (by rfl) (by rfl) H1.out.2.1 ?_; intro w3 hR3 hg3)
  refine bodyPost_ret (results_rel_tmp rfl _ _ w.heap.size 0 zeroR rfl hR3) rfl ⟨rfl, H1.out.2.2.grown hg3 H1.out.2.2.size (fun j e => by injection e with e; omega)⟩
set_option maxRecDepth 100000 in
set_option maxHeartbeats 1000000 in
theorem combine_b (pa pb : Nat) (n m : Int) (f g : Rl.Rows) (gf : FuncId) (caps : Array Value) (w : World) (ha : RelAt w pa n f) (hb : RelAt w pb m g) (hne : (n != m) = false) (b1 : Rl.rightB n f = true) (b2 : Rl.rightB m g = false) :
    Calls Tryd.prog 71 #[.pointer (some ⟨pa, 0, none⟩), .pointer (some ⟨pb, 0, none⟩), .func (.func gf) #[] caps] w fun e w' => e = .returned (.tuple #[.agg (relC 0 zeroR), .int .i64 2]) ∧ Below w.heap.size w w' := by
  have HC := Lib.hid (And.intro b1 b2)
  clear b1 b2
  obtain ⟨W, hW⟩ : ∃ W, W = w.alloc (.cells (relC 0 zeroR) 26) := ⟨_, rfl⟩
  have ha1 := ha.alloc (.cells (relC 0 zeroR) 26)
  have hb1 := hb.alloc (.cells (relC 0 zeroR) 26)
  have hr1 := RelAt.new w 0 zeroR
  have hbel := (Below.refl w.heap.size w).alloc (Nat.le_refl _) (.cells (relC 0 zeroR) 26)
  have hlt : w.heap.size < (w.alloc (.cells (relC 0 zeroR) 26)).heap.size := by simp
  rw [← hW] at ha1 hb1 hr1 hbel hlt
  have GA := Lib.hid (rel_class ha1)
  have GB := Lib.hid (rel_class hb1)
  have na := fun d os => (rel_grow ha1 d os).num
  have nb := fun d os => (rel_grow hb1 d os).num
  have hzr := zero_rel
  have hbz := build_zero
  have HW := Lib.hid (And.intro hW (And.intro hr1 (And.intro hbel (And.intro hlt ha1))))
  clear ha hb ha1 hb1 hW hr1 hbel hlt
  go_enter Tryd.func71, Tryd.ntmps71
  go_wp2_with fail
  rw [← HW.out.1]
  refine wp_region_quiet_below (by kernel_rfl) (by kernel_rfl) ?_
  repeat (first | (refine wpQuiet_load_rel (by rfl) _ (by rfl) pa n f (by rfl) GA.out ?_) | (refine wpQuiet_load_rel (by rfl) _ (by rfl) pb m g (by rfl) GB.out ?_) | go_big_quiet_step (first | (go_at_call 58; with_reducible exact Calls.regrown_of (right_is _ _ _ HC.out.1 _)) | (go_at_call 58; with_reducible exact Calls.regrown_of (right_is _ _ _ HC.out.2 _))) | quiet_step (first | (go_at_call 58; with_reducible exact Calls.regrown_of (right_is _ _ _ HC.out.1 _)) | (go_at_call 58; with_reducible exact Calls.regrown_of (right_is _ _ _ HC.out.2 _))))
  refine wpQuiet_nil ?_
  intro W1 hw1
  have hb1 : Below W.heap.size W W1 := by obtain ⟨⟨d, os⟩, rfl⟩ := hw1; exact below_regrown _ _ _
  have H1 := Lib.hid (And.intro hb1 (And.intro (HW.out.2.1.below hb1 HW.out.2.2.2.1) (HW.out.2.2.1.trans (hb1.mono (Nat.le_of_lt HW.out.2.2.2.1)))))
  clear hw1 hb1 na nb
  go_wp2_with (refine wpList_store_rel (by rfl) (.tmp 6) (.tmp 31) (by rfl) w.heap.size 0 0 zeroR zeroR (by rfl) (by rfl) H1.out.2.1 ?_; intro w3 hR3 hg3)
  refine bodyPost_ret (results_rel_tmp rfl _ _ w.heap.size 0 zeroR rfl hR3) rfl ⟨rfl, H1.out.2.2.grown hg3 H1.out.2.2.size (fun j e => by injection e with e; omega)⟩
set_option maxRecDepth 100000 in
set_option maxHeartbeats 1000000 in
theorem combine_yes (pa pb : Nat) (n : Nat) (f g rows : Rl.Rows) (gf : FuncId) (caps : Array Value) (w : World) (ha : RelAt w pa n f) (hb : RelAt w pb n g) (b1 : Rl.Ok n f) (b2 : Rl.Ok n g)
    (eg : ∀ args w, (callFunc gf args).run Tryd.prog w = .ok (.enter gf args) w)
    (hrow : ∀ (a : Nat) (W : World), a < n → Below w.heap.size w W → Calls Tryd.prog gf (#[.int .i64 a] ++ caps) W fun e W' => e = .returned (.int .u64 (Bv.U (rows a))) ∧ Below W.heap.size W W') :
    Calls Tryd.prog 71 #[.pointer (some ⟨pa, 0, none⟩), .pointer (some ⟨pb, 0, none⟩), .func (.func gf) #[] caps] w fun e w' => e = .returned (.tuple #[.agg (relC n (Rl.cut n rows)), .int .i64 0]) ∧ Below w.heap.size w w' := by
  have HC := Lib.hid (And.intro (Rl.right_of b1) (Rl.right_of b2))
  have hne : ((n : Int) != (n : Int)) = false := by simp
  have HQ := Lib.hid (And.intro hrow (And.intro eg b1.le))
  clear b1 b2 hrow eg
  obtain ⟨W, hW⟩ : ∃ W, W = w.alloc (.cells (relC 0 zeroR) 26) := ⟨_, rfl⟩
  have ha1 := ha.alloc (.cells (relC 0 zeroR) 26)
  have hb1 := hb.alloc (.cells (relC 0 zeroR) 26)
  have hr1 := RelAt.new w 0 zeroR
  have hbel := (Below.refl w.heap.size w).alloc (Nat.le_refl _) (.cells (relC 0 zeroR) 26)
  have hlt : w.heap.size < (w.alloc (.cells (relC 0 zeroR) 26)).heap.size := by simp
  rw [← hW] at ha1 hb1 hr1 hbel hlt
  have GA := Lib.hid (rel_class ha1)
  have GB := Lib.hid (rel_class hb1)
  have na := fun d os => (rel_grow ha1 d os).num
  have nb := fun d os => (rel_grow hb1 d os).num
  have hzr := zero_rel
  have hbz := build_zero
  have HW := Lib.hid (And.intro hW (And.intro hr1 (And.intro hbel (And.intro hlt ha1))))
  clear ha hb ha1 hb1 hW hr1 hbel hlt
  go_enter Tryd.func71, Tryd.ntmps71
  go_wp2_with fail
  rw [← HW.out.1]
  refine wp_region_quiet_below (by kernel_rfl) (by kernel_rfl) ?_
  repeat (first | (refine wpQuiet_load_rel (by rfl) _ (by rfl) pa n f (by rfl) GA.out ?_) | (refine wpQuiet_load_rel (by rfl) _ (by rfl) pb n g (by rfl) GB.out ?_) | go_big_quiet_step (first | (go_at_call 58; with_reducible exact Calls.regrown_of (right_is _ _ _ HC.out.1 _)) | (go_at_call 58; with_reducible exact Calls.regrown_of (right_is _ _ _ HC.out.2 _))) | quiet_step (first | (go_at_call 58; with_reducible exact Calls.regrown_of (right_is _ _ _ HC.out.1 _)) | (go_at_call 58; with_reducible exact Calls.regrown_of (right_is _ _ _ HC.out.2 _))))
  refine wpQuiet_nil ?_
  intro W1 hw1
  have hb1 : Below W.heap.size W W1 := by obtain ⟨⟨d, os⟩, rfl⟩ := hw1; exact below_regrown _ _ _
  have H1 := Lib.hid (And.intro hb1 (And.intro (HW.out.2.1.below hb1 HW.out.2.2.2.1) (HW.out.2.2.1.trans (hb1.mono (Nat.le_of_lt HW.out.2.2.2.1)))))
  clear hw1 hb1 na nb
  have ca := (HW.out.2.2.2.2.below H1.out.1 HW.out.2.2.2.2.lt).num
  go_wp2_with fail
  refine (build_any n gf caps rows W1 HQ.out.2.2 HQ.out.2.1 (fun a W ha hb => HQ.out.1 a W ha (H1.out.2.2.trans (hb.mono H1.out.2.2.size)))).mono ?_
  rintro e w2 ⟨rfl, hb2⟩
  have HB2 := Lib.hid (And.intro (H1.out.2.2.trans (hb2.mono H1.out.2.2.size)) (H1.out.2.1.below hb2 H1.out.2.1.lt))
  clear hb2 ca
  go_wp2_with (refine wpList_store_rel (by rfl) (.tmp 6) (.tmp 37) (by rfl) w.heap.size n 0 (Rl.cut n rows) zeroR (by rfl) (by rfl) HB2.out.2 ?_; intro w3 hR3 hg3)
  refine bodyPost_ret (results_rel_tmp rfl _ _ w.heap.size n (Rl.cut n rows) rfl hR3) rfl ⟨rfl, HB2.out.1.grown hg3 HB2.out.1.size (fun j e => by injection e with e; omega)⟩
/-- what combine answers: the number, the rows, the error -/
def okB (n m : Int) (f g : Rl.Rows) : Bool := !(n != m) && Rl.rightB n f && Rl.rightB m g
def combN (n m : Int) (f g : Rl.Rows) : Int := if okB n m f g then n else 0
def combF (n m : Int) (f g rows : Rl.Rows) : Rl.Rows := if okB n m f g then Rl.cut n.toNat rows else zeroR
def combE (n m : Int) (f g : Rl.Rows) : Int := if okB n m f g then 0 else 2
theorem combine_any (pa pb : Nat) (n m : Int) (f g rows : Rl.Rows) (gf : FuncId) (caps : Array Value) (w : World) (zf : Rl.Z f) (zg : Rl.Z g) (ha : RelAt w pa n f) (hb : RelAt w pb m g)
    (eg : ∀ args w, (callFunc gf args).run Tryd.prog w = .ok (.enter gf args) w)
    (hrow : ∀ (k a : Nat) (W : World), n = k → m = k → Rl.Ok k f → Rl.Ok k g → a < k → Below w.heap.size w W → Calls Tryd.prog gf (#[.int .i64 a] ++ caps) W fun e W' => e = .returned (.int .u64 (Bv.U (rows a))) ∧ Below W.heap.size W W') :
    Calls Tryd.prog 71 #[.pointer (some ⟨pa, 0, none⟩), .pointer (some ⟨pb, 0, none⟩), .func (.func gf) #[] caps] w fun e w' => e = .returned (.tuple #[.agg (relC (combN n m f g) (combF n m f g rows)), .int .i64 (combE n m f g)]) ∧ Below w.heap.size w w' := by
  have hno : okB n m f g = false → relC (combN n m f g) (combF n m f g rows) = relC 0 zeroR ∧ combE n m f g = 2 := by
    intro h; unfold combN combF combE; rw [h]; exact ⟨rfl, rfl⟩
  cases h1 : (n != m)
  · cases h2 : Rl.rightB n f
    · obtain ⟨e1, e2⟩ := hno (by unfold okB; rw [h1, h2]; rfl)
      rw [e1, e2]; exact combine_a pa pb n m f g gf caps w ha hb h1 h2
    · cases h3 : Rl.rightB m g
      · obtain ⟨e1, e2⟩ := hno (by unfold okB; rw [h1, h2, h3]; rfl)
        rw [e1, e2]; exact combine_b pa pb n m f g gf caps w ha hb h1 h2 h3
      · obtain ⟨k, rfl, o1⟩ := Rl.right_nat zf h2
        obtain rfl : m = (k : Int) := by have : ¬ ((k : Int) ≠ m) := by simpa using h1
                                         omega
        have o2 := (Rl.right_iff k g zg).1 h3
        have hk : okB (k : Int) (k : Int) f g = true := by unfold okB; rw [h1, h2, h3]; rfl
        unfold combN combF combE
        rw [hk]
        exact combine_yes pa pb k f g rows gf caps w ha hb o1 o2 eg (fun a W => hrow k a W rfl rfl o1 o2)
  · obtain ⟨e1, e2⟩ := hno (by unfold okB; rw [h1]; rfl)
    rw [e1, e2]; exact combine_ne pa pb n m f g gf caps w ha hb h1
end Go.Proofs.YtknjdfgmejobfaaDoor

/- package rel: Union, Both, Less, Then. -/
namespace Go.Proofs.YtknjdfgmejobfaaDoor
open Go.RowKit Go.Shelf

attribute [local go_sem] Bv.and_u Bv.or_u Bv.andNot_u Bv.wrap_sub1 Bv.eq0 Bv.ne0 Bv.wrap_pow Bv.wrap_powmin Bv.wrap_neg

set_option maxRecDepth 100000 in
set_option maxHeartbeats 1000000 in
theorem union1 (pa pb k : Nat) (n m : Int) (f g : Rl.Rows) (w : World) (hk : k < 48) (ha : RelAt w pa n f) (hb : RelAt w pb m g) :
    Calls Tryd.prog 74 #[.int .i64 k, .pointer (some ⟨pa, 0, none⟩), .pointer (some ⟨pb, 0, none⟩)] w fun e w' => e = .returned (.int .u64 (Bv.U (f k ||| g k))) ∧ Below w.heap.size w w' := by
  have ca := ha.row k hk
  have cb := hb.row k hk
  have q0 : (0 : Int) ≤ (k : Int) := by omega
  have q1 : (k : Int) < 48 := by omega
  obtain ⟨x, hx⟩ : ∃ x, x = f k := ⟨_, rfl⟩
  obtain ⟨y, hy⟩ : ∃ y, y = g k := ⟨_, rfl⟩
  rw [← hx] at ca ⊢
  rw [← hy] at cb ⊢
  clear ha hb hx hy
  go_enter Tryd.func74, Tryd.ntmps74
  go_wp2_with fail
  go_quiet (fail)
  go_wp2
  go_ret
  exact ⟨rfl, by repeat (first | exact Below.refl _ _ | exact below_drewN (Below.refl _ _) _ | refine Below.drew ?_)⟩
set_option maxRecDepth 100000 in
set_option maxHeartbeats 1000000 in
theorem both1 (pa pb k : Nat) (n m : Int) (f g : Rl.Rows) (w : World) (hk : k < 48) (ha : RelAt w pa n f) (hb : RelAt w pb m g) :
    Calls Tryd.prog 89 #[.int .i64 k, .pointer (some ⟨pa, 0, none⟩), .pointer (some ⟨pb, 0, none⟩)] w fun e w' => e = .returned (.int .u64 (Bv.U (f k &&& g k))) ∧ Below w.heap.size w w' := by
  have ca := ha.row k hk
  have cb := hb.row k hk
  have q0 : (0 : Int) ≤ (k : Int) := by omega
  have q1 : (k : Int) < 48 := by omega
  obtain ⟨x, hx⟩ : ∃ x, x = f k := ⟨_, rfl⟩
  obtain ⟨y, hy⟩ : ∃ y, y = g k := ⟨_, rfl⟩
  rw [← hx] at ca ⊢
  rw [← hy] at cb ⊢
  clear ha hb hx hy
  go_enter Tryd.func89, Tryd.ntmps89
  go_wp2_with fail
  go_quiet (fail)
  go_wp2
  go_ret
  exact ⟨rfl, by repeat (first | exact Below.refl _ _ | exact below_drewN (Below.refl _ _) _ | refine Below.drew ?_)⟩
set_option maxRecDepth 100000 in
set_option maxHeartbeats 1000000 in
theorem less1 (pa pb k : Nat) (n m : Int) (f g : Rl.Rows) (w : World) (hk : k < 48) (ha : RelAt w pa n f) (hb : RelAt w pb m g) :
    Calls Tryd.prog 88 #[.int .i64 k, .pointer (some ⟨pa, 0, none⟩), .pointer (some ⟨pb, 0, none⟩)] w fun e w' => e = .returned (.int .u64 (Bv.U (f k &&& ~~~ (g k)))) ∧ Below w.heap.size w w' := by
  have ca := ha.row k hk
  have cb := hb.row k hk
  have q0 : (0 : Int) ≤ (k : Int) := by omega
  have q1 : (k : Int) < 48 := by omega
  obtain ⟨x, hx⟩ : ∃ x, x = f k := ⟨_, rfl⟩
  obtain ⟨y, hy⟩ : ∃ y, y = g k := ⟨_, rfl⟩
  rw [← hx] at ca ⊢
  rw [← hy] at cb ⊢
  clear ha hb hx hy
  go_enter Tryd.func88, Tryd.ntmps88
  go_wp2_with fail
  go_quiet (fail)
  go_wp2
  go_ret
  exact ⟨rfl, by repeat (first | exact Below.refl _ _ | exact below_drewN (Below.refl _ _) _ | refine Below.drew ?_)⟩
set_option maxRecDepth 100000 in
set_option maxHeartbeats 1000000 in
theorem then1 (pa pb k : Nat) (n m : Int) (f g : Rl.Rows) (w : World) (hk : k < 48) (ha : RelAt w pa n f) (hb : RelAt w pb m g) (hs : ∀ i, (f k).getLsbD i = true → i < 48) (hT : Tab w) (hw : 0 < w.heap.size) :
    Calls Tryd.prog 72 #[.int .i64 k, .pointer (some ⟨pb, 0, none⟩), .pointer (some ⟨pa, 0, none⟩)] w fun e w' => e = .returned (.int .u64 (Bv.U (Rl.image g (f k)))) ∧ Below w.heap.size w w' := by
  have ca := ha.row k hk
  have q0 : (0 : Int) ≤ (k : Int) := by omega
  have q1 : (k : Int) < 48 := by omega
  obtain ⟨x, hx⟩ : ∃ x, x = f k := ⟨_, rfl⟩
  rw [← hx] at ca hs ⊢
  have H := Lib.hid (And.intro hb (And.intro hs hT))
  clear ha hb hx hs hT
  go_enter Tryd.func72, Tryd.ntmps72
  go_wp2_with fail
  refine (image_any pb m g x _ H.out.1 H.out.2.1 H.out.2.2 hw).mono ?_
  rintro e w1 ⟨rfl, hb1⟩
  have B := Lib.hid hb1
  clear hb1
  go_wp2_with fail
  go_ret
  exact ⟨rfl, B.out⟩
set_option maxRecDepth 100000 in
set_option maxHeartbeats 1000000 in
theorem union_any (n m : Int) (f g : Rl.Rows) (w : World) (zf : Rl.Z f) (zg : Rl.Z g) :
    Calls Tryd.prog 19 #[.agg (relC n f), .agg (relC m g)] w fun e w' => e = .returned (.tuple #[.agg (relC (combN n m f g) (combF n m f g fun k => f k ||| g k)), .int .i64 (combE n m f g)]) ∧ Below w.heap.size w w' := by
  have h0 := ((RelAt.new w n f).alloc (.cells (relC m g) 26)).alloc (.cells (relC 0 zeroR) 26)
  have h1 := (RelAt.new (w.alloc (.cells (relC n f) 26)) m g).alloc (.cells (relC 0 zeroR) 26)
  have h2 := RelAt.new ((w.alloc (.cells (relC n f) 26)).alloc (.cells (relC m g) 26)) 0 zeroR
  rw [World.size_alloc] at h1
  simp only [World.size_alloc] at h2
  have hB := ((((Below.refl w.heap.size w).alloc (Nat.le_refl _) (.cells (relC n f) 26)).alloc (by simp) (.cells (relC m g) 26)).alloc (by simp; omega) (.cells (relC 0 zeroR) 26))
  have H := Lib.hid (And.intro h0 (And.intro h1 (And.intro h2 hB)))
  have eg := enters_of Tryd.func74 (by kernel_rfl) rfl
  have EG := Lib.hid eg
  have hzr := zero_rel

  clear h0 h1 h2 hB eg
  go_enter Tryd.func19, Tryd.ntmps19
  go_wp2_with fail
  refine (combine_any w.heap.size (w.heap.size + 1) n m f g (fun k => f k ||| g k) 74 #[.pointer (some ⟨w.heap.size, 0, none⟩), .pointer (some ⟨w.heap.size + 1, 0, none⟩)] _ zf zg H.out.1 H.out.2.1 EG.out ?_).mono ?_
  · intro k a W hn hm o1 o2 hak hb
    have hlt := o1.le
    have r0 := H.out.1.below hb (by first | (simp; done) | (simp; omega))
    have r1 := H.out.2.1.below hb (by first | (simp; done) | (simp; omega))
    exact union1 _ _ a n m f g W (by omega) r0 r1
  rintro e w1 ⟨rfl, hb⟩
  have H1 := Lib.hid (And.intro (H.out.2.2.1.below hb (by simp)) (H.out.2.2.2.trans (hb.mono H.out.2.2.2.size)))
  clear hb
  go_wp2_with (refine wpList_store_rel (by rfl) (.tmp 4) (.tmp 8) (by rfl) (w.heap.size + 1 + 1) (combN n m f g) 0 (combF n m f g fun k => f k ||| g k) zeroR (by rfl) (by rfl) H1.out.1 ?_; intro w3 hR3 hg3)
  refine bodyPost_ret (results_rel_tmp rfl _ _ (w.heap.size + 1 + 1) _ _ rfl hR3) rfl ⟨rfl, H1.out.2.grown hg3 H1.out.2.size (fun j e => by injection e with e; omega)⟩
set_option maxRecDepth 100000 in
set_option maxHeartbeats 1000000 in
theorem both_any (n m : Int) (f g : Rl.Rows) (w : World) (zf : Rl.Z f) (zg : Rl.Z g) :
    Calls Tryd.prog 42 #[.agg (relC n f), .agg (relC m g)] w fun e w' => e = .returned (.tuple #[.agg (relC (combN n m f g) (combF n m f g fun k => f k &&& g k)), .int .i64 (combE n m f g)]) ∧ Below w.heap.size w w' := by
  have h0 := ((RelAt.new w n f).alloc (.cells (relC m g) 26)).alloc (.cells (relC 0 zeroR) 26)
  have h1 := (RelAt.new (w.alloc (.cells (relC n f) 26)) m g).alloc (.cells (relC 0 zeroR) 26)
  have h2 := RelAt.new ((w.alloc (.cells (relC n f) 26)).alloc (.cells (relC m g) 26)) 0 zeroR
  rw [World.size_alloc] at h1
  simp only [World.size_alloc] at h2
  have hB := ((((Below.refl w.heap.size w).alloc (Nat.le_refl _) (.cells (relC n f) 26)).alloc (by simp) (.cells (relC m g) 26)).alloc (by simp; omega) (.cells (relC 0 zeroR) 26))
  have H := Lib.hid (And.intro h0 (And.intro h1 (And.intro h2 hB)))
  have eg := enters_of Tryd.func89 (by kernel_rfl) rfl
  have EG := Lib.hid eg
  have hzr := zero_rel

  clear h0 h1 h2 hB eg
  go_enter Tryd.func42, Tryd.ntmps42
  go_wp2_with fail
  refine (combine_any w.heap.size (w.heap.size + 1) n m f g (fun k => f k &&& g k) 89 #[.pointer (some ⟨w.heap.size, 0, none⟩), .pointer (some ⟨w.heap.size + 1, 0, none⟩)] _ zf zg H.out.1 H.out.2.1 EG.out ?_).mono ?_
  · intro k a W hn hm o1 o2 hak hb
    have hlt := o1.le
    have r0 := H.out.1.below hb (by first | (simp; done) | (simp; omega))
    have r1 := H.out.2.1.below hb (by first | (simp; done) | (simp; omega))
    exact both1 _ _ a n m f g W (by omega) r0 r1
  rintro e w1 ⟨rfl, hb⟩
  have H1 := Lib.hid (And.intro (H.out.2.2.1.below hb (by simp)) (H.out.2.2.2.trans (hb.mono H.out.2.2.2.size)))
  clear hb
  go_wp2_with (refine wpList_store_rel (by rfl) (.tmp 4) (.tmp 8) (by rfl) (w.heap.size + 1 + 1) (combN n m f g) 0 (combF n m f g fun k => f k &&& g k) zeroR (by rfl) (by rfl) H1.out.1 ?_; intro w3 hR3 hg3)
  refine bodyPost_ret (results_rel_tmp rfl _ _ (w.heap.size + 1 + 1) _ _ rfl hR3) rfl ⟨rfl, H1.out.2.grown hg3 H1.out.2.size (fun j e => by injection e with e; omega)⟩
set_option maxRecDepth 100000 in
set_option maxHeartbeats 1000000 in
theorem less_any (n m : Int) (f g : Rl.Rows) (w : World) (zf : Rl.Z f) (zg : Rl.Z g) :
    Calls Tryd.prog 40 #[.agg (relC n f), .agg (relC m g)] w fun e w' => e = .returned (.tuple #[.agg (relC (combN n m f g) (combF n m f g fun k => f k &&& ~~~ (g k))), .int .i64 (combE n m f g)]) ∧ Below w.heap.size w w' := by
  have h0 := ((RelAt.new w n f).alloc (.cells (relC m g) 26)).alloc (.cells (relC 0 zeroR) 26)
  have h1 := (RelAt.new (w.alloc (.cells (relC n f) 26)) m g).alloc (.cells (relC 0 zeroR) 26)
  have h2 := RelAt.new ((w.alloc (.cells (relC n f) 26)).alloc (.cells (relC m g) 26)) 0 zeroR
  rw [World.size_alloc] at h1
  simp only [World.size_alloc] at h2
  have hB := ((((Below.refl w.heap.size w).alloc (Nat.le_refl _) (.cells (relC n f) 26)).alloc (by simp) (.cells (relC m g) 26)).alloc (by simp; omega) (.cells (relC 0 zeroR) 26))
  have H := Lib.hid (And.intro h0 (And.intro h1 (And.intro h2 hB)))
  have eg := enters_of Tryd.func88 (by kernel_rfl) rfl
  have EG := Lib.hid eg
  have hzr := zero_rel

  clear h0 h1 h2 hB eg
  go_enter Tryd.func40, Tryd.ntmps40
  go_wp2_with fail
  refine (combine_any w.heap.size (w.heap.size + 1) n m f g (fun k => f k &&& ~~~ (g k)) 88 #[.pointer (some ⟨w.heap.size, 0, none⟩), .pointer (some ⟨w.heap.size + 1, 0, none⟩)] _ zf zg H.out.1 H.out.2.1 EG.out ?_).mono ?_
  · intro k a W hn hm o1 o2 hak hb
    have hlt := o1.le
    have r0 := H.out.1.below hb (by first | (simp; done) | (simp; omega))
    have r1 := H.out.2.1.below hb (by first | (simp; done) | (simp; omega))
    exact less1 _ _ a n m f g W (by omega) r0 r1
  rintro e w1 ⟨rfl, hb⟩
  have H1 := Lib.hid (And.intro (H.out.2.2.1.below hb (by simp)) (H.out.2.2.2.trans (hb.mono H.out.2.2.2.size)))
  clear hb
  go_wp2_with (refine wpList_store_rel (by rfl) (.tmp 4) (.tmp 8) (by rfl) (w.heap.size + 1 + 1) (combN n m f g) 0 (combF n m f g fun k => f k &&& ~~~ (g k)) zeroR (by rfl) (by rfl) H1.out.1 ?_; intro w3 hR3 hg3)
  refine bodyPost_ret (results_rel_tmp rfl _ _ (w.heap.size + 1 + 1) _ _ rfl hR3) rfl ⟨rfl, H1.out.2.grown hg3 H1.out.2.size (fun j e => by injection e with e; omega)⟩
set_option maxRecDepth 100000 in
set_option maxHeartbeats 1000000 in
theorem then_any (n m : Int) (f g : Rl.Rows) (w : World) (zf : Rl.Z f) (zg : Rl.Z g) (hT : Tab w) (hw : 0 < w.heap.size) :
    Calls Tryd.prog 18 #[.agg (relC n f), .agg (relC m g)] w fun e w' => e = .returned (.tuple #[.agg (relC (combN n m f g) (combF n m f g fun k => Rl.image g (f k))), .int .i64 (combE n m f g)]) ∧ Below w.heap.size w w' := by
  have h0 := ((RelAt.new w n f).alloc (.cells (relC m g) 26)).alloc (.cells (relC 0 zeroR) 26)
  have h1 := (RelAt.new (w.alloc (.cells (relC n f) 26)) m g).alloc (.cells (relC 0 zeroR) 26)
  have h2 := RelAt.new ((w.alloc (.cells (relC n f) 26)).alloc (.cells (relC m g) 26)) 0 zeroR
  rw [World.size_alloc] at h1
  simp only [World.size_alloc] at h2
  have hB := ((((Below.refl w.heap.size w).alloc (Nat.le_refl _) (.cells (relC n f) 26)).alloc (by simp) (.cells (relC m g) 26)).alloc (by simp; omega) (.cells (relC 0 zeroR) 26))
  have H := Lib.hid (And.intro h0 (And.intro h1 (And.intro h2 hB)))
  have eg := enters_of Tryd.func72 (by kernel_rfl) rfl
  have EG := Lib.hid eg
  have hzr := zero_rel
  have HT := Lib.hid hT
  clear h0 h1 h2 hB eg hT
  go_enter Tryd.func18, Tryd.ntmps18
  go_wp2_with fail
  refine (combine_any w.heap.size (w.heap.size + 1) n m f g (fun k => Rl.image g (f k)) 72 #[.pointer (some ⟨w.heap.size + 1, 0, none⟩), .pointer (some ⟨w.heap.size, 0, none⟩)] _ zf zg H.out.1 H.out.2.1 EG.out ?_).mono ?_
  · intro k a W hn hm o1 o2 hak hb
    have hlt := o1.le
    have r0 := H.out.1.below hb (by first | (simp; done) | (simp; omega))
    have r1 := H.out.2.1.below hb (by first | (simp; done) | (simp; omega))
    exact then1 _ _ a n m f g W (by omega) r0 r1 (fun i hi => by have := (o1.in_ a i hi).2; omega) (HT.out.below (H.out.2.2.2.trans (hb.mono H.out.2.2.2.size)) hw) (Nat.lt_of_lt_of_le hw (Nat.le_trans H.out.2.2.2.size hb.size))
  rintro e w1 ⟨rfl, hb⟩
  have H1 := Lib.hid (And.intro (H.out.2.2.1.below hb (by simp)) (H.out.2.2.2.trans (hb.mono H.out.2.2.2.size)))
  clear hb
  go_wp2_with (refine wpList_store_rel (by rfl) (.tmp 4) (.tmp 8) (by rfl) (w.heap.size + 1 + 1) (combN n m f g) 0 (combF n m f g fun k => Rl.image g (f k)) zeroR (by rfl) (by rfl) H1.out.1 ?_; intro w3 hR3 hg3)
  refine bodyPost_ret (results_rel_tmp rfl _ _ (w.heap.size + 1 + 1) _ _ rfl hR3) rfl ⟨rfl, H1.out.2.grown hg3 H1.out.2.size (fun j e => by injection e with e; omega)⟩
end Go.Proofs.YtknjdfgmejobfaaDoor

/- package rel: Id, Cross. -/
namespace Go.Proofs.YtknjdfgmejobfaaDoor
open Go.RowKit Go.Shelf

attribute [local go_sem] Bv.and_u Bv.or_u Bv.andNot_u Bv.wrap_sub1 Bv.eq0 Bv.ne0 Bv.wrap_pow Bv.wrap_powmin Bv.wrap_neg Bv.eq_u Bv.ne_u Bv.shr_min Bv.shr_pow Bv.tmod2 Bv.and1 Bv.wrap_add Bv.B1_eq1 Bv.B1_eq0 Bv.B1_ne1 Bv.B1_ne0

set_option maxRecDepth 100000 in
set_option maxHeartbeats 1000000 in
theorem id1 (pb k : Nat) (s : BitVec 64) (w : World) (hk : k < 48) (hc : w.cell? ⟨pb, 0, none⟩ = some (.int .u64 (Bv.U s))) :
    Calls Tryd.prog 77 #[.int .i64 k, .pointer (some ⟨pb, 0, none⟩)] w fun e w' => e = .returned (.int .u64 (Bv.U (s &&& Bv.bit k))) ∧ Below w.heap.size w w' := by
  have q0 : (0 : Int) ≤ (k : Int) := by omega
  have q1 : (k : Int) < 64 := by omega
  go_enter Tryd.func77, Tryd.ntmps77
  go_wp2_with fail
  go_quiet (fail)
  go_wp2
  go_ret
  exact ⟨rfl, by repeat (first | exact Below.refl _ _ | exact below_drewN (Below.refl _ _) _ | refine Below.drew ?_)⟩
set_option maxRecDepth 100000 in
set_option maxHeartbeats 1000000 in
theorem cross1 (pa pb k : Nat) (s t : BitVec 64) (w : World) (hk : k < 48) (ha : w.cell? ⟨pa, 0, none⟩ = some (.int .u64 (Bv.U s))) (hb : w.cell? ⟨pb, 0, none⟩ = some (.int .u64 (Bv.U t))) :
    Calls Tryd.prog 87 #[.int .i64 k, .pointer (some ⟨pa, 0, none⟩), .pointer (some ⟨pb, 0, none⟩)] w fun e w' => e = .returned (.int .u64 (Bv.U (if s.getLsbD k then t else 0#64))) ∧ Below w.heap.size w w' := by
  have q0 : (0 : Int) ≤ (k : Int) := by omega
  have q1 : (k : Int) < 64 := by omega
  cases hg : Bv.G s k
  all_goals
    have hg2 : s.getLsbD k = _ := hg
    rw [hg2]
    clear hg2
    go_enter Tryd.func87, Tryd.ntmps87
    go_wp2_with fail
    go_ret
    exact ⟨rfl, Below.refl _ _⟩
theorem box_cell (w : World) (v : Value) (t : TypeId) (o : Obj) : ((w.alloc (.cells #[v] t)).alloc o).cell? ⟨w.heap.size, 0, none⟩ = some v := by
  rw [Below.cell (B := (w.alloc (.cells #[v] t)).heap.size) (Below.alloc (Below.refl _ _) (Nat.le_refl _) o) (p := ⟨w.heap.size, 0, none⟩) (by simp)]
  rw [cell_of_row _ _ 0 _ _ _ (World.alloc_heap_new w _)]; rfl
set_option maxRecDepth 100000 in
set_option maxHeartbeats 1000000 in
theorem id_any (n : Nat) (s : BitVec 64) (w : World) (hn : n ≤ 48) :
    Calls Tryd.prog 21 #[.int .i64 n, .int .u64 (Bv.U s)] w fun e w' => e = .returned (.agg (relC n (Rl.idF n s))) ∧ Below w.heap.size w w' := by
  have eg := enters_of Tryd.func77 (by kernel_rfl) rfl
  have EG := Lib.hid eg
  have hzr := zero_rel
  have hbz := build_zero
  have q0 : ¬ ((n : Int) < 0) := by omega
  have q1 : ¬ ((48 : Int) < (n : Int)) := by omega
  have hcell := box_cell w (.int .u64 (Bv.U s)) 23 (.cells (relC 0 zeroR) 26)
  have hR := RelAt.new (w.alloc (.cells #[.int .u64 (Bv.U s)] 23)) 0 zeroR
  simp only [World.size_alloc] at hR
  have hB := (((Below.refl w.heap.size w).alloc (Nat.le_refl _) (.cells #[.int .u64 (Bv.U s)] 23)).alloc (by simp) (.cells (relC 0 zeroR) 26))
  have H := Lib.hid (And.intro hcell (And.intro hR hB))
  clear eg hcell hR hB
  go_enter Tryd.func21, Tryd.ntmps21
  go_wp2_with fail
  refine (build_any n 77 #[.pointer (some ⟨w.heap.size, 0, none⟩)] (fun k => s &&& Bv.bit k) _ hn EG.out ?_).mono ?_
  · intro a W ha hb
    exact id1 w.heap.size a s W (by omega) ((hb.cell (p := ⟨w.heap.size, 0, none⟩) (by simp; omega)).trans H.out.1)
  rintro e w1 ⟨rfl, hb⟩
  have H1 := Lib.hid (And.intro (H.out.2.1.below hb (by simp)) (H.out.2.2.trans (hb.mono H.out.2.2.size)))
  clear hb
  go_wp2_with (refine wpList_store_rel (by rfl) (.tmp 4) (.tmp 14) (by rfl) (w.heap.size + 1) n 0 (Rl.idF n s) zeroR (by rfl) (by rfl) H1.out.1 ?_; intro w3 hR3 hg3)
  refine bodyPost_ret (results_cell_row rfl _ _ (w.heap.size + 1) 26 (relC n (Rl.idF n s)) (0, 0) _ rfl hR3 uRel rfl (sRelC _ _)) rfl ⟨rfl, H1.out.2.grown hg3 H1.out.2.size (fun j e => by injection e with e; omega)⟩
set_option maxRecDepth 100000 in
set_option maxHeartbeats 1000000 in
theorem id_bad (n : Int) (s : BitVec 64) (w : World) (hn : n < 0 ∨ 48 < n) :
    Calls Tryd.prog 21 #[.int .i64 n, .int .u64 (Bv.U s)] w fun e w' => e = .returned (.agg (relC 0 zeroR)) ∧ Below w.heap.size w w' := by
  have hzr := zero_rel
  have hbz := build_zero
  have hR := RelAt.new (w.alloc (.cells #[.int .u64 (Bv.U s)] 23)) 0 zeroR
  simp only [World.size_alloc] at hR
  have hB := (((Below.refl w.heap.size w).alloc (Nat.le_refl _) (.cells #[.int .u64 (Bv.U s)] 23)).alloc (by simp) (.cells (relC 0 zeroR) 26))
  have H1 := Lib.hid (And.intro hR hB)
  clear hR hB
  rcases hn with h0 | h0
  all_goals
    go_enter Tryd.func21, Tryd.ntmps21
    go_wp2_with (refine wpList_store_rel (by rfl) (.tmp 4) (.tmp 11) (by rfl) (w.heap.size + 1) 0 0 zeroR zeroR (by rfl) (by rfl) H1.out.1 ?_; intro w3 hR3 hg3)
    refine bodyPost_ret (results_cell_row rfl _ _ (w.heap.size + 1) 26 (relC 0 zeroR) (0, 0) _ rfl hR3 uRel rfl (sRelC _ _)) rfl ⟨rfl, H1.out.2.grown hg3 H1.out.2.size (fun j e => by injection e with e; omega)⟩
theorem cross_rows (n : Nat) (s t : BitVec 64) : Rl.cut n (fun k => if s.getLsbD k then t &&& Rl.below (n : Int) else 0#64) = Rl.crossF n s t := rfl
set_option maxRecDepth 100000 in
set_option maxHeartbeats 1000000 in
theorem cross_any (n : Nat) (s t : BitVec 64) (w : World) (hn : n ≤ 48) :
    Calls Tryd.prog 39 #[.int .i64 n, .int .u64 (Bv.U s), .int .u64 (Bv.U t)] w fun e w' => e = .returned (.agg (relC n (Rl.crossF n s t))) ∧ Below w.heap.size w w' := by
  have eg := enters_of Tryd.func87 (by kernel_rfl) rfl
  have EG := Lib.hid eg
  have hzr := zero_rel
  have hbz := build_zero
  have q0 : ¬ ((n : Int) < 0) := by omega
  have q1 : ¬ ((48 : Int) < (n : Int)) := by omega
  obtain ⟨W, hW⟩ : ∃ W, W = ((w.alloc (.cells #[.int .u64 (Bv.U s)] 23)).alloc (.cells #[.int .u64 (Bv.U t)] 23)).alloc (.cells (relC 0 zeroR) 26) := ⟨_, rfl⟩
  have r0 : W.heap[w.heap.size]? = some (.cells #[.int .u64 (Bv.U s)] 23 (0, 0)) := by
    rw [hW, Below.heap_alloc _ _ _ (by simp; omega), Below.heap_alloc _ _ _ (by simp)]
    exact World.alloc_heap_new w _
  have r1 : W.heap[w.heap.size + 1]? = some (.cells #[.int .u64 (Bv.U t)] 23 (0, 0)) := by
    rw [hW, Below.heap_alloc _ _ _ (by simp)]
    exact World.alloc_heap_new (w.alloc (.cells #[.int .u64 (Bv.U s)] 23)) _ |> (by simpa using ·)
  have hR := RelAt.new ((w.alloc (.cells #[.int .u64 (Bv.U s)] 23)).alloc (.cells #[.int .u64 (Bv.U t)] 23)) 0 zeroR
  simp only [World.size_alloc] at hR
  rw [← hW] at hR
  have hB := (((Below.refl w.heap.size w).alloc (Nat.le_refl _) (.cells #[.int .u64 (Bv.U s)] 23)).alloc (by simp) (.cells #[.int .u64 (Bv.U t)] 23)).alloc (by simp; omega) (.cells (relC 0 zeroR) 26)
  rw [← hW] at hB
  have c1 : W.cell? ⟨w.heap.size + 1, 0, none⟩ = some (.int .u64 (Bv.U t)) := by rw [cell_of_row _ _ 0 _ _ _ r1]; rfl
  have f1 : W.frozen? ⟨w.heap.size + 1, 0, none⟩ = false := frozen_of_row _ _ 0 _ _ r1
  obtain ⟨W2, hW2⟩ : ∃ W2, W2 = (W.setCell ⟨w.heap.size + 1, 0, none⟩ (.int .u64 (Bv.U (t &&& Rl.below (n : Int))))).drew := ⟨_, rfl⟩
  have hW2' : W2 = W.drew.setCell ⟨w.heap.size + 1, 0, none⟩ (.int .u64 (Bv.U (t &&& Rl.below (n : Int)))) := by rw [hW2]; exact (World.setCell_drew _ _).symm
  have d0 : W2.cell? ⟨w.heap.size, 0, none⟩ = some (.int .u64 (Bv.U s)) := by
    rw [hW2', cell_of_row _ _ 0 _ _ _ ((Below.heap_setCell _ _ _ _ (by simp)).trans (show W.drew.heap[w.heap.size]? = _ from r0))]; rfl
  have d1 : W2.cell? ⟨w.heap.size + 1, 0, none⟩ = some (.int .u64 (Bv.U (t &&& Rl.below (n : Int)))) := by
    rw [hW2', cell_of_row _ _ 0 _ _ _ (Rf.set_cells (i := 0) (.int .u64 (Bv.U (t &&& Rl.below (n : Int)))) (show W.drew.heap[w.heap.size + 1]? = _ from r1))]; rfl
  have d2 : RelAt W2 (w.heap.size + 1 + 1) 0 zeroR := by rw [hW2']; exact hR.drew.other _ _ (by simp)
  have d3 : Below w.heap.size w W2 := by rw [hW2']; exact (Below.drew hB).setCell (p := ⟨w.heap.size + 1, 0, none⟩) (by simp) _
  have hlt : w.heap.size + 1 + 1 < W2.heap.size := d2.lt
  have H := Lib.hid (And.intro hW (And.intro hW2 (And.intro d0 (And.intro d1 (And.intro d2 (And.intro d3 hlt))))))
  clear eg hR hB r0 r1 d0 d1 d2 d3 hW hW2 hW2' hlt
  go_enter Tryd.func39, Tryd.ntmps39
  go_wp2_with fail
  rw [← H.out.1]
  refine wp_region_still_tail 4 (by kernel_rfl) (by kernel_rfl) ?_
  simp only [List.take_succ_cons, List.take_zero, List.drop_succ_cons, List.drop_zero]
  repeat (first | still_call (all_any _ _) | still_step)
  refine wpStill_nil ?_
  change wpList _ _ _ _ _ W.drew
  rw [show allS (n : Int) = Rl.below (n : Int) from rfl]
  have c2 : W.drew.cell? ⟨w.heap.size + 1, 0, none⟩ = some (.int .u64 (Bv.U t)) := c1
  have f2 : W.drew.frozen? ⟨w.heap.size + 1, 0, none⟩ = false := f1
  go_step
  go_wp2_with fail
  rw [← H.out.2.1]
  clear c1 c2 f1 f2
  refine (build_any n 87 #[.pointer (some ⟨w.heap.size, 0, none⟩), .pointer (some ⟨w.heap.size + 1, 0, none⟩)] (fun k => if s.getLsbD k then t &&& Rl.below (n : Int) else 0#64) _ hn EG.out ?_).mono ?_
  · intro a W ha hb
    exact cross1 w.heap.size (w.heap.size + 1) a s (t &&& Rl.below (n : Int)) W (by omega) ((hb.cell (p := ⟨w.heap.size, 0, none⟩) (by have := H.out.2.2.2.2.2.2; show w.heap.size < W2.heap.size; omega)).trans H.out.2.2.1) ((hb.cell (p := ⟨w.heap.size + 1, 0, none⟩) (by have := H.out.2.2.2.2.2.2; show w.heap.size + 1 < W2.heap.size; omega)).trans H.out.2.2.2.1)
  rintro e w1 ⟨rfl, hb⟩
  rw [cross_rows]
  have H1 := Lib.hid (And.intro (H.out.2.2.2.2.1.below hb H.out.2.2.2.2.2.2) (H.out.2.2.2.2.2.1.trans (hb.mono H.out.2.2.2.2.2.1.size)))
  clear hb
  go_wp2_with (refine wpList_store_rel (by rfl) (.tmp 6) (.tmp 20) (by rfl) (w.heap.size + 1 + 1) n 0 (Rl.crossF n s t) zeroR (by rfl) (by rfl) H1.out.1 ?_; intro w3 hR3 hg3)
  refine bodyPost_ret (results_cell_row rfl _ _ (w.heap.size + 1 + 1) 26 (relC n (Rl.crossF n s t)) (0, 0) _ rfl hR3 uRel rfl (sRelC _ _)) rfl ⟨rfl, H1.out.2.grown hg3 H1.out.2.size (fun j e => by injection e with e; omega)⟩
set_option maxRecDepth 100000 in
set_option maxHeartbeats 1000000 in
theorem cross_bad (n : Int) (s t : BitVec 64) (w : World) (hn : n < 0 ∨ 48 < n) :
    Calls Tryd.prog 39 #[.int .i64 n, .int .u64 (Bv.U s), .int .u64 (Bv.U t)] w fun e w' => e = .returned (.agg (relC 0 zeroR)) ∧ Below w.heap.size w w' := by
  have hzr := zero_rel
  have hbz := build_zero
  have hR := RelAt.new ((w.alloc (.cells #[.int .u64 (Bv.U s)] 23)).alloc (.cells #[.int .u64 (Bv.U t)] 23)) 0 zeroR
  simp only [World.size_alloc] at hR
  have hB := (((Below.refl w.heap.size w).alloc (Nat.le_refl _) (.cells #[.int .u64 (Bv.U s)] 23)).alloc (by simp) (.cells #[.int .u64 (Bv.U t)] 23)).alloc (by simp; omega) (.cells (relC 0 zeroR) 26)
  have H1 := Lib.hid (And.intro hR hB)
  clear hR hB
  rcases hn with h0 | h0
  all_goals
    go_enter Tryd.func39, Tryd.ntmps39
    go_wp2_with (refine wpList_store_rel (by rfl) (.tmp 6) (.tmp 13) (by rfl) (w.heap.size + 1 + 1) 0 0 zeroR zeroR (by rfl) (by rfl) H1.out.1 ?_; intro w3 hR3 hg3)
    refine bodyPost_ret (results_cell_row rfl _ _ (w.heap.size + 1 + 1) 26 (relC 0 zeroR) (0, 0) _ rfl hR3 uRel rfl (sRelC _ _)) rfl ⟨rfl, H1.out.2.grown hg3 H1.out.2.size (fun j e => by injection e with e; omega)⟩
end Go.Proofs.YtknjdfgmejobfaaDoor

/- package rel: Back. -/
namespace Go.Proofs.YtknjdfgmejobfaaDoor
open Go.RowKit Go.Shelf

attribute [local go_sem] Bv.and_u Bv.or_u Bv.andNot_u Bv.wrap_sub1 Bv.eq0 Bv.ne0 Bv.wrap_pow Bv.wrap_powmin Bv.wrap_neg Bv.eq_u Bv.ne_u Bv.shr_min Bv.shr_pow Bv.tmod2 Bv.and1 Bv.wrap_add Bv.B1_eq1 Bv.B1_eq0 Bv.B1_ne1 Bv.B1_ne0

/-- the inverse of the first k rows and of the part s of row k -/
def bk (k : Nat) (f : Rl.Rows) (s : BitVec 64) : Rl.Rows := fun b => Rl.backF k f b ||| (if s.getLsbD b then Bv.bit k else 0#64)
theorem bk_zero (k : Nat) (f : Rl.Rows) : bk k f 0#64 = Rl.backF k f := by
  funext b; unfold bk; rw [Bv.zero_get]; simp
theorem bk_full (k : Nat) (f : Rl.Rows) (hk : k < 64) : bk k f (f k) = Rl.backF (k + 1) f := by
  funext b
  apply Bv.ext_get
  intro c hc
  unfold bk Rl.backF
  rw [BitVec.getLsbD_or, Bx.mk_get _ c hc, Bx.mk_get _ c hc]
  cases hb : (f k).getLsbD b
  · rw [if_neg (by simp), Bv.zero_get, Bool.or_false]
    by_cases h : c = k
    · subst h; unfold Rl.bit; rw [hb]; simp
    · rw [show decide (c < k + 1) = decide (c < k) by rw [Bool.eq_iff_iff]; simp; omega]
  · rw [if_pos rfl, Bv.bit_get k c hk]
    by_cases h : c = k
    · subst h; unfold Rl.bit; rw [hb]; simp
    · rw [show decide (c < k + 1) = decide (c < k) by rw [Bool.eq_iff_iff]; simp; omega, decide_eq_false h, Bool.or_false]
theorem bk_step (k a : Nat) (f : Rl.Rows) (d : BitVec 64) (ha : a < 64) : upd (bk k f d) a (bk k f d a ||| Bv.bit k) = bk k f (d ||| Bv.bit a) := by
  funext b
  unfold upd
  by_cases h : b = a
  · subst h
    rw [if_pos rfl]
    unfold bk
    rw [BitVec.getLsbD_or, Bv.bit_get b b ha, decide_eq_true rfl, Bool.or_true, if_pos rfl, BitVec.or_assoc]
    split
    · rw [BitVec.or_self]
    · rw [BitVec.zero_or]
  · rw [if_neg h]
    unfold bk
    rw [BitVec.getLsbD_or]
    by_cases hb : b < 64
    · rw [Bv.bit_get a b ha, decide_eq_false h, Bool.or_false]
    · rw [BitVec.getLsbD_of_ge (Bv.bit a) _ (by omega), Bool.or_false]
theorem low_or {t : BitVec 64} (h : t ≠ 0) (d : BitVec 64) : (d ||| Bv.bit (Bs.low t)) ||| Bs.rest t = d ||| t := by
  apply Bv.ext_get
  intro c hc
  rw [BitVec.getLsbD_or, BitVec.getLsbD_or, BitVec.getLsbD_or, Bs.rest_bit h, Bv.bit_get _ _ (Bs.low_lt h)]
  by_cases e : c = Bs.low t
  · subst e; rw [Bs.low_bit h]; simp
  · simp [e]
theorem back_zero (f : Rl.Rows) : Rl.backF 0 f = zeroR := by
  funext b
  apply Bv.ext_get
  intro c hc
  unfold Rl.backF zeroR
  rw [Bx.mk_get _ c hc, Bv.zero_get]; simp

set_option maxRecDepth 100000 in
set_option maxHeartbeats 1000000 in
theorem back_no (n : Int) (f : Rl.Rows) (w : World) (hr : Rl.rightB n f = false) :
    Calls Tryd.prog 20 #[.agg (relC n f)] w fun e w' => e = .returned (.agg (relC 0 zeroR)) ∧ Below w.heap.size w w' := by
  have hzr := zero_rel
  have hbz := build_zero
  have h0 := (RelAt.new w n f).alloc (.cells (relC 0 zeroR) 26)
  have h1 := RelAt.new (w.alloc (.cells (relC n f) 26)) 0 zeroR
  rw [World.size_alloc] at h1
  have hB := (((Below.refl w.heap.size w).alloc (Nat.le_refl _) (.cells (relC n f) 26)).alloc (by simp) (.cells (relC 0 zeroR) 26))
  have H := Lib.hid (And.intro h0 (And.intro h1 (And.intro hB hr)))
  clear h0 h1 hB hr
  go_enter Tryd.func20, Tryd.ntmps20
  go_wp2_with (refine wpList_load_rel (by rfl) (.tmp 1) (by rfl) w.heap.size n f (by rfl) H.out.1 ?_)
  with_reducible refine (right_is _ _ _ H.out.2.2.2 _).mono ?_
  rintro e w1 ⟨rfl, hb⟩
  have H1 := Lib.hid (And.intro (H.out.2.1.below hb (by simp)) (H.out.2.2.1.trans (hb.mono H.out.2.2.1.size)))
  clear hb
  go_wp2_with (refine wpList_store_rel (by rfl) (.tmp 2) (.tmp 11) (by rfl) (w.heap.size + 1) 0 0 zeroR zeroR (by rfl) (by rfl) H1.out.1 ?_; intro w3 hR3 hg3)
  refine bodyPost_ret (results_cell_row rfl _ _ (w.heap.size + 1) 26 (relC 0 zeroR) (0, 0) _ rfl hR3 uRel rfl (sRelC _ _)) rfl ⟨rfl, H1.out.2.grown hg3 H1.out.2.size (fun j e => by injection e with e; omega)⟩
set_option maxRecDepth 100000 in
set_option maxHeartbeats 1000000 in
theorem back_yes (n : Nat) (f : Rl.Rows) (w : World) (hr : Rl.Ok n f) (hT : Tab w) (hw : 0 < w.heap.size) :
    Calls Tryd.prog 20 #[.agg (relC n f)] w fun e w' => e = .returned (.agg (relC n (Rl.backF n f))) ∧ Below w.heap.size w w' := by
  have hzr := zero_rel
  have hbr := build_rel
  have h0 := (RelAt.new w n f).alloc (.cells (relC 0 zeroR) 26)
  have h1 := RelAt.new (w.alloc (.cells (relC n f) 26)) 0 zeroR
  rw [World.size_alloc] at h1
  have hB := (((Below.refl w.heap.size w).alloc (Nat.le_refl _) (.cells (relC n f) 26)).alloc (by simp) (.cells (relC 0 zeroR) 26))
  have hTl : ∀ W, Below w.heap.size w W → Tab W ∧ 0 < W.heap.size := fun W h => ⟨hT.below h hw, Nat.lt_of_lt_of_le hw h.size⟩
  have HT := Lib.hid hTl
  have HO := Lib.hid hr
  have H := Lib.hid (And.intro h0 (And.intro h1 (And.intro hB (Rl.right_of hr))))
  clear h0 h1 hB hr hT hTl
  go_enter Tryd.func20, Tryd.ntmps20
  go_wp2_with (refine wpList_load_rel (by rfl) (.tmp 1) (by rfl) w.heap.size n f (by rfl) H.out.1 ?_)
  with_reducible refine (right_is _ _ _ H.out.2.2.2 _).mono ?_
  rintro e w1 ⟨rfl, hb⟩
  have hR := H.out.1.below hb (by simp; omega)
  have H1 := Lib.hid (And.intro hR (And.intro (H.out.2.1.below hb (by simp)) (H.out.2.2.1.trans (hb.mono H.out.2.2.1.size))))
  have hc := hR.num
  clear hb hR
  have s1 : w.heap.size + 1 < w1.heap.size := H1.out.2.1.lt
  obtain ⟨B, hBe⟩ : ∃ B, B = w1.heap.size := ⟨_, rfl⟩
  have hne0 : ¬ relC 0 zeroR = #[] := by intro h; have := congrArg Array.size h; rw [relC_size] at this; simp at this
  go_wp2_with (refine wpList_store_rel (by rfl) (.tmp 3) (.tmp 14) (by rfl) w1.heap.size n 0 zeroR zeroR (by rfl) (by rfl) (RelAt.new w1 0 zeroR) ?_; intro w3 hR3 hg3; have hc3 := ((H1.out.1.alloc (.cells (relC 0 zeroR) 26)).kept hg3 (by intro e; injection e with e; omega)).num)
  rw [← hBe] at hR3 ⊢
  have hb3 : Below w.heap.size w w3 := (H1.out.2.2.alloc H1.out.2.2.size _).grown hg3 (by simp; omega) (fun j e => by injection e with e; omega)
  have HB3 := Lib.hid (And.intro hR3 (And.intro (((H1.out.1.alloc (.cells (relC 0 zeroR) 26)).kept hg3 (by intro e; injection e with e; omega))) (And.intro (((H1.out.2.1.alloc (.cells (relC 0 zeroR) 26)).kept hg3 (by intro e; injection e with e; omega))) hb3)))
  have hBl : w.heap.size + 1 < B := by omega
  have HS := Lib.hid (And.intro s1 hBe)
  clear hR3 hb3 hg3 hc hc3 s1 hBe
  go_loopw [17] (fun c wr => ∃ k : Nat, k ≤ n ∧ c = .int .i64 k ∧ RelAt wr B n (Rl.backF k f) ∧ RelAt wr w.heap.size n f ∧ RelAt wr (w.heap.size + 1) 0 zeroR ∧ Below w.heap.size w wr) (fun c _ => n - (intOf c).toNat)
  case atStart => exact ⟨0, Nat.zero_le _, rfl, by rw [back_zero]; exact HB3.out.1, HB3.out.2.1, HB3.out.2.2.1, HB3.out.2.2.2⟩
  case round =>
    obtain ⟨k, hk, rfl, hb1, hb2, hb3, hb4⟩ := hrel
    have n48 := HO.out.le
    by_cases hlt : k < n
    · have hrow := hb2.row k (by omega)
      obtain ⟨s, hs⟩ : ∃ s, s = f k := ⟨_, rfl⟩
      rw [← hs] at hrow
      have HH := Lib.hid (And.intro hb1 (And.intro hb2 (And.intro hb3 (And.intro hb4 hs))))
      clear hb1 hb2 hb3 hb4 hs
      have q0 : (0 : Int) ≤ (k : Int) := by omega
      have q1 : (k : Int) < 48 := by omega
      go_wp2_with fail
      refine (first_any _ _ (HT.out _ HH.out.2.2.2.1).1 (HT.out _ HH.out.2.2.2.1).2).mono ?_
      rintro e w2 ⟨rfl, hb⟩
      have bl : w.heap.size + 1 < wr.heap.size := HH.out.2.2.1.lt
      have H2 := Lib.hid (And.intro (HH.out.1.below hb HH.out.1.lt) (And.intro (HH.out.2.1.below hb HH.out.2.1.lt) (And.intro (HH.out.2.2.1.below hb HH.out.2.2.1.lt) (HH.out.2.2.2.1.trans (hb.mono HH.out.2.2.2.1.size)))))
      clear hb
      go_wp2_with fail
      go_loopw [5, 6, 7] (fun x p q wr => ∃ (t d : BitVec 64), x = .int .u64 (Bv.U t) ∧ p = .int .i64 (firstN t) ∧ q = .bool (someB t) ∧ d ||| t = f k ∧ RelAt wr B n (bk k f d) ∧ RelAt wr w.heap.size n f ∧ RelAt wr (w.heap.size + 1) 0 zeroR ∧ Below w.heap.size w wr) (fun x _ _ _ => leftOf x)
      case atStart => exact ⟨s, 0#64, rfl, rfl, rfl, by rw [← HH.out.2.2.2.2]; simp, by rw [bk_zero]; exact H2.out.1, H2.out.2⟩
      case round =>
        obtain ⟨t, d, rfl, rfl, rfl, hd, hb1, hb2, hb3, hb4⟩ := hrel
        by_cases hz : t = 0#64
        · subst hz
          rw [some_zero.1, some_zero.2]
          have hd2 : d = f k := by rw [← hd]; simp
          subst hd2
          rw [bk_full _ _ (by omega)] at hb1
          have H3 := Lib.hid (And.intro hb1 (And.intro hb2 (And.intro hb3 hb4)))
          clear hb1 hb2 hb3 hb4 hd hrow
          go_wp2_with fail
          go_roundw
          case rel => exact ⟨k + 1, by omega, by go_num, H3.out⟩
          case measure => simp [intOf]; omega
        · have h48 : Bs.low t < 48 := by
            have h1 : (f k).getLsbD (Bs.low t) = true := by rw [← hd, BitVec.getLsbD_or, Bs.low_bit hz, Bool.or_true]
            have := (HO.out.in_ k _ h1).2; omega
          have hcell := hb1.row (Bs.low t) h48
          have hset := hb1.drew.set (Bs.low t) (bk k f d (Bs.low t) ||| Bv.bit k)
          rw [bk_step k _ f d (by omega)] at hset
          have hfr := hb1.free (1 + Bs.low t)
          have hor := low_or hz d
          have hlt2 := Bs.rest_lt hz
          rw [(some_ne hz).1, (some_ne hz).2]
          obtain ⟨a, ha⟩ : ∃ a, a = Bs.low t := ⟨_, rfl⟩
          rw [← ha] at hcell hset hfr hor h48 ⊢
          obtain ⟨v, hv⟩ : ∃ v, v = bk k f d a := ⟨_, rfl⟩
          rw [← hv] at hcell hset
          have q2 : (0 : Int) ≤ (a : Int) := by omega
          have q3 : (a : Int) < 48 := by omega
          have H3 := Lib.hid (And.intro hset (And.intro (hb2.drew.other ⟨B, 1 + a, none⟩ (.int .u64 (Bv.U (v ||| Bv.bit k))) (by simp; omega)) (And.intro (hb3.drew.other ⟨B, 1 + a, none⟩ (.int .u64 (Bv.U (v ||| Bv.bit k))) (by simp; omega)) (And.intro (hb4.drew.setCell (p := ⟨B, 1 + a, none⟩) (by simp; omega) (.int .u64 (Bv.U (v ||| Bv.bit k)))) (And.intro hor (And.intro hlt2 hd))))))
          clear hset hb1 hb2 hb3 hb4 hor hlt2 hd hv ha hrow
          go_wp2_with fail
          go_still_tail 9, (by kernel_rfl)
          change wpList _ _ _ _ _ wr.drew
          have c2 : wr.drew.cell? ⟨B, 1 + a, none⟩ = some (.int .u64 (Bv.U v)) := hcell
          have f2 : wr.drew.frozen? ⟨B, 1 + a, none⟩ = false := hfr
          go_step
          go_wp2_with fail
          rw [← World.setCell_drew]
          refine (first_any _ _ (HT.out _ H3.out.2.2.2.1).1 (HT.out _ H3.out.2.2.2.1).2).mono ?_
          rintro e w4 ⟨rfl, hb⟩
          have H4 := Lib.hid (And.intro (H3.out.1.below hb H3.out.1.lt) (And.intro (H3.out.2.1.below hb H3.out.2.1.lt) (And.intro (H3.out.2.2.1.below hb H3.out.2.2.1.lt) (H3.out.2.2.2.1.trans (hb.mono H3.out.2.2.2.1.size)))))
          clear hb c2 f2 hcell hfr
          go_wp2_with fail
          go_roundw
          case rel => exact ⟨Bs.rest t, d ||| Bv.bit a, rfl, rfl, rfl, by rw [H3.out.2.2.2.2.1]; exact H3.out.2.2.2.2.2.2, H4.out⟩
          case measure => rw [leftOf_eq t]; exact Nat.lt_of_le_of_lt (Nat.le_of_eq (leftOf_eq (Bs.rest t))) H3.out.2.2.2.2.2.1
    · have hkn : k = n := by omega
      subst hkn
      have H3 := Lib.hid (And.intro hb1 (And.intro hb3 hb4))
      clear hb1 hb2 hb3 hb4
      go_wp2_with (first | (refine wpList_load_rel (by rfl) (.tmp 3) (by rfl) B k (Rl.backF k f) (by rfl) H3.out.1 ?_) | (refine wpList_store_rel (by rfl) (.tmp 2) (.tmp 49) (by rfl) (w.heap.size + 1) k 0 (Rl.backF k f) zeroR (by rfl) (by rfl) H3.out.2.1 ?_; intro w3 hR3 hg3))
      refine bodyPost_ret (results_cell_row rfl _ _ (w.heap.size + 1) 26 (relC k (Rl.backF k f)) (0, 0) _ rfl hR3 uRel rfl (sRelC _ _)) rfl ⟨rfl, H3.out.2.2.grown hg3 H3.out.2.2.size (fun j e => by injection e with e; omega)⟩
end Go.Proofs.YtknjdfgmejobfaaDoor

/- package rel: Has. -/
namespace Go.Proofs.YtknjdfgmejobfaaDoor
open Go.RowKit Go.Shelf

attribute [local go_sem] Bv.and_u Bv.or_u Bv.andNot_u Bv.wrap_sub1 Bv.eq0 Bv.ne0 Bv.wrap_pow Bv.wrap_powmin Bv.wrap_neg Bv.eq_u Bv.ne_u Bv.shr_min Bv.shr_pow Bv.tmod2 Bv.and1 Bv.wrap_add Bv.B1_eq1 Bv.B1_eq0 Bv.B1_ne1 Bv.B1_ne0

/-- the inverse, valid or not -/
def backN (n : Int) (f : Rl.Rows) : Int := if Rl.rightB n f then n else 0
def backR (n : Int) (f : Rl.Rows) : Rl.Rows := if Rl.rightB n f then Rl.backF n.toNat f else zeroR
theorem back_any (n : Int) (f : Rl.Rows) (w : World) (zf : Rl.Z f) (hT : Tab w) (hw : 0 < w.heap.size) :
    Calls Tryd.prog 20 #[.agg (relC n f)] w fun e w' => e = .returned (.agg (relC (backN n f) (backR n f))) ∧ Below w.heap.size w w' := by
  unfold backN backR
  cases h : Rl.rightB n f
  · rw [if_neg (by simp), if_neg (by simp)]; exact back_no n f w h
  · obtain ⟨m, rfl, hm⟩ := Rl.right_nat zf h
    rw [if_pos rfl, if_pos rfl, Int.toNat_natCast]; exact back_yes m f w hm hT hw
/-- is (a, b) a pair? -/
def pairB (n : Int) (f : Rl.Rows) (a b : Int) : Bool := Rl.rightB n f && decide (0 ≤ a ∧ a < n ∧ 0 ≤ b ∧ b < n) && Rl.bit f a.toNat b.toNat

set_option maxRecDepth 100000 in
set_option maxHeartbeats 1000000 in
theorem has_any (n : Int) (f : Rl.Rows) (a b : Int) (w : World) (zf : Rl.Z f) :
    Calls Tryd.prog 29 #[.agg (relC n f), .int .i64 a, .int .i64 b] w fun e w' => e = .returned (.bool (pairB n f a b)) ∧ Below w.heap.size w w' := by
  have h0 := RelAt.new w n f
  have hB := (Below.refl w.heap.size w).alloc (Nat.le_refl _) (.cells (relC n f) 26)
  cases hr : Rl.rightB n f
  · have he : pairB n f a b = false := by unfold pairB; rw [hr]; rfl
    rw [he]
    have H := Lib.hid (And.intro h0 (And.intro hB hr))
    clear h0 hB hr he
    go_enter Tryd.func29, Tryd.ntmps29
    go_wp2_with (refine wpList_load_rel (by rfl) (.tmp 3) (by rfl) w.heap.size n f (by rfl) H.out.1 ?_)
    with_reducible refine (right_is _ _ _ H.out.2.2 _).mono ?_
    rintro e w1 ⟨rfl, hb⟩
    have H1 := Lib.hid (H.out.2.1.trans (hb.mono H.out.2.1.size))
    clear hb
    go_wp2_with fail
    go_ret
    exact ⟨rfl, H1.out⟩
  · obtain ⟨m, rfl, hm⟩ := Rl.right_nat zf hr
    have m48 := hm.le
    by_cases hin : 0 ≤ a ∧ a < m ∧ 0 ≤ b ∧ b < m
    · obtain ⟨x, rfl⟩ : ∃ x : Nat, a = (x : Int) := ⟨a.toNat, by omega⟩
      obtain ⟨y, rfl⟩ : ∃ y : Nat, b = (y : Int) := ⟨b.toNat, by omega⟩
      have he : pairB m f x y = Bv.G (f x) y := by unfold pairB; rw [hr, decide_eq_true hin]; rfl
      rw [he]
      have hx : x < m := by omega
      have hy : y < m := by omega
      have H := Lib.hid (And.intro h0 (And.intro hB hr))
      clear h0 hB hr he hin
      go_enter Tryd.func29, Tryd.ntmps29
      go_wp2_with (refine wpList_load_rel (by rfl) (.tmp 3) (by rfl) w.heap.size m f (by rfl) H.out.1 ?_)
      with_reducible refine (right_is _ _ _ H.out.2.2 _).mono ?_
      rintro e w1 ⟨rfl, hb⟩
      have H1 := Lib.hid (And.intro (H.out.1.below hb (by simp)) (H.out.2.1.trans (hb.mono H.out.2.1.size)))
      clear hb
      have c0 := H1.out.1.num
      have c1 := H1.out.1.row x (by omega)
      have q0 : (0 : Int) ≤ (x : Int) := by omega
      have q1 : (x : Int) < 48 := by omega
      have q2 : (0 : Int) ≤ (y : Int) := by omega
      have q3 : (y : Int) < 64 := by omega
      go_wp2_with fail
      go_ret
      exact ⟨rfl, H1.out.2⟩
    · have he : pairB m f a b = false := by unfold pairB; rw [hr, decide_eq_false hin]; rfl
      rw [he]
      have H := Lib.hid (And.intro h0 (And.intro hB hr))
      clear h0 hB hr he
      have hcase : a < 0 ∨ (0 ≤ a ∧ (m : Int) ≤ a) ∨ (0 ≤ a ∧ a < m ∧ b < 0) ∨ (0 ≤ a ∧ a < m ∧ 0 ≤ b ∧ (m : Int) ≤ b) := by omega
      clear hin
      rcases hcase with h1 | ⟨h1, h2⟩ | ⟨h1, h2, h3⟩ | ⟨h1, h2, h3, h4⟩
      all_goals
        go_enter Tryd.func29, Tryd.ntmps29
        go_wp2_with (refine wpList_load_rel (by rfl) (.tmp 3) (by rfl) w.heap.size m f (by rfl) H.out.1 ?_)
        with_reducible refine (right_is _ _ _ H.out.2.2 _).mono ?_
        rintro e w1 ⟨rfl, hb⟩
        have H1 := Lib.hid (And.intro (H.out.1.below hb (by simp)) (H.out.2.1.trans (hb.mono H.out.2.1.size)))
        clear hb
        have c0 := H1.out.1.num
        go_wp2_with fail
        go_ret
        exact ⟨rfl, H1.out.2⟩
end Go.Proofs.YtknjdfgmejobfaaDoor

/- two relations compared. -/
namespace Go.Proofs.YtknjdfgmejobfaaDoor
open Go.RowKit Go.Shelf

/-- are the rows the same? -/
def rowsEq (f g : Rl.Rows) (l : List Nat) : Bool := l.all fun i => f i == g i
def relEq (n m : Int) (f g : Rl.Rows) : Bool := n == m && rowsEq f g (List.range 48)
theorem relEq_iff {n m : Int} {f g : Rl.Rows} (zf : Rl.Z f) (zg : Rl.Z g) : relEq n m f g = true ↔ n = m ∧ f = g := by
  unfold relEq rowsEq
  rw [Bool.and_eq_true, beq_iff_eq, List.all_eq_true]
  constructor
  · rintro ⟨h1, h2⟩
    refine ⟨h1, funext fun i => ?_⟩
    by_cases hi : i < 48
    · exact beq_iff_eq.1 (h2 i (List.mem_range.2 hi))
    · rw [zf i (by omega), zg i (by omega)]
  · rintro ⟨h1, h2⟩
    exact ⟨h1, fun i _ => by rw [h2]; simp⟩
theorem rows_extract (n : Int) (f : Rl.Rows) (i : Nat) (hi : i < 48) : ((relC n f).extract 1 49)[i * 1]? = some (.int .u64 (Bv.U (f i))) := by
  rw [Nat.mul_one, Array.getElem?_extract, if_pos (by rw [relC_size]; omega), relC_row _ _ _ hi]
theorem run_part_rows (n : Int) (f : Rl.Rows) (w : World) : (part 24 (relC n f) 1).run Tryd.prog w = .ok (.agg ((relC n f).extract 1 49)) w := by kernel_rfl
theorem run_part_num (n : Int) (f : Rl.Rows) (w : World) : (part 3 (relC n f) 0).run Tryd.prog w = .ok (.int .i64 n) w := by kernel_rfl
theorem uSet : Tryd.prog.underlying 23 = some (.int .u64) := by kernel_rfl
theorem uInt : Tryd.prog.underlying 3 = some (.int .i64) := by kernel_rfl
theorem eqItems_rows (d : Nat) (n m : Int) (f g : Rl.Rows) (w : World) : ∀ (is : List Nat), (∀ i ∈ is, i < 48) →
    (Op.eqItems (d + 1) 23 1 ((relC n f).extract 1 49) ((relC m g).extract 1 49) is).run Tryd.prog w = .ok (rowsEq f g is) w
  | [], _ => by simp [Op.eqItems, rowsEq]
  | i :: is, h => by
    have hi := h i List.mem_cons_self
    have ih := eqItems_rows d n m f g w is (fun j hj => h j (List.mem_cons_of_mem _ hj))
    simp only [Op.eqItems, Sem.run_bind, run_part_set w _ _ _ (rows_extract n f i hi), run_part_set w _ _ _ (rows_extract m g i hi), Result.andThen_ok, run_equalIn_int w d _ .u64 .u64 _ _ uSet]
    have e : (Bv.U (f i) == Bv.U (g i)) = (f i == g i) := by
      rw [Bool.eq_iff_iff, beq_iff_eq, beq_iff_eq, Bv.U_inj]
    rw [e]
    cases hb : f i == g i
    · simp [rowsEq, hb]
    · simp only [Bool.not_true, Bool.false_eq_true, if_false, ih]
      simp [rowsEq, hb]
theorem flds : (Tryd.prog.fieldsOf 26).toList.map (fun f => (f.name, f.type, f.offset)) = [("N", 3, 0), ("To", 24, 1)] := by kernel_rfl
theorem run_rel_equal (n m : Int) (f g : Rl.Rows) (d : Nat) (w : World) : (Op.equalIn (d + 3) 26 (.agg (relC n f)) (.agg (relC m g))).run Tryd.prog w = .ok (relEq n m f g) w := by
  rw [show d + 3 = (d + 2) + 1 from rfl, run_equalIn_struct w (d + 2) _ _ _ uRel (by kernel_rfl)]
  have hf := flds
  generalize (Tryd.prog.fieldsOf 26).toList = fs at hf ⊢
  obtain ⟨a, b, rfl⟩ : ∃ a b, fs = [a, b] := by
    rcases fs with _ | ⟨a, _ | ⟨b, _ | ⟨c, t⟩⟩⟩
    · simp at hf
    · simp at hf
    · exact ⟨a, b, rfl⟩
    · simp at hf
  simp only [List.map_cons, List.map_nil, List.cons.injEq, Prod.mk.injEq, and_true] at hf
  obtain ⟨⟨a1, a2, a3⟩, b1, b2, b3⟩ := hf
  simp only [Op.eqFields, a1, a2, a3, b1, b2, b3]
  rw [if_pos (by decide), if_pos (by decide)]
  simp only [Sem.run_bind, run_part_num, run_part_rows, Result.andThen_ok, run_equalIn_int w (d + 1) _ .i64 .i64 _ _ uInt]
  unfold relEq
  cases hb : n == m
  · simp
  · obtain ⟨ti, hti⟩ := Option.isSome_iff_exists.1 (show (Tryd.prog.info? 23).isSome = true by kernel_rfl)
    simp only [Bool.not_true, Bool.false_eq_true, if_false, Sem.run_bind, run_part_num, run_part_rows, Result.andThen_ok]
    rw [show d + 2 = (d + 1) + 1 from rfl, run_equalIn_array w (d + 1) _ _ uArr hti]
    rw [show Tryd.prog.cellsOf 23 = 1 by kernel_rfl, eqItems_rows d n m f g w _ (fun i hi => List.mem_range.1 hi)]
    cases rowsEq f g (List.range 48) <;> simp
theorem run_rel_eql (n m : Int) (f g : Rl.Rows) (w : World) : (binOp .eql 26 (.agg (relC n f)) (.agg (relC m g))).run Tryd.prog w = .ok (.bool (relEq n m f g)) w := by
  rw [run_eql_struct, run_rel_equal n m f g 9997]; rfl
theorem run_rel_neq (n m : Int) (f g : Rl.Rows) (w : World) : (binOp .neq 26 (.agg (relC n f)) (.agg (relC m g))).run Tryd.prog w = .ok (.bool (!relEq n m f g)) w := by
  rw [run_neq_struct, run_rel_equal n m f g 9997]; rfl
end Go.Proofs.YtknjdfgmejobfaaDoor

/- package rel: Plus. -/
namespace Go.Proofs.YtknjdfgmejobfaaDoor
open Go.RowKit Go.Shelf

attribute [-go_sem] run_eql_struct run_neq_struct
attribute [local go_sem] Bv.and_u Bv.or_u Bv.andNot_u Bv.wrap_sub1 Bv.eq0 Bv.ne0 Bv.wrap_pow Bv.wrap_powmin Bv.wrap_neg Bv.eq_u Bv.ne_u Bv.shr_min Bv.shr_pow Bv.tmod2 Bv.and1 Bv.wrap_add Bv.B1_eq1 Bv.B1_eq0 Bv.B1_ne1 Bv.B1_ne0 run_rel_eql run_rel_neq

theorem tab_grow {W : World} (hT : Tab W) (hw : 0 < W.heap.size) (d : Nat) (os : Array Obj) : Tab (Go.Sort.grow (redrawn W d) os) ∧ 0 < (Go.Sort.grow (redrawn W d) os).heap.size :=
  ⟨hT.below (below_regrown W d os) hw, Nat.lt_of_lt_of_le hw (below_regrown W d os).size⟩
set_option maxRecDepth 100000 in
set_option maxHeartbeats 1000000 in
theorem plus1 (pb k : Nat) (n : Int) (f : Rl.Rows) (W : World) (hk : k < 48) (hR : RelAt W pb n f) (hs : ∀ i, (f k).getLsbD i = true → i < 48) (hT : Tab W) (hw : 0 < W.heap.size) :
    Calls Tryd.prog 80 #[.int .i64 k, .pointer (some ⟨pb, 0, none⟩)] W fun e w' => e = .returned (.int .u64 (Bv.U (f k ||| Rl.image f (f k)))) ∧ Below W.heap.size W w' := by
  have q0 : (0 : Int) ≤ (k : Int) := by omega
  have q1 : (k : Int) < 48 := by omega
  have ca := fun d os => (rel_grow hR d os).row k hk
  obtain ⟨x, hx⟩ : ∃ x, x = f k := ⟨_, rfl⟩
  rw [← hx] at hs ⊢
  simp only [← hx] at ca
  have GA := Lib.hid (And.intro hR (And.intro hs (And.intro hT hw)))
  clear hR hs hx hT
  go_enter Tryd.func80, Tryd.ntmps80
  go_wp2_with fail
  refine wp_region_quiet_below (by kernel_rfl) (by kernel_rfl) ?_
  repeat (first | go_big_quiet_step (first | (go_at_call 73; with_reducible exact Calls.regrown_of (image_any pb n f x _ (rel_grow GA.out.1 _ _) GA.out.2.1 (tab_grow GA.out.2.2.1 GA.out.2.2.2 _ _).1 (tab_grow GA.out.2.2.1 GA.out.2.2.2 _ _).2)) | fail) | quiet_step (first | (go_at_call 73; with_reducible exact Calls.regrown_of (image_any pb n f x _ (rel_grow GA.out.1 _ _) GA.out.2.1 (tab_grow GA.out.2.2.1 GA.out.2.2.2 _ _).1 (tab_grow GA.out.2.2.1 GA.out.2.2.2 _ _).2)) | fail))
  refine wpQuiet_nil ?_
  intro W1 hw1
  have hb1 : Below W.heap.size W W1 := by obtain ⟨⟨d, os⟩, rfl⟩ := hw1; exact below_regrown _ _ _
  have H1 := Lib.hid hb1
  clear hw1 hb1
  go_wp2_with fail
  go_ret
  exact ⟨rfl, H1.out⟩
theorem gap_congr {f g : Rl.Rows} : ∀ (k : Nat), (∀ a, a < k → f a = g a) → Rl.gap f k = Rl.gap g k
  | 0, _ => rfl
  | k + 1, h => by
    show Rl.gap f k + (64 - Bx.card (f k)) = Rl.gap g k + (64 - Bx.card (g k))
    rw [gap_congr k (fun a ha => h a (by omega)), h k (by omega)]
/-- the rows that lie in a block -/
def rowsIn (w : World) (b : Nat) : Rl.Rows := fun i => match w.cell? ⟨b, 1 + i, none⟩ with
  | some (.int _ z) => BitVec.ofInt 64 z
  | _ => 0#64
def gapAt (w : World) (b : Nat) : Nat := Rl.gap (rowsIn w b) 48
theorem gapAt_eq {w : World} {b : Nat} {n : Int} {f : Rl.Rows} (h : RelAt w b n f) : gapAt w b = Rl.gap f 48 :=
  gap_congr 48 fun a ha => by unfold rowsIn; rw [h.row a ha]; exact Bv.ofInt_U _
theorem relEq_true {n : Int} {f g : Rl.Rows} (h : f = g) : relEq n n f g = true := by subst h; unfold relEq rowsEq; simp
theorem relEq_false {n m : Int} {f g : Rl.Rows} (zf : Rl.Z f) (zg : Rl.Z g) (h : ¬ (n = m ∧ f = g)) : relEq n m f g = false := by
  cases hb : relEq n m f g
  · rfl
  · exact absurd ((relEq_iff zf zg).1 hb) h

set_option maxRecDepth 100000 in
set_option maxHeartbeats 1000000 in
theorem plus_no (n : Int) (f : Rl.Rows) (w : World) (hr : Rl.rightB n f = false) :
    Calls Tryd.prog 25 #[.agg (relC n f)] w fun e w' => e = .returned (.agg (relC 0 zeroR)) ∧ Below w.heap.size w w' := by
  have hzr := zero_rel
  have hbz := build_zero
  have h0 := (RelAt.new w n f).alloc (.cells (relC 0 zeroR) 26)
  have h1 := RelAt.new (w.alloc (.cells (relC n f) 26)) 0 zeroR
  rw [World.size_alloc] at h1
  have hB := (((Below.refl w.heap.size w).alloc (Nat.le_refl _) (.cells (relC n f) 26)).alloc (by simp) (.cells (relC 0 zeroR) 26))
  have H := Lib.hid (And.intro h0 (And.intro h1 (And.intro hB hr)))
  clear h0 h1 hB hr
  go_enter Tryd.func25, Tryd.ntmps25
  go_wp2_with (refine wpList_load_rel (by rfl) (.tmp 1) (by rfl) w.heap.size n f (by rfl) H.out.1 ?_)
  with_reducible refine (right_is _ _ _ H.out.2.2.2 _).mono ?_
  rintro e w1 ⟨rfl, hb⟩
  have H1 := Lib.hid (And.intro (H.out.2.1.below hb (by simp)) (H.out.2.2.1.trans (hb.mono H.out.2.2.1.size)))
  clear hb
  go_wp2_with (refine wpList_store_rel (by rfl) (.tmp 2) (.tmp 7) (by rfl) (w.heap.size + 1) 0 0 zeroR zeroR (by rfl) (by rfl) H1.out.1 ?_; intro w3 hR3 hg3)
  refine bodyPost_ret (results_cell_row rfl _ _ (w.heap.size + 1) 26 (relC 0 zeroR) (0, 0) _ rfl hR3 uRel rfl (sRelC _ _)) rfl ⟨rfl, H1.out.2.grown hg3 H1.out.2.size (fun j e => by injection e with e; omega)⟩
set_option maxRecDepth 100000 in
set_option maxHeartbeats 1000000 in
theorem plus_yes (n : Nat) (f : Rl.Rows) (w : World) (hr : Rl.Ok n f) (hT : Tab w) (hw : 0 < w.heap.size) :
    Calls Tryd.prog 25 #[.agg (relC n f)] w fun e w' => e = .returned (.agg (relC n (Rl.plusF n f))) ∧ Below w.heap.size w w' := by
  have hzr := zero_rel
  have h0 := (RelAt.new w n f).alloc (.cells (relC 0 zeroR) 26)
  have h1 := RelAt.new (w.alloc (.cells (relC n f) 26)) 0 zeroR
  rw [World.size_alloc] at h1
  have hB := (((Below.refl w.heap.size w).alloc (Nat.le_refl _) (.cells (relC n f) 26)).alloc (by simp) (.cells (relC 0 zeroR) 26))
  have hTl : ∀ W, Below w.heap.size w W → Tab W ∧ 0 < W.heap.size := fun W h => ⟨hT.below h hw, Nat.lt_of_lt_of_le hw h.size⟩
  have HT := Lib.hid hTl
  have HO := Lib.hid hr
  have eg := enters_of Tryd.func80 (by kernel_rfl) rfl
  have EG := Lib.hid eg
  have H := Lib.hid (And.intro h0 (And.intro h1 (And.intro hB (Rl.right_of hr))))
  have hne0 : ¬ relC 0 zeroR = #[] := by intro h; have := congrArg Array.size h; rw [relC_size] at this; simp at this
  clear h0 h1 hB hr hT hTl eg
  go_enter Tryd.func25, Tryd.ntmps25
  go_wp2_with (refine wpList_load_rel (by rfl) (.tmp 1) (by rfl) w.heap.size n f (by rfl) H.out.1 ?_)
  with_reducible refine (right_is _ _ _ H.out.2.2.2 _).mono ?_
  rintro e w1 ⟨rfl, hb⟩
  have H1 := Lib.hid (And.intro (H.out.1.below hb (by simp; omega)) (And.intro (H.out.2.1.below hb (by simp)) (H.out.2.2.1.trans (hb.mono H.out.2.2.1.size))))
  clear hb
  go_wp2_with fail
  go_loopw [3] (fun x wr => ∃ (v : Value) (g : Rl.Rows), x = v ∧ Rl.Ok n g ∧ (∀ a b, Rl.Path g a b ↔ Rl.Path f a b) ∧ RelAt wr w.heap.size n g ∧ RelAt wr (w.heap.size + 1) 0 zeroR ∧ Below w.heap.size w wr) (fun _ wr => gapAt wr w.heap.size)
  case atStart => exact ⟨_, f, rfl, HO.out, fun _ _ => Iff.rfl, H1.out⟩
  case round =>
    obtain ⟨v0, g, rfl, og, hp, r0, r1, hb⟩ := hrel
    have hc := r0.num
    have HH := Lib.hid (And.intro og (And.intro hp (And.intro r0 (And.intro r1 hb))))
    clear og hp r0 r1 hb
    go_wp2_with fail
    refine (build_any n 80 #[.pointer (some ⟨w.heap.size, 0, none⟩)] (fun k => g k ||| Rl.image g (g k)) _ HH.out.1.le EG.out ?_).mono ?_
    · intro a W ha hb
      have hBW := HH.out.2.2.2.2.trans (hb.mono HH.out.2.2.2.2.size)
      exact plus1 w.heap.size a n g W (by have := HH.out.1.le; omega) (HH.out.2.2.1.below hb HH.out.2.2.1.lt) (fun i hi => by have := (HH.out.1.in_ a i hi).2; have := HH.out.1.le; omega) (HT.out W hBW).1 (HT.out W hBW).2
    rintro e w2 ⟨rfl, hb⟩
    rw [show Rl.cut n (fun k => g k ||| Rl.image g (g k)) = Rl.sqF n g from rfl]
    have r0 := HH.out.2.2.1.below hb HH.out.2.2.1.lt
    have r1 := HH.out.2.2.2.1.below hb HH.out.2.2.2.1.lt
    have hlt := r1.lt
    have H2 := Lib.hid (And.intro r0 (And.intro r1 (And.intro (HH.out.2.2.2.2.trans (hb.mono HH.out.2.2.2.2.size)) hlt)))
    have zs := (Rl.ok_sq HH.out.1).z
    have zg := HH.out.1.z
    clear hb r0 r1 hc hlt
    by_cases hfix : Rl.sqF n g = g
    · have he := relEq_true (n := (n : Int)) hfix
      have hfin : g = Rl.plusF n f := Rl.plus_eq HO.out HH.out.1 HH.out.2.1 hfix
      have HF := Lib.hid hfin
      clear hfix hfin zs zg
      go_wp2_with (first
        | (refine wpList_store_rel (by rfl) (.tmp 3) (.tmp 11) (by rfl) w2.heap.size n 0 (Rl.sqF n g) zeroR (by rfl) (by rfl) (RelAt.new w2 0 zeroR) ?_; intro w3 hR3 hg3; have K0 := (H2.out.1.alloc (.cells (relC 0 zeroR) 26)).kept hg3 (by have := H2.out.2.2.2; intro e; injection e with e; omega); have K1 := (H2.out.2.1.alloc (.cells (relC 0 zeroR) 26)).kept hg3 (by have := H2.out.2.2.2; intro e; injection e with e; omega); have KB := (H2.out.2.2.1.alloc H2.out.2.2.1.size (.cells (relC 0 zeroR) 26)).grown hg3 (by have := H2.out.2.2.1.size; simp; omega) (fun j e => by have := H2.out.2.2.2; injection e with e; omega); have H3 := Lib.hid (And.intro hR3 (And.intro K0 (And.intro K1 KB))); clear hR3 hg3 K0 K1 KB)
        | (refine wpList_load_rel (by rfl) (.tmp 3) (by rfl) w2.heap.size n (Rl.sqF n g) (by rfl) H3.out.1 ?_)
        | (refine wpList_load_rel (by rfl) (.tmp 1) (by rfl) w.heap.size n g (by rfl) H3.out.2.1 ?_)
        | (refine wpList_store_rel (by rfl) (.tmp 2) (.tmp 15) (by rfl) (w.heap.size + 1) n 0 g zeroR (by rfl) (by rfl) H3.out.2.2.1 ?_; intro w4 hR4 hg4))
      refine bodyPost_ret (results_cell_row rfl _ _ (w.heap.size + 1) 26 (relC n g) (0, 0) _ rfl hR4 uRel rfl (sRelC _ _)) rfl ⟨by rw [← HF.out], H3.out.2.2.2.grown hg4 H3.out.2.2.2.size (fun j e => by injection e with e; omega)⟩
    · have he := relEq_false (n := (n : Int)) (m := (n : Int)) zs zg (fun h => hfix h.2)
      have HF := Lib.hid (Rl.gap_sq HH.out.1 hfix)
      clear hfix zs zg
      go_wp2_with (first
        | (refine wpList_store_rel (by rfl) (.tmp 3) (.tmp 11) (by rfl) w2.heap.size n 0 (Rl.sqF n g) zeroR (by rfl) (by rfl) (RelAt.new w2 0 zeroR) ?_; intro w3 hR3 hg3; have K0 := (H2.out.1.alloc (.cells (relC 0 zeroR) 26)).kept hg3 (by have := H2.out.2.2.2; intro e; injection e with e; omega); have K1 := (H2.out.2.1.alloc (.cells (relC 0 zeroR) 26)).kept hg3 (by have := H2.out.2.2.2; intro e; injection e with e; omega); have KB := (H2.out.2.2.1.alloc H2.out.2.2.1.size (.cells (relC 0 zeroR) 26)).grown hg3 (by have := H2.out.2.2.1.size; simp; omega) (fun j e => by have := H2.out.2.2.2; injection e with e; omega); have H3 := Lib.hid (And.intro hR3 (And.intro K0 (And.intro K1 KB))); clear hR3 hg3 K0 K1 KB)
        | (refine wpList_load_rel (by rfl) (.tmp 3) (by rfl) w2.heap.size n (Rl.sqF n g) (by rfl) H3.out.1 ?_)
        | (refine wpList_load_rel (by rfl) (.tmp 1) (by rfl) w.heap.size n g (by rfl) H3.out.2.1 ?_)
        | (refine wpList_store_rel (by rfl) (.tmp 1) (.tmp 16) (by rfl) w.heap.size n n (Rl.sqF n g) g (by rfl) (by rfl) H3.out.2.1 ?_; intro w4 hR4 hg4; have K1 := H3.out.2.2.1.kept hg4 (by intro e; injection e with e; omega); have KB := H3.out.2.2.2.grown hg4 H3.out.2.2.2.size (fun j e => by injection e with e; omega); have H4 := Lib.hid (And.intro hR4 (And.intro K1 KB)); clear hR4 hg4 K1 KB))
      go_roundw
      case rel => exact ⟨_, _, _, _, _, _, _, _, _, _, ⟨_, Rl.sqF n g, rfl, Rl.ok_sq HH.out.1, fun a b => (Rl.sq_path HH.out.1).trans (HH.out.2.1 a b), H4.out⟩, rfl⟩
      case measure => rw [gapAt_eq H4.out.1, gapAt_eq HH.out.2.2.1]; exact HF.out
/-- the closure, valid or not -/
noncomputable def plusR (n : Int) (f : Rl.Rows) : Rl.Rows := if Rl.rightB n f then Rl.plusF n.toNat f else zeroR
theorem plus_any (n : Int) (f : Rl.Rows) (w : World) (zf : Rl.Z f) (hT : Tab w) (hw : 0 < w.heap.size) :
    Calls Tryd.prog 25 #[.agg (relC n f)] w fun e w' => e = .returned (.agg (relC (backN n f) (plusR n f))) ∧ Below w.heap.size w w' := by
  unfold backN plusR
  cases h : Rl.rightB n f
  · rw [if_neg (by simp), if_neg (by simp)]; exact plus_no n f w h
  · obtain ⟨m, rfl, hm⟩ := Rl.right_nat zf h
    rw [if_pos rfl, if_pos rfl, Int.toNat_natCast]; exact plus_yes m f w hm hT hw
end Go.Proofs.YtknjdfgmejobfaaDoor
