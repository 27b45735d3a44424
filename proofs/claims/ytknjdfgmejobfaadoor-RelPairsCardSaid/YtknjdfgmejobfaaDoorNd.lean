/- package rel: build, image. -/
import Derived.Test.YtknjdfgmejobfaaDoorNc
namespace Go.Proofs.YtknjdfgmejobfaaDoor
open Go.RowKit Go.Shelf

attribute [local go_sem] Bv.and_u Bv.or_u Bv.andNot_u Bv.wrap_sub1 Bv.eq0 Bv.ne0 Bv.wrap_pow Bv.wrap_powmin Bv.wrap_neg

theorem build_rel (n : Int) (w : World) : (Instr.build 26 #[(0, .int .i64 n)]).run Tryd.prog w = .ok (.agg (relC n zeroR)) w := by kernel_rfl
theorem build_zero (w : World) : (Instr.build 26 #[]).run Tryd.prog w = .ok (.agg (relC 0 zeroR)) w := by kernel_rfl
set_option maxRecDepth 100000 in
set_option maxHeartbeats 1000000 in
theorem build_any (n : Nat) (g : FuncId) (caps : Array Value) (rows : Rl.Rows) (w : World) (hn : n ≤ 48) (eg : ∀ args w, (callFunc g args).run Tryd.prog w = .ok (.enter g args) w)
    (hrow : ∀ (a : Nat) (W : World), a < n → Below w.heap.size w W → Calls Tryd.prog g (#[.int .i64 a] ++ caps) W fun e W' => e = .returned (.int .u64 (Bv.U (rows a))) ∧ Below W.heap.size W W') :
    Calls Tryd.prog 76 #[.int .i64 n, .func (.func g) #[] caps] w fun e w' => e = .returned (.agg (relC n (Rl.cut n rows))) ∧ Below w.heap.size w w' := by
  have hzr := zero_rel
  have hbr := build_rel
  have hR0 := RelAt.new w 0 zeroR
  have hR1 := RelAt.new (w.alloc (.cells (relC 0 zeroR) 26)) 0 zeroR
  rw [World.size_alloc] at hR1
  have H0 := Lib.hid (And.intro (hR0.alloc (.cells (relC 0 zeroR) 26)) hR1)
  clear hR0 hR1
  go_enter Tryd.func76, Tryd.ntmps76
  go_wp2_with (refine wpList_store_rel (by rfl) (.tmp 5) (.tmp 8) (by rfl) (w.heap.size + 1) n 0 zeroR zeroR (by rfl) (by rfl) H0.out.2 ?_; intro w1 hR1 hg1)
  have hb1 : Below w.heap.size w w1 := (((Below.refl _ w).alloc (Nat.le_refl _) _).alloc (by simp) _).grown hg1 (by simp; omega) (fun j e => by injection e with e; omega)
  have H1 := Lib.hid (And.intro (H0.out.1.kept hg1 (by intro e; injection e with e; omega)) (And.intro hR1 hb1))
  clear hR1 hg1 hb1
  go_loopw [10] (fun c wr => ∃ k : Nat, k ≤ n ∧ c = .int .i64 k ∧ RelAt wr (w.heap.size + 1) n (Rl.cut k rows) ∧ RelAt wr w.heap.size 0 zeroR ∧ Below w.heap.size w wr) (fun c _ => n - (intOf c).toNat)
  case atStart => exact ⟨0, Nat.zero_le _, rfl, H1.out.2.1, H1.out.1, H1.out.2.2⟩
  case round =>
    obtain ⟨k, hk, rfl, hR, hR0, hb⟩ := hrel
    by_cases hlt : k < n
    · have hcall := hrow k wr hlt hb
      have HC := Lib.hid hcall
      have HH := Lib.hid (And.intro hR (And.intro hR0 hb))
      clear hcall hR hR0 hb hrow
      go_wp2_with fail
      refine HC.out.mono ?_
      rintro e w2 ⟨rfl, hb2⟩
      have hR2 := HH.out.1.below hb2 HH.out.1.lt
      have hc := hR2.row k (by omega)
      have hf := hR2.free (1 + k)
      have hset := hR2.set k (rows k)
      have hupd : upd (Rl.cut k rows) k (rows k) = Rl.cut (k + 1) rows := by
        funext i
        unfold upd Rl.cut
        by_cases e : i = k
        · subst e; simp
        · rw [if_neg e]
          by_cases h : i < k
          · rw [if_pos h, if_pos (by omega)]
          · rw [if_neg h, if_neg (by omega)]
      rw [hupd] at hset
      have H2 := Lib.hid (And.intro hset (And.intro ((HH.out.2.1.below hb2 HH.out.2.1.lt).other ⟨w.heap.size + 1, 1 + k, none⟩ (.int .u64 (Bv.U (rows k))) (by simp)) ((HH.out.2.2.trans (hb2.mono HH.out.2.2.size)).setCell (p := ⟨w.heap.size + 1, 1 + k, none⟩) (by simp) (.int .u64 (Bv.U (rows k))))))
      clear hset hupd hR2 hb2
      go_wp2_with fail
      go_roundw
      case rel => exact ⟨k + 1, by omega, by go_num, H2.out.1, H2.out.2.1, H2.out.2.2⟩
      case measure => simp [intOf]; omega
    · have hkn : k = n := by omega
      subst hkn
      have HH := Lib.hid (And.intro hR (And.intro hR0 hb))
      clear hR hR0 hb hrow
      go_wp2_with (first | (refine wpList_load_rel (by rfl) (.tmp 5) (by rfl) (w.heap.size + 1) k (Rl.cut k rows) (by rfl) HH.out.1 ?_) | (refine wpList_store_rel (by rfl) (.tmp 4) (.tmp 20) (by rfl) w.heap.size k 0 (Rl.cut k rows) zeroR (by rfl) (by rfl) HH.out.2.1 ?_; intro w3 hR3 hg3))
      refine bodyPost_ret (results_cell_row rfl _ _ w.heap.size 26 (relC k (Rl.cut k rows)) (0, 0) _ rfl hR3 uRel rfl (sRelC _ _)) rfl ⟨rfl, HH.out.2.2.grown hg3 HH.out.2.2.size (fun j e => by injection e with e; omega)⟩

theorem some_ne {t : BitVec 64} (h : t ≠ 0#64) : firstN t = (Bs.low t : Nat) ∧ someB t = true := ⟨by unfold firstN; rw [if_neg h], by unfold someB; simpa using h⟩
theorem some_zero : firstN 0#64 = 0 ∧ someB 0#64 = false := ⟨rfl, rfl⟩
/-- the sets that are left, as their elements -/
def leftOf : Value → Nat
  | .int _ z => (Bs.elems (BitVec.ofInt 64 z)).length
  | _ => 0
theorem leftOf_eq (s : BitVec 64) : leftOf (.int .u64 (Bv.U s)) = (Bs.elems s).length := by simp [leftOf, Bv.ofInt_U]

set_option maxRecDepth 100000 in
set_option maxHeartbeats 1000000 in
theorem image_any (b : Nat) (n : Int) (f : Rl.Rows) (s : BitVec 64) (w : World) (hR : RelAt w b n f) (hs : ∀ i, s.getLsbD i = true → i < 48) (hT : Tab w) (hw : 0 < w.heap.size) :
    Calls Tryd.prog 73 #[.pointer (some ⟨b, 0, none⟩), .int .u64 (Bv.U s)] w fun e w' => e = .returned (.int .u64 (Bv.U (Rl.image f s))) ∧ Below w.heap.size w w' := by
  have hTl : ∀ W, Below w.heap.size w W → Tab W ∧ 0 < W.heap.size := fun W h => ⟨hT.below h hw, Nat.lt_of_lt_of_le hw h.size⟩
  have HT := Lib.hid hTl
  have H0 := Lib.hid (And.intro hR hs)
  have HTw := Lib.hid hT
  clear hTl hT hR hs
  go_enter Tryd.func73, Tryd.ntmps73
  go_wp2_with fail
  refine (first_any _ _ HTw.out hw).mono ?_
  rintro e w1 ⟨rfl, hb⟩
  have B1 := Lib.hid hb
  clear hb
  go_wp2_with fail
  go_loopw [1, 5, 6, 7] (fun x y p q wr => ∃ (t acc : BitVec 64), x = .int .u64 (Bv.U t) ∧ y = .int .u64 (Bv.U acc) ∧ p = .int .i64 (firstN t) ∧ q = .bool (someB t) ∧ acc ||| Rl.imageL f (Bs.elems t) = Rl.image f s ∧ (∀ i, t.getLsbD i = true → s.getLsbD i = true) ∧ Below w.heap.size w wr) (fun x _ _ _ _ => leftOf x)
  case atStart => exact ⟨s, 0#64, rfl, rfl, rfl, rfl, by simp [Rl.image], fun _ h => h, B1.out⟩
  case round =>
    obtain ⟨t, acc, rfl, rfl, rfl, rfl, hacc, hsub, hb⟩ := hrel
    by_cases hz : t = 0#64
    · subst hz
      have hfin : acc = Rl.image f s := by
        rw [← hacc, show Bs.elems 0#64 = [] from Bs.elems_zero]; simp [Rl.imageL]
      rw [some_zero.1, some_zero.2]
      have HF := Lib.hid (And.intro hfin hb)
      clear hfin hb hacc hsub
      go_wp2_with fail
      go_ret
      exact ⟨by rw [← HF.out.1]; rfl, HF.out.2⟩
    · have hlow := Bs.low_bit hz
      have h48 := H0.out.2 _ (hsub _ hlow)
      have hcell := ((H0.out.1.below hb H0.out.1.lt)).row (Bs.low t) h48
      have hstep := Bs.elems_step hz
      have hlt := Bs.rest_lt hz
      have hacc2 : (acc ||| f (Bs.low t)) ||| Rl.imageL f (Bs.elems (Bs.rest t)) = Rl.image f s := by rw [← hacc, hstep, ← Rl.imageL_cons]
      have hsub2 : ∀ i, (Bs.rest t).getLsbD i = true → s.getLsbD i = true := fun i hi => hsub i (by rw [Bs.rest_bit hz] at hi; simp at hi; exact hi.1)
      rw [(some_ne hz).1, (some_ne hz).2]
      obtain ⟨a, ha⟩ : ∃ a, a = Bs.low t := ⟨_, rfl⟩
      rw [← ha] at hcell h48 hacc2 ⊢
      obtain ⟨r, hr⟩ : ∃ r, r = f a := ⟨_, rfl⟩
      rw [← hr] at hcell hacc2
      have HH := Lib.hid (And.intro hacc2 (And.intro hsub2 (And.intro hb hlt)))
      clear hacc2 hsub2 hb hlt hstep hacc hsub hlow ha hr hz
      go_wp2_with fail
      refine (first_any _ _ (HT.out _ HH.out.2.2.1).1 (HT.out _ HH.out.2.2.1).2).mono ?_
      rintro e w2 ⟨rfl, hb⟩
      have B2 := Lib.hid (HH.out.2.2.1.trans (hb.mono HH.out.2.2.1.size))
      clear hb
      go_wp2_with fail
      go_roundw
      case rel => exact ⟨Bs.rest t, acc ||| r, rfl, rfl, rfl, rfl, HH.out.1, HH.out.2.1, B2.out⟩
      case measure => rw [leftOf_eq t]; exact Nat.lt_of_le_of_lt (Nat.le_of_eq (leftOf_eq (Bs.rest t))) HH.out.2.2.2
end Go.Proofs.YtknjdfgmejobfaaDoor
