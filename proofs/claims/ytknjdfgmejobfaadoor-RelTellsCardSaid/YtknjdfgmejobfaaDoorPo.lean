/- reference of layer 2: Back, Star of any relation; Id, Cross of any number, with the program's own beside them. -/
import Derived.Test.YtknjdfgmejobfaaDoorPn
import Derived.Test.YtknjdfgmejobfaaDoorLi
namespace Go.Proofs.YtknjdfgmejobfaaDoor
open Go.RowKit Go.Shelf

attribute [-go_sem] run_eql_struct run_neq_struct
attribute [local go_sem] Bv.and_u Bv.or_u Bv.andNot_u Bv.wrap_sub1 Bv.eq0 Bv.ne0 Bv.wrap_pow Bv.wrap_powmin Bv.wrap_neg Bv.eq_u Bv.ne_u Bv.shr_min Bv.shr_pow Bv.tmod2 Bv.and1 Bv.wrap_add Bv.B1_eq1 Bv.B1_eq0 Bv.B1_ne1 Bv.B1_ne0

set_option maxRecDepth 100000 in
set_option maxHeartbeats 1000000 in
theorem rback_no (n : Int) (f : Rl.Rows) (w : World) (zf : Rl.Z f) (hr : Rl.rightB n f = false) :
    Calls Tryd.prog 65 #[.agg (relC n f)] w fun e w' => e = .returned (.agg (relC 0 zeroR)) ∧ Below w.heap.size w w' := by
  have hzr := zero_rel
  have hbz := build_zero
  have hH := ((Held.nil w).box n f).box 0 zeroR
  simp only [World.size_alloc] at hH
  have H0 := Lib.hid (And.intro hH (And.intro hr zf))
  clear hH hr zf
  go_enter Tryd.func65, Tryd.ntmps65
  go_wp2_with (refine wpList_load_rel (by rfl) (.tmp 1) (by rfl) w.heap.size n f (by rfl) (H0.out.1.at 0 rfl) ?_)
  generalize (w.alloc (.cells (relC n f) 26)).alloc (.cells (relC 0 zeroR) 26) = W0 at H0 ⊢
  with_reducible refine (rright_is n f false H0.out.2.1 _ H0.out.2.2).mono ?_
  rintro e w1 ⟨rfl, hb⟩
  have H1 := Lib.hid (H0.out.1.step hb)
  clear hb
  go_wp2_with (refine wpList_store_rel (by rfl) (.tmp 2) (.tmp 9) (by rfl) (w.heap.size + 1) 0 0 zeroR zeroR (by rfl) (by rfl) (H1.out.at 1 rfl) ?_; intro w5 hR hg; have H5 := Lib.hid (And.intro hR (H1.out.put 1 rfl hR hg)); clear hR hg)
  refine bodyPost_ret (results_cell_row rfl _ _ (w.heap.size + 1) 26 (relC 0 zeroR) (0, 0) _ rfl H5.out.1 uRel rfl (sRelC _ _)) rfl ⟨rfl, H5.out.2.bel⟩
theorem rback_any (n : Int) (f : Rl.Rows) (w : World) (zf : Rl.Z f) :
    Calls Tryd.prog 65 #[.agg (relC n f)] w fun e w' => e = .returned (.agg (relC (backN n f) (backR n f))) ∧ Below w.heap.size w w' := by
  unfold backN backR
  cases h : Rl.rightB n f
  · exact rback_no n f w zf h
  · obtain ⟨m, rfl, hm⟩ := Rl.right_nat zf h
    rw [if_pos rfl, if_pos rfl, Int.toNat_natCast]; exact rback_yes m f w hm
theorem rstar_any (n : Int) (f : Rl.Rows) (w : World) (zf : Rl.Z f) :
    Calls Tryd.prog 68 #[.agg (relC n f)] w fun e w' => e = .returned (.agg (relC (backN n f) (starR n f))) ∧ Below w.heap.size w w' := by
  cases h : Rl.rightB n f
  · have e1 : backN n f = ((0 : Nat) : Int) := by unfold backN; rw [h]; rfl
    have e2 : starR n f = zeroR := by unfold starR; rw [h]; rfl
    have e3 : plusR n f = zeroR := by unfold plusR; rw [h]; rfl
    refine (rstar_gen n f 0 zeroR w zf (by omega) e1 e3).mono fun e w' ⟨g, he, hg, hb⟩ => ?_
    have : g = zeroR := Rl.rows_ext fun x y _ => by rw [hg x y]; simp
    rw [this] at he
    rw [e1, e2]; exact ⟨he, hb⟩
  · obtain ⟨m, rfl, hm⟩ := Rl.right_nat zf h
    have e1 : backN m f = (m : Int) := by unfold backN; rw [h]; rfl
    have e2 : starR m f = Rl.unionF m (Rl.plusF m f) (Rl.idF m (Rl.below m)) := by unfold starR; rw [h, if_pos rfl, Int.toNat_natCast]
    have e3 : plusR m f = Rl.plusF m f := by unfold plusR; rw [h, if_pos rfl, Int.toNat_natCast]
    refine (rstar_gen m f m (Rl.plusF m f) w zf hm.le e1 e3).mono fun e w' ⟨g, he, hg, hb⟩ => ?_
    have hle := hm.le
    have : g = Rl.unionF m (Rl.plusF m f) (Rl.idF m (Rl.below m)) := Rl.rows_ext fun x y hy => by
      rw [hg x y]
      by_cases hx : x < m
      · rw [Rl.union_bit _ _ _ _ _ hx, Rl.id_bit m _ x y hx hle, Rl.below_getN _ _ hy, decide_eq_true hx, Bool.true_and]
        congr 1
        by_cases e : x = y
        · subst e; simp [hx]
        · have h2 : decide (y = x) = false := decide_eq_false (fun h => e h.symm)
          rw [h2, decide_eq_false e]; rfl
      · rw [decide_eq_false hx, Bool.false_and, Bool.or_false]
        have h1 : ∀ {G : Rl.Rows}, Rl.Ok m G → Rl.bit G x y = false := fun hG => by
          cases hb2 : Rl.bit _ x y
          · rfl
          · exact absurd (hG.in_ x y hb2).1 hx
        rw [h1 (Rl.ok_plus hm), h1 (Rl.ok_union (Rl.ok_plus hm) (Rl.ok_id hle _))]
    rw [this] at he
    rw [e1, e2]; exact ⟨he, hb⟩

/-! ### Id, Cross of any number -/
def numN (n : Int) : Int := if 0 ≤ n ∧ n ≤ 48 then n else 0
def idR (n : Int) (s : BitVec 64) : Rl.Rows := if 0 ≤ n ∧ n ≤ 48 then Rl.idF n.toNat s else zeroR
def crossR (n : Int) (s t : BitVec 64) : Rl.Rows := if 0 ≤ n ∧ n ≤ 48 then Rl.crossF n.toNat s t else zeroR
theorem num_cases (n : Int) : (∃ m : Nat, n = (m : Int) ∧ m ≤ 48) ∨ ((n < 0 ∨ 48 < n) ∧ ¬ (0 ≤ n ∧ n ≤ 48)) := by
  by_cases h : 0 ≤ n ∧ n ≤ 48
  · exact .inl ⟨n.toNat, by omega, by omega⟩
  · exact .inr ⟨by omega, h⟩
theorem id_all (n : Int) (s : BitVec 64) (w : World) :
    Calls Tryd.prog 21 #[.int .i64 n, .int .u64 (Bv.U s)] w fun e w' => e = .returned (.agg (relC (numN n) (idR n s))) ∧ Below w.heap.size w w' := by
  unfold numN idR
  rcases num_cases n with ⟨m, rfl, hm⟩ | ⟨h, h2⟩
  · rw [if_pos ⟨by omega, by omega⟩, if_pos ⟨by omega, by omega⟩, Int.toNat_natCast]; exact id_any m s w hm
  · rw [if_neg h2, if_neg h2]; exact id_bad n s w h
theorem rid_all (n : Int) (s : BitVec 64) (w : World) :
    Calls Tryd.prog 60 #[.int .i64 n, .int .u64 (Bv.U s)] w fun e w' => e = .returned (.agg (relC (numN n) (idR n s))) ∧ Below w.heap.size w w' := by
  unfold numN idR
  rcases num_cases n with ⟨m, rfl, hm⟩ | ⟨h, h2⟩
  · rw [if_pos ⟨by omega, by omega⟩, if_pos ⟨by omega, by omega⟩, Int.toNat_natCast]; exact rid_yes m s w hm
  · rw [if_neg h2, if_neg h2]; exact rid_no n s w h
theorem cross_all (n : Int) (s t : BitVec 64) (w : World) :
    Calls Tryd.prog 39 #[.int .i64 n, .int .u64 (Bv.U s), .int .u64 (Bv.U t)] w fun e w' => e = .returned (.agg (relC (numN n) (crossR n s t))) ∧ Below w.heap.size w w' := by
  unfold numN crossR
  rcases num_cases n with ⟨m, rfl, hm⟩ | ⟨h, h2⟩
  · rw [if_pos ⟨by omega, by omega⟩, if_pos ⟨by omega, by omega⟩, Int.toNat_natCast]; exact cross_any m s t w hm
  · rw [if_neg h2, if_neg h2]; exact cross_bad n s t w h
theorem rcross_all (n : Int) (s t : BitVec 64) (w : World) :
    Calls Tryd.prog 61 #[.int .i64 n, .int .u64 (Bv.U s), .int .u64 (Bv.U t)] w fun e w' => e = .returned (.agg (relC (numN n) (crossR n s t))) ∧ Below w.heap.size w w' := by
  unfold numN crossR
  rcases num_cases n with ⟨m, rfl, hm⟩ | ⟨h, h2⟩
  · rw [if_pos ⟨by omega, by omega⟩, if_pos ⟨by omega, by omega⟩, Int.toNat_natCast]; exact rcross_yes m s t w hm
  · rw [if_neg h2, if_neg h2]; exact rcross_no n s t w h

/-! ### the four operations side by side -/
def twoE (n m : Int) (f g : Rl.Rows) : Int := if okB n m f g then 0 else 2
def twoN (n m : Int) (f g : Rl.Rows) : Int := if okB n m f g then n else 0
def twoR (k : Nat) (n m : Int) (f g : Rl.Rows) : Rl.Rows := if okB n m f g then twoF k n.toNat f g else zeroR
theorem okB_true {n m : Int} {f g : Rl.Rows} (zf : Rl.Z f) (zg : Rl.Z g) (h : okB n m f g = true) : ∃ k : Nat, n = (k : Int) ∧ m = (k : Int) ∧ Rl.Ok k f ∧ Rl.Ok k g := by
  unfold okB at h
  rw [Bool.and_eq_true, Bool.and_eq_true] at h
  obtain ⟨⟨h1, h2⟩, h3⟩ := h
  obtain ⟨k, rfl, hk⟩ := Rl.right_nat zf h2
  have h1 : ((k : Int) != m) = false := by simpa using h1
  have h1 : (k : Int) = m := by simpa using h1
  subst h1
  exact ⟨k, rfl, rfl, hk, (Rl.right_iff k g zg).1 h3⟩
theorem union_two (n m : Int) (f g : Rl.Rows) (w : World) (zf : Rl.Z f) (zg : Rl.Z g) :
    Calls Tryd.prog 19 #[.agg (relC n f), .agg (relC m g)] w fun e w' => e = .returned (.tuple #[.agg (relC (twoN n m f g) (twoR 0 n m f g)), .int .i64 (twoE n m f g)]) ∧ Below w.heap.size w w' := union_any n m f g w zf zg
theorem both_two (n m : Int) (f g : Rl.Rows) (w : World) (zf : Rl.Z f) (zg : Rl.Z g) :
    Calls Tryd.prog 42 #[.agg (relC n f), .agg (relC m g)] w fun e w' => e = .returned (.tuple #[.agg (relC (twoN n m f g) (twoR 1 n m f g)), .int .i64 (twoE n m f g)]) ∧ Below w.heap.size w w' := both_any n m f g w zf zg
theorem less_two (n m : Int) (f g : Rl.Rows) (w : World) (zf : Rl.Z f) (zg : Rl.Z g) :
    Calls Tryd.prog 40 #[.agg (relC n f), .agg (relC m g)] w fun e w' => e = .returned (.tuple #[.agg (relC (twoN n m f g) (twoR 2 n m f g)), .int .i64 (twoE n m f g)]) ∧ Below w.heap.size w w' := less_any n m f g w zf zg
theorem then_two (n m : Int) (f g : Rl.Rows) (w : World) (zf : Rl.Z f) (zg : Rl.Z g) (hT : Tab w) (hw : 0 < w.heap.size) :
    Calls Tryd.prog 18 #[.agg (relC n f), .agg (relC m g)] w fun e w' => e = .returned (.tuple #[.agg (relC (twoN n m f g) (twoR 3 n m f g)), .int .i64 (twoE n m f g)]) ∧ Below w.heap.size w w' := then_any n m f g w zf zg hT hw
theorem rtwo_any (k : Nat) (hk : k < 4) (n m : Int) (f g : Rl.Rows) (w : World) (zf : Rl.Z f) (zg : Rl.Z g) :
    Calls Tryd.prog 62 #[.int .i64 k, .agg (relC n f), .agg (relC m g)] w fun e w' => e = .returned (.tuple #[.agg (relC (twoN n m f g) (twoR k n m f g)), .bool (okB n m f g)]) ∧ Below w.heap.size w w' := by
  unfold twoN twoR
  cases h : okB n m f g
  · exact rtwo_no k n m f g w zf zg h
  · obtain ⟨j, rfl, rfl, hf, hg⟩ := okB_true zf zg h
    rw [if_pos rfl, if_pos rfl, Int.toNat_natCast]
    have h4 : k = 0 ∨ k = 1 ∨ k = 2 ∨ k = 3 := by omega
    rcases h4 with rfl | rfl | rfl | rfl
    · exact rtwo_0 j f g w hf hg
    · exact rtwo_1 j f g w hf hg
    · exact rtwo_2 j f g w hf hg
    · exact rtwo_3 j f g w hf hg
end Go.Proofs.YtknjdfgmejobfaaDoor
