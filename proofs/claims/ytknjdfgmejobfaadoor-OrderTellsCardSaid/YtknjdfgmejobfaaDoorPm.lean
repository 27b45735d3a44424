/- reference of layer 2: through, Two. -/
import Derived.Test.YtknjdfgmejobfaaDoorLi
namespace Go.Proofs.YtknjdfgmejobfaaDoor
open Go.RowKit Go.Shelf

attribute [-go_sem] run_eql_struct run_neq_struct
attribute [local go_sem] Bv.and_u Bv.or_u Bv.andNot_u Bv.wrap_sub1 Bv.eq0 Bv.ne0 Bv.wrap_pow Bv.wrap_powmin Bv.wrap_neg Bv.eq_u Bv.ne_u Bv.shr_min Bv.shr_pow Bv.tmod2 Bv.and1 Bv.wrap_add Bv.B1_eq1 Bv.B1_eq0 Bv.B1_ne1 Bv.B1_ne0

theorem rhas_bel (s : BitVec 64) (i : Int) (b : Bool) (hb : hasB s i = b) (w : World) :
    Calls Tryd.prog 84 #[.int .u64 (Bv.U s), .int .i64 i] w fun e w' => e = .returned (.bool b) ∧ Below w.heap.size w w' :=
  (rhas_is s i b hb w).mono fun e w' ⟨h1, h2⟩ => ⟨h1, by rw [← h2]; exact Below.refl _ _⟩
theorem below_of_regrown {w W1 : World} (h : ∃ p : Regrown, W1 = Go.Sort.grow (redrawn w p.d) p.os) : Below w.heap.size w W1 := by
  obtain ⟨⟨d, os⟩, rfl⟩ := h; exact below_regrown _ _ _
set_option maxRecDepth 100000 in
set_option maxHeartbeats 2000000 in
theorem rthrough_is (n : Nat) (f g : Rl.Rows) (a c : Nat) (r : Bool) (hr : Rl.bit (Rl.thenF n f g) a c = r) (w : World) (hf : Rl.Ok n f) (hg : Rl.Ok n g) (ha : a < n) (hc : c < n) :
    Calls Tryd.prog 98 #[.agg (relC n f), .agg (relC n g), .int .i64 a, .int .i64 c] w fun e w' => e = .returned (.bool r) ∧ Below w.heap.size w w' := by
  have hn := hf.le
  have hT : r = true ↔ ∃ b, Rl.bit f a b = true ∧ Rl.bit g b c = true := by rw [← hr]; exact Rl.then_bit n f g a c ha
  have hH := ((Held.nil w).box n f).box n g
  simp only [World.size_alloc] at hH
  have q0 : (0 : Int) ≤ (a : Int) := by omega
  have q1 : (a : Int) < 48 := by omega
  have H := Lib.hid (And.intro hH (And.intro hT (And.intro hf hg)))
  clear hH hT hf hg hr
  go_enter Tryd.func98, Tryd.ntmps98
  go_wp2_with fail
  generalize (w.alloc (.cells (relC n f) 26)).alloc (.cells (relC n g) 26) = W0 at H ⊢
  have c0 := (H.out.1.at 0 rfl).num
  have c1 := (H.out.1.at 0 rfl).row a (by omega)
  go_loopw [9] (fun i wr => wr = W0 ∧ ∃ b : Nat, b ≤ n ∧ i = .int .i64 b ∧ ∀ z, z < b → (Rl.bit f a z && Rl.bit g z c) = false) (fun i _ => n - (intOf i).toNat)
  case atStart => exact ⟨rfl, 0, Nat.zero_le _, rfl, fun z h => by omega⟩
  case round =>
    obtain ⟨rfl, b, hb, rfl, hno⟩ := hrel
    by_cases hlt : b < n
    · have c2 := (H.out.1.at 1 rfl).row b (by omega)
      have q2 : (0 : Int) ≤ (b : Int) := by omega
      have q3 : (b : Int) < 48 := by omega
      have h1 := hasB_nat (f a) b (by omega)
      have h2 := hasB_nat (g b) c (by omega)
      cases b1 : Bv.G (f a) b
      · rw [b1] at h1
        have hn2 : (Rl.bit f a b && Rl.bit g b c) = false := by rw [show Rl.bit f a b = false from b1]; rfl
        have HH := Lib.hid (And.intro h1 (And.intro hno hn2))
        clear h1 h2 hno b1 hn2
        go_wp2_with fail
        with_reducible refine (rhas_is (f a) b false HH.out.1 _).mono ?_
        rintro e w' ⟨rfl, rfl⟩
        go_wp2_with fail
        go_roundw
        case rel => exact ⟨by first | rfl | trivial, b + 1, by omega, by go_num, fun z hz => by
          by_cases e : z = b
          · subst e; exact HH.out.2.2
          · exact HH.out.2.1 z (by omega)⟩
        case measure => simp [intOf]; omega
      · rw [b1] at h1
        cases b2 : Bv.G (g b) c
        · rw [b2] at h2
          have hn2 : (Rl.bit f a b && Rl.bit g b c) = false := by rw [show Rl.bit g b c = false from b2, Bool.and_false]
          have HH := Lib.hid (And.intro h1 (And.intro h2 (And.intro hno hn2)))
          clear h1 h2 hno b1 b2 hn2
          go_wp2_with fail
          with_reducible refine (rhas_is (f a) b true HH.out.1 _).mono ?_
          rintro e w' ⟨rfl, rfl⟩
          go_wp2_with fail
          with_reducible refine (rhas_is (g b) c false HH.out.2.1 _).mono ?_
          rintro e w' ⟨rfl, rfl⟩
          go_wp2_with fail
          go_roundw
          case rel => exact ⟨by first | rfl | trivial, b + 1, by omega, by go_num, fun z hz => by
            by_cases e : z = b
            · subst e; exact HH.out.2.2.2
            · exact HH.out.2.2.1 z (by omega)⟩
          case measure => simp [intOf]; omega
        · rw [b2] at h2
          have hr : r = true := H.out.2.1.2 ⟨b, b1, b2⟩
          subst hr
          have HH := Lib.hid (And.intro h1 h2)
          clear h1 h2 hno b1 b2
          go_wp2_with fail
          with_reducible refine (rhas_is (f a) b true HH.out.1 _).mono ?_
          rintro e w' ⟨rfl, rfl⟩
          go_wp2_with fail
          with_reducible refine (rhas_is (g b) c true HH.out.2 _).mono ?_
          rintro e w' ⟨rfl, rfl⟩
          go_wp2_with fail
          go_ret
          exact ⟨rfl, H.out.1.bel⟩
    · have hbn : b = n := by omega
      have hr : r = false := by
        cases hr : r
        · rfl
        · obtain ⟨z, h1, h2⟩ := H.out.2.1.1 hr
          have := hno z (by have := (H.out.2.2.1.in_ a z h1).2; omega)
          rw [h1, h2] at this; cases this
      subst hr
      have HN := Lib.hid hno
      clear hno
      subst hbn
      go_wp2_with fail
      go_ret
      exact ⟨rfl, H.out.1.bel⟩

/-! ### Two -/
/-- what the four operations say of a pair -/
def twoT (k n : Nat) (f g : Rl.Rows) (a b : Nat) : Bool := match k with
  | 0 => Rl.bit f a b || Rl.bit g a b
  | 1 => Rl.bit f a b && Rl.bit g a b
  | 2 => Rl.bit f a b && !Rl.bit g a b
  | _ => Rl.bit (Rl.thenF n f g) a b
theorem two3 (n : Nat) (f g : Rl.Rows) (a b : Nat) : twoT 3 n f g a b = Rl.bit (Rl.thenF n f g) a b := rfl
def twoF (k n : Nat) (f g : Rl.Rows) : Rl.Rows := match k with
  | 0 => Rl.unionF n f g
  | 1 => Rl.bothF n f g
  | 2 => Rl.lessF n f g
  | _ => Rl.thenF n f g
theorem twoF_bit {k n : Nat} {f g : Rl.Rows} (hf : Rl.Ok n f) (hg : Rl.Ok n g) (a b : Nat) : Rl.bit (twoF k n f g) a b = twoT k n f g a b := by
  unfold twoF twoT
  split
  · rw [Bool.eq_iff_iff, Rl.union_iff hf hg, Bool.or_eq_true]
  · rw [Bool.eq_iff_iff, Rl.both_iff hf, Bool.and_eq_true]
  · rw [Bool.eq_iff_iff, Rl.less_iff hf, Bool.and_eq_true, Bool.not_eq_true']
  · rfl
theorem twoT_in {k n : Nat} {f g : Rl.Rows} (hf : Rl.Ok n f) (hg : Rl.Ok n g) {a b : Nat} (h : twoT k n f g a b = true) : a < n ∧ b < n := by
  have hk : Rl.Ok n (twoF k n f g) := by
    unfold twoF
    split
    · exact Rl.ok_union hf hg
    · exact Rl.ok_both hf
    · exact Rl.ok_less hf
    · exact Rl.ok_then hf hg
  exact hk.in_ a b ((twoF_bit hf hg a b).trans h)

set_option maxRecDepth 100000 in
set_option maxHeartbeats 8000000 in
theorem rtwo_0 (n : Nat) (f g : Rl.Rows) (w : World) (hf : Rl.Ok n f) (hg : Rl.Ok n g) :
    Calls Tryd.prog 62 #[.int .i64 0, .agg (relC n f), .agg (relC n g)] w fun e w' => e = .returned (.tuple #[.agg (relC n (twoF 0 n f g)), .bool true]) ∧ Below w.heap.size w w' := by
  have hzr := zero_rel
  have hbr := build_rel
  have hne0 : ¬ relC 0 zeroR = #[] := by intro h; have := congrArg Array.size h; rw [relC_size] at this; simp at this
  have hn := hf.le
  have hH := (((Held.nil w).box n f).box n g).box 0 zeroR
  simp only [World.size_alloc, Nat.add_assoc, Nat.reduceAdd] at hH
  have H := Lib.hid (And.intro hH (And.intro hf hg))
  clear hH hf hg
  go_enter Tryd.func62, Tryd.ntmps62
  go_wp2_with (refine wpList_load_rel (by rfl) (.tmp 4) (by rfl) w.heap.size n f (by rfl) (H.out.1.at 0 rfl) ?_)
  generalize ((w.alloc (.cells (relC n f) 26)).alloc (.cells (relC n g) 26)).alloc (.cells (relC 0 zeroR) 26) = W0 at H ⊢
  with_reducible refine (rright_is n f true (Rl.right_of H.out.2.1) _ H.out.2.1.z).mono ?_
  rintro e w0 ⟨rfl, hb⟩
  have H0 := Lib.hid (H.out.1.step hb)
  clear hb
  go_wp2_with (refine wpList_load_rel_want (by rfl) (.tmp 5) (by rfl) (w.heap.size + 1) n g (by rfl) (H0.out.at 1 rfl) ?_)
  with_reducible refine (rright_is n g true (Rl.right_of H.out.2.2) _ H.out.2.2.z).mono ?_
  rintro e w1 ⟨rfl, hb⟩
  have H1 := Lib.hid (H0.out.step hb)
  have c0 := (H1.out.at 0 rfl).num
  have c1 := (H1.out.at 1 rfl).num
  have hE : ((n : Int) != (n : Int)) = false := by simp
  clear hb
  go_wp2_with (refine wpList_store_rel (by rfl) (.tmp 8) (.tmp 31) (by rfl) w1.heap.size n 0 zeroR zeroR (by rfl) (by rfl) (RelAt.new w1 0 zeroR) ?_; intro w2 hR hg; have H2 := Lib.hid (H1.out.push hR hg); clear hR hg)
  clear c0 c1
  go_loopw [9, 10, 11, 12] (fun i _ _ _ wr => ∃ a : Nat, a ≤ n ∧ i = .int .i64 a ∧ ∃ F, Upto (twoT 0 n f g) a 0 F ∧ Held w [(w.heap.size, (n : Int), f), (w.heap.size + 1, (n : Int), g), (w.heap.size + 2, 0, zeroR), (w1.heap.size, (n : Int), F)] wr) (fun i _ _ _ _ => n - (intOf i).toNat)
  case atStart => exact ⟨0, Nat.zero_le _, rfl, zeroR, Upto.start _, H2.out⟩
  case round =>
    obtain ⟨a, ha, rfl, F0, hg0, hh⟩ := hrel
    have c0 := (hh.at 0 rfl).num
    have HG := Lib.hid (And.intro hg0 hh)
    clear hg0 hh
    by_cases hlt : a < n
    · go_wp2_with fail
      go_loopw [10, 11, 12] (fun j _ _ wr => ∃ b : Nat, b ≤ n ∧ j = .int .i64 b ∧ ∃ F, Upto (twoT 0 n f g) a b F ∧ Held w [(w.heap.size, (n : Int), f), (w.heap.size + 1, (n : Int), g), (w.heap.size + 2, 0, zeroR), (w1.heap.size, (n : Int), F)] wr) (fun j _ _ _ => n - (intOf j).toNat)
      case atStart => exact ⟨0, Nat.zero_le _, rfl, F0, HG.out.1, HG.out.2⟩
      case round =>
        obtain ⟨b, hb', rfl, g2, hg2, hh2⟩ := hrel
        have c0 := (hh2.at 0 rfl).num
        by_cases hltb : b < n
        · have hx := hh2.at 0 rfl
          have hy := hh2.at 1 rfl
          have cX := fun d os => (rel_grow hx d os).row a (by omega)
          have cY := fun d os => (rel_grow hy d os).row a (by omega)
          have q0 : (0 : Int) ≤ (a : Int) := by omega
          have q1 : (a : Int) < 48 := by omega
          have h1 := hasB_nat (f a) b (by omega)
          have h2 := hasB_nat (g a) b (by omega)
          clear hx hy
          cases b1 : Bv.G (f a) b <;> cases b2 : Bv.G (g a) b
          · have ht : twoT 0 n f g a b = false := by unfold twoT; rw [show Rl.bit f a b = false from b1, show Rl.bit g a b = false from b2]; rfl
            rw [b1] at h1
            rw [b2] at h2
            have HH := Lib.hid (And.intro h1 (And.intro h2 (And.intro (hg2.miss ht) (And.intro hh2 ht))))
            clear h1 h2 b1 b2 hg2 hh2 ht
            go_wp2_with fail
            refine wp_region_quiet_below (by kernel_rfl) (by kernel_rfl) ?_
            repeat (first | go_big_quiet_step (first | (go_at_call 84; with_reducible exact Calls.regrown_of (rhas_bel (f a) b false HH.out.1 _)) | (go_at_call 84; with_reducible exact Calls.regrown_of (rhas_bel (g a) b false HH.out.2.1 _)) | fail) | quiet_step (first | (go_at_call 84; with_reducible exact Calls.regrown_of (rhas_bel (f a) b false HH.out.1 _)) | (go_at_call 84; with_reducible exact Calls.regrown_of (rhas_bel (g a) b false HH.out.2.1 _)) | fail))
            refine wpQuiet_nil ?_
            intro W1 hw1
            have HW := Lib.hid (HH.out.2.2.2.1.step (below_of_regrown hw1))
            clear hw1 cX cY
            go_wp2_with fail
            go_roundw
            case rel => exact ⟨b + 1, by omega, by go_num, g2, HH.out.2.2.1, HW.out⟩
            case measure => simp [intOf]; omega
          · have ht : twoT 0 n f g a b = true := by unfold twoT; rw [show Rl.bit f a b = false from b1, show Rl.bit g a b = true from b2]; rfl
            rw [b1] at h1
            rw [b2] at h2
            have HH := Lib.hid (And.intro h1 (And.intro h2 (And.intro (hg2.hit ht (by omega)) (And.intro hh2 ht))))
            clear h1 h2 b1 b2 hg2 hh2 ht
            go_wp2_with fail
            refine wp_region_quiet_below (by kernel_rfl) (by kernel_rfl) ?_
            repeat (first | go_big_quiet_step (first | (go_at_call 84; with_reducible exact Calls.regrown_of (rhas_bel (f a) b false HH.out.1 _)) | (go_at_call 84; with_reducible exact Calls.regrown_of (rhas_bel (g a) b true HH.out.2.1 _)) | fail) | quiet_step (first | (go_at_call 84; with_reducible exact Calls.regrown_of (rhas_bel (f a) b false HH.out.1 _)) | (go_at_call 84; with_reducible exact Calls.regrown_of (rhas_bel (g a) b true HH.out.2.1 _)) | fail))
            refine wpQuiet_nil ?_
            intro W1 hw1
            have HW := Lib.hid (HH.out.2.2.2.1.step (below_of_regrown hw1))
            clear hw1 cX cY
            go_wp2_with (refine wpList_load_rel (by rfl) (.tmp 8) (by rfl) w1.heap.size n g2 (by rfl) (HW.out.at 3 rfl) ?_)
            with_reducible refine (rwithP_is n g2 a b _ (by omega) (by omega)).mono ?_
            rintro e w3 ⟨rfl, hb3⟩
            have H3 := Lib.hid (HW.out.step hb3)
            clear hb3
            go_wp2_with (refine wpList_store_rel (by rfl) (.tmp 8) (.tmp 99) (by rfl) w1.heap.size n n (upd g2 a (g2 a ||| Bv.bit b)) g2 (by rfl) (by rfl) (H3.out.at 3 rfl) ?_; intro w4 hR hg; have H4 := Lib.hid (H3.out.put 3 rfl hR hg); clear hR hg)
            go_roundw
            case rel => exact ⟨b + 1, by omega, by go_num, _, HH.out.2.2.1, H4.out⟩
            case measure => simp [intOf]; omega
          · have ht : twoT 0 n f g a b = true := by unfold twoT; rw [show Rl.bit f a b = true from b1, show Rl.bit g a b = false from b2]; rfl
            rw [b1] at h1
            rw [b2] at h2
            have HH := Lib.hid (And.intro h1 (And.intro h2 (And.intro (hg2.hit ht (by omega)) (And.intro hh2 ht))))
            clear h1 h2 b1 b2 hg2 hh2 ht
            go_wp2_with fail
            refine wp_region_quiet_below (by kernel_rfl) (by kernel_rfl) ?_
            repeat (first | go_big_quiet_step (first | (go_at_call 84; with_reducible exact Calls.regrown_of (rhas_bel (f a) b true HH.out.1 _)) | (go_at_call 84; with_reducible exact Calls.regrown_of (rhas_bel (g a) b false HH.out.2.1 _)) | fail) | quiet_step (first | (go_at_call 84; with_reducible exact Calls.regrown_of (rhas_bel (f a) b true HH.out.1 _)) | (go_at_call 84; with_reducible exact Calls.regrown_of (rhas_bel (g a) b false HH.out.2.1 _)) | fail))
            refine wpQuiet_nil ?_
            intro W1 hw1
            have HW := Lib.hid (HH.out.2.2.2.1.step (below_of_regrown hw1))
            clear hw1 cX cY
            go_wp2_with (refine wpList_load_rel (by rfl) (.tmp 8) (by rfl) w1.heap.size n g2 (by rfl) (HW.out.at 3 rfl) ?_)
            with_reducible refine (rwithP_is n g2 a b _ (by omega) (by omega)).mono ?_
            rintro e w3 ⟨rfl, hb3⟩
            have H3 := Lib.hid (HW.out.step hb3)
            clear hb3
            go_wp2_with (refine wpList_store_rel (by rfl) (.tmp 8) (.tmp 99) (by rfl) w1.heap.size n n (upd g2 a (g2 a ||| Bv.bit b)) g2 (by rfl) (by rfl) (H3.out.at 3 rfl) ?_; intro w4 hR hg; have H4 := Lib.hid (H3.out.put 3 rfl hR hg); clear hR hg)
            go_roundw
            case rel => exact ⟨b + 1, by omega, by go_num, _, HH.out.2.2.1, H4.out⟩
            case measure => simp [intOf]; omega
          · have ht : twoT 0 n f g a b = true := by unfold twoT; rw [show Rl.bit f a b = true from b1, show Rl.bit g a b = true from b2]; rfl
            rw [b1] at h1
            rw [b2] at h2
            have HH := Lib.hid (And.intro h1 (And.intro h2 (And.intro (hg2.hit ht (by omega)) (And.intro hh2 ht))))
            clear h1 h2 b1 b2 hg2 hh2 ht
            go_wp2_with fail
            refine wp_region_quiet_below (by kernel_rfl) (by kernel_rfl) ?_
            repeat (first | go_big_quiet_step (first | (go_at_call 84; with_reducible exact Calls.regrown_of (rhas_bel (f a) b true HH.out.1 _)) | (go_at_call 84; with_reducible exact Calls.regrown_of (rhas_bel (g a) b true HH.out.2.1 _)) | fail) | quiet_step (first | (go_at_call 84; with_reducible exact Calls.regrown_of (rhas_bel (f a) b true HH.out.1 _)) | (go_at_call 84; with_reducible exact Calls.regrown_of (rhas_bel (g a) b true HH.out.2.1 _)) | fail))
            refine wpQuiet_nil ?_
            intro W1 hw1
            have HW := Lib.hid (HH.out.2.2.2.1.step (below_of_regrown hw1))
            clear hw1 cX cY
            go_wp2_with (refine wpList_load_rel (by rfl) (.tmp 8) (by rfl) w1.heap.size n g2 (by rfl) (HW.out.at 3 rfl) ?_)
            with_reducible refine (rwithP_is n g2 a b _ (by omega) (by omega)).mono ?_
            rintro e w3 ⟨rfl, hb3⟩
            have H3 := Lib.hid (HW.out.step hb3)
            clear hb3
            go_wp2_with (refine wpList_store_rel (by rfl) (.tmp 8) (.tmp 99) (by rfl) w1.heap.size n n (upd g2 a (g2 a ||| Bv.bit b)) g2 (by rfl) (by rfl) (H3.out.at 3 rfl) ?_; intro w4 hR hg; have H4 := Lib.hid (H3.out.put 3 rfl hR hg); clear hR hg)
            go_roundw
            case rel => exact ⟨b + 1, by omega, by go_num, _, HH.out.2.2.1, H4.out⟩
            case measure => simp [intOf]; omega
        · have hbn : b = n := by omega
          subst hbn
          have HH := Lib.hid (And.intro (hg2.row (fun x y h => (twoT_in H.out.2.1 H.out.2.2 h).2)) hh2)
          clear hg2 hh2
          go_wp2_with fail
          go_roundw
          case rel => exact ⟨a + 1, by omega, by go_num, g2, HH.out.1, HH.out.2⟩
          case measure => simp [intOf]; omega
    · have han : n = a := by omega
      subst han
      have hgf := HG.out.1.done (f := twoF 0 n f g) (fun x y h => (twoT_in H.out.2.1 H.out.2.2 h).1) (fun x y => twoF_bit H.out.2.1 H.out.2.2 x y)
      have hh := HG.out.2
      rw [hgf] at hh
      have HH := Lib.hid hh
      clear hh hgf
      go_wp2_with (first | (refine wpList_load_rel (by rfl) (.tmp 8) (by rfl) w1.heap.size n (twoF 0 n f g) (by rfl) (HH.out.at 3 rfl) ?_) | (refine wpList_store_rel (by rfl) (.tmp 6) (.tmp 100) (by rfl) (w.heap.size + 2) n 0 (twoF 0 n f g) zeroR (by rfl) (by rfl) (HH.out.at 2 rfl) ?_; intro w5 hR hg; have H5 := Lib.hid (And.intro hR (HH.out.put 2 rfl hR hg)); clear hR hg))
      refine bodyPost_ret (results_rel_tmp rfl _ _ (w.heap.size + 2) n (twoF 0 n f g) rfl H5.out.1) rfl ⟨rfl, H5.out.2.bel⟩
set_option maxRecDepth 100000 in
set_option maxHeartbeats 8000000 in
theorem rtwo_1 (n : Nat) (f g : Rl.Rows) (w : World) (hf : Rl.Ok n f) (hg : Rl.Ok n g) :
    Calls Tryd.prog 62 #[.int .i64 1, .agg (relC n f), .agg (relC n g)] w fun e w' => e = .returned (.tuple #[.agg (relC n (twoF 1 n f g)), .bool true]) ∧ Below w.heap.size w w' := by
  have hzr := zero_rel
  have hbr := build_rel
  have hne0 : ¬ relC 0 zeroR = #[] := by intro h; have := congrArg Array.size h; rw [relC_size] at this; simp at this
  have hn := hf.le
  have hH := (((Held.nil w).box n f).box n g).box 0 zeroR
  simp only [World.size_alloc, Nat.add_assoc, Nat.reduceAdd] at hH
  have H := Lib.hid (And.intro hH (And.intro hf hg))
  clear hH hf hg
  go_enter Tryd.func62, Tryd.ntmps62
  go_wp2_with (refine wpList_load_rel (by rfl) (.tmp 4) (by rfl) w.heap.size n f (by rfl) (H.out.1.at 0 rfl) ?_)
  generalize ((w.alloc (.cells (relC n f) 26)).alloc (.cells (relC n g) 26)).alloc (.cells (relC 0 zeroR) 26) = W0 at H ⊢
  with_reducible refine (rright_is n f true (Rl.right_of H.out.2.1) _ H.out.2.1.z).mono ?_
  rintro e w0 ⟨rfl, hb⟩
  have H0 := Lib.hid (H.out.1.step hb)
  clear hb
  go_wp2_with (refine wpList_load_rel_want (by rfl) (.tmp 5) (by rfl) (w.heap.size + 1) n g (by rfl) (H0.out.at 1 rfl) ?_)
  with_reducible refine (rright_is n g true (Rl.right_of H.out.2.2) _ H.out.2.2.z).mono ?_
  rintro e w1 ⟨rfl, hb⟩
  have H1 := Lib.hid (H0.out.step hb)
  have c0 := (H1.out.at 0 rfl).num
  have c1 := (H1.out.at 1 rfl).num
  have hE : ((n : Int) != (n : Int)) = false := by simp
  clear hb
  go_wp2_with (refine wpList_store_rel (by rfl) (.tmp 8) (.tmp 31) (by rfl) w1.heap.size n 0 zeroR zeroR (by rfl) (by rfl) (RelAt.new w1 0 zeroR) ?_; intro w2 hR hg; have H2 := Lib.hid (H1.out.push hR hg); clear hR hg)
  clear c0 c1
  go_loopw [9, 10, 11, 12] (fun i _ _ _ wr => ∃ a : Nat, a ≤ n ∧ i = .int .i64 a ∧ ∃ F, Upto (twoT 1 n f g) a 0 F ∧ Held w [(w.heap.size, (n : Int), f), (w.heap.size + 1, (n : Int), g), (w.heap.size + 2, 0, zeroR), (w1.heap.size, (n : Int), F)] wr) (fun i _ _ _ _ => n - (intOf i).toNat)
  case atStart => exact ⟨0, Nat.zero_le _, rfl, zeroR, Upto.start _, H2.out⟩
  case round =>
    obtain ⟨a, ha, rfl, F0, hg0, hh⟩ := hrel
    have c0 := (hh.at 0 rfl).num
    have HG := Lib.hid (And.intro hg0 hh)
    clear hg0 hh
    by_cases hlt : a < n
    · go_wp2_with fail
      go_loopw [10, 11, 12] (fun j _ _ wr => ∃ b : Nat, b ≤ n ∧ j = .int .i64 b ∧ ∃ F, Upto (twoT 1 n f g) a b F ∧ Held w [(w.heap.size, (n : Int), f), (w.heap.size + 1, (n : Int), g), (w.heap.size + 2, 0, zeroR), (w1.heap.size, (n : Int), F)] wr) (fun j _ _ _ => n - (intOf j).toNat)
      case atStart => exact ⟨0, Nat.zero_le _, rfl, F0, HG.out.1, HG.out.2⟩
      case round =>
        obtain ⟨b, hb', rfl, g2, hg2, hh2⟩ := hrel
        have c0 := (hh2.at 0 rfl).num
        by_cases hltb : b < n
        · have hx := hh2.at 0 rfl
          have hy := hh2.at 1 rfl
          have cX := fun d os => (rel_grow hx d os).row a (by omega)
          have cY := fun d os => (rel_grow hy d os).row a (by omega)
          have q0 : (0 : Int) ≤ (a : Int) := by omega
          have q1 : (a : Int) < 48 := by omega
          have h1 := hasB_nat (f a) b (by omega)
          have h2 := hasB_nat (g a) b (by omega)
          clear hx hy
          cases b1 : Bv.G (f a) b <;> cases b2 : Bv.G (g a) b
          · have ht : twoT 1 n f g a b = false := by unfold twoT; rw [show Rl.bit f a b = false from b1, show Rl.bit g a b = false from b2]; rfl
            rw [b1] at h1
            rw [b2] at h2
            have HH := Lib.hid (And.intro h1 (And.intro h2 (And.intro (hg2.miss ht) (And.intro hh2 ht))))
            clear h1 h2 b1 b2 hg2 hh2 ht
            go_wp2_with fail
            refine wp_region_quiet_below (by kernel_rfl) (by kernel_rfl) ?_
            repeat (first | go_big_quiet_step (first | (go_at_call 84; with_reducible exact Calls.regrown_of (rhas_bel (f a) b false HH.out.1 _)) | (go_at_call 84; with_reducible exact Calls.regrown_of (rhas_bel (g a) b false HH.out.2.1 _)) | fail) | quiet_step (first | (go_at_call 84; with_reducible exact Calls.regrown_of (rhas_bel (f a) b false HH.out.1 _)) | (go_at_call 84; with_reducible exact Calls.regrown_of (rhas_bel (g a) b false HH.out.2.1 _)) | fail))
            refine wpQuiet_nil ?_
            intro W1 hw1
            have HW := Lib.hid (HH.out.2.2.2.1.step (below_of_regrown hw1))
            clear hw1 cX cY
            go_wp2_with fail
            go_roundw
            case rel => exact ⟨b + 1, by omega, by go_num, g2, HH.out.2.2.1, HW.out⟩
            case measure => simp [intOf]; omega
          · have ht : twoT 1 n f g a b = false := by unfold twoT; rw [show Rl.bit f a b = false from b1, show Rl.bit g a b = true from b2]; rfl
            rw [b1] at h1
            rw [b2] at h2
            have HH := Lib.hid (And.intro h1 (And.intro h2 (And.intro (hg2.miss ht) (And.intro hh2 ht))))
            clear h1 h2 b1 b2 hg2 hh2 ht
            go_wp2_with fail
            refine wp_region_quiet_below (by kernel_rfl) (by kernel_rfl) ?_
            repeat (first | go_big_quiet_step (first | (go_at_call 84; with_reducible exact Calls.regrown_of (rhas_bel (f a) b false HH.out.1 _)) | (go_at_call 84; with_reducible exact Calls.regrown_of (rhas_bel (g a) b true HH.out.2.1 _)) | fail) | quiet_step (first | (go_at_call 84; with_reducible exact Calls.regrown_of (rhas_bel (f a) b false HH.out.1 _)) | (go_at_call 84; with_reducible exact Calls.regrown_of (rhas_bel (g a) b true HH.out.2.1 _)) | fail))
            refine wpQuiet_nil ?_
            intro W1 hw1
            have HW := Lib.hid (HH.out.2.2.2.1.step (below_of_regrown hw1))
            clear hw1 cX cY
            go_wp2_with fail
            go_roundw
            case rel => exact ⟨b + 1, by omega, by go_num, g2, HH.out.2.2.1, HW.out⟩
            case measure => simp [intOf]; omega
          · have ht : twoT 1 n f g a b = false := by unfold twoT; rw [show Rl.bit f a b = true from b1, show Rl.bit g a b = false from b2]; rfl
            rw [b1] at h1
            rw [b2] at h2
            have HH := Lib.hid (And.intro h1 (And.intro h2 (And.intro (hg2.miss ht) (And.intro hh2 ht))))
            clear h1 h2 b1 b2 hg2 hh2 ht
            go_wp2_with fail
            refine wp_region_quiet_below (by kernel_rfl) (by kernel_rfl) ?_
            repeat (first | go_big_quiet_step (first | (go_at_call 84; with_reducible exact Calls.regrown_of (rhas_bel (f a) b true HH.out.1 _)) | (go_at_call 84; with_reducible exact Calls.regrown_of (rhas_bel (g a) b false HH.out.2.1 _)) | fail) | quiet_step (first | (go_at_call 84; with_reducible exact Calls.regrown_of (rhas_bel (f a) b true HH.out.1 _)) | (go_at_call 84; with_reducible exact Calls.regrown_of (rhas_bel (g a) b false HH.out.2.1 _)) | fail))
            refine wpQuiet_nil ?_
            intro W1 hw1
            have HW := Lib.hid (HH.out.2.2.2.1.step (below_of_regrown hw1))
            clear hw1 cX cY
            go_wp2_with fail
            go_roundw
            case rel => exact ⟨b + 1, by omega, by go_num, g2, HH.out.2.2.1, HW.out⟩
            case measure => simp [intOf]; omega
          · have ht : twoT 1 n f g a b = true := by unfold twoT; rw [show Rl.bit f a b = true from b1, show Rl.bit g a b = true from b2]; rfl
            rw [b1] at h1
            rw [b2] at h2
            have HH := Lib.hid (And.intro h1 (And.intro h2 (And.intro (hg2.hit ht (by omega)) (And.intro hh2 ht))))
            clear h1 h2 b1 b2 hg2 hh2 ht
            go_wp2_with fail
            refine wp_region_quiet_below (by kernel_rfl) (by kernel_rfl) ?_
            repeat (first | go_big_quiet_step (first | (go_at_call 84; with_reducible exact Calls.regrown_of (rhas_bel (f a) b true HH.out.1 _)) | (go_at_call 84; with_reducible exact Calls.regrown_of (rhas_bel (g a) b true HH.out.2.1 _)) | fail) | quiet_step (first | (go_at_call 84; with_reducible exact Calls.regrown_of (rhas_bel (f a) b true HH.out.1 _)) | (go_at_call 84; with_reducible exact Calls.regrown_of (rhas_bel (g a) b true HH.out.2.1 _)) | fail))
            refine wpQuiet_nil ?_
            intro W1 hw1
            have HW := Lib.hid (HH.out.2.2.2.1.step (below_of_regrown hw1))
            clear hw1 cX cY
            go_wp2_with (refine wpList_load_rel (by rfl) (.tmp 8) (by rfl) w1.heap.size n g2 (by rfl) (HW.out.at 3 rfl) ?_)
            with_reducible refine (rwithP_is n g2 a b _ (by omega) (by omega)).mono ?_
            rintro e w3 ⟨rfl, hb3⟩
            have H3 := Lib.hid (HW.out.step hb3)
            clear hb3
            go_wp2_with (refine wpList_store_rel (by rfl) (.tmp 8) (.tmp 99) (by rfl) w1.heap.size n n (upd g2 a (g2 a ||| Bv.bit b)) g2 (by rfl) (by rfl) (H3.out.at 3 rfl) ?_; intro w4 hR hg; have H4 := Lib.hid (H3.out.put 3 rfl hR hg); clear hR hg)
            go_roundw
            case rel => exact ⟨b + 1, by omega, by go_num, _, HH.out.2.2.1, H4.out⟩
            case measure => simp [intOf]; omega
        · have hbn : b = n := by omega
          subst hbn
          have HH := Lib.hid (And.intro (hg2.row (fun x y h => (twoT_in H.out.2.1 H.out.2.2 h).2)) hh2)
          clear hg2 hh2
          go_wp2_with fail
          go_roundw
          case rel => exact ⟨a + 1, by omega, by go_num, g2, HH.out.1, HH.out.2⟩
          case measure => simp [intOf]; omega
    · have han : n = a := by omega
      subst han
      have hgf := HG.out.1.done (f := twoF 1 n f g) (fun x y h => (twoT_in H.out.2.1 H.out.2.2 h).1) (fun x y => twoF_bit H.out.2.1 H.out.2.2 x y)
      have hh := HG.out.2
      rw [hgf] at hh
      have HH := Lib.hid hh
      clear hh hgf
      go_wp2_with (first | (refine wpList_load_rel (by rfl) (.tmp 8) (by rfl) w1.heap.size n (twoF 1 n f g) (by rfl) (HH.out.at 3 rfl) ?_) | (refine wpList_store_rel (by rfl) (.tmp 6) (.tmp 100) (by rfl) (w.heap.size + 2) n 0 (twoF 1 n f g) zeroR (by rfl) (by rfl) (HH.out.at 2 rfl) ?_; intro w5 hR hg; have H5 := Lib.hid (And.intro hR (HH.out.put 2 rfl hR hg)); clear hR hg))
      refine bodyPost_ret (results_rel_tmp rfl _ _ (w.heap.size + 2) n (twoF 1 n f g) rfl H5.out.1) rfl ⟨rfl, H5.out.2.bel⟩
set_option maxRecDepth 100000 in
set_option maxHeartbeats 8000000 in
theorem rtwo_2 (n : Nat) (f g : Rl.Rows) (w : World) (hf : Rl.Ok n f) (hg : Rl.Ok n g) :
    Calls Tryd.prog 62 #[.int .i64 2, .agg (relC n f), .agg (relC n g)] w fun e w' => e = .returned (.tuple #[.agg (relC n (twoF 2 n f g)), .bool true]) ∧ Below w.heap.size w w' := by
  have hzr := zero_rel
  have hbr := build_rel
  have hne0 : ¬ relC 0 zeroR = #[] := by intro h; have := congrArg Array.size h; rw [relC_size] at this; simp at this
  have hn := hf.le
  have hH := (((Held.nil w).box n f).box n g).box 0 zeroR
  simp only [World.size_alloc, Nat.add_assoc, Nat.reduceAdd] at hH
  have H := Lib.hid (And.intro hH (And.intro hf hg))
  clear hH hf hg
  go_enter Tryd.func62, Tryd.ntmps62
  go_wp2_with (refine wpList_load_rel (by rfl) (.tmp 4) (by rfl) w.heap.size n f (by rfl) (H.out.1.at 0 rfl) ?_)
  generalize ((w.alloc (.cells (relC n f) 26)).alloc (.cells (relC n g) 26)).alloc (.cells (relC 0 zeroR) 26) = W0 at H ⊢
  with_reducible refine (rright_is n f true (Rl.right_of H.out.2.1) _ H.out.2.1.z).mono ?_
  rintro e w0 ⟨rfl, hb⟩
  have H0 := Lib.hid (H.out.1.step hb)
  clear hb
  go_wp2_with (refine wpList_load_rel_want (by rfl) (.tmp 5) (by rfl) (w.heap.size + 1) n g (by rfl) (H0.out.at 1 rfl) ?_)
  with_reducible refine (rright_is n g true (Rl.right_of H.out.2.2) _ H.out.2.2.z).mono ?_
  rintro e w1 ⟨rfl, hb⟩
  have H1 := Lib.hid (H0.out.step hb)
  have c0 := (H1.out.at 0 rfl).num
  have c1 := (H1.out.at 1 rfl).num
  have hE : ((n : Int) != (n : Int)) = false := by simp
  clear hb
  go_wp2_with (refine wpList_store_rel (by rfl) (.tmp 8) (.tmp 31) (by rfl) w1.heap.size n 0 zeroR zeroR (by rfl) (by rfl) (RelAt.new w1 0 zeroR) ?_; intro w2 hR hg; have H2 := Lib.hid (H1.out.push hR hg); clear hR hg)
  clear c0 c1
  go_loopw [9, 10, 11, 12] (fun i _ _ _ wr => ∃ a : Nat, a ≤ n ∧ i = .int .i64 a ∧ ∃ F, Upto (twoT 2 n f g) a 0 F ∧ Held w [(w.heap.size, (n : Int), f), (w.heap.size + 1, (n : Int), g), (w.heap.size + 2, 0, zeroR), (w1.heap.size, (n : Int), F)] wr) (fun i _ _ _ _ => n - (intOf i).toNat)
  case atStart => exact ⟨0, Nat.zero_le _, rfl, zeroR, Upto.start _, H2.out⟩
  case round =>
    obtain ⟨a, ha, rfl, F0, hg0, hh⟩ := hrel
    have c0 := (hh.at 0 rfl).num
    have HG := Lib.hid (And.intro hg0 hh)
    clear hg0 hh
    by_cases hlt : a < n
    · go_wp2_with fail
      go_loopw [10, 11, 12] (fun j _ _ wr => ∃ b : Nat, b ≤ n ∧ j = .int .i64 b ∧ ∃ F, Upto (twoT 2 n f g) a b F ∧ Held w [(w.heap.size, (n : Int), f), (w.heap.size + 1, (n : Int), g), (w.heap.size + 2, 0, zeroR), (w1.heap.size, (n : Int), F)] wr) (fun j _ _ _ => n - (intOf j).toNat)
      case atStart => exact ⟨0, Nat.zero_le _, rfl, F0, HG.out.1, HG.out.2⟩
      case round =>
        obtain ⟨b, hb', rfl, g2, hg2, hh2⟩ := hrel
        have c0 := (hh2.at 0 rfl).num
        by_cases hltb : b < n
        · have hx := hh2.at 0 rfl
          have hy := hh2.at 1 rfl
          have cX := fun d os => (rel_grow hx d os).row a (by omega)
          have cY := fun d os => (rel_grow hy d os).row a (by omega)
          have q0 : (0 : Int) ≤ (a : Int) := by omega
          have q1 : (a : Int) < 48 := by omega
          have h1 := hasB_nat (f a) b (by omega)
          have h2 := hasB_nat (g a) b (by omega)
          clear hx hy
          cases b1 : Bv.G (f a) b <;> cases b2 : Bv.G (g a) b
          · have ht : twoT 2 n f g a b = false := by unfold twoT; rw [show Rl.bit f a b = false from b1, show Rl.bit g a b = false from b2]; rfl
            rw [b1] at h1
            rw [b2] at h2
            have HH := Lib.hid (And.intro h1 (And.intro h2 (And.intro (hg2.miss ht) (And.intro hh2 ht))))
            clear h1 h2 b1 b2 hg2 hh2 ht
            go_wp2_with fail
            refine wp_region_quiet_below (by kernel_rfl) (by kernel_rfl) ?_
            repeat (first | go_big_quiet_step (first | (go_at_call 84; with_reducible exact Calls.regrown_of (rhas_bel (f a) b false HH.out.1 _)) | (go_at_call 84; with_reducible exact Calls.regrown_of (rhas_bel (g a) b false HH.out.2.1 _)) | fail) | quiet_step (first | (go_at_call 84; with_reducible exact Calls.regrown_of (rhas_bel (f a) b false HH.out.1 _)) | (go_at_call 84; with_reducible exact Calls.regrown_of (rhas_bel (g a) b false HH.out.2.1 _)) | fail))
            refine wpQuiet_nil ?_
            intro W1 hw1
            have HW := Lib.hid (HH.out.2.2.2.1.step (below_of_regrown hw1))
            clear hw1 cX cY
            go_wp2_with fail
            go_roundw
            case rel => exact ⟨b + 1, by omega, by go_num, g2, HH.out.2.2.1, HW.out⟩
            case measure => simp [intOf]; omega
          · have ht : twoT 2 n f g a b = false := by unfold twoT; rw [show Rl.bit f a b = false from b1, show Rl.bit g a b = true from b2]; rfl
            rw [b1] at h1
            rw [b2] at h2
            have HH := Lib.hid (And.intro h1 (And.intro h2 (And.intro (hg2.miss ht) (And.intro hh2 ht))))
            clear h1 h2 b1 b2 hg2 hh2 ht
            go_wp2_with fail
            refine wp_region_quiet_below (by kernel_rfl) (by kernel_rfl) ?_
            repeat (first | go_big_quiet_step (first | (go_at_call 84; with_reducible exact Calls.regrown_of (rhas_bel (f a) b false HH.out.1 _)) | (go_at_call 84; with_reducible exact Calls.regrown_of (rhas_bel (g a) b true HH.out.2.1 _)) | fail) | quiet_step (first | (go_at_call 84; with_reducible exact Calls.regrown_of (rhas_bel (f a) b false HH.out.1 _)) | (go_at_call 84; with_reducible exact Calls.regrown_of (rhas_bel (g a) b true HH.out.2.1 _)) | fail))
            refine wpQuiet_nil ?_
            intro W1 hw1
            have HW := Lib.hid (HH.out.2.2.2.1.step (below_of_regrown hw1))
            clear hw1 cX cY
            go_wp2_with fail
            go_roundw
            case rel => exact ⟨b + 1, by omega, by go_num, g2, HH.out.2.2.1, HW.out⟩
            case measure => simp [intOf]; omega
          · have ht : twoT 2 n f g a b = true := by unfold twoT; rw [show Rl.bit f a b = true from b1, show Rl.bit g a b = false from b2]; rfl
            rw [b1] at h1
            rw [b2] at h2
            have HH := Lib.hid (And.intro h1 (And.intro h2 (And.intro (hg2.hit ht (by omega)) (And.intro hh2 ht))))
            clear h1 h2 b1 b2 hg2 hh2 ht
            go_wp2_with fail
            refine wp_region_quiet_below (by kernel_rfl) (by kernel_rfl) ?_
            repeat (first | go_big_quiet_step (first | (go_at_call 84; with_reducible exact Calls.regrown_of (rhas_bel (f a) b true HH.out.1 _)) | (go_at_call 84; with_reducible exact Calls.regrown_of (rhas_bel (g a) b false HH.out.2.1 _)) | fail) | quiet_step (first | (go_at_call 84; with_reducible exact Calls.regrown_of (rhas_bel (f a) b true HH.out.1 _)) | (go_at_call 84; with_reducible exact Calls.regrown_of (rhas_bel (g a) b false HH.out.2.1 _)) | fail))
            refine wpQuiet_nil ?_
            intro W1 hw1
            have HW := Lib.hid (HH.out.2.2.2.1.step (below_of_regrown hw1))
            clear hw1 cX cY
            go_wp2_with (refine wpList_load_rel (by rfl) (.tmp 8) (by rfl) w1.heap.size n g2 (by rfl) (HW.out.at 3 rfl) ?_)
            with_reducible refine (rwithP_is n g2 a b _ (by omega) (by omega)).mono ?_
            rintro e w3 ⟨rfl, hb3⟩
            have H3 := Lib.hid (HW.out.step hb3)
            clear hb3
            go_wp2_with (refine wpList_store_rel (by rfl) (.tmp 8) (.tmp 99) (by rfl) w1.heap.size n n (upd g2 a (g2 a ||| Bv.bit b)) g2 (by rfl) (by rfl) (H3.out.at 3 rfl) ?_; intro w4 hR hg; have H4 := Lib.hid (H3.out.put 3 rfl hR hg); clear hR hg)
            go_roundw
            case rel => exact ⟨b + 1, by omega, by go_num, _, HH.out.2.2.1, H4.out⟩
            case measure => simp [intOf]; omega
          · have ht : twoT 2 n f g a b = false := by unfold twoT; rw [show Rl.bit f a b = true from b1, show Rl.bit g a b = true from b2]; rfl
            rw [b1] at h1
            rw [b2] at h2
            have HH := Lib.hid (And.intro h1 (And.intro h2 (And.intro (hg2.miss ht) (And.intro hh2 ht))))
            clear h1 h2 b1 b2 hg2 hh2 ht
            go_wp2_with fail
            refine wp_region_quiet_below (by kernel_rfl) (by kernel_rfl) ?_
            repeat (first | go_big_quiet_step (first | (go_at_call 84; with_reducible exact Calls.regrown_of (rhas_bel (f a) b true HH.out.1 _)) | (go_at_call 84; with_reducible exact Calls.regrown_of (rhas_bel (g a) b true HH.out.2.1 _)) | fail) | quiet_step (first | (go_at_call 84; with_reducible exact Calls.regrown_of (rhas_bel (f a) b true HH.out.1 _)) | (go_at_call 84; with_reducible exact Calls.regrown_of (rhas_bel (g a) b true HH.out.2.1 _)) | fail))
            refine wpQuiet_nil ?_
            intro W1 hw1
            have HW := Lib.hid (HH.out.2.2.2.1.step (below_of_regrown hw1))
            clear hw1 cX cY
            go_wp2_with fail
            go_roundw
            case rel => exact ⟨b + 1, by omega, by go_num, g2, HH.out.2.2.1, HW.out⟩
            case measure => simp [intOf]; omega
        · have hbn : b = n := by omega
          subst hbn
          have HH := Lib.hid (And.intro (hg2.row (fun x y h => (twoT_in H.out.2.1 H.out.2.2 h).2)) hh2)
          clear hg2 hh2
          go_wp2_with fail
          go_roundw
          case rel => exact ⟨a + 1, by omega, by go_num, g2, HH.out.1, HH.out.2⟩
          case measure => simp [intOf]; omega
    · have han : n = a := by omega
      subst han
      have hgf := HG.out.1.done (f := twoF 2 n f g) (fun x y h => (twoT_in H.out.2.1 H.out.2.2 h).1) (fun x y => twoF_bit H.out.2.1 H.out.2.2 x y)
      have hh := HG.out.2
      rw [hgf] at hh
      have HH := Lib.hid hh
      clear hh hgf
      go_wp2_with (first | (refine wpList_load_rel (by rfl) (.tmp 8) (by rfl) w1.heap.size n (twoF 2 n f g) (by rfl) (HH.out.at 3 rfl) ?_) | (refine wpList_store_rel (by rfl) (.tmp 6) (.tmp 100) (by rfl) (w.heap.size + 2) n 0 (twoF 2 n f g) zeroR (by rfl) (by rfl) (HH.out.at 2 rfl) ?_; intro w5 hR hg; have H5 := Lib.hid (And.intro hR (HH.out.put 2 rfl hR hg)); clear hR hg))
      refine bodyPost_ret (results_rel_tmp rfl _ _ (w.heap.size + 2) n (twoF 2 n f g) rfl H5.out.1) rfl ⟨rfl, H5.out.2.bel⟩
set_option maxRecDepth 100000 in
set_option maxHeartbeats 8000000 in
theorem rtwo_3 (n : Nat) (f g : Rl.Rows) (w : World) (hf : Rl.Ok n f) (hg : Rl.Ok n g) :
    Calls Tryd.prog 62 #[.int .i64 3, .agg (relC n f), .agg (relC n g)] w fun e w' => e = .returned (.tuple #[.agg (relC n (twoF 3 n f g)), .bool true]) ∧ Below w.heap.size w w' := by
  have hzr := zero_rel
  have hbr := build_rel
  have hne0 : ¬ relC 0 zeroR = #[] := by intro h; have := congrArg Array.size h; rw [relC_size] at this; simp at this
  have hn := hf.le
  have hH := (((Held.nil w).box n f).box n g).box 0 zeroR
  simp only [World.size_alloc, Nat.add_assoc, Nat.reduceAdd] at hH
  have H := Lib.hid (And.intro hH (And.intro hf hg))
  clear hH hf hg
  go_enter Tryd.func62, Tryd.ntmps62
  go_wp2_with (refine wpList_load_rel (by rfl) (.tmp 4) (by rfl) w.heap.size n f (by rfl) (H.out.1.at 0 rfl) ?_)
  generalize ((w.alloc (.cells (relC n f) 26)).alloc (.cells (relC n g) 26)).alloc (.cells (relC 0 zeroR) 26) = W0 at H ⊢
  with_reducible refine (rright_is n f true (Rl.right_of H.out.2.1) _ H.out.2.1.z).mono ?_
  rintro e w0 ⟨rfl, hb⟩
  have H0 := Lib.hid (H.out.1.step hb)
  clear hb
  go_wp2_with (refine wpList_load_rel_want (by rfl) (.tmp 5) (by rfl) (w.heap.size + 1) n g (by rfl) (H0.out.at 1 rfl) ?_)
  with_reducible refine (rright_is n g true (Rl.right_of H.out.2.2) _ H.out.2.2.z).mono ?_
  rintro e w1 ⟨rfl, hb⟩
  have H1 := Lib.hid (H0.out.step hb)
  have c0 := (H1.out.at 0 rfl).num
  have c1 := (H1.out.at 1 rfl).num
  have hE : ((n : Int) != (n : Int)) = false := by simp
  clear hb
  go_wp2_with (refine wpList_store_rel (by rfl) (.tmp 8) (.tmp 31) (by rfl) w1.heap.size n 0 zeroR zeroR (by rfl) (by rfl) (RelAt.new w1 0 zeroR) ?_; intro w2 hR hg; have H2 := Lib.hid (H1.out.push hR hg); clear hR hg)
  clear c0 c1
  go_loopw [9, 10, 11, 12] (fun i _ _ _ wr => ∃ a : Nat, a ≤ n ∧ i = .int .i64 a ∧ ∃ F, Upto (twoT 3 n f g) a 0 F ∧ Held w [(w.heap.size, (n : Int), f), (w.heap.size + 1, (n : Int), g), (w.heap.size + 2, 0, zeroR), (w1.heap.size, (n : Int), F)] wr) (fun i _ _ _ _ => n - (intOf i).toNat)
  case atStart => exact ⟨0, Nat.zero_le _, rfl, zeroR, Upto.start _, H2.out⟩
  case round =>
    obtain ⟨a, ha, rfl, F0, hg0, hh⟩ := hrel
    have c0 := (hh.at 0 rfl).num
    have HG := Lib.hid (And.intro hg0 hh)
    clear hg0 hh
    by_cases hlt : a < n
    · go_wp2_with fail
      go_loopw [10, 11, 12] (fun j _ _ wr => ∃ b : Nat, b ≤ n ∧ j = .int .i64 b ∧ ∃ F, Upto (twoT 3 n f g) a b F ∧ Held w [(w.heap.size, (n : Int), f), (w.heap.size + 1, (n : Int), g), (w.heap.size + 2, 0, zeroR), (w1.heap.size, (n : Int), F)] wr) (fun j _ _ _ => n - (intOf j).toNat)
      case atStart => exact ⟨0, Nat.zero_le _, rfl, F0, HG.out.1, HG.out.2⟩
      case round =>
        obtain ⟨b, hb', rfl, g2, hg2, hh2⟩ := hrel
        have c0 := (hh2.at 0 rfl).num
        by_cases hltb : b < n
        · have hx := hh2.at 0 rfl
          have hy := hh2.at 1 rfl
          have cX := fun d os => (rel_grow hx d os).row a (by omega)
          have cY := fun d os => (rel_grow hy d os).row a (by omega)
          have q0 : (0 : Int) ≤ (a : Int) := by omega
          have q1 : (a : Int) < 48 := by omega
          have h1 := hasB_nat (f a) b (by omega)
          have h2 := hasB_nat (g a) b (by omega)
          clear hx hy
          cases b3 : Rl.bit (Rl.thenF n f g) a b <;> cases b1 : Bv.G (f a) b <;> cases b2 : Bv.G (g a) b
          · have ht : twoT 3 n f g a b = false := b3
            rw [b1] at h1
            rw [b2] at h2
            have HH := Lib.hid (And.intro h1 (And.intro h2 (And.intro (hg2.miss ht) (And.intro hh2 ht))))
            clear h1 h2 b1 b2 hg2 hh2 ht
            go_wp2_with fail
            refine wp_region_quiet_below (by kernel_rfl) (by kernel_rfl) ?_
            repeat (first | go_big_quiet_step (first | (go_at_call 84; with_reducible exact Calls.regrown_of (rhas_bel (f a) b false HH.out.1 _)) | (go_at_call 84; with_reducible exact Calls.regrown_of (rhas_bel (g a) b false HH.out.2.1 _)) | fail) | quiet_step (first | (go_at_call 84; with_reducible exact Calls.regrown_of (rhas_bel (f a) b false HH.out.1 _)) | (go_at_call 84; with_reducible exact Calls.regrown_of (rhas_bel (g a) b false HH.out.2.1 _)) | fail))
            refine wpQuiet_nil ?_
            intro W1 hw1
            have HW := Lib.hid (HH.out.2.2.2.1.step (below_of_regrown hw1))
            clear hw1 cX cY
            have HB3 := (two3 n f g a b).symm.trans HH.out.2.2.2.2
            go_wp2_with (first | (refine wpList_load_rel_want (by rfl) (.tmp 4) (by rfl) w.heap.size n f (by rfl) (HW.out.at 0 rfl) ?_) | (refine wpList_load_rel_want (by rfl) (.tmp 5) (by rfl) (w.heap.size + 1) n g (by rfl) (HW.out.at 1 rfl) ?_))
            with_reducible refine (rthrough_is n f g a b false HB3 _ H.out.2.1 H.out.2.2 (by omega) (by omega)).mono ?_
            rintro e W2 ⟨rfl, hb2⟩
            have HV := Lib.hid (HW.out.step hb2)
            clear hb2
            go_wp2_with fail
            go_roundw
            case rel => exact ⟨b + 1, by omega, by go_num, g2, HH.out.2.2.1, HV.out⟩
            case measure => simp [intOf]; omega
          · have ht : twoT 3 n f g a b = false := b3
            rw [b1] at h1
            rw [b2] at h2
            have HH := Lib.hid (And.intro h1 (And.intro h2 (And.intro (hg2.miss ht) (And.intro hh2 ht))))
            clear h1 h2 b1 b2 hg2 hh2 ht
            go_wp2_with fail
            refine wp_region_quiet_below (by kernel_rfl) (by kernel_rfl) ?_
            repeat (first | go_big_quiet_step (first | (go_at_call 84; with_reducible exact Calls.regrown_of (rhas_bel (f a) b false HH.out.1 _)) | (go_at_call 84; with_reducible exact Calls.regrown_of (rhas_bel (g a) b true HH.out.2.1 _)) | fail) | quiet_step (first | (go_at_call 84; with_reducible exact Calls.regrown_of (rhas_bel (f a) b false HH.out.1 _)) | (go_at_call 84; with_reducible exact Calls.regrown_of (rhas_bel (g a) b true HH.out.2.1 _)) | fail))
            refine wpQuiet_nil ?_
            intro W1 hw1
            have HW := Lib.hid (HH.out.2.2.2.1.step (below_of_regrown hw1))
            clear hw1 cX cY
            have HB3 := (two3 n f g a b).symm.trans HH.out.2.2.2.2
            go_wp2_with (first | (refine wpList_load_rel_want (by rfl) (.tmp 4) (by rfl) w.heap.size n f (by rfl) (HW.out.at 0 rfl) ?_) | (refine wpList_load_rel_want (by rfl) (.tmp 5) (by rfl) (w.heap.size + 1) n g (by rfl) (HW.out.at 1 rfl) ?_))
            with_reducible refine (rthrough_is n f g a b false HB3 _ H.out.2.1 H.out.2.2 (by omega) (by omega)).mono ?_
            rintro e W2 ⟨rfl, hb2⟩
            have HV := Lib.hid (HW.out.step hb2)
            clear hb2
            go_wp2_with fail
            go_roundw
            case rel => exact ⟨b + 1, by omega, by go_num, g2, HH.out.2.2.1, HV.out⟩
            case measure => simp [intOf]; omega
          · have ht : twoT 3 n f g a b = false := b3
            rw [b1] at h1
            rw [b2] at h2
            have HH := Lib.hid (And.intro h1 (And.intro h2 (And.intro (hg2.miss ht) (And.intro hh2 ht))))
            clear h1 h2 b1 b2 hg2 hh2 ht
            go_wp2_with fail
            refine wp_region_quiet_below (by kernel_rfl) (by kernel_rfl) ?_
            repeat (first | go_big_quiet_step (first | (go_at_call 84; with_reducible exact Calls.regrown_of (rhas_bel (f a) b true HH.out.1 _)) | (go_at_call 84; with_reducible exact Calls.regrown_of (rhas_bel (g a) b false HH.out.2.1 _)) | fail) | quiet_step (first | (go_at_call 84; with_reducible exact Calls.regrown_of (rhas_bel (f a) b true HH.out.1 _)) | (go_at_call 84; with_reducible exact Calls.regrown_of (rhas_bel (g a) b false HH.out.2.1 _)) | fail))
            refine wpQuiet_nil ?_
            intro W1 hw1
            have HW := Lib.hid (HH.out.2.2.2.1.step (below_of_regrown hw1))
            clear hw1 cX cY
            have HB3 := (two3 n f g a b).symm.trans HH.out.2.2.2.2
            go_wp2_with (first | (refine wpList_load_rel_want (by rfl) (.tmp 4) (by rfl) w.heap.size n f (by rfl) (HW.out.at 0 rfl) ?_) | (refine wpList_load_rel_want (by rfl) (.tmp 5) (by rfl) (w.heap.size + 1) n g (by rfl) (HW.out.at 1 rfl) ?_))
            with_reducible refine (rthrough_is n f g a b false HB3 _ H.out.2.1 H.out.2.2 (by omega) (by omega)).mono ?_
            rintro e W2 ⟨rfl, hb2⟩
            have HV := Lib.hid (HW.out.step hb2)
            clear hb2
            go_wp2_with fail
            go_roundw
            case rel => exact ⟨b + 1, by omega, by go_num, g2, HH.out.2.2.1, HV.out⟩
            case measure => simp [intOf]; omega
          · have ht : twoT 3 n f g a b = false := b3
            rw [b1] at h1
            rw [b2] at h2
            have HH := Lib.hid (And.intro h1 (And.intro h2 (And.intro (hg2.miss ht) (And.intro hh2 ht))))
            clear h1 h2 b1 b2 hg2 hh2 ht
            go_wp2_with fail
            refine wp_region_quiet_below (by kernel_rfl) (by kernel_rfl) ?_
            repeat (first | go_big_quiet_step (first | (go_at_call 84; with_reducible exact Calls.regrown_of (rhas_bel (f a) b true HH.out.1 _)) | (go_at_call 84; with_reducible exact Calls.regrown_of (rhas_bel (g a) b true HH.out.2.1 _)) | fail) | quiet_step (first | (go_at_call 84; with_reducible exact Calls.regrown_of (rhas_bel (f a) b true HH.out.1 _)) | (go_at_call 84; with_reducible exact Calls.regrown_of (rhas_bel (g a) b true HH.out.2.1 _)) | fail))
            refine wpQuiet_nil ?_
            intro W1 hw1
            have HW := Lib.hid (HH.out.2.2.2.1.step (below_of_regrown hw1))
            clear hw1 cX cY
            have HB3 := (two3 n f g a b).symm.trans HH.out.2.2.2.2
            go_wp2_with (first | (refine wpList_load_rel_want (by rfl) (.tmp 4) (by rfl) w.heap.size n f (by rfl) (HW.out.at 0 rfl) ?_) | (refine wpList_load_rel_want (by rfl) (.tmp 5) (by rfl) (w.heap.size + 1) n g (by rfl) (HW.out.at 1 rfl) ?_))
            with_reducible refine (rthrough_is n f g a b false HB3 _ H.out.2.1 H.out.2.2 (by omega) (by omega)).mono ?_
            rintro e W2 ⟨rfl, hb2⟩
            have HV := Lib.hid (HW.out.step hb2)
            clear hb2
            go_wp2_with fail
            go_roundw
            case rel => exact ⟨b + 1, by omega, by go_num, g2, HH.out.2.2.1, HV.out⟩
            case measure => simp [intOf]; omega
          · have ht : twoT 3 n f g a b = true := b3
            rw [b1] at h1
            rw [b2] at h2
            have HH := Lib.hid (And.intro h1 (And.intro h2 (And.intro (hg2.hit ht (by omega)) (And.intro hh2 ht))))
            clear h1 h2 b1 b2 hg2 hh2 ht
            go_wp2_with fail
            refine wp_region_quiet_below (by kernel_rfl) (by kernel_rfl) ?_
            repeat (first | go_big_quiet_step (first | (go_at_call 84; with_reducible exact Calls.regrown_of (rhas_bel (f a) b false HH.out.1 _)) | (go_at_call 84; with_reducible exact Calls.regrown_of (rhas_bel (g a) b false HH.out.2.1 _)) | fail) | quiet_step (first | (go_at_call 84; with_reducible exact Calls.regrown_of (rhas_bel (f a) b false HH.out.1 _)) | (go_at_call 84; with_reducible exact Calls.regrown_of (rhas_bel (g a) b false HH.out.2.1 _)) | fail))
            refine wpQuiet_nil ?_
            intro W1 hw1
            have HW := Lib.hid (HH.out.2.2.2.1.step (below_of_regrown hw1))
            clear hw1 cX cY
            have HB3 := (two3 n f g a b).symm.trans HH.out.2.2.2.2
            go_wp2_with (first | (refine wpList_load_rel_want (by rfl) (.tmp 4) (by rfl) w.heap.size n f (by rfl) (HW.out.at 0 rfl) ?_) | (refine wpList_load_rel_want (by rfl) (.tmp 5) (by rfl) (w.heap.size + 1) n g (by rfl) (HW.out.at 1 rfl) ?_))
            with_reducible refine (rthrough_is n f g a b true HB3 _ H.out.2.1 H.out.2.2 (by omega) (by omega)).mono ?_
            rintro e W2 ⟨rfl, hb2⟩
            have HV := Lib.hid (HW.out.step hb2)
            clear hb2
            go_wp2_with (refine wpList_load_rel (by rfl) (.tmp 8) (by rfl) w1.heap.size n g2 (by rfl) (HV.out.at 3 rfl) ?_)
            with_reducible refine (rwithP_is n g2 a b _ (by omega) (by omega)).mono ?_
            rintro e w3 ⟨rfl, hb3⟩
            have H3 := Lib.hid (HV.out.step hb3)
            clear hb3
            go_wp2_with (refine wpList_store_rel (by rfl) (.tmp 8) (.tmp 99) (by rfl) w1.heap.size n n (upd g2 a (g2 a ||| Bv.bit b)) g2 (by rfl) (by rfl) (H3.out.at 3 rfl) ?_; intro w4 hR hg; have H4 := Lib.hid (H3.out.put 3 rfl hR hg); clear hR hg)
            go_roundw
            case rel => exact ⟨b + 1, by omega, by go_num, _, HH.out.2.2.1, H4.out⟩
            case measure => simp [intOf]; omega
          · have ht : twoT 3 n f g a b = true := b3
            rw [b1] at h1
            rw [b2] at h2
            have HH := Lib.hid (And.intro h1 (And.intro h2 (And.intro (hg2.hit ht (by omega)) (And.intro hh2 ht))))
            clear h1 h2 b1 b2 hg2 hh2 ht
            go_wp2_with fail
            refine wp_region_quiet_below (by kernel_rfl) (by kernel_rfl) ?_
            repeat (first | go_big_quiet_step (first | (go_at_call 84; with_reducible exact Calls.regrown_of (rhas_bel (f a) b false HH.out.1 _)) | (go_at_call 84; with_reducible exact Calls.regrown_of (rhas_bel (g a) b true HH.out.2.1 _)) | fail) | quiet_step (first | (go_at_call 84; with_reducible exact Calls.regrown_of (rhas_bel (f a) b false HH.out.1 _)) | (go_at_call 84; with_reducible exact Calls.regrown_of (rhas_bel (g a) b true HH.out.2.1 _)) | fail))
            refine wpQuiet_nil ?_
            intro W1 hw1
            have HW := Lib.hid (HH.out.2.2.2.1.step (below_of_regrown hw1))
            clear hw1 cX cY
            have HB3 := (two3 n f g a b).symm.trans HH.out.2.2.2.2
            go_wp2_with (first | (refine wpList_load_rel_want (by rfl) (.tmp 4) (by rfl) w.heap.size n f (by rfl) (HW.out.at 0 rfl) ?_) | (refine wpList_load_rel_want (by rfl) (.tmp 5) (by rfl) (w.heap.size + 1) n g (by rfl) (HW.out.at 1 rfl) ?_))
            with_reducible refine (rthrough_is n f g a b true HB3 _ H.out.2.1 H.out.2.2 (by omega) (by omega)).mono ?_
            rintro e W2 ⟨rfl, hb2⟩
            have HV := Lib.hid (HW.out.step hb2)
            clear hb2
            go_wp2_with (refine wpList_load_rel (by rfl) (.tmp 8) (by rfl) w1.heap.size n g2 (by rfl) (HV.out.at 3 rfl) ?_)
            with_reducible refine (rwithP_is n g2 a b _ (by omega) (by omega)).mono ?_
            rintro e w3 ⟨rfl, hb3⟩
            have H3 := Lib.hid (HV.out.step hb3)
            clear hb3
            go_wp2_with (refine wpList_store_rel (by rfl) (.tmp 8) (.tmp 99) (by rfl) w1.heap.size n n (upd g2 a (g2 a ||| Bv.bit b)) g2 (by rfl) (by rfl) (H3.out.at 3 rfl) ?_; intro w4 hR hg; have H4 := Lib.hid (H3.out.put 3 rfl hR hg); clear hR hg)
            go_roundw
            case rel => exact ⟨b + 1, by omega, by go_num, _, HH.out.2.2.1, H4.out⟩
            case measure => simp [intOf]; omega
          · have ht : twoT 3 n f g a b = true := b3
            rw [b1] at h1
            rw [b2] at h2
            have HH := Lib.hid (And.intro h1 (And.intro h2 (And.intro (hg2.hit ht (by omega)) (And.intro hh2 ht))))
            clear h1 h2 b1 b2 hg2 hh2 ht
            go_wp2_with fail
            refine wp_region_quiet_below (by kernel_rfl) (by kernel_rfl) ?_
            repeat (first | go_big_quiet_step (first | (go_at_call 84; with_reducible exact Calls.regrown_of (rhas_bel (f a) b true HH.out.1 _)) | (go_at_call 84; with_reducible exact Calls.regrown_of (rhas_bel (g a) b false HH.out.2.1 _)) | fail) | quiet_step (first | (go_at_call 84; with_reducible exact Calls.regrown_of (rhas_bel (f a) b true HH.out.1 _)) | (go_at_call 84; with_reducible exact Calls.regrown_of (rhas_bel (g a) b false HH.out.2.1 _)) | fail))
            refine wpQuiet_nil ?_
            intro W1 hw1
            have HW := Lib.hid (HH.out.2.2.2.1.step (below_of_regrown hw1))
            clear hw1 cX cY
            have HB3 := (two3 n f g a b).symm.trans HH.out.2.2.2.2
            go_wp2_with (first | (refine wpList_load_rel_want (by rfl) (.tmp 4) (by rfl) w.heap.size n f (by rfl) (HW.out.at 0 rfl) ?_) | (refine wpList_load_rel_want (by rfl) (.tmp 5) (by rfl) (w.heap.size + 1) n g (by rfl) (HW.out.at 1 rfl) ?_))
            with_reducible refine (rthrough_is n f g a b true HB3 _ H.out.2.1 H.out.2.2 (by omega) (by omega)).mono ?_
            rintro e W2 ⟨rfl, hb2⟩
            have HV := Lib.hid (HW.out.step hb2)
            clear hb2
            go_wp2_with (refine wpList_load_rel (by rfl) (.tmp 8) (by rfl) w1.heap.size n g2 (by rfl) (HV.out.at 3 rfl) ?_)
            with_reducible refine (rwithP_is n g2 a b _ (by omega) (by omega)).mono ?_
            rintro e w3 ⟨rfl, hb3⟩
            have H3 := Lib.hid (HV.out.step hb3)
            clear hb3
            go_wp2_with (refine wpList_store_rel (by rfl) (.tmp 8) (.tmp 99) (by rfl) w1.heap.size n n (upd g2 a (g2 a ||| Bv.bit b)) g2 (by rfl) (by rfl) (H3.out.at 3 rfl) ?_; intro w4 hR hg; have H4 := Lib.hid (H3.out.put 3 rfl hR hg); clear hR hg)
            go_roundw
            case rel => exact ⟨b + 1, by omega, by go_num, _, HH.out.2.2.1, H4.out⟩
            case measure => simp [intOf]; omega
          · have ht : twoT 3 n f g a b = true := b3
            rw [b1] at h1
            rw [b2] at h2
            have HH := Lib.hid (And.intro h1 (And.intro h2 (And.intro (hg2.hit ht (by omega)) (And.intro hh2 ht))))
            clear h1 h2 b1 b2 hg2 hh2 ht
            go_wp2_with fail
            refine wp_region_quiet_below (by kernel_rfl) (by kernel_rfl) ?_
            repeat (first | go_big_quiet_step (first | (go_at_call 84; with_reducible exact Calls.regrown_of (rhas_bel (f a) b true HH.out.1 _)) | (go_at_call 84; with_reducible exact Calls.regrown_of (rhas_bel (g a) b true HH.out.2.1 _)) | fail) | quiet_step (first | (go_at_call 84; with_reducible exact Calls.regrown_of (rhas_bel (f a) b true HH.out.1 _)) | (go_at_call 84; with_reducible exact Calls.regrown_of (rhas_bel (g a) b true HH.out.2.1 _)) | fail))
            refine wpQuiet_nil ?_
            intro W1 hw1
            have HW := Lib.hid (HH.out.2.2.2.1.step (below_of_regrown hw1))
            clear hw1 cX cY
            have HB3 := (two3 n f g a b).symm.trans HH.out.2.2.2.2
            go_wp2_with (first | (refine wpList_load_rel_want (by rfl) (.tmp 4) (by rfl) w.heap.size n f (by rfl) (HW.out.at 0 rfl) ?_) | (refine wpList_load_rel_want (by rfl) (.tmp 5) (by rfl) (w.heap.size + 1) n g (by rfl) (HW.out.at 1 rfl) ?_))
            with_reducible refine (rthrough_is n f g a b true HB3 _ H.out.2.1 H.out.2.2 (by omega) (by omega)).mono ?_
            rintro e W2 ⟨rfl, hb2⟩
            have HV := Lib.hid (HW.out.step hb2)
            clear hb2
            go_wp2_with (refine wpList_load_rel (by rfl) (.tmp 8) (by rfl) w1.heap.size n g2 (by rfl) (HV.out.at 3 rfl) ?_)
            with_reducible refine (rwithP_is n g2 a b _ (by omega) (by omega)).mono ?_
            rintro e w3 ⟨rfl, hb3⟩
            have H3 := Lib.hid (HV.out.step hb3)
            clear hb3
            go_wp2_with (refine wpList_store_rel (by rfl) (.tmp 8) (.tmp 99) (by rfl) w1.heap.size n n (upd g2 a (g2 a ||| Bv.bit b)) g2 (by rfl) (by rfl) (H3.out.at 3 rfl) ?_; intro w4 hR hg; have H4 := Lib.hid (H3.out.put 3 rfl hR hg); clear hR hg)
            go_roundw
            case rel => exact ⟨b + 1, by omega, by go_num, _, HH.out.2.2.1, H4.out⟩
            case measure => simp [intOf]; omega
        · have hbn : b = n := by omega
          subst hbn
          have HH := Lib.hid (And.intro (hg2.row (fun x y h => (twoT_in H.out.2.1 H.out.2.2 h).2)) hh2)
          clear hg2 hh2
          go_wp2_with fail
          go_roundw
          case rel => exact ⟨a + 1, by omega, by go_num, g2, HH.out.1, HH.out.2⟩
          case measure => simp [intOf]; omega
    · have han : n = a := by omega
      subst han
      have hgf := HG.out.1.done (f := twoF 3 n f g) (fun x y h => (twoT_in H.out.2.1 H.out.2.2 h).1) (fun x y => twoF_bit H.out.2.1 H.out.2.2 x y)
      have hh := HG.out.2
      rw [hgf] at hh
      have HH := Lib.hid hh
      clear hh hgf
      go_wp2_with (first | (refine wpList_load_rel (by rfl) (.tmp 8) (by rfl) w1.heap.size n (twoF 3 n f g) (by rfl) (HH.out.at 3 rfl) ?_) | (refine wpList_store_rel (by rfl) (.tmp 6) (.tmp 100) (by rfl) (w.heap.size + 2) n 0 (twoF 3 n f g) zeroR (by rfl) (by rfl) (HH.out.at 2 rfl) ?_; intro w5 hR hg; have H5 := Lib.hid (And.intro hR (HH.out.put 2 rfl hR hg)); clear hR hg))
      refine bodyPost_ret (results_rel_tmp rfl _ _ (w.heap.size + 2) n (twoF 3 n f g) rfl H5.out.1) rfl ⟨rfl, H5.out.2.bel⟩
set_option maxRecDepth 100000 in
set_option maxHeartbeats 4000000 in
theorem rtwo_no (k : Int) (n m : Int) (f g : Rl.Rows) (w : World) (zf : Rl.Z f) (zg : Rl.Z g) (h : okB n m f g = false) :
    Calls Tryd.prog 62 #[.int .i64 k, .agg (relC n f), .agg (relC m g)] w fun e w' => e = .returned (.tuple #[.agg (relC 0 zeroR), .bool false]) ∧ Below w.heap.size w w' := by
  have hzr := zero_rel
  have hbz := build_zero
  have hH := (((Held.nil w).box n f).box m g).box 0 zeroR
  simp only [World.size_alloc, Nat.add_assoc, Nat.reduceAdd] at hH
  cases b1 : Rl.rightB n f
  · have H := Lib.hid (And.intro hH (And.intro b1 zf))
    clear hH b1 zf zg h
    go_enter Tryd.func62, Tryd.ntmps62
    go_wp2_with (refine wpList_load_rel (by rfl) (.tmp 4) (by rfl) w.heap.size n f (by rfl) (H.out.1.at 0 rfl) ?_)
    generalize ((w.alloc (.cells (relC n f) 26)).alloc (.cells (relC m g) 26)).alloc (.cells (relC 0 zeroR) 26) = W0 at H ⊢
    with_reducible refine (rright_is n f false H.out.2.1 _ H.out.2.2).mono ?_
    rintro e w0 ⟨rfl, hb⟩
    have H1 := Lib.hid (H.out.1.step hb)
    clear hb
    go_wp2_with (refine wpList_store_rel (by rfl) (.tmp 6) (.tmp 28) (by rfl) (w.heap.size + 2) 0 0 zeroR zeroR (by rfl) (by rfl) (H1.out.at 2 rfl) ?_; intro w5 hR hg; have H5 := Lib.hid (And.intro hR (H1.out.put 2 rfl hR hg)); clear hR hg)
    refine bodyPost_ret (results_rel_tmp rfl _ _ (w.heap.size + 2) 0 zeroR rfl H5.out.1) rfl ⟨rfl, H5.out.2.bel⟩
  · cases b2 : Rl.rightB m g
    · have H := Lib.hid (And.intro hH (And.intro b1 (And.intro zf (And.intro b2 zg))))
      clear hH b1 b2 zf zg h
      go_enter Tryd.func62, Tryd.ntmps62
      go_wp2_with (refine wpList_load_rel (by rfl) (.tmp 4) (by rfl) w.heap.size n f (by rfl) (H.out.1.at 0 rfl) ?_)
      generalize ((w.alloc (.cells (relC n f) 26)).alloc (.cells (relC m g) 26)).alloc (.cells (relC 0 zeroR) 26) = W0 at H ⊢
      with_reducible refine (rright_is n f true H.out.2.1 _ H.out.2.2.1).mono ?_
      rintro e w0 ⟨rfl, hb⟩
      have H0 := Lib.hid (H.out.1.step hb)
      clear hb
      go_wp2_with (refine wpList_load_rel_want (by rfl) (.tmp 5) (by rfl) (w.heap.size + 1) m g (by rfl) (H0.out.at 1 rfl) ?_)
      with_reducible refine (rright_is m g false H.out.2.2.2.1 _ H.out.2.2.2.2).mono ?_
      rintro e w1 ⟨rfl, hb⟩
      have H1 := Lib.hid (H0.out.step hb)
      clear hb
      go_wp2_with (refine wpList_store_rel (by rfl) (.tmp 6) (.tmp 28) (by rfl) (w.heap.size + 2) 0 0 zeroR zeroR (by rfl) (by rfl) (H1.out.at 2 rfl) ?_; intro w5 hR hg; have H5 := Lib.hid (And.intro hR (H1.out.put 2 rfl hR hg)); clear hR hg)
      refine bodyPost_ret (results_rel_tmp rfl _ _ (w.heap.size + 2) 0 zeroR rfl H5.out.1) rfl ⟨rfl, H5.out.2.bel⟩
    · have hE : (n != m) = true := by
        unfold okB at h; rw [b1, b2] at h; simpa using h
      have H := Lib.hid (And.intro hH (And.intro b1 (And.intro zf (And.intro b2 zg))))
      clear hH b1 b2 zf zg h
      go_enter Tryd.func62, Tryd.ntmps62
      go_wp2_with (refine wpList_load_rel (by rfl) (.tmp 4) (by rfl) w.heap.size n f (by rfl) (H.out.1.at 0 rfl) ?_)
      generalize ((w.alloc (.cells (relC n f) 26)).alloc (.cells (relC m g) 26)).alloc (.cells (relC 0 zeroR) 26) = W0 at H ⊢
      with_reducible refine (rright_is n f true H.out.2.1 _ H.out.2.2.1).mono ?_
      rintro e w0 ⟨rfl, hb⟩
      have H0 := Lib.hid (H.out.1.step hb)
      clear hb
      go_wp2_with (refine wpList_load_rel_want (by rfl) (.tmp 5) (by rfl) (w.heap.size + 1) m g (by rfl) (H0.out.at 1 rfl) ?_)
      with_reducible refine (rright_is m g true H.out.2.2.2.1 _ H.out.2.2.2.2).mono ?_
      rintro e w1 ⟨rfl, hb⟩
      have H1 := Lib.hid (H0.out.step hb)
      have c0 := (H1.out.at 0 rfl).num
      have c1 := (H1.out.at 1 rfl).num
      clear hb
      go_wp2_with (refine wpList_store_rel (by rfl) (.tmp 6) (.tmp 28) (by rfl) (w.heap.size + 2) 0 0 zeroR zeroR (by rfl) (by rfl) (H1.out.at 2 rfl) ?_; intro w5 hR hg; have H5 := Lib.hid (And.intro hR (H1.out.put 2 rfl hR hg)); clear hR hg)
      refine bodyPost_ret (results_rel_tmp rfl _ _ (w.heap.size + 2) 0 zeroR rfl H5.out.1) rfl ⟨rfl, H5.out.2.bel⟩
end Go.Proofs.YtknjdfgmejobfaaDoor
