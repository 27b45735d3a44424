/- Texts that stand together: Pa, Pb, Pc, Pd, Pe. -/
import Derived.Test.YtknjdfgmejobfaaDoorLg
import Derived.Test.YtknjdfgmejobfaaDoorLb
/- reference of layer 2: Right, Has, with. -/
namespace Go.Rl
theorem right_bits {n : Int} {f : Rows} (hz : Z f) (h0 : 0 ≤ n) (h1 : n ≤ 48) : rightB n f = true ↔ ∀ a b, a < 48 → b < 64 → bit f a b = true → (a : Int) < n ∧ (b : Int) < n := by
  obtain ⟨m, rfl⟩ : ∃ m : Nat, n = (m : Int) := ⟨n.toNat, by omega⟩
  rw [right_iff m f hz]
  constructor
  · intro h a b _ _ hb; have := h.in_ a b hb; omega
  · intro h
    refine ⟨by omega, fun a b hb => ?_⟩
    have hb64 := Bx.lt64 hb
    have ha : a < 48 := by
      apply Classical.byContradiction; intro hge
      rw [show bit f a b = (f a).getLsbD b from rfl, hz a (by omega), Bv.zero_get] at hb; cases hb
    have := h a b ha hb64 hb
    omega
theorem wrong_out {n : Int} {f : Rows} (h : n < 0 ∨ 48 < n) : rightB n f = false := by unfold rightB; rw [decide_eq_false (by omega)]; rfl
end Go.Rl
namespace Go.Proofs.YtknjdfgmejobfaaDoor
open Go.RowKit Go.Shelf

attribute [-go_sem] run_eql_struct run_neq_struct
attribute [local go_sem] Bv.and_u Bv.or_u Bv.andNot_u Bv.wrap_sub1 Bv.eq0 Bv.ne0 Bv.wrap_pow Bv.wrap_powmin Bv.wrap_neg Bv.eq_u Bv.ne_u Bv.shr_min Bv.shr_pow Bv.tmod2 Bv.and1 Bv.wrap_add Bv.B1_eq1 Bv.B1_eq0 Bv.B1_ne1 Bv.B1_ne0

set_option maxRecDepth 100000 in
set_option maxHeartbeats 2000000 in
theorem rright_any (n : Int) (f : Rl.Rows) (w : World) (zf : Rl.Z f) :
    Calls Tryd.prog 35 #[.agg (relC n f)] w fun e w' => e = .returned (.bool (Rl.rightB n f)) ∧ Below w.heap.size w w' := by
  have hB := (Below.refl w.heap.size w).alloc (Nat.le_refl _) (.cells (relC n f) 26)
  by_cases hr : 0 ≤ n ∧ n ≤ 48
  · have hR := RelAt.new w n f
    have hit := Rl.right_bits zf hr.1 hr.2
    have c0 := hR.num
    have H := Lib.hid (And.intro hB (And.intro hR hit))
    have d0 : decide (n < 0) = false := decide_eq_false (by omega)
    have d1 : decide (48 < n) = false := decide_eq_false (by omega)
    clear hB hR hit
    go_enter Tryd.func35, Tryd.ntmps35
    go_wp2_with fail
    go_loopw [3, 4] (fun i _ wr => wr = w.alloc (.cells (relC n f) 26) ∧ ∃ a : Nat, a ≤ 48 ∧ i = .int .i64 a ∧ ∀ x y, x < a → y < 64 → Rl.bit f x y = true → (x : Int) < n ∧ (y : Int) < n) (fun i _ _ => 48 - (intOf i).toNat)
    case atStart => exact ⟨rfl, 0, Nat.zero_le _, rfl, fun x y h => by omega⟩
    case round =>
      obtain ⟨rfl, a, ha, rfl, hok⟩ := hrel
      have q0 : (0 : Int) ≤ (a : Int) := by omega
      have HO := Lib.hid hok
      clear hok
      by_cases hlt : a < 48
      · have c1 := H.out.2.1.row a hlt
        have q1 : (a : Int) < 48 := by omega
        go_wp2_with fail
        go_loopw [4] (fun j wr => wr = w.alloc (.cells (relC n f) 26) ∧ ∃ b : Nat, b ≤ 64 ∧ j = .int .i64 b ∧ ∀ y, y < b → Rl.bit f a y = true → (a : Int) < n ∧ (y : Int) < n) (fun j _ => 64 - (intOf j).toNat)
        case atStart => exact ⟨rfl, 0, Nat.zero_le _, rfl, fun y h => by omega⟩
        case round =>
          obtain ⟨rfl, b, hb, rfl, hok2⟩ := hrel
          by_cases hlt2 : b < 64
          · have hh := hasB_nat (f a) b hlt2
            cases hbit : Bv.G (f a) b
            · rw [hbit] at hh
              have HH := Lib.hid (And.intro hh (And.intro hok2 hbit))
              clear hh hok2 hbit
              go_wp2_with fail
              refine (rhas_is _ _ _ HH.out.1 _).mono ?_
              rintro e w' ⟨rfl, rfl⟩
              go_wp2_with fail
              go_roundw
              case rel => exact ⟨by first | rfl | trivial, b + 1, by omega, by go_num, fun y hy hby => by
                by_cases e : y = b
                · subst e; have h3 := HH.out.2.2; rw [show Rl.bit f a y = Bv.G (f a) y from rfl, h3] at hby; cases hby
                · exact HH.out.2.1 y (by omega) hby⟩
              case measure => simp [intOf]; omega
            · rw [hbit] at hh
              by_cases hin : (a : Int) < n ∧ (b : Int) < n
              · have HH := Lib.hid (And.intro hh (And.intro hok2 hin))
                have e0 : decide (n ≤ (a : Int)) = false := decide_eq_false (by omega)
                have e1 : decide (n ≤ (b : Int)) = false := decide_eq_false (by omega)
                clear hh hok2 hbit
                go_wp2_with fail
                refine (rhas_is _ _ _ HH.out.1 _).mono ?_
                rintro e w' ⟨rfl, rfl⟩
                go_wp2_with fail
                go_roundw
                case rel => exact ⟨by first | rfl | trivial, b + 1, by omega, by go_num, fun y hy hby => by
                  by_cases e : y = b
                  · subst e; exact HH.out.2.2
                  · exact HH.out.2.1 y (by omega) hby⟩
                case measure => simp [intOf]; omega
              · have hf : Rl.rightB n f = false := by
                  cases h : Rl.rightB n f
                  · rfl
                  · exact absurd (H.out.2.2.1 h a b hlt hlt2 hbit) hin
                have HH := Lib.hid (And.intro hh hf)
                clear hok2 hbit hf hh
                by_cases e : n ≤ (a : Int)
                · have e0 : decide (n ≤ (a : Int)) = true := decide_eq_true e
                  clear hin
                  go_wp2_with fail
                  refine (rhas_is _ _ _ HH.out.1 _).mono ?_
                  rintro e w' ⟨rfl, rfl⟩
                  go_wp2_with fail
                  go_ret
                  exact ⟨by rw [HH.out.2]; rfl, H.out.1⟩
                · have e0 : decide (n ≤ (a : Int)) = false := decide_eq_false e
                  have e1 : decide (n ≤ (b : Int)) = true := decide_eq_true (by omega)
                  clear hin
                  go_wp2_with fail
                  refine (rhas_is _ _ _ HH.out.1 _).mono ?_
                  rintro e w' ⟨rfl, rfl⟩
                  go_wp2_with fail
                  go_ret
                  exact ⟨by rw [HH.out.2]; rfl, H.out.1⟩
          · have hb64 : b = 64 := by omega
            subst hb64
            have HH := Lib.hid hok2
            clear hok2
            go_wp2_with fail
            go_roundw
            case rel => exact ⟨by first | rfl | trivial, a + 1, by omega, by go_num, fun x y hx hy hby => by
              by_cases e : x = a
              · subst e; exact HH.out y hy hby
              · exact HO.out x y (by omega) hy hby⟩
            case measure => simp [intOf]; omega
      · have ha48 : a = 48 := by omega
        subst ha48
        have hf : Rl.rightB n f = true := H.out.2.2.2 HO.out
        have HF := Lib.hid hf
        clear hf
        go_wp2_with fail
        go_ret
        exact ⟨by rw [HF.out]; rfl, H.out.1⟩
  · have hf := Rl.wrong_out (f := f) (show n < 0 ∨ 48 < n by omega)
    have c0 := (RelAt.new w n f).num
    have H := Lib.hid (And.intro hB hf)
    clear hB hf
    by_cases h0 : n < 0
    · have d0 : decide (n < 0) = true := decide_eq_true h0
      go_enter Tryd.func35, Tryd.ntmps35
      go_wp2_with fail
      go_ret
      exact ⟨by rw [H.out.2]; rfl, H.out.1⟩
    · have d0 : decide (n < 0) = false := decide_eq_false h0
      have d1 : decide (48 < n) = true := decide_eq_true (by omega)
      go_enter Tryd.func35, Tryd.ntmps35
      go_wp2_with fail
      go_ret
      exact ⟨by rw [H.out.2]; rfl, H.out.1⟩
theorem rright_is (n : Int) (f : Rl.Rows) (r : Bool) (hr : Rl.rightB n f = r) (w : World) (zf : Rl.Z f) :
    Calls Tryd.prog 35 #[.agg (relC n f)] w fun e w' => e = .returned (.bool r) ∧ Below w.heap.size w w' := by subst hr; exact rright_any n f w zf

/-! ### Has -/
set_option maxRecDepth 100000 in
set_option maxHeartbeats 2000000 in
theorem rpair_any (n : Int) (f : Rl.Rows) (a b : Int) (w : World) (zf : Rl.Z f) :
    Calls Tryd.prog 63 #[.agg (relC n f), .int .i64 a, .int .i64 b] w fun e w' => e = .returned (.bool (pairB n f a b)) ∧ Below w.heap.size w w' := by
  have hB := (Below.refl w.heap.size w).alloc (Nat.le_refl _) (.cells (relC n f) 26)
  have hR := RelAt.new w n f
  cases hr : Rl.rightB n f
  · have he : pairB n f a b = false := by unfold pairB; rw [hr]; rfl
    have H := Lib.hid (And.intro hR (And.intro hB (And.intro hr he)))
    clear hR hB hr he
    go_enter Tryd.func63, Tryd.ntmps63
    go_wp2_with (refine wpList_load_rel (by rfl) (.tmp 3) (by rfl) w.heap.size n f (by rfl) H.out.1 ?_)
    with_reducible refine (rright_is n f false H.out.2.2.1 _ zf).mono ?_
    rintro e w1 ⟨rfl, hb⟩
    have H1 := Lib.hid (H.out.2.1.trans (hb.mono H.out.2.1.size))
    clear hb
    go_wp2_with fail
    go_ret
    exact ⟨by rw [H.out.2.2.2]; rfl, H1.out⟩
  · obtain ⟨m, rfl, hm⟩ := Rl.right_nat zf hr
    have hm48 := hm.le
    by_cases hin : 0 ≤ a ∧ a < m ∧ 0 ≤ b ∧ b < m
    · obtain ⟨x, rfl⟩ : ∃ x : Nat, a = (x : Int) := ⟨a.toNat, by omega⟩
      obtain ⟨y, rfl⟩ : ∃ y : Nat, b = (y : Int) := ⟨b.toNat, by omega⟩
      have he : pairB m f x y = Bv.G (f x) y := by unfold pairB; rw [hr, decide_eq_true hin]; rfl
      have hh := hasB_nat (f x) y (by omega)
      have q0 : (0 : Int) ≤ (x : Int) := by omega
      have q1 : (x : Int) < 48 := by omega
      have q2 : (0 : Int) ≤ (y : Int) := by omega
      have d0 : decide ((0 : Int) ≤ (x : Int)) = true := decide_eq_true q0
      have d1 : decide ((x : Int) < (m : Int)) = true := decide_eq_true (by omega)
      have d2 : decide ((0 : Int) ≤ (y : Int)) = true := decide_eq_true q2
      have d3 : decide ((y : Int) < (m : Int)) = true := decide_eq_true (by omega)
      have d4 : decide (x < m) = true := decide_eq_true (by omega)
      have d5 : decide (y < m) = true := decide_eq_true (by omega)
      rw [he]
      have H := Lib.hid (And.intro hR (And.intro hB (And.intro hr hh)))
      clear hR hB hr hh he hin
      go_enter Tryd.func63, Tryd.ntmps63
      go_wp2_with (refine wpList_load_rel (by rfl) (.tmp 3) (by rfl) w.heap.size m f (by rfl) H.out.1 ?_)
      with_reducible refine (rright_is m f true H.out.2.2.1 _ zf).mono ?_
      rintro e w1 ⟨rfl, hb⟩
      have h1 := H.out.1.below hb H.out.1.lt
      have c0 := h1.num
      have c1 := h1.row x (by omega)
      have H1 := Lib.hid (H.out.2.1.trans (hb.mono H.out.2.1.size))
      clear hb h1
      go_wp2_with fail
      refine (rhas_is _ _ _ H.out.2.2.2 _).mono ?_
      rintro e w' ⟨rfl, rfl⟩
      go_wp2_with fail
      go_ret
      exact ⟨rfl, H1.out⟩
    · have he : pairB m f a b = false := by unfold pairB; rw [hr, decide_eq_false hin]; rfl
      have H := Lib.hid (And.intro hR (And.intro hB (And.intro hr he)))
      clear hR hB hr he
      have hc : a < 0 ∨ (0 ≤ a ∧ (m : Int) ≤ a) ∨ (0 ≤ a ∧ a < m ∧ b < 0) ∨ (0 ≤ a ∧ a < m ∧ 0 ≤ b ∧ (m : Int) ≤ b) := by omega
      clear hin
      go_enter Tryd.func63, Tryd.ntmps63
      go_wp2_with (refine wpList_load_rel (by rfl) (.tmp 3) (by rfl) w.heap.size m f (by rfl) H.out.1 ?_)
      with_reducible refine (rright_is m f true H.out.2.2.1 _ zf).mono ?_
      rintro e w1 ⟨rfl, hb⟩
      have c0 := (H.out.1.below hb H.out.1.lt).num
      have H1 := Lib.hid (H.out.2.1.trans (hb.mono H.out.2.1.size))
      clear hb
      rcases hc with h | ⟨h, h2⟩ | ⟨h, h2, h3⟩ | ⟨h, h2, h3, h4⟩
      · have d0 : decide (0 ≤ a) = false := decide_eq_false (by omega)
        go_wp2_with fail
        go_ret
        exact ⟨by rw [H.out.2.2.2]; rfl, H1.out⟩
      · have d0 : decide (0 ≤ a) = true := decide_eq_true h
        have d1 : decide (a < (m : Int)) = false := decide_eq_false (by omega)
        go_wp2_with fail
        go_ret
        exact ⟨by rw [H.out.2.2.2]; rfl, H1.out⟩
      · have d0 : decide (0 ≤ a) = true := decide_eq_true h
        have d1 : decide (a < (m : Int)) = true := decide_eq_true h2
        have d2 : decide (0 ≤ b) = false := decide_eq_false (by omega)
        go_wp2_with fail
        go_ret
        exact ⟨by rw [H.out.2.2.2]; rfl, H1.out⟩
      · have d0 : decide (0 ≤ a) = true := decide_eq_true h
        have d1 : decide (a < (m : Int)) = true := decide_eq_true h2
        have d2 : decide (0 ≤ b) = true := decide_eq_true h3
        have d3 : decide (b < (m : Int)) = false := decide_eq_false (by omega)
        go_wp2_with fail
        go_ret
        exact ⟨by rw [H.out.2.2.2]; rfl, H1.out⟩
theorem rpair_is (n : Int) (f : Rl.Rows) (a b : Int) (r : Bool) (hr : pairB n f a b = r) (w : World) (zf : Rl.Z f) :
    Calls Tryd.prog 63 #[.agg (relC n f), .int .i64 a, .int .i64 b] w fun e w' => e = .returned (.bool r) ∧ Below w.heap.size w w' := by subst hr; exact rpair_any n f a b w zf

/-! ### with -/
set_option maxRecDepth 100000 in
set_option maxHeartbeats 2000000 in
theorem rwithP_is (n : Int) (f : Rl.Rows) (a b : Nat) (w : World) (ha : a < 48) (hb : b < 64) :
    Calls Tryd.prog 97 #[.agg (relC n f), .int .i64 a, .int .i64 b] w fun e w' => e = .returned (.agg (relC n (upd f a (f a ||| Bv.bit b)))) ∧ Below w.heap.size w w' := by
  have hzr := zero_rel
  have hne0 : ¬ relC 0 zeroR = #[] := by intro h; have := congrArg Array.size h; rw [relC_size] at this; simp at this
  have hH := ((Held.nil w).box n f).box 0 zeroR
  simp only [World.size_alloc] at hH
  have hw2 := withS_nat (f a) b hb
  have cR := (hH.at 0 rfl).row a ha
  have fR := (hH.at 0 rfl).free (1 + a)
  have q0 : (0 : Int) ≤ (a : Int) := by omega
  have q1 : (a : Int) < 48 := by omega
  have H0 := Lib.hid (And.intro hH (And.intro hw2 (hH.setRow 0 rfl a (f a ||| Bv.bit b))))
  clear hH hw2
  go_enter Tryd.func97, Tryd.ntmps97
  go_wp2_with fail
  generalize (w.alloc (.cells (relC n f) 26)).alloc (.cells (relC 0 zeroR) 26) = W0 at H0 cR fR ⊢
  refine (rwith_is _ _ _ H0.out.2.1 _).mono ?_
  rintro e w' ⟨rfl, rfl⟩
  go_wp2_with (first | (refine wpList_load_rel (by rfl) (.tmp 3) (by rfl) w.heap.size n (upd f a (f a ||| Bv.bit b)) (by rfl) (H0.out.2.2.at 0 rfl) ?_) | (refine wpList_store_rel (by rfl) (.tmp 6) (.tmp 16) (by rfl) (w.heap.size + 1) n 0 (upd f a (f a ||| Bv.bit b)) zeroR (by rfl) (by rfl) (H0.out.2.2.at 1 rfl) ?_; intro w2 hR hg; have H2 := Lib.hid (And.intro hR (H0.out.2.2.put 1 rfl hR hg)); clear hR hg))
  refine bodyPost_ret (results_cell_row rfl _ _ (w.heap.size + 1) 26 (relC n (upd f a (f a ||| Bv.bit b))) (0, 0) _ rfl H2.out.1 uRel rfl (sRelC _ _)) rfl ⟨rfl, H2.out.2.bel⟩
end Go.Proofs.YtknjdfgmejobfaaDoor

/- reference of layer 2: Pairs, Irreflexive. -/
namespace Go.Rl
theorem upto_full {s : BitVec 64} {n : Nat} (h : ∀ i, s.getLsbD i = true → i < n) : ∀ k, Bs.upto s (n + k) = Bs.upto s n
  | 0 => rfl
  | k + 1 => by
    rw [← upto_full h k, show n + (k + 1) = (n + k) + 1 by omega]
    apply Bs.upto_miss
    cases hb : s.getLsbD (n + k)
    · rfl
    · have := h _ hb; omega
theorem upto_elems {s : BitVec 64} {n : Nat} (hn : n ≤ 64) (h : ∀ i, s.getLsbD i = true → i < n) : Bs.upto s n = Bs.elems s := by
  rw [← Bs.upto_all, show 64 = n + (64 - n) by omega, upto_full h]
end Go.Rl
namespace Go.Proofs.YtknjdfgmejobfaaDoor
open Go.RowKit Go.Shelf

attribute [-go_sem] run_eql_struct run_neq_struct
attribute [local go_sem] Bv.and_u Bv.or_u Bv.andNot_u Bv.wrap_sub1 Bv.eq0 Bv.ne0 Bv.wrap_pow Bv.wrap_powmin Bv.wrap_neg Bv.eq_u Bv.ne_u Bv.shr_min Bv.shr_pow Bv.tmod2 Bv.and1 Bv.wrap_add Bv.B1_eq1 Bv.B1_eq0 Bv.B1_ne1 Bv.B1_ne0

set_option maxRecDepth 100000 in
set_option maxHeartbeats 1000000 in
theorem rpairs_no (n : Int) (f : Rl.Rows) (w : World) (zf : Rl.Z f) (hr : Rl.rightB n f = false) :
    Calls Tryd.prog 36 #[.agg (relC n f)] w (PairsOut [] w) := by
  have H := Lib.hid (And.intro (RelAt.new w n f) (And.intro ((Below.refl w.heap.size w).alloc (Nat.le_refl _) (.cells (relC n f) 26)) hr))
  clear hr
  go_enter Tryd.func36, Tryd.ntmps36
  go_wp2_with (refine wpList_load_rel (by rfl) (.tmp 1) (by rfl) w.heap.size n f (by rfl) H.out.1 ?_)
  with_reducible refine (rright_is n f false H.out.2.2 _ zf).mono ?_
  rintro e w1 ⟨rfl, hb⟩
  have H1 := Lib.hid (H.out.2.1.trans (hb.mono H.out.2.1.size))
  clear hb
  go_wp2_with fail
  go_ret
  exact ⟨_, rfl, World.ownsRow_nil _ _ _ _, H1.out⟩
set_option maxRecDepth 100000 in
set_option maxHeartbeats 2000000 in
theorem rpairs_yes (n : Nat) (f : Rl.Rows) (w : World) (hr : Rl.Ok n f) :
    Calls Tryd.prog 36 #[.agg (relC n f)] w (PairsOut (Rl.pairsF f n) w) := by
  have hn := hr.le
  obtain ⟨i0, hi, hz0, hz1, hz2⟩ := info_parts infoPair
  have H := Lib.hid (And.intro (RelAt.new w n f) (And.intro ((Below.refl w.heap.size w).alloc (Nat.le_refl _) (.cells (relC n f) 26)) (And.intro (Rl.right_of hr) hr)))
  clear hr
  go_enter Tryd.func36, Tryd.ntmps36
  go_wp2_with (refine wpList_load_rel (by rfl) (.tmp 1) (by rfl) w.heap.size n f (by rfl) H.out.1 ?_)
  with_reducible refine (rright_is n f true H.out.2.2.1 _ H.out.2.2.2.z).mono ?_
  rintro e w1 ⟨rfl, hb⟩
  have H1 := Lib.hid (And.intro (H.out.1.below hb H.out.1.lt) (H.out.2.1.trans (hb.mono H.out.2.1.size)))
  clear hb
  go_wp2_with fail
  go_loopw [3, 4, 5] (fun v i _ wr => ∃ a : Nat, a ≤ n ∧ i = .int .i64 a ∧ wr.ownsRow w1.heap.size 42 2 v (Rl.pairsF f a).length (pairV (Rl.pairsF f a)) ∧ Below w1.heap.size w1 wr) (fun _ i _ _ => n - (intOf i).toNat)
  case atStart => exact ⟨0, Nat.zero_le _, rfl, World.ownsRow_nil _ _ _ _, Below.refl _ _⟩
  case round =>
    obtain ⟨a, ha, rfl, hrow, hb⟩ := hrel
    have c0 := (H1.out.1.below hb H1.out.1.lt).num
    have hpl := Rl.pairs_le f a
    by_cases hlt : a < n
    · have q0 : (0 : Int) ≤ (a : Int) := by omega
      have q1 : (a : Int) < 48 := by omega
      have HR := Lib.hid (And.intro hrow hb)
      clear hrow hb
      go_wp2_with fail
      go_loopw [3, 5] (fun v j wi => ∃ b : Nat, b ≤ n ∧ j = .int .i64 b ∧ wi.ownsRow w1.heap.size 42 2 v ((Rl.pairsF f a).length + (Bs.upto (f a) b).length) (pairV (Rl.pairsF f a ++ (Bs.upto (f a) b).map fun y => (a, y))) ∧ Below w1.heap.size w1 wi) (fun _ j _ => n - (intOf j).toNat)
      case atStart => exact ⟨0, Nat.zero_le _, rfl, by simpa [Bs.upto_zero] using HR.out.1, HR.out.2⟩
      case round =>
        obtain ⟨b, hb', rfl, hrow2, hb2⟩ := hrel
        have hRa := H1.out.1.below hb2 H1.out.1.lt
        have c0 := hRa.num
        have c1 := hRa.row a (by omega)
        have hul := Bs.upto_le (f a) b
        have hs1 : w1.heap.size ≤ wr.heap.size := hb2.size
        by_cases hltb : b < n
        · have hh := hasB_nat (f a) b (by omega)
          cases hbit : Bv.G (f a) b
          · rw [hbit] at hh
            have HH := Lib.hid (And.intro hh (And.intro hrow2 (And.intro hb2 (Bs.upto_miss (f a) b hbit))))
            clear hh hrow2 hb2 hbit hRa
            go_wp2_with fail
            refine (rhas_is _ _ _ HH.out.1 _).mono ?_
            rintro e w' ⟨rfl, rfl⟩
            go_wp2_with fail
            go_roundw
            case rel => exact ⟨b + 1, by omega, by go_num, by rw [HH.out.2.2.2]; exact HH.out.2.1, HH.out.2.2.1⟩
            case measure => simp [intOf]; omega
          · rw [hbit] at hh
            have HH := Lib.hid (And.intro hh (And.intro hrow2 (And.intro hb2 (Bs.upto_hit (f a) b hbit))))
            clear hh hrow2 hb2 hbit hRa
            obtain ⟨L, hL⟩ : ∃ L, L = (Rl.pairsF f a).length + (Bs.upto (f a) b).length := ⟨_, rfl⟩
            obtain ⟨X, hX⟩ : ∃ X, X = pairV (Rl.pairsF f a ++ (Bs.upto (f a) b).map fun y => (a, y)) := ⟨_, rfl⟩
            have hrow3 := HH.out.2.1
            rw [← hL, ← hX] at hrow3
            have hL2 : L ≤ 4000 := by omega
            have HV := Lib.hid (And.intro hrow3 (And.intro hL hX))
            clear hrow3 hL hX
            go_wp2_with fail
            refine (rhas_is _ _ _ HH.out.1 _).mono ?_
            rintro e w' ⟨rfl, rfl⟩
            go_wp2_with (at_builtin; refine wpList_append_own _ rfl _ _ 40 rfl w1.heap.size 42 i0 (.agg #[.int .i64 0, .int .i64 0]) 2 16 Tryd.underlying40 hi hz0 hz1 hz2 rfl (by decide) _ L X rfl (HV.out.1.alloc _) ⟨wr.heap.size, 0, none⟩ 1 1 [.int .i64 a, .int .i64 b] rfl rfl (cell_two_new _ _ _ _) (by simp [Value.oneCell']) (by unfold maxLen; omega) (by omega) (by simp; omega) ?_; intro v' w7 hown' hgrow hnil')
            go_roundw
            case rel =>
              refine ⟨b + 1, by omega, by go_num, ?_, (HH.out.2.2.1.alloc hs1 _).grown hgrow (by simp; omega) (fun q e => (HV.out.1.lt q e).1)⟩
              rw [HH.out.2.2.2, List.map_append, ← List.append_assoc, List.length_append, ← Nat.add_assoc]
              show World.ownsRow _ _ _ _ _ _ (pairV (_ ++ [(a, b)]))
              rw [pairV_snoc, ← HV.out.2.1, ← HV.out.2.2]; exact hown'
            case measure => simp [intOf]; omega
        · have hbn : b = n := by omega
          subst hbn
          rw [Rl.upto_elems (by omega) (fun i hi' => (H.out.2.2.2.in_ a i hi').2)] at hrow2
          have hrow3 : wr.ownsRow w1.heap.size 42 2 u3 (Rl.pairsF f (a + 1)).length (pairV (Rl.pairsF f (a + 1))) := by
            rw [Rl.pairsF_succ]
            unfold Rl.rowP
            rw [List.length_append, List.length_map]; exact hrow2
          have HI := Lib.hid (And.intro hrow3 hb2)
          clear hrow2 hrow3 hb2 hRa
          go_wp2_with fail
          go_roundw
          case rel => exact ⟨a + 1, by omega, by go_num, HI.out⟩
          case measure => simp [intOf]; omega
    · have han : a = n := by omega
      subst han
      have HF := Lib.hid (And.intro (owns_base hrow H1.out.2.size) (H1.out.2.trans (hb.mono H1.out.2.size)))
      clear hrow hb
      go_wp2_with fail
      go_ret
      exact ⟨_, rfl, HF.out.1, HF.out.2⟩
theorem rpairs_any (n : Int) (f : Rl.Rows) (w : World) (zf : Rl.Z f) :
    Calls Tryd.prog 36 #[.agg (relC n f)] w (PairsOut (pairsR n f) w) := by
  unfold pairsR
  cases h : Rl.rightB n f
  · exact rpairs_no n f w zf h
  · obtain ⟨m, rfl, hm⟩ := Rl.right_nat zf h
    rw [if_pos rfl, Int.toNat_natCast]; exact rpairs_yes m f w hm

/-! ### Irreflexive -/
set_option maxRecDepth 100000 in
set_option maxHeartbeats 2000000 in
theorem rirr_any (n : Int) (f : Rl.Rows) (w : World) (zf : Rl.Z f) :
    Calls Tryd.prog 37 #[.agg (relC n f)] w fun e w' => e = .returned (.bool (irrB n f)) ∧ Below w.heap.size w w' := by
  have hit : ∀ a : Nat, pairB n f a a = true → irrB n f = false := fun a h => by
    unfold pairB at h
    rw [Bool.and_eq_true, Bool.and_eq_true] at h
    obtain ⟨m, rfl, hm⟩ := Rl.right_nat zf h.1.1
    cases hb : irrB m f
    · rfl
    · unfold irrB at hb
      rw [Bool.and_eq_true, Int.toNat_natCast, Rl.irr_iff hm] at hb
      have h2 := h.2; rw [Int.toNat_natCast, hb.2 a] at h2; cases h2
  have hend : (∀ a : Nat, a < 48 → pairB n f a a = false) → irrB n f = Rl.rightB n f := fun h => by
    cases hr : Rl.rightB n f
    · unfold irrB; rw [hr]; rfl
    · obtain ⟨m, rfl, hm⟩ := Rl.right_nat zf hr
      unfold irrB; rw [hr, Bool.true_and, Int.toNat_natCast, Rl.irr_iff hm]
      intro a
      cases hb : Rl.bit f a a
      · rfl
      · have h1 := hm.in_ a a hb
        have h2 := hm.le
        have h3 := h a (by omega)
        unfold pairB at h3
        rw [hr, decide_eq_true (by omega), Int.toNat_natCast, hb] at h3; cases h3
  have H := Lib.hid (And.intro (RelAt.new w n f) (And.intro ((Below.refl w.heap.size w).alloc (Nat.le_refl _) (.cells (relC n f) 26)) (And.intro hit (And.intro hend zf))))
  clear hit hend zf
  go_enter Tryd.func37, Tryd.ntmps37
  go_wp2_with fail
  generalize w.alloc (.cells (relC n f) 26) = W0 at H ⊢
  go_loopw [3] (fun i wr => ∃ a : Nat, a ≤ 48 ∧ i = .int .i64 a ∧ Below W0.heap.size W0 wr ∧ ∀ x : Nat, x < a → pairB n f x x = false) (fun i _ => 48 - (intOf i).toNat)
  case atStart => exact ⟨0, Nat.zero_le _, rfl, Below.refl _ _, fun x h => by omega⟩
  case round =>
    obtain ⟨a, ha, rfl, hb, hok⟩ := hrel
    have HR := Lib.hid (And.intro (H.out.1.below hb H.out.1.lt) (And.intro hb hok))
    clear hb hok
    by_cases hlt : a < 48
    · cases hp : pairB n f a a
      · have HP := Lib.hid hp
        clear hp
        go_wp2_with (refine wpList_load_rel (by rfl) (.tmp 1) (by rfl) w.heap.size n f (by rfl) HR.out.1 ?_)
        with_reducible refine (rpair_is n f a a false HP.out _ H.out.2.2.2.2).mono ?_
        rintro e w1 ⟨rfl, hb⟩
        have HB := Lib.hid (HR.out.2.1.trans (hb.mono HR.out.2.1.size))
        clear hb
        go_wp2_with fail
        go_roundw
        case rel => exact ⟨a + 1, by omega, by go_num, HB.out, fun x hx => by
          by_cases e : x = a
          · subst e; exact HP.out
          · exact HR.out.2.2 x (by omega)⟩
        case measure => simp [intOf]; omega
      · have HP := Lib.hid (And.intro hp (H.out.2.2.1 a hp))
        clear hp
        go_wp2_with (refine wpList_load_rel (by rfl) (.tmp 1) (by rfl) w.heap.size n f (by rfl) HR.out.1 ?_)
        with_reducible refine (rpair_is n f a a true HP.out.1 _ H.out.2.2.2.2).mono ?_
        rintro e w1 ⟨rfl, hb⟩
        have HB := Lib.hid (H.out.2.1.trans ((HR.out.2.1.trans (hb.mono HR.out.2.1.size)).mono H.out.2.1.size))
        clear hb
        go_wp2_with fail
        go_ret
        exact ⟨by rw [HP.out.2]; rfl, HB.out⟩
    · have ha48 : a = 48 := by omega
      subst ha48
      have HE := Lib.hid (H.out.2.2.2.1 HR.out.2.2)
      go_wp2_with (refine wpList_load_rel (by rfl) (.tmp 1) (by rfl) w.heap.size n f (by rfl) HR.out.1 ?_)
      with_reducible refine (rright_is n f (irrB n f) HE.out.symm _ H.out.2.2.2.2).mono ?_
      rintro e w1 ⟨rfl, hb⟩
      have HB := Lib.hid (H.out.2.1.trans ((HR.out.2.1.trans (hb.mono HR.out.2.1.size)).mono H.out.2.1.size))
      clear hb
      go_wp2_with fail
      go_ret
      exact ⟨rfl, HB.out⟩
theorem rirr_is (n : Int) (f : Rl.Rows) (b : Bool) (hb : irrB n f = b) (w : World) (zf : Rl.Z f) :
    Calls Tryd.prog 37 #[.agg (relC n f)] w fun e w' => e = .returned (.bool b) ∧ Below w.heap.size w w' := by subst hb; exact rirr_any n f w zf
end Go.Proofs.YtknjdfgmejobfaaDoor

/- reference of layer 2: Plus by Warshall's algorithm, Acyclic, Star. -/
namespace Go.Rl
/-- a walk whose inner items lie below k -/
inductive Via (f : Rows) (k : Nat) : Nat → Nat → Prop
  | one {a b : Nat} (h : bit f a b = true) : Via f k a b
  | step {a b c : Nat} (h : bit f a c = true) (hc : c < k) (p : Via f k c b) : Via f k a b
theorem Via.mono {f : Rows} {k m : Nat} (hk : k ≤ m) {a b : Nat} (p : Via f k a b) : Via f m a b := by
  induction p with
  | one h => exact .one h
  | step h hc _ ih => exact .step h (by omega) ih
theorem Via.join {f : Rows} {k a b c : Nat} (p : Via f k a c) (hc : c < k) (q : Via f k c b) : Via f k a b := by
  induction p with
  | one h => exact .step h hc q
  | step h hd _ ih => exact .step h hd (ih hc q)
theorem Via.split {f : Rows} {k a b : Nat} (p : Via f (k + 1) a b) : Via f k a b ∨ (Via f k a k ∧ Via f k k b) := by
  induction p with
  | one h => exact .inl (.one h)
  | @step a b c h hc _ ih =>
    by_cases e : c = k
    · subst e
      rcases ih with h1 | ⟨_, h1⟩
      · exact .inr ⟨.one h, h1⟩
      · exact .inr ⟨.one h, h1⟩
    · rcases ih with h1 | ⟨h1, h2⟩
      · exact .inl (.step h (by omega) h1)
      · exact .inr ⟨.step h (by omega) h1, h2⟩
/-- after k rounds -/
def warF (f : Rows) : Nat → Rows
  | 0 => f
  | k + 1 => fun a => if bit (warF f k) a k then warF f k a ||| warF f k k else warF f k a
theorem war_step (f : Rows) (k a b : Nat) : bit (warF f (k + 1)) a b = (bit (warF f k) a b || (bit (warF f k) a k && bit (warF f k) k b)) := by
  show (if bit (warF f k) a k then warF f k a ||| warF f k k else warF f k a).getLsbD b = _
  cases h : bit (warF f k) a k
  · simp [bit]
  · simp only [if_true, BitVec.getLsbD_or, Bool.true_and]; rfl
theorem war_via (f : Rows) : ∀ (k a b : Nat), bit (warF f k) a b = true ↔ Via f k a b
  | 0, a, b => ⟨.one, fun p => by
    cases p with
    | one h => exact h
    | step h hc _ => omega⟩
  | k + 1, a, b => by
    rw [war_step, Bool.or_eq_true, Bool.and_eq_true, war_via f k, war_via f k, war_via f k]
    constructor
    · rintro (h | ⟨h1, h2⟩)
      · exact h.mono (by omega)
      · exact (h1.mono (by omega)).join (by omega) (h2.mono (by omega))
    · intro p; exact p.split
theorem Via.path {f : Rows} {k a b : Nat} (p : Via f k a b) : Path f a b := by
  induction p with
  | one h => exact .one h
  | step h _ _ ih => exact .step h ih
theorem Path.via {n : Nat} {f : Rows} (hf : Ok n f) {a b : Nat} (p : Path f a b) : Via f n a b := by
  induction p with
  | one h => exact .one h
  | step h _ ih => exact .step h (hf.in_ _ _ h).2 ih
theorem ok_war {n : Nat} {f : Rows} (hf : Ok n f) (k : Nat) : Ok n (warF f k) := ⟨hf.le, fun a b h => ((war_via f k a b).1 h).path.lt hf⟩
theorem war_plus {n : Nat} {f : Rows} (hf : Ok n f) : warF f n = plusF n f :=
  ok_iff_ext (ok_war hf n) (ok_plus hf) fun a b _ _ => by
    rw [war_via, plus_bit hf]
    exact ⟨Via.path, Path.via hf⟩
end Go.Rl
namespace Go.Proofs.YtknjdfgmejobfaaDoor
open Go.RowKit Go.Shelf

attribute [-go_sem] run_eql_struct run_neq_struct
attribute [local go_sem] Bv.and_u Bv.or_u Bv.andNot_u Bv.wrap_sub1 Bv.eq0 Bv.ne0 Bv.wrap_pow Bv.wrap_powmin Bv.wrap_neg Bv.eq_u Bv.ne_u Bv.shr_min Bv.shr_pow Bv.tmod2 Bv.and1 Bv.wrap_add Bv.B1_eq1 Bv.B1_eq0 Bv.B1_ne1 Bv.B1_ne0

theorem Held.fore {w W : World} {L M : List (Nat × Int × Rl.Rows)} (h : Held w (L ++ M) W) : Held w L W := by
  have key : ∀ (i : Nat) (x : Nat × Int × Rl.Rows), L[i]? = some x → (L ++ M)[i]? = some x := fun i x hi => by
    rw [List.getElem?_append_left (List.getElem?_eq_some_iff.1 hi).1]; exact hi
  exact ⟨fun i x hi => h.rel i x (key i x hi), fun i j x y hi hj hne => h.apart i j x y (key i x hi) (key j y hj) hne, fun i x hi => h.new i x (key i x hi), h.bel⟩
theorem upd_bit (g : Rl.Rows) (a b x y : Nat) (hb : b < 64) : Rl.bit (upd g a (g a ||| Bv.bit b)) x y = (Rl.bit g x y || (decide (x = a) && decide (y = b))) := by
  by_cases e : x = a
  · subst e
    unfold Rl.bit
    rw [upd_same, BitVec.getLsbD_or, Bv.bit_get b y hb]
    simp [eq_comm]
  · unfold Rl.bit
    rw [upd_other _ _ e]; simp [e]

set_option maxRecDepth 100000 in
set_option maxHeartbeats 4000000 in
theorem rplus_yes (n : Nat) (f : Rl.Rows) (w : World) (hr : Rl.Ok n f) :
    Calls Tryd.prog 66 #[.agg (relC n f)] w fun e w' => e = .returned (.agg (relC n (Rl.plusF n f))) ∧ Below w.heap.size w w' := by
  have hzr := zero_rel
  have hne0 : ¬ relC 0 zeroR = #[] := by intro h; have := congrArg Array.size h; rw [relC_size] at this; simp at this
  have hn := hr.le
  have hH := ((Held.nil w).box n f).box 0 zeroR
  simp only [World.size_alloc] at hH
  have H0 := Lib.hid (And.intro hH (And.intro (Rl.right_of hr) hr))
  clear hH hr
  go_enter Tryd.func66, Tryd.ntmps66
  go_wp2_with (refine wpList_load_rel (by rfl) (.tmp 1) (by rfl) w.heap.size n f (by rfl) (H0.out.1.at 0 rfl) ?_)
  generalize (w.alloc (.cells (relC n f) 26)).alloc (.cells (relC 0 zeroR) 26) = W0 at H0 ⊢
  with_reducible refine (rright_is n f true H0.out.2.1 _ H0.out.2.2.z).mono ?_
  rintro e w1 ⟨rfl, hb⟩
  have H1 := Lib.hid (H0.out.1.step hb)
  clear hb
  go_wp2_with fail
  go_loopw [3, 4, 5, 6] (fun i _ _ _ wr => ∃ k : Nat, k ≤ n ∧ i = .int .i64 k ∧ Held w [(w.heap.size, (n : Int), Rl.warF f k), (w.heap.size + 1, 0, zeroR)] wr) (fun i _ _ _ _ => n - (intOf i).toNat)
  case atStart => exact ⟨0, Nat.zero_le _, rfl, H1.out⟩
  case round =>
    obtain ⟨k, hk, rfl, hh⟩ := hrel
    have c0 := (hh.at 0 rfl).num
    by_cases hlt : k < n
    · have hst := Rl.war_step f k
      obtain ⟨F, hF⟩ : ∃ F, F = Rl.warF f k := ⟨_, rfl⟩
      rw [← hF] at hh hst
      have HK := Lib.hid (And.intro hh (And.intro hst hF))
      clear hh hst hF
      obtain ⟨b4, hb4⟩ : ∃ b, b = wr.heap.size := ⟨_, rfl⟩
      have HB4 := Lib.hid hb4
      have hp := HK.out.1.box n F
      go_wp2_with (first | (refine wpList_load_rel (by rfl) (.tmp 1) (by rfl) w.heap.size n F (by rfl) (HK.out.1.at 0 rfl) ?_) | (refine wpList_store_rel (by rfl) (.tmp 4) (.tmp 17) (by rfl) wr.heap.size n 0 F zeroR (by rfl) (by rfl) (RelAt.new wr 0 zeroR) ?_; intro w2 hR hg; have H2 := Lib.hid (HK.out.1.push hR hg); clear hR hg))
      rw [← HB4.out] at H2 ⊢
      clear hb4 hp
      go_loopw [5, 6] (fun i _ wr => ∃ a : Nat, a ≤ n ∧ i = .int .i64 a ∧ ∃ g, (∀ x y, Rl.bit g x y = (Rl.bit F x y || (Rl.bit F x k && Rl.bit F k y && decide (x < a)))) ∧ Held w [(w.heap.size, (n : Int), g), (w.heap.size + 1, 0, zeroR), (b4, (n : Int), F)] wr) (fun i _ _ => n - (intOf i).toNat)
      case atStart => exact ⟨0, Nat.zero_le _, rfl, F, fun x y => by simp, H2.out⟩
      case round =>
        obtain ⟨a, ha, rfl, g, hg, hh⟩ := hrel
        have c0 := (hh.at 0 rfl).num
        have HG := Lib.hid (And.intro hg hh)
        clear hg hh
        by_cases hlta : a < n
        · go_wp2_with fail
          go_loopw [6] (fun j wr => ∃ b : Nat, b ≤ n ∧ j = .int .i64 b ∧ ∃ g, (∀ x y, Rl.bit g x y = (Rl.bit F x y || (Rl.bit F x k && Rl.bit F k y && (decide (x < a) || (decide (x = a) && decide (y < b)))))) ∧ Held w [(w.heap.size, (n : Int), g), (w.heap.size + 1, 0, zeroR), (b4, (n : Int), F)] wr) (fun j _ => n - (intOf j).toNat)
          case atStart => exact ⟨0, Nat.zero_le _, rfl, g, fun x y => by rw [HG.out.1 x y]; simp, HG.out.2⟩
          case round =>
            obtain ⟨b, hb', rfl, g2, hg2, hh2⟩ := hrel
            have c0 := (hh2.at 0 rfl).num
            have c1 := (hh2.at 2 rfl).row a (by omega)
            have c2 := (hh2.at 2 rfl).row k (by omega)
            have q0 : (0 : Int) ≤ (a : Int) := by omega
            have q1 : (a : Int) < 48 := by omega
            have q2 : (0 : Int) ≤ (k : Int) := by omega
            have q3 : (k : Int) < 48 := by omega
            by_cases hltb : b < n
            · have h1 := hasB_nat (F a) k (by omega)
              have h2 := hasB_nat (F k) b (by omega)
              cases b1 : Bv.G (F a) k
              · rw [b1] at h1
                have b1' : Rl.bit F a k = false := b1
                have HH := Lib.hid (And.intro h1 (And.intro hg2 (And.intro hh2 b1')))
                clear h1 h2 b1 hg2 hh2 b1'
                go_wp2_with fail
                refine (rhas_is _ _ _ HH.out.1 _).mono ?_
                rintro e w' ⟨rfl, rfl⟩
                go_wp2_with fail
                go_roundw
                case rel => exact ⟨b + 1, by omega, by go_num, g2, fun x y => by
                  rw [HH.out.2.1 x y]
                  by_cases e : x = a
                  · subst e; rw [HH.out.2.2.2]; simp
                  · simp [e], HH.out.2.2.1⟩
                case measure => simp [intOf]; omega
              · rw [b1] at h1
                cases b2 : Bv.G (F k) b
                · rw [b2] at h2
                  have b2' : Rl.bit F k b = false := b2
                  have HH := Lib.hid (And.intro h1 (And.intro hg2 (And.intro hh2 (And.intro b2' h2))))
                  clear h1 h2 b1 hg2 hh2 b2 b2'
                  go_wp2_with fail
                  refine (rhas_is _ _ _ HH.out.1 _).mono ?_
                  rintro e w' ⟨rfl, rfl⟩
                  go_wp2_with fail
                  refine (rhas_is _ _ _ HH.out.2.2.2.2 _).mono ?_
                  rintro e w' ⟨rfl, rfl⟩
                  go_wp2_with fail
                  go_roundw
                  case rel => exact ⟨b + 1, by omega, by go_num, g2, fun x y => by
                    rw [HH.out.2.1 x y]
                    by_cases e : y = b
                    · subst e; rw [HH.out.2.2.2.1]; simp
                    · have : decide (y < b + 1) = decide (y < b) := by rw [decide_eq_decide]; omega
                      rw [this], HH.out.2.2.1⟩
                  case measure => simp [intOf]; omega
                · rw [b2] at h2
                  have b1' : Rl.bit F a k = true := b1
                  have b2' : Rl.bit F k b = true := b2
                  have HH := Lib.hid (And.intro h1 (And.intro hg2 (And.intro hh2 (And.intro h2 (And.intro b1' b2')))))
                  clear h1 h2 b1 hg2 hh2 b2 b1' b2'
                  go_wp2_with fail
                  refine (rhas_is _ _ _ HH.out.1 _).mono ?_
                  rintro e w' ⟨rfl, rfl⟩
                  go_wp2_with fail
                  refine (rhas_is _ _ _ HH.out.2.2.2.1 _).mono ?_
                  rintro e w' ⟨rfl, rfl⟩
                  go_wp2_with (refine wpList_load_rel (by rfl) (.tmp 1) (by rfl) w.heap.size n g2 (by rfl) (HH.out.2.2.1.at 0 rfl) ?_)
                  with_reducible refine (rwithP_is n g2 a b _ (by omega) (by omega)).mono ?_
                  rintro e w3 ⟨rfl, hb3⟩
                  have H3 := Lib.hid (HH.out.2.2.1.step hb3)
                  clear hb3
                  go_wp2_with (refine wpList_store_rel (by rfl) (.tmp 1) (.tmp 47) (by rfl) w.heap.size n n (upd g2 a (g2 a ||| Bv.bit b)) g2 (by rfl) (by rfl) (H3.out.at 0 rfl) ?_; intro w4 hR hg; have H4 := Lib.hid (H3.out.put 0 rfl hR hg); clear hR hg)
                  go_roundw
                  case rel => exact ⟨b + 1, by omega, by go_num, _, fun x y => by
                    rw [upd_bit _ _ _ _ _ (by omega), HH.out.2.1 x y]
                    by_cases e : x = a
                    · subst e
                      by_cases e2 : y = b
                      · subst e2; rw [HH.out.2.2.2.2.1, HH.out.2.2.2.2.2]; simp
                      · have : decide (y < b + 1) = decide (y < b) := by rw [decide_eq_decide]; omega
                        rw [this]; simp [e2]
                    · simp [e], H4.out⟩
                  case measure => simp [intOf]; omega
            · have hbn : b = n := by omega
              subst hbn
              have HH := Lib.hid (And.intro hg2 hh2)
              clear hg2 hh2
              go_wp2_with fail
              go_roundw
              case rel => exact ⟨a + 1, by omega, by go_num, g2, fun x y => by
                rw [HH.out.1 x y]
                by_cases hky : Rl.bit F k y = true
                · have hy : y < b := ((Rl.ok_war H0.out.2.2 k).in_ k y (by rw [← HK.out.2.2]; exact hky)).2
                  have : decide (x < a + 1) = (decide (x < a) || decide (x = a)) := by rw [Bool.eq_iff_iff]; simp; omega
                  rw [this, decide_eq_true hy]; simp
                · have : Rl.bit F k y = false := by simpa using hky
                  rw [this]; simp, HH.out.2⟩
              case measure => simp [intOf]; omega
        · have han : a = n := by omega
          subst han
          have hgF : g = Rl.warF f (k + 1) := Rl.rows_ext fun x y _ => by
            rw [HG.out.1 x y, HK.out.2.1]
            by_cases hxk : Rl.bit F x k = true
            · have hx : x < a := ((Rl.ok_war H0.out.2.2 k).in_ x k (by rw [← HK.out.2.2]; exact hxk)).1
              rw [decide_eq_true hx]; simp
            · have : Rl.bit F x k = false := by simpa using hxk
              rw [this]; simp
          have HH := Lib.hid (And.intro hgF HG.out.2)
          clear hgF
          go_wp2_with fail
          go_roundw
          case rel => exact ⟨k + 1, by omega, by go_num, by rw [← HH.out.1]; exact Held.fore (L := [_, _]) (M := [_]) HH.out.2⟩
          case measure => simp [intOf]; omega
    · have hkn : k = n := by omega
      subst hkn
      have hw2 := Rl.war_plus H0.out.2.2
      rw [hw2] at hh
      have HH := Lib.hid hh
      clear hh hw2
      go_wp2_with (first | (refine wpList_load_rel (by rfl) (.tmp 1) (by rfl) w.heap.size k (Rl.plusF k f) (by rfl) (HH.out.at 0 rfl) ?_) | (refine wpList_store_rel (by rfl) (.tmp 2) (.tmp 48) (by rfl) (w.heap.size + 1) k 0 (Rl.plusF k f) zeroR (by rfl) (by rfl) (HH.out.at 1 rfl) ?_; intro w2 hR hg; have H2 := Lib.hid (And.intro hR (HH.out.put 1 rfl hR hg)); clear hR hg))
      refine bodyPost_ret (results_cell_row rfl _ _ (w.heap.size + 1) 26 (relC k (Rl.plusF k f)) (0, 0) _ rfl H2.out.1 uRel rfl (sRelC _ _)) rfl ⟨rfl, H2.out.2.bel⟩
end Go.Proofs.YtknjdfgmejobfaaDoor

/- reference of layer 2: Plus of what is not valid, Acyclic. -/
namespace Go.Proofs.YtknjdfgmejobfaaDoor
open Go.RowKit Go.Shelf

attribute [-go_sem] run_eql_struct run_neq_struct
attribute [local go_sem] Bv.and_u Bv.or_u Bv.andNot_u Bv.wrap_sub1 Bv.eq0 Bv.ne0 Bv.wrap_pow Bv.wrap_powmin Bv.wrap_neg Bv.eq_u Bv.ne_u Bv.shr_min Bv.shr_pow Bv.tmod2 Bv.and1 Bv.wrap_add Bv.B1_eq1 Bv.B1_eq0 Bv.B1_ne1 Bv.B1_ne0

set_option maxRecDepth 100000 in
set_option maxHeartbeats 1000000 in
theorem rplus_no (n : Int) (f : Rl.Rows) (w : World) (zf : Rl.Z f) (hr : Rl.rightB n f = false) :
    Calls Tryd.prog 66 #[.agg (relC n f)] w fun e w' => e = .returned (.agg (relC 0 zeroR)) ∧ Below w.heap.size w w' := by
  have hzr := zero_rel
  have hbz := build_zero
  have h0 := (RelAt.new w n f).alloc (.cells (relC 0 zeroR) 26)
  have h1 := RelAt.new (w.alloc (.cells (relC n f) 26)) 0 zeroR
  rw [World.size_alloc] at h1
  have hB := (((Below.refl w.heap.size w).alloc (Nat.le_refl _) (.cells (relC n f) 26)).alloc (by simp) (.cells (relC 0 zeroR) 26))
  have H := Lib.hid (And.intro h0 (And.intro h1 (And.intro hB (And.intro hr zf))))
  clear h0 h1 hB hr zf
  go_enter Tryd.func66, Tryd.ntmps66
  go_wp2_with (refine wpList_load_rel (by rfl) (.tmp 1) (by rfl) w.heap.size n f (by rfl) H.out.1 ?_)
  with_reducible refine (rright_is n f false H.out.2.2.2.1 _ H.out.2.2.2.2).mono ?_
  rintro e w1 ⟨rfl, hb⟩
  have H1 := Lib.hid (And.intro (H.out.2.1.below hb (by simp)) (H.out.2.2.1.trans (hb.mono H.out.2.2.1.size)))
  clear hb
  go_wp2_with (refine wpList_store_rel (by rfl) (.tmp 2) (.tmp 10) (by rfl) (w.heap.size + 1) 0 0 zeroR zeroR (by rfl) (by rfl) H1.out.1 ?_; intro w3 hR3 hg3)
  refine bodyPost_ret (results_cell_row rfl _ _ (w.heap.size + 1) 26 (relC 0 zeroR) (0, 0) _ rfl hR3 uRel rfl (sRelC _ _)) rfl ⟨rfl, H1.out.2.grown hg3 H1.out.2.size (fun j e => by injection e with e; omega)⟩
theorem rplus_any (n : Int) (f : Rl.Rows) (w : World) (zf : Rl.Z f) :
    Calls Tryd.prog 66 #[.agg (relC n f)] w fun e w' => e = .returned (.agg (relC (backN n f) (plusR n f))) ∧ Below w.heap.size w w' := by
  unfold backN plusR
  cases h : Rl.rightB n f
  · exact rplus_no n f w zf h
  · obtain ⟨m, rfl, hm⟩ := Rl.right_nat zf h
    rw [if_pos rfl, if_pos rfl, Int.toNat_natCast]; exact rplus_yes m f w hm

/-! ### Acyclic -/
theorem acyc_irr {n : Nat} {f : Rl.Rows} (hf : Rl.Ok n f) : (topR n f).isSome = irrB n (Rl.plusF n f) := by
  unfold topR irrB
  rw [Rl.right_of hf, Rl.right_of (Rl.ok_plus hf), if_pos rfl, Int.toNat_natCast, Bool.true_and]
  exact Rl.top_round hf
set_option maxRecDepth 100000 in
set_option maxHeartbeats 1000000 in
theorem racyc_any (n : Int) (f : Rl.Rows) (w : World) (zf : Rl.Z f) :
    Calls Tryd.prog 38 #[.agg (relC n f)] w fun e w' => e = .returned (.bool (topR n f).isSome) ∧ Below w.heap.size w w' := by
  have hB := (Below.refl w.heap.size w).alloc (Nat.le_refl _) (.cells (relC n f) 26)
  have hR := RelAt.new w n f
  cases hr : Rl.rightB n f
  · have he : (topR n f).isSome = false := by unfold topR; rw [hr]; rfl
    have H := Lib.hid (And.intro hR (And.intro hB (And.intro hr (And.intro he zf))))
    clear hR hB hr he zf
    go_enter Tryd.func38, Tryd.ntmps38
    go_wp2_with (refine wpList_load_rel (by rfl) (.tmp 1) (by rfl) w.heap.size n f (by rfl) H.out.1 ?_)
    with_reducible refine (rright_is n f false H.out.2.2.1 _ H.out.2.2.2.2).mono ?_
    rintro e w1 ⟨rfl, hb⟩
    have H1 := Lib.hid (H.out.2.1.trans (hb.mono H.out.2.1.size))
    clear hb
    go_wp2_with fail
    go_ret
    exact ⟨by rw [H.out.2.2.2.1]; rfl, H1.out⟩
  · obtain ⟨m, rfl, hm⟩ := Rl.right_nat zf hr
    have he := acyc_irr hm
    obtain ⟨b, hbb⟩ : ∃ b, b = (topR m f).isSome := ⟨_, rfl⟩
    rw [← hbb] at he ⊢
    have H := Lib.hid (And.intro hR (And.intro hB (And.intro hr (And.intro he hm))))
    clear hR hB hr he zf hbb hm
    go_enter Tryd.func38, Tryd.ntmps38
    go_wp2_with (refine wpList_load_rel (by rfl) (.tmp 1) (by rfl) w.heap.size m f (by rfl) H.out.1 ?_)
    with_reducible refine (rright_is m f true H.out.2.2.1 _ H.out.2.2.2.2.z).mono ?_
    rintro e w1 ⟨rfl, hb⟩
    have H1 := Lib.hid (And.intro (H.out.1.below hb H.out.1.lt) (H.out.2.1.trans (hb.mono H.out.2.1.size)))
    clear hb
    go_wp2_with (refine wpList_load_rel_want (by rfl) (.tmp 1) (by rfl) w.heap.size m f (by rfl) H1.out.1 ?_)
    with_reducible refine (rplus_yes m f _ H.out.2.2.2.2).mono ?_
    rintro e w2 ⟨rfl, hb⟩
    have H2 := Lib.hid (H1.out.2.trans (hb.mono H1.out.2.size))
    clear hb
    go_wp2_with fail
    with_reducible refine (rirr_is m (Rl.plusF m f) b H.out.2.2.2.1.symm _ (Rl.ok_plus H.out.2.2.2.2).z).mono ?_
    rintro e w3 ⟨rfl, hb⟩
    have H3 := Lib.hid (H2.out.trans (hb.mono H2.out.size))
    clear hb
    go_wp2_with fail
    go_ret
    exact ⟨rfl, H3.out⟩
theorem racyc_is (n : Int) (f : Rl.Rows) (b : Bool) (hb : (topR n f).isSome = b) (w : World) (zf : Rl.Z f) :
    Calls Tryd.prog 38 #[.agg (relC n f)] w fun e w' => e = .returned (.bool b) ∧ Below w.heap.size w w' := by subst hb; exact racyc_any n f w zf
end Go.Proofs.YtknjdfgmejobfaaDoor

/- reference of layer 2: Top. -/
namespace Go.Rl
/-- an item that is not yet told and less than the next one has a predecessor that is not yet told -/
theorem topGo_least {before : Rows} : ∀ (k : Nat) (left : BitVec 64) (l : List Nat), topGo before k left = some l → ∀ (j b : Nat), l[j]? = some b → ∀ c, left.getLsbD c = true → c ∉ l.take j → c < b → ∃ a, (before c).getLsbD a = true ∧ left.getLsbD a = true ∧ a ∉ l.take j
  | 0, left, l, h, j, b, hj, c, _, _, _ => by injection h with h; subst h; simp at hj
  | k + 1, left, l, h, j, b, hj, c, hc, hn, hcb => by
    unfold topGo at h
    split at h
    · injection h with h; subst h; simp at hj
    · split at h
      · cases h
      · rename_i a0 hf
        obtain ⟨l', hl', rfl⟩ := Option.map_eq_some_iff.1 h
        cases j with
        | zero =>
          simp at hj; subst hj
          have h1 := free_least hf hc hcb
          apply Classical.byContradiction
          intro hno
          apply h1
          apply Bv.ext_get; intro i hi
          rw [BitVec.getLsbD_and, Bv.zero_get]
          cases hb : (before c).getLsbD i
          · rfl
          · cases hs : left.getLsbD i
            · rfl
            · exact absurd ⟨i, hb, hs, by simp⟩ hno
        | succ j =>
          simp at hj hn
          have ha0 := free_some hf
          have ha64 := Bx.lt64 ha0.1
          obtain ⟨a, h1, h2, h3⟩ := topGo_least k _ l' hl' j b hj c ((minus_iff left a0 c ha64).2 ⟨hc, hn.1⟩) hn.2 hcb
          have h4 := (minus_iff left a0 a ha64).1 h2
          exact ⟨a, h1, h4.1, by simp; exact ⟨h4.2, h3⟩⟩
theorem top_least {n : Nat} {f : Rows} (hf : Ok n f) {l : List Nat} (h : topL n f = some l) {j b c : Nat} (hj : l[j]? = some b) (hc : c < n) (hn : c ∉ l.take j) (hcb : c < b) : ∃ a, a < n ∧ bit f a c = true ∧ a ∉ l.take j := by
  have h48 := hf.le
  obtain ⟨a, h1, h2, h3⟩ := topGo_least 64 _ l h j b hj c (by rw [below_getN _ _ (by omega)]; exact decide_eq_true hc) hn hcb
  have hb : bit f a c = true := (back_ok hf c a).symm.trans h1
  exact ⟨a, (hf.in_ a c hb).1, hb, h3⟩
/-- the set of a list's items -/
def toldS (l : List Nat) : BitVec 64 := Bx.mk fun i => decide (i ∈ l)
theorem told_get (l : List Nat) (i : Nat) (hi : i < 64) : Bv.G (toldS l) i = decide (i ∈ l) := Bx.mk_get _ i hi
theorem told_snoc (l : List Nat) (b : Nat) (hb : b < 64) : toldS (l ++ [b]) = toldS l ||| Bv.bit b := by
  apply Bv.ext_get; intro i hi
  unfold toldS
  rw [BitVec.getLsbD_or, Bx.mk_get _ i hi, Bx.mk_get _ i hi, Bv.bit_get b i hb, Bool.eq_iff_iff]
  simp
theorem told_nil : toldS [] = 0#64 := by
  apply Bv.ext_get; intro i hi
  unfold toldS; rw [Bx.mk_get _ i hi, Bv.zero_get]; simp
/-- none of the first k items is a predecessor that is not told -/
def freeK (f : Rows) (l : List Nat) (b k : Nat) : Bool := (List.range k).all fun a => !(bit f a b && !decide (a ∈ l))
theorem freeK_succ (f : Rows) (l : List Nat) (b k : Nat) : freeK f l b (k + 1) = (freeK f l b k && !(bit f k b && !decide (k ∈ l))) := by simp [freeK, List.range_succ]
theorem split_at' {l : List Nat} {j b : Nat} (h : l[j]? = some b) : l = l.take j ++ b :: l.drop (j + 1) := by
  obtain ⟨hj, hb⟩ := List.getElem?_eq_some_iff.1 h
  have e1 := List.drop_eq_getElem_cons hj
  rw [hb] at e1
  rw [← e1]; exact (List.take_append_drop j l).symm
theorem not_in_take' {l : List Nat} (hd : l.Nodup) {i x : Nat} (h : l[i]? = some x) : x ∉ l.take i := by
  intro hm
  rw [split_at' h, List.nodup_append] at hd
  exact hd.2.2 x hm x (by simp) rfl
theorem top_free {n : Nat} {f : Rows} (hf : Ok n f) {l : List Nat} (h : topL n f = some l) {j b : Nat} (hj : l[j]? = some b) : (!decide (b ∈ l.take j) && freeK f (l.take j) b n) = true := by
  obtain ⟨h1, h2, h3⟩ := top_some hf h
  rw [decide_eq_false (not_in_take' h1 hj), Bool.not_false, Bool.true_and]
  unfold freeK
  rw [List.all_eq_true]
  intro a _
  cases hb : bit f a b
  · rfl
  · rw [decide_eq_true (h3 _ _ _ (split_at' hj) a hb)]; rfl
theorem top_busy {n : Nat} {f : Rows} (hf : Ok n f) {l : List Nat} (h : topL n f = some l) {j b c : Nat} (hj : l[j]? = some b) (hc : c < n) (hcb : c < b) : (!decide (c ∈ l.take j) && freeK f (l.take j) c n) = false := by
  by_cases hm : c ∈ l.take j
  · rw [decide_eq_true hm]; rfl
  · obtain ⟨a, h1, h2, h3⟩ := top_least hf h hj hc hm hcb
    have : freeK f (l.take j) c n = false := by
      rw [Bool.eq_false_iff]; unfold freeK
      intro ht
      rw [List.all_eq_true] at ht
      have := ht a (List.mem_range.2 h1)
      rw [h2, decide_eq_false h3] at this; cases this
    rw [this, Bool.and_false]
theorem top_len {n : Nat} {f : Rows} (hf : Ok n f) {l : List Nat} (h : topL n f = some l) : l.length = n := by
  obtain ⟨hd, h2, _⟩ := top_some hf h
  have h1 : l.length ≤ (List.range n).length := List.Nodup.length_le_of_subset hd fun x hx => List.mem_range.2 ((h2 x).1 hx)
  have h3 : (List.range n).length ≤ l.length := List.Nodup.length_le_of_subset (List.nodup_range) fun x hx => (h2 x).2 (List.mem_range.1 hx)
  simp at h1 h3; omega
end Go.Rl
namespace Go.Proofs.YtknjdfgmejobfaaDoor
open Go.RowKit Go.Shelf

attribute [-go_sem] run_eql_struct run_neq_struct
attribute [local go_sem] Bv.and_u Bv.or_u Bv.andNot_u Bv.wrap_sub1 Bv.eq0 Bv.ne0 Bv.wrap_pow Bv.wrap_powmin Bv.wrap_neg Bv.eq_u Bv.ne_u Bv.shr_min Bv.shr_pow Bv.tmod2 Bv.and1 Bv.wrap_add Bv.B1_eq1 Bv.B1_eq0 Bv.B1_ne1 Bv.B1_ne0
theorem ownsRow_below2 {w W : World} {base n : Nat} {e : TypeId} {size : Nat} {v : Value} {xs : List Value} (h : w.ownsRow base e size v n xs) (hb : Below w.heap.size w W) : W.ownsRow base e size v n xs := by
  refine ⟨h.1, ?_⟩
  rcases h.2 with hn | ⟨g, cap, cur, rfl, hb', hg, rest⟩
  · exact .inl hn
  · exact .inr ⟨g, cap, cur, rfl, hb', (hb.block g (Array.getElem?_eq_some_iff.1 hg).1).trans hg, rest⟩
def lenV : Value → Nat
  | .slice _ n _ => n
  | _ => 0
set_option maxRecDepth 100000 in
set_option maxHeartbeats 1000000 in
theorem rtop_no (n : Int) (f : Rl.Rows) (w : World) (zf : Rl.Z f) (hr : (topR n f).isSome = false) :
    Calls Tryd.prog 31 #[.agg (relC n f)] w (TopOut none w) := by
  have H := Lib.hid (And.intro (RelAt.new w n f) (And.intro ((Below.refl w.heap.size w).alloc (Nat.le_refl _) (.cells (relC n f) 26)) hr))
  clear hr
  go_enter Tryd.func31, Tryd.ntmps31
  go_wp2_with (refine wpList_load_rel (by rfl) (.tmp 1) (by rfl) w.heap.size n f (by rfl) H.out.1 ?_)
  with_reducible refine (racyc_is n f false H.out.2.2 _ zf).mono ?_
  rintro e w1 ⟨rfl, hb⟩
  have H1 := Lib.hid (H.out.2.1.trans (hb.mono H.out.2.1.size))
  clear hb
  go_wp2_with fail
  go_ret2
  exact ⟨_, rfl, World.ownsRow_nil _ _ _ _, H1.out⟩
set_option maxRecDepth 100000 in
set_option maxHeartbeats 4000000 in
theorem rtop_yes (n : Nat) (f : Rl.Rows) (w : World) (hr : Rl.Ok n f) (L : List Nat) (hL : Rl.topL n f = some L) :
    Calls Tryd.prog 31 #[.agg (relC n f)] w (TopOut (some L) w) := by
  have hn := hr.le
  have hlen := Rl.top_len hr hL
  have htr : (topR n f).isSome = true := by unfold topR; rw [Rl.right_of hr, if_pos rfl, Int.toNat_natCast, hL]; rfl
  obtain ⟨i0, hi, hz0, hz1, hz2⟩ := info_parts infoInt
  have H := Lib.hid (And.intro (RelAt.new w n f) (And.intro ((Below.refl w.heap.size w).alloc (Nat.le_refl _) (.cells (relC n f) 26)) (And.intro htr (And.intro hr (And.intro hL hlen)))))
  clear hr htr hL hlen
  go_enter Tryd.func31, Tryd.ntmps31
  go_wp2_with (refine wpList_load_rel (by rfl) (.tmp 1) (by rfl) w.heap.size n f (by rfl) H.out.1 ?_)
  with_reducible refine (racyc_is n f true H.out.2.2.1 _ H.out.2.2.2.1.z).mono ?_
  rintro e w1 ⟨rfl, hb⟩
  have H1 := Lib.hid (And.intro (H.out.1.below hb H.out.1.lt) (H.out.2.1.trans (hb.mono H.out.2.1.size)))
  clear hb
  go_wp2_with fail
  go_loopw [4, 5, 6, 7, 8] (fun v t _ _ _ wr => ∃ j : Nat, j ≤ n ∧ t = .int .u64 (Bv.U (Rl.toldS (L.take j))) ∧ wr.ownsRow w1.heap.size 3 1 v j (nums (L.take j)) ∧ Below w1.heap.size w1 wr) (fun v _ _ _ _ _ => n - lenV v)
  case atStart => exact ⟨0, Nat.zero_le _, by rw [List.take_zero, Rl.told_nil]; rfl, World.ownsRow_nil _ _ _ _, Below.refl _ _⟩
  case round =>
    obtain ⟨j, hj, rfl, hrow, hb⟩ := hrel
    have c0 := (H1.out.1.below hb H1.out.1.lt).num
    obtain ⟨A, cap, hv, _, _, _⟩ := row_nums hrow
    subst hv
    have HR := Lib.hid (And.intro hrow hb)
    clear hrow hb
    by_cases hlt : j < n
    · obtain ⟨bs, hbs⟩ : ∃ b, L[j]? = some b := ⟨_, List.getElem?_eq_getElem (by rw [H.out.2.2.2.2.2]; exact hlt)⟩
      have hbn : bs < n := ((Rl.top_some H.out.2.2.2.1 H.out.2.2.2.2.1).2.1 bs).1 (List.mem_of_getElem? hbs)
      have hfree := Rl.top_free H.out.2.2.2.1 H.out.2.2.2.2.1 hbs
      have hbusy := fun c hc hcb => Rl.top_busy H.out.2.2.2.1 H.out.2.2.2.2.1 (c := c) hbs hc hcb
      have hsn := Rl.told_snoc (L.take j) bs (by omega)
      have htk : L.take (j + 1) = L.take j ++ [bs] := by rw [List.take_add_one, hbs]; rfl
      obtain ⟨M, hM⟩ : ∃ M, M = L.take j := ⟨_, rfl⟩
      rw [← hM] at hfree hbusy hsn htk HR ⊢
      have HF := Lib.hid (And.intro hfree (And.intro hbusy (And.intro hsn htk)))
      clear hfree hbusy hsn htk hM hbs
      go_wp2_with fail
      go_loopw [4, 5, 6, 7, 8] (fun v t i _ _ wi => v = .slice A j cap ∧ t = .int .u64 (Bv.U (Rl.toldS M)) ∧ ∃ b : Nat, b ≤ bs ∧ i = .int .i64 b ∧ Below wr.heap.size wr wi) (fun _ _ i _ _ _ => n - (intOf i).toNat)
      case atStart => exact ⟨rfl, rfl, 0, Nat.zero_le _, rfl, Below.refl _ _⟩
      case round =>
        obtain ⟨rfl, rfl, b, hbb, rfl, hb2⟩ := hrel
        obtain ⟨W1, hW1⟩ : ∃ W, W = wr := ⟨_, rfl⟩
        have hbw := HR.out.2.trans (hb2.mono HR.out.2.size)
        have hRb := H1.out.1.below hbw H1.out.1.lt
        have c0 := hRb.num
        have hrb := ownsRow_below2 HR.out.1 hb2
        have hh := hasB_nat (Rl.toldS M) b (by omega)
        rw [Rl.told_get M b (by omega)] at hh
        obtain ⟨t0, ht0⟩ : ∃ t, t = decide (b ∈ M) := ⟨_, rfl⟩
        rw [← ht0] at hh
        have HB := Lib.hid (And.intro hh (And.intro hbw (And.intro hRb (And.intro ht0 (And.intro hrb hb2)))))
        clear hh hbw hRb ht0 hrb hb2 hW1
        have hbn2 : b < n := by omega
        go_wp2_with fail
        with_reducible refine (rhas_is (Rl.toldS M) b t0 HB.out.1 _).mono ?_
        rintro e w' ⟨rfl, rfl⟩
        go_wp2_with fail
        go_loopw [7, 8] (fun fr i wi => ∃ a : Nat, a ≤ n ∧ i = .int .i64 a ∧ fr = .bool (!t0 && Rl.freeK f M b a) ∧ Below wr.heap.size wr wi) (fun _ i _ => n - (intOf i).toNat)
        case atStart => exact ⟨0, Nat.zero_le _, rfl, by simp [Rl.freeK], Below.refl _ _⟩
        case round =>
          obtain ⟨a, ha, rfl, rfl, hb3⟩ := hrel
          have hRa := HB.out.2.2.1.below hb3 HB.out.2.2.1.lt
          have c0 := hRa.num
          by_cases hlta : a < n
          · have hs := Rl.freeK_succ f M b a
            have hp := pairB_ok H.out.2.2.2.1 a b
            have hh2 := hasB_nat (Rl.toldS M) a (by omega)
            rw [Rl.told_get M a (by omega)] at hh2
            obtain ⟨F0, hF0⟩ : ∃ F, F = Rl.freeK f M b a := ⟨_, rfl⟩
            rw [← hF0] at hs ⊢
            cases hbit : Rl.bit f a b
            · rw [hbit] at hs hp
              have HA := Lib.hid (And.intro hRa (And.intro hp (And.intro hs hb3)))
              clear hRa hp hs hb3 hh2 hbit hF0
              go_wp2_with (refine wpList_load_rel (by rfl) (.tmp 1) (by rfl) w.heap.size n f (by rfl) HA.out.1 ?_)
              with_reducible refine (rpair_is n f a b false HA.out.2.1 _ H.out.2.2.2.1.z).mono ?_
              rintro e w4 ⟨rfl, hb4⟩
              have H4 := Lib.hid (HA.out.2.2.2.trans (hb4.mono HA.out.2.2.2.size))
              clear hb4
              go_wp2_with fail
              go_roundw
              case rel => exact ⟨a + 1, by omega, by go_num, by rw [HA.out.2.2.1]; simp, H4.out⟩
              case measure => simp [intOf]; omega
            · rw [hbit] at hs hp
              cases htd : decide (a ∈ M)
              · rw [htd] at hs hh2
                have HA := Lib.hid (And.intro hRa (And.intro hp (And.intro hs (And.intro hb3 hh2))))
                clear hRa hp hs hb3 hh2 hbit hF0 htd
                go_wp2_with (refine wpList_load_rel (by rfl) (.tmp 1) (by rfl) w.heap.size n f (by rfl) HA.out.1 ?_)
                with_reducible refine (rpair_is n f a b true HA.out.2.1 _ H.out.2.2.2.1.z).mono ?_
                rintro e w4 ⟨rfl, hb4⟩
                have H4 := Lib.hid (HA.out.2.2.2.1.trans (hb4.mono HA.out.2.2.2.1.size))
                clear hb4
                go_wp2_with fail
                with_reducible refine (rhas_is (Rl.toldS M) a _ HA.out.2.2.2.2 _).mono ?_
                rintro e w' ⟨rfl, rfl⟩
                go_wp2_with fail
                go_roundw
                case rel => exact ⟨a + 1, by omega, by go_num, by rw [HA.out.2.2.1]; simp, H4.out⟩
                case measure => simp [intOf]; omega
              · rw [htd] at hs hh2
                have HA := Lib.hid (And.intro hRa (And.intro hp (And.intro hs (And.intro hb3 hh2))))
                clear hRa hp hs hb3 hh2 hbit hF0 htd
                go_wp2_with (refine wpList_load_rel (by rfl) (.tmp 1) (by rfl) w.heap.size n f (by rfl) HA.out.1 ?_)
                with_reducible refine (rpair_is n f a b true HA.out.2.1 _ H.out.2.2.2.1.z).mono ?_
                rintro e w4 ⟨rfl, hb4⟩
                have H4 := Lib.hid (HA.out.2.2.2.1.trans (hb4.mono HA.out.2.2.2.1.size))
                clear hb4
                go_wp2_with fail
                with_reducible refine (rhas_is (Rl.toldS M) a _ HA.out.2.2.2.2 _).mono ?_
                rintro e w' ⟨rfl, rfl⟩
                go_wp2_with fail
                go_roundw
                case rel => exact ⟨a + 1, by omega, by go_num, by rw [HA.out.2.2.1]; simp, H4.out⟩
                case measure => simp [intOf]; omega
          · have han : a = n := by omega
            subst han
            by_cases hlast : b = bs
            · subst hlast
              have hfr := HF.out.1
              rw [← HB.out.2.2.2.1] at hfr
              rw [hfr]
              have hwt := withS_nat (Rl.toldS M) b (by omega)
              have hrow4 := ownsRow_below2 HB.out.2.2.2.2.1 hb3
              have hbb4 := HB.out.2.1.trans (hb3.mono HB.out.2.1.size)
              have HA := Lib.hid (And.intro hrow4 (And.intro hbb4 hwt))
              have hsz4 := hbb4.size
              clear hrow4 hbb4 hwt hb3 hRa hfr
              go_wp2_with (at_builtin; refine wpList_append_own _ rfl _ _ 35 rfl w1.heap.size 3 i0 (.int .i64 0) 1 8 Tryd.underlying35 hi hz0 hz1 hz2 rfl (by decide) _ j (nums M) rfl (HA.out.1.alloc _) ⟨_, 0, none⟩ 1 1 [.int .i64 b] rfl rfl (cell_one_new _ _ _) (by simp [Value.oneCell']) (by unfold maxLen; omega) (by omega) (by simp; omega) ?_; intro v' w7 hown' hgrow hnil')
              with_reducible refine (rwith_is (Rl.toldS M) b _ HA.out.2.2 _).mono ?_
              rintro e w' ⟨rfl, rfl⟩
              obtain ⟨A9, cap9, hv9, _, _, _⟩ := row_nums (show World.ownsRow _ _ _ _ _ _ (nums (M ++ [b])) by rw [nums_snoc]; exact hown')
              have hbn7 := (HA.out.2.1.alloc hsz4 _).grown hgrow (by simp; omega) (fun q e => (HA.out.1.lt q e).1)
              have H9 := Lib.hid (And.intro hown' hbn7)
              subst hv9
              clear hown' hgrow hnil' hbn7
              go_wp2_with fail
              go_roundw
              case rel => exact ⟨j + 1, by omega, by rw [HF.out.2.2.2, HF.out.2.2.1], by rw [HF.out.2.2.2, nums_snoc]; exact H9.out.1, H9.out.2⟩
              case measure => simp [lenV]; omega
            · have hfr := HF.out.2.1 b hbn2 (by omega)
              rw [← HB.out.2.2.2.1] at hfr
              rw [hfr]
              have HA := Lib.hid (HB.out.2.2.2.2.2.trans (hb3.mono HB.out.2.2.2.2.2.size))
              clear hfr hb3 hRa
              go_wp2_with fail
              go_roundw
              case rel => exact ⟨by first | rfl | trivial, by first | rfl | trivial, b + 1, by omega, by go_num, HA.out⟩
              case measure => simp [intOf]; omega
    · have hjn : j = n := by omega
      subst hjn
      have hfull : L.take j = L := List.take_of_length_le (by rw [H.out.2.2.2.2.2]; omega)
      have HE := Lib.hid (And.intro hfull H.out.2.2.2.2.2)
      clear hfull
      go_wp2_with fail
      go_ret2
      refine ⟨_, rfl, ?_, H1.out.2.trans (HR.out.2.mono H1.out.2.size)⟩
      have h := owns_base HR.out.1 H1.out.2.size
      rw [HE.out.1] at h
      simpa [HE.out.2] using h
theorem rtop_any (n : Int) (f : Rl.Rows) (w : World) (zf : Rl.Z f) :
    Calls Tryd.prog 31 #[.agg (relC n f)] w (TopOut (topR n f) w) := by
  cases h : topR n f with
  | none => exact rtop_no n f w zf (by rw [h]; rfl)
  | some L =>
    cases hr : Rl.rightB n f
    · unfold topR at h; rw [hr] at h; cases h
    · obtain ⟨m, rfl, hm⟩ := Rl.right_nat zf hr
      unfold topR at h
      rw [hr, if_pos rfl, Int.toNat_natCast] at h
      exact rtop_yes m f w hm L h
end Go.Proofs.YtknjdfgmejobfaaDoor
