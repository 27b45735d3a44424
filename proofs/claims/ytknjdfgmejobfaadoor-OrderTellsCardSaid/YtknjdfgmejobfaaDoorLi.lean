/- Texts that stand together: Pk, Pl, Ph, Pi, Pj. -/
import Derived.Test.YtknjdfgmejobfaaDoorLb
import Derived.Test.YtknjdfgmejobfaaDoorLh
import Derived.Test.YtknjdfgmejobfaaDoorLg
/- reference of layer 2: steps. -/
namespace Go.Rl
/-- what the inner loops have laid down of the next set when they stand at (x, y) -/
def Nx (f : Rows) (b : Nat) (s : BitVec 64) (x y : Nat) (T : BitVec 64) : Prop := ∀ c, c < 64 → (T.getLsbD c = true ↔ b < c ∧ ((∃ z, z < x ∧ s.getLsbD z = true ∧ bit f z c = true) ∨ (c < y ∧ s.getLsbD x = true ∧ bit f x c = true)))
/-- no step to the goal so far -/
def NoH (f : Rows) (s : BitVec 64) (to x y : Nat) : Prop := (∀ z, z < x → s.getLsbD z = true → bit f z to = false) ∧ (to < y → s.getLsbD x = true → bit f x to = false)
variable {f : Rows} {b to x y n : Nat} {s T : BitVec 64}
theorem Nx.start (f : Rows) (b : Nat) (s : BitVec 64) : Nx f b s 0 0 0#64 := fun c hc => by
  rw [Bv.zero_get]
  constructor
  · intro h; cases h
  · rintro ⟨_, ⟨z, h, _⟩ | ⟨h, _⟩⟩ <;> omega
theorem Nx.miss (h : Nx f b s x y T) (hm : (s.getLsbD x && bit f x y) = false ∨ ¬ b < y) : Nx f b s x (y + 1) T := fun c hc => by
  rw [h c hc]
  constructor
  · rintro ⟨h1, h2 | ⟨h2, h3⟩⟩
    · exact ⟨h1, .inl h2⟩
    · exact ⟨h1, .inr ⟨by omega, h3⟩⟩
  · rintro ⟨h1, h2 | ⟨h2, h3, h4⟩⟩
    · exact ⟨h1, .inl h2⟩
    · by_cases e : c = y
      · subst e
        rcases hm with hm | hm
        · rw [h3, h4] at hm; cases hm
        · exact absurd h1 hm
      · exact ⟨h1, .inr ⟨by omega, h3, h4⟩⟩
theorem Nx.hit (h : Nx f b s x y T) (hs : s.getLsbD x = true) (hb : bit f x y = true) (hy : b < y) : Nx f b s x (y + 1) (T ||| Bv.bit y) := fun c hc => by
  have hy64 := bit64 hb
  rw [BitVec.getLsbD_or, Bool.or_eq_true, h c hc, Bv.bit_get y c hy64, decide_eq_true_eq]
  constructor
  · rintro (⟨h1, h2 | ⟨h2, h3⟩⟩ | rfl)
    · exact ⟨h1, .inl h2⟩
    · exact ⟨h1, .inr ⟨by omega, h3⟩⟩
    · exact ⟨hy, .inr ⟨by omega, hs, hb⟩⟩
  · rintro ⟨h1, h2 | ⟨h2, h3, h4⟩⟩
    · exact .inl ⟨h1, .inl h2⟩
    · by_cases e : c = y
      · exact .inr e
      · exact .inl ⟨h1, .inr ⟨by omega, h3, h4⟩⟩
theorem Nx.row (h : Nx f b s x n T) (hf : Ok n f) : Nx f b s (x + 1) 0 T := fun c hc => by
  rw [h c hc]
  constructor
  · rintro ⟨h1, ⟨z, h2, h3⟩ | ⟨h2, h3⟩⟩
    · exact ⟨h1, .inl ⟨z, by omega, h3⟩⟩
    · exact ⟨h1, .inl ⟨x, by omega, h3⟩⟩
  · rintro ⟨h1, ⟨z, h2, h3, h4⟩ | ⟨h2, _⟩⟩
    · by_cases e : z = x
      · subst e; exact ⟨h1, .inr ⟨(hf.in_ z c h4).2, h3, h4⟩⟩
      · exact ⟨h1, .inl ⟨z, by omega, h3, h4⟩⟩
    · omega
theorem Nx.done (h : Nx f b s n 0 T) (hf : Ok n f) : T = nextS f b s := by
  apply Bv.ext_get; intro c hc
  rw [Bool.eq_iff_iff, h c hc, nextS_iff]
  constructor
  · rintro ⟨h1, ⟨z, _, h3, h4⟩ | ⟨h2, _⟩⟩
    · exact ⟨h1, z, h3, h4⟩
    · omega
  · rintro ⟨h1, z, h3, h4⟩
    exact ⟨h1, .inl ⟨z, (hf.in_ z c h4).1, h3, h4⟩⟩
theorem NoH.start (f : Rows) (s : BitVec 64) (to : Nat) : NoH f s to 0 0 := ⟨fun z h => by omega, fun h => by omega⟩
theorem NoH.next (h : NoH f s to x y) (hm : (s.getLsbD x && bit f x y) = false ∨ y ≠ to) : NoH f s to x (y + 1) := ⟨h.1, fun h1 h2 => by
  by_cases e : to = y
  · subst e
    rcases hm with hm | hm
    · rw [h2, Bool.true_and] at hm; exact hm
    · exact absurd rfl hm
  · exact h.2 (by omega) h2⟩
theorem NoH.row (h : NoH f s to x n) (hf : Ok n f) : NoH f s to (x + 1) 0 := ⟨fun z h1 h2 => by
  by_cases e : z = x
  · subst e
    cases hb : bit f z to
    · rfl
    · have := h.2 (hf.in_ z to hb).2 h2; rw [hb] at this; cases this
  · exact h.1 z (by omega) h2, fun h => by omega⟩
theorem NoH.done (h : NoH f s to n 0) (hf : Ok n f) : hitB f s to = false := by
  cases hh : hitB f s to
  · rfl
  · obtain ⟨z, h1, h2⟩ := (hitB_iff f s to).1 hh
    have := h.1 z (hf.in_ z to h2).1 h1
    rw [h2] at this; cases this
theorem stGo_hit {k m : Nat} (h : hitB f s to = true) : stGo f b to (k + 1) m s = m := by unfold stGo; rw [if_pos h]
theorem stGo_miss {k m : Nat} (h : hitB f s to = false) : stGo f b to (k + 1) m s = stGo f b to k (m + 1) (nextS f b s) := by rw [stGo, if_neg (by rw [h]; exact Bool.false_ne_true)]
theorem hit_of (hs : s.getLsbD x = true) (hb : bit f x to = true) : hitB f s to = true := (hitB_iff f s to).2 ⟨x, hs, hb⟩
end Go.Rl
namespace Go.Proofs.YtknjdfgmejobfaaDoor
open Go.RowKit Go.Shelf

attribute [-go_sem] run_eql_struct run_neq_struct
attribute [local go_sem] Bv.and_u Bv.or_u Bv.andNot_u Bv.wrap_sub1 Bv.eq0 Bv.ne0 Bv.wrap_pow Bv.wrap_powmin Bv.wrap_neg Bv.eq_u Bv.ne_u Bv.shr_min Bv.shr_pow Bv.tmod2 Bv.and1 Bv.wrap_add Bv.B1_eq1 Bv.B1_eq0 Bv.B1_ne1 Bv.B1_ne0

theorem rwith_zero (a : Nat) (ha : a < 64) (w : World) :
    Calls Tryd.prog 85 #[.int .u64 0, .int .i64 a] w fun e w' => e = .returned (.int .u64 (Bv.U (Bv.bit a))) ∧ w = w' :=
  rwith_is 0#64 a _ (by rw [withS_nat _ a ha]; exact BitVec.zero_or) w
set_option maxRecDepth 100000 in
set_option maxHeartbeats 4000000 in
theorem rsteps_is (n : Nat) (f : Rl.Rows) (a to b R : Nat) (hR : Rl.stepsN f a to b = R) (w : World) (hr : Rl.Ok n f) (ha : a < 64) (hto : to < 64) (hb : b < 64) :
    Calls Tryd.prog 86 #[.agg (relC n f), .int .i64 a, .int .i64 to, .int .i64 b] w fun e w' => e = .returned (.int .i64 R) ∧ Below w.heap.size w w' := by
  have hn := hr.le
  have H := Lib.hid (And.intro (RelAt.new w n f) (And.intro ((Below.refl w.heap.size w).alloc (Nat.le_refl _) (.cells (relC n f) 26)) (And.intro hr hR)))
  clear hr hR
  go_enter Tryd.func86, Tryd.ntmps86
  go_wp2_with fail
  generalize w.alloc (.cells (relC n f) 26) = W0 at H ⊢
  with_reducible refine (rwith_zero a ha _).mono ?_
  rintro e w1 ⟨rfl, rfl⟩
  go_wp2_with fail
  go_loopw [9, 10, 11, 12, 13] (fun t i _ _ _ wr => ∃ (m : Nat) (s : BitVec 64), 1 ≤ m ∧ m ≤ 49 ∧ i = .int .i64 m ∧ t = .int .u64 (Bv.U s) ∧ Rl.stGo f b to (49 - m) m s = R ∧ Below W0.heap.size W0 wr) (fun _ i _ _ _ _ => 49 - (intOf i).toNat)
  case atStart => exact ⟨1, Bv.bit a, by omega, by omega, rfl, rfl, H.out.2.2.2, Below.refl _ _⟩
  case round =>
    obtain ⟨m, s, hm1, hm, rfl, rfl, hst, hb1⟩ := hrel
    have HR := Lib.hid (And.intro hst hb1)
    clear hst hb1
    by_cases hlt : m ≤ 48
    · have d0 : decide ((m : Int) ≤ 48) = true := decide_eq_true (by omega)
      have d1 : decide (m ≤ 48) = true := decide_eq_true hlt
      go_wp2_with fail
      go_loopw [11, 12, 13] (fun v i _ wi => ∃ (x : Nat) (T : BitVec 64), x ≤ n ∧ i = .int .i64 x ∧ v = .int .u64 (Bv.U T) ∧ Rl.Nx f b s x 0 T ∧ Rl.NoH f s to x 0 ∧ Below W0.heap.size W0 wi) (fun _ i _ _ => n - (intOf i).toNat)
      case atStart => exact ⟨0, 0#64, Nat.zero_le _, rfl, rfl, Rl.Nx.start _ _ _, Rl.NoH.start _ _ _, HR.out.2⟩
      case round =>
        obtain ⟨x, T, hx, rfl, rfl, hnx, hno, hb2⟩ := hrel
        have c0 := (H.out.1.below hb2 H.out.1.lt).num
        have HX := Lib.hid (And.intro hnx (And.intro hno hb2))
        clear hnx hno hb2
        by_cases hltx : x < n
        · go_wp2_with fail
          go_loopw [11, 13] (fun v i wi => ∃ (y : Nat) (T : BitVec 64), y ≤ n ∧ i = .int .i64 y ∧ v = .int .u64 (Bv.U T) ∧ Rl.Nx f b s x y T ∧ Rl.NoH f s to x y ∧ Below W0.heap.size W0 wi) (fun _ i _ => n - (intOf i).toNat)
          case atStart => exact ⟨0, T, Nat.zero_le _, rfl, rfl, HX.out.1, HX.out.2.1, HX.out.2.2⟩
          case round =>
            obtain ⟨y, T2, hy, rfl, rfl, hnx, hno, hb2⟩ := hrel
            have hRy := H.out.1.below hb2 H.out.1.lt
            have c0 := hRy.num
            by_cases hlty : y < n
            · have hp := pairB_ok H.out.2.2.1 x y
              have hh := hasB_nat s x (by omega)
              cases hs : Bv.G s x
              · rw [hs] at hh
                have hm0 : (s.getLsbD x && Rl.bit f x y) = false := by rw [show s.getLsbD x = false from hs]; rfl
                have HY := Lib.hid (And.intro hh (And.intro (hnx.miss (.inl hm0)) (And.intro (hno.next (.inl hm0)) hb2)))
                clear hh hnx hno hb2 hp hs hm0 hRy
                go_wp2_with fail
                with_reducible refine (rhas_is s x false HY.out.1 _).mono ?_
                rintro e w' ⟨rfl, rfl⟩
                go_wp2_with fail
                go_roundw
                case rel => exact ⟨y + 1, T2, by omega, by go_num, rfl, HY.out.2.1, HY.out.2.2.1, HY.out.2.2.2⟩
                case measure => simp [intOf]; omega
              · rw [hs] at hh
                cases hbit : Rl.bit f x y
                · rw [hbit] at hp
                  have hm0 : (s.getLsbD x && Rl.bit f x y) = false := by rw [hbit, Bool.and_false]
                  have HY := Lib.hid (And.intro hh (And.intro (hnx.miss (.inl hm0)) (And.intro (hno.next (.inl hm0)) (And.intro hb2 (And.intro hp hRy)))))
                  clear hh hnx hno hb2 hp hs hm0 hbit hRy
                  go_wp2_with fail
                  with_reducible refine (rhas_is s x true HY.out.1 _).mono ?_
                  rintro e w' ⟨rfl, rfl⟩
                  go_wp2_with (refine wpList_load_rel_want (by rfl) (.tmp 4) (by rfl) w.heap.size n f (by rfl) HY.out.2.2.2.2.2 ?_)
                  with_reducible refine (rpair_is n f x y false HY.out.2.2.2.2.1 _ H.out.2.2.1.z).mono ?_
                  rintro e w4 ⟨rfl, hb4⟩
                  have H4 := Lib.hid (HY.out.2.2.2.1.trans (hb4.mono HY.out.2.2.2.1.size))
                  clear hb4
                  go_wp2_with fail
                  go_roundw
                  case rel => exact ⟨y + 1, T2, by omega, by go_num, rfl, HY.out.2.1, HY.out.2.2.1, H4.out⟩
                  case measure => simp [intOf]; omega
                · rw [hbit] at hp
                  have HY := Lib.hid (And.intro hh (And.intro hp hRy))
                  clear hh hp hRy
                  by_cases hyt : y = to
                  · subst hyt
                    have hRm : R = m := by
                      have h1 := HR.out.1
                      rw [show 49 - m = (48 - m) + 1 by omega, Rl.stGo_hit (Rl.hit_of (show s.getLsbD x = true from hs) hbit)] at h1
                      exact h1.symm
                    subst hRm
                    have HB := Lib.hid hb2
                    clear hnx hno hb2 hs hbit
                    go_wp2_with fail
                    with_reducible refine (rhas_is s x true HY.out.1 _).mono ?_
                    rintro e w' ⟨rfl, rfl⟩
                    go_wp2_with (refine wpList_load_rel_want (by rfl) (.tmp 4) (by rfl) w.heap.size n f (by rfl) HY.out.2.2 ?_)
                    with_reducible refine (rpair_is n f x y true HY.out.2.1 _ H.out.2.2.1.z).mono ?_
                    rintro e w4 ⟨rfl, hb4⟩
                    have H4 := Lib.hid (H.out.2.1.trans ((HB.out.trans (hb4.mono HB.out.size)).mono H.out.2.1.size))
                    clear hb4
                    go_wp2_with fail
                    go_ret
                    exact ⟨rfl, H4.out⟩
                  · have e0 : ((y : Int) == (to : Int)) = false := by simp; omega
                    by_cases hyb : b < y
                    · have e1 : decide ((b : Int) < (y : Int)) = true := decide_eq_true (by omega)
                      have e2 : decide (b < y) = true := decide_eq_true hyb
                      have hw2 := withS_nat T2 y (by omega)
                      have HZ := Lib.hid (And.intro (hnx.hit (show s.getLsbD x = true from hs) hbit hyb) (And.intro (hno.next (.inr hyt)) (And.intro hb2 hw2)))
                      clear hnx hno hb2 hs hbit hw2
                      go_wp2_with fail
                      with_reducible refine (rhas_is s x true HY.out.1 _).mono ?_
                      rintro e w' ⟨rfl, rfl⟩
                      go_wp2_with (refine wpList_load_rel_want (by rfl) (.tmp 4) (by rfl) w.heap.size n f (by rfl) HY.out.2.2 ?_)
                      with_reducible refine (rpair_is n f x y true HY.out.2.1 _ H.out.2.2.1.z).mono ?_
                      rintro e w4 ⟨rfl, hb4⟩
                      have H4 := Lib.hid (HZ.out.2.2.1.trans (hb4.mono HZ.out.2.2.1.size))
                      clear hb4
                      go_wp2_with fail
                      with_reducible refine (rwith_is T2 y _ HZ.out.2.2.2 _).mono ?_
                      rintro e w' ⟨rfl, rfl⟩
                      go_wp2_with fail
                      go_roundw
                      case rel => exact ⟨y + 1, _, by omega, by go_num, rfl, HZ.out.1, HZ.out.2.1, H4.out⟩
                      case measure => simp [intOf]; omega
                    · have e1 : decide ((b : Int) < (y : Int)) = false := decide_eq_false (by omega)
                      have e2 : decide (b < y) = false := decide_eq_false hyb
                      have HZ := Lib.hid (And.intro (hnx.miss (.inr hyb)) (And.intro (hno.next (.inr hyt)) hb2))
                      clear hnx hno hb2 hs hbit
                      go_wp2_with fail
                      with_reducible refine (rhas_is s x true HY.out.1 _).mono ?_
                      rintro e w' ⟨rfl, rfl⟩
                      go_wp2_with (refine wpList_load_rel_want (by rfl) (.tmp 4) (by rfl) w.heap.size n f (by rfl) HY.out.2.2 ?_)
                      with_reducible refine (rpair_is n f x y true HY.out.2.1 _ H.out.2.2.1.z).mono ?_
                      rintro e w4 ⟨rfl, hb4⟩
                      have H4 := Lib.hid (HZ.out.2.2.trans (hb4.mono HZ.out.2.2.size))
                      clear hb4
                      go_wp2_with fail
                      go_roundw
                      case rel => exact ⟨y + 1, _, by omega, by go_num, rfl, HZ.out.1, HZ.out.2.1, H4.out⟩
                      case measure => simp [intOf]; omega
            · have hyn : y = n := by omega
              subst hyn
              have HI := Lib.hid (And.intro (hnx.row H.out.2.2.1) (And.intro (hno.row H.out.2.2.1) hb2))
              clear hnx hno hb2 hRy
              go_wp2_with fail
              go_roundw
              case rel => exact ⟨x + 1, T2, by omega, by go_num, rfl, HI.out.1, HI.out.2.1, HI.out.2.2⟩
              case measure => simp [intOf]; omega
        · have hxn : x = n := by omega
          subst hxn
          have h1 := HR.out.1
          rw [show 49 - m = (48 - m) + 1 by omega, Rl.stGo_miss (HX.out.2.1.done H.out.2.2.1), ← HX.out.1.done H.out.2.2.1, show 48 - m = 49 - (m + 1) by omega] at h1
          have HI := Lib.hid h1
          clear h1
          go_wp2_with fail
          go_roundw
          case rel => exact ⟨m + 1, T, by omega, by omega, by go_num, rfl, HI.out, HX.out.2.2⟩
          case measure => simp [intOf]; omega
    · have hm49 : m = 49 := by omega
      subst hm49
      have hR100 : R = 100 := by have h1 := HR.out.1; exact h1.symm
      subst hR100
      have HB := Lib.hid (H.out.2.1.trans (HR.out.2.mono H.out.2.1.size))
      go_wp2_with fail
      go_ret
      exact ⟨rfl, HB.out⟩
end Go.Proofs.YtknjdfgmejobfaaDoor

/- reference of layer 2: Ring. -/
namespace Go.Proofs.YtknjdfgmejobfaaDoor
open Go.RowKit Go.Shelf

attribute [-go_sem] run_eql_struct run_neq_struct
attribute [local go_sem] Bv.and_u Bv.or_u Bv.andNot_u Bv.wrap_sub1 Bv.eq0 Bv.ne0 Bv.wrap_pow Bv.wrap_powmin Bv.wrap_neg Bv.eq_u Bv.ne_u Bv.shr_min Bv.shr_pow Bv.tmod2 Bv.and1 Bv.wrap_add Bv.B1_eq1 Bv.B1_eq0 Bv.B1_ne1 Bv.B1_ne0

set_option maxRecDepth 100000 in
set_option maxHeartbeats 1000000 in
theorem rring_not (n : Int) (f : Rl.Rows) (w : World) (zf : Rl.Z f) (hr : Rl.rightB n f = false) :
    Calls Tryd.prog 33 #[.agg (relC n f)] w (RingOut [] w) := by
  have he : (topR n f).isSome = false := by unfold topR; rw [hr]; rfl
  have H := Lib.hid (And.intro (RelAt.new w n f) (And.intro ((Below.refl w.heap.size w).alloc (Nat.le_refl _) (.cells (relC n f) 26)) (And.intro hr (And.intro he zf))))
  clear hr he zf
  go_enter Tryd.func33, Tryd.ntmps33
  go_wp2_with (refine wpList_load_rel (by rfl) (.tmp 1) (by rfl) w.heap.size n f (by rfl) H.out.1 ?_)
  with_reducible refine (racyc_is n f false H.out.2.2.2.1 _ H.out.2.2.2.2).mono ?_
  rintro e w1 ⟨rfl, hb⟩
  have H1 := Lib.hid (And.intro (H.out.1.below hb H.out.1.lt) (H.out.2.1.trans (hb.mono H.out.2.1.size)))
  clear hb
  go_wp2_with (refine wpList_load_rel_want (by rfl) (.tmp 1) (by rfl) w.heap.size n f (by rfl) H1.out.1 ?_)
  with_reducible refine (rright_is n f false H.out.2.2.1 _ H.out.2.2.2.2).mono ?_
  rintro e w2 ⟨rfl, hb⟩
  have H2 := Lib.hid (H1.out.2.trans (hb.mono H1.out.2.size))
  clear hb
  go_wp2_with fail
  go_ret
  exact ⟨_, rfl, World.ownsRow_nil _ _ _ _, H2.out⟩
set_option maxRecDepth 100000 in
set_option maxHeartbeats 1000000 in
theorem rring_top (n : Int) (f : Rl.Rows) (w : World) (zf : Rl.Z f) (he : (topR n f).isSome = true) :
    Calls Tryd.prog 33 #[.agg (relC n f)] w (RingOut [] w) := by
  have H := Lib.hid (And.intro (RelAt.new w n f) (And.intro ((Below.refl w.heap.size w).alloc (Nat.le_refl _) (.cells (relC n f) 26)) (And.intro he zf)))
  clear he zf
  go_enter Tryd.func33, Tryd.ntmps33
  go_wp2_with (refine wpList_load_rel (by rfl) (.tmp 1) (by rfl) w.heap.size n f (by rfl) H.out.1 ?_)
  with_reducible refine (racyc_is n f true H.out.2.2.1 _ H.out.2.2.2).mono ?_
  rintro e w1 ⟨rfl, hb⟩
  have H1 := Lib.hid (H.out.2.1.trans (hb.mono H.out.2.1.size))
  clear hb
  go_wp2_with fail
  go_ret
  exact ⟨_, rfl, World.ownsRow_nil _ _ _ _, H1.out⟩
theorem best_lt {f : Rl.Rows} {a l R : Nat} {i : Int} (hb : Rl.bestN f a = (l, i)) (hR : Rl.stepsN f a a a = R) (h : R < l) : Rl.bestN f (a + 1) = (R, (a : Int)) := by
  unfold Rl.bestN; rw [hb, hR]; exact if_pos h
theorem best_ge {f : Rl.Rows} {a l R : Nat} {i : Int} (hb : Rl.bestN f a = (l, i)) (hR : Rl.stepsN f a a a = R) (h : ¬ R < l) : Rl.bestN f (a + 1) = (l, i) := by
  unfold Rl.bestN; rw [hb, hR]; exact if_neg h
theorem take_len {l : List Nat} : l.take l.length = l := List.take_of_length_le (Nat.le_refl _)
set_option maxRecDepth 100000 in
set_option maxHeartbeats 8000000 in
theorem rring_cyc (n : Nat) (f : Rl.Rows) (w : World) (hr : Rl.Ok n f) (he : (topR n f).isSome = false) (s : Nat) (R : List Nat) (hR : Rl.Rng n f s R) :
    Calls Tryd.prog 33 #[.agg (relC n f)] w (RingOut R w) := by
  have hn := hr.le
  have hsn := hR.sn
  obtain ⟨L, hL⟩ : ∃ L, L = R.length := ⟨_, rfl⟩
  have hL48 : L ≤ 48 := by rw [hL]; exact hR.le
  have hLp : 0 < L := by rw [hL]; exact hR.pos
  have hbn : Rl.bestN f n = (L, (s : Int)) := by rw [hL]; exact hR.best
  obtain ⟨i0, hi, hz0, hz1, hz2⟩ := info_parts infoInt
  have H := Lib.hid (And.intro (RelAt.new w n f) (And.intro ((Below.refl w.heap.size w).alloc (Nat.le_refl _) (.cells (relC n f) 26)) (And.intro he (And.intro hr (And.intro hR (And.intro hL hbn))))))
  clear hr he hR hL hbn
  go_enter Tryd.func33, Tryd.ntmps33
  go_wp2_with (refine wpList_load_rel (by rfl) (.tmp 1) (by rfl) w.heap.size n f (by rfl) H.out.1 ?_)
  with_reducible refine (racyc_is n f false H.out.2.2.1 _ H.out.2.2.2.1.z).mono ?_
  rintro e w1 ⟨rfl, hb⟩
  have H1 := Lib.hid (And.intro (H.out.1.below hb H.out.1.lt) (H.out.2.1.trans (hb.mono H.out.2.1.size)))
  clear hb
  go_wp2_with (refine wpList_load_rel_want (by rfl) (.tmp 1) (by rfl) w.heap.size n f (by rfl) H1.out.1 ?_)
  with_reducible refine (rright_is n f true (Rl.right_of H.out.2.2.2.1) _ H.out.2.2.2.1.z).mono ?_
  rintro e w2 ⟨rfl, hb⟩
  have H2 := Lib.hid (And.intro (H1.out.1.below hb H1.out.1.lt) (H1.out.2.trans (hb.mono H1.out.2.size)))
  clear hb
  go_wp2_with fail
  go_loopw [3, 4, 5, 6] (fun l x i _ wr => ∃ a : Nat, a ≤ n ∧ i = .int .i64 a ∧ l = .int .i64 ((Rl.bestN f a).1 : Nat) ∧ x = .int .i64 (Rl.bestN f a).2 ∧ Below w2.heap.size w2 wr) (fun _ _ i _ _ => n - (intOf i).toNat)
  case atStart => exact ⟨0, Nat.zero_le _, rfl, rfl, rfl, Below.refl _ _⟩
  case round =>
    obtain ⟨a, ha, rfl, rfl, rfl, hb⟩ := hrel
    have hRa := H2.out.1.below hb H2.out.1.lt
    have c0 := hRa.num
    have HR := Lib.hid (And.intro hb hRa)
    clear hb hRa
    by_cases hlt : a < n
    · obtain ⟨⟨l0, x0⟩, hp⟩ : ∃ p, Rl.bestN f a = p := ⟨_, rfl⟩
      obtain ⟨R0, hR0⟩ : ∃ p, Rl.stepsN f a a a = p := ⟨_, rfl⟩
      rw [hp]
      have HP := Lib.hid (And.intro hp hR0)
      clear hp hR0
      dsimp only
      go_wp2_with (refine wpList_load_rel (by rfl) (.tmp 1) (by rfl) w.heap.size n f (by rfl) HR.out.2 ?_)
      with_reducible refine (rsteps_is n f a a a R0 HP.out.2 _ H.out.2.2.2.1 (by omega) (by omega) (by omega)).mono ?_
      rintro e w4 ⟨rfl, hb4⟩
      have H4 := Lib.hid (HR.out.1.trans (hb4.mono HR.out.1.size))
      clear hb4
      by_cases hlb : R0 < l0
      · have d0 : decide ((R0 : Int) < (l0 : Int)) = true := decide_eq_true (by omega)
        have d1 : decide (R0 < l0) = true := decide_eq_true hlb
        go_wp2_with fail
        go_roundw
        case rel => exact ⟨a + 1, by omega, by go_num, by rw [best_lt HP.out.1 HP.out.2 hlb], by rw [best_lt HP.out.1 HP.out.2 hlb], H4.out⟩
        case measure => simp [intOf]; omega
      · have d0 : decide ((R0 : Int) < (l0 : Int)) = false := decide_eq_false (by omega)
        have d1 : decide (R0 < l0) = false := decide_eq_false hlb
        go_wp2_with fail
        go_roundw
        case rel => exact ⟨a + 1, by omega, by go_num, by rw [best_ge HP.out.1 HP.out.2 hlb], by rw [best_ge HP.out.1 HP.out.2 hlb], H4.out⟩
        case measure => simp [intOf]; omega
    · have han : n = a := by omega
      subst han
      rw [H.out.2.2.2.2.2.2]
      dsimp only
      go_wp2_with fail
      obtain ⟨W0, rfl⟩ : ∃ W0, W0 = wr := ⟨wr, rfl⟩
      have hW0 : w.heap.size ≤ W0.heap.size := Nat.le_trans H2.out.2.size HR.out.1.size
      have hlit := World.ownsRow_lit (base := W0.heap.size) (e := 3) (size := 1) W0 #[.int .i64 s] 1 (Nat.le_refl _) (by unfold maxLen; omega) rfl
      have HL := Lib.hid (And.intro hlit (And.intro ((Below.refl W0.heap.size W0).alloc (Nat.le_refl _) (.cells #[.int .i64 s] 3)) (H2.out.2.trans (HR.out.1.mono H2.out.2.size))))
      have ht1 : R.take (0 + 1) = [s] := by rw [List.take_add_one, H.out.2.2.2.2.1.fst]; rfl
      have HT1 := Lib.hid ht1
      clear hlit ht1 c0
      go_loopw [7, 8, 9] (fun v i _ wr => ∃ q : Nat, q < L ∧ i = .int .i64 ((L - (q + 1) : Nat) : Int) ∧ wr.ownsRow W0.heap.size 3 1 v (q + 1) (nums (R.take (q + 1))) ∧ Below W0.heap.size W0 wr) (fun v _ _ _ => L - lenV v)
      case atStart => exact ⟨0, hLp, by congr 1; omega, by rw [HT1.out]; exact HL.out.1, HL.out.2.1⟩
      case round =>
        obtain ⟨q, hq, rfl, hrow, hb⟩ := hrel
        obtain ⟨l, hl⟩ : ∃ l, l = L - (q + 1) := ⟨_, rfl⟩
        rw [← hl]
        by_cases hq1 : q + 1 < L
        · obtain ⟨x, hx⟩ : ∃ x, R[q]? = some x := ⟨_, List.getElem?_eq_getElem (by rw [← H.out.2.2.2.2.2.1]; exact hq)⟩
          obtain ⟨y, hy⟩ : ∃ y, R[q + 1]? = some y := ⟨_, List.getElem?_eq_getElem (by rw [← H.out.2.2.2.2.2.1]; exact hq1)⟩
          have hxn := H.out.2.2.2.2.1.lt q x hx
          have hyn := H.out.2.2.2.2.1.lt (q + 1) y hy
          obtain ⟨hsy, hty, htc⟩ := H.out.2.2.2.2.1.next q x y hx hy
          rw [← H.out.2.2.2.2.2.1, ← hl] at hty htc
          have htk : R.take (q + 1 + 1) = R.take (q + 1) ++ [y] := by rw [List.take_add_one, hy]; rfl
          obtain ⟨g, cap, hv, hg1, hg2⟩ := hrow.form (by omega)
          subst hv
          have hxg : (nums (R.take (q + 1)))[q]? = some (.int .i64 (x : Int)) := by
            unfold nums; rw [List.getElem?_map, List.getElem?_take, if_pos (by omega), hx]; rfl
          obtain ⟨M, hM⟩ : ∃ M, M = R.take (q + 1) := ⟨_, rfl⟩
          rw [← hM] at hrow htk hxg
          obtain ⟨N, hN⟩ : ∃ N, N = q + 1 := ⟨_, rfl⟩
          rw [← hN] at hrow htk hq1 ⊢
          have l0 : decide ((0 : Int) < (l : Int)) = true := decide_eq_true (by omega)
          have l1 : decide (0 < l) = true := decide_eq_true (by omega)
          have HF := Lib.hid (And.intro hrow (And.intro hty (And.intro htc (And.intro htk (And.intro hxg (And.intro hb (And.intro hl hN)))))))
          have hqN : q < N := by omega
          have hN48 : N ≤ 48 := by omega
          have q2 : (0 : Int) ≤ (q : Int) := by omega
          have q3 : (q : Int) < (N : Int) := by omega
          have q7 : IntKind.i64.wrap ((l : Int) - 1) = ((l - 1 : Nat) : Int) := by rw [IntWalk.i64_in _ (by omega)]; omega
          have q6 : IntKind.i64.wrap ((N : Int) - 1) = (q : Int) := by rw [IntWalk.i64_in _ (by omega)]; omega
          clear hrow hty htc htk hxg hb hx hy hg1 hg2 hM hl hN
          go_wp2_with fail
          go_loopw [7, 9] (fun v i wi => v = .slice (some ⟨g, 0, none⟩) N cap ∧ ∃ b : Nat, s < b ∧ b ≤ y ∧ i = .int .i64 b ∧ Below wr.heap.size wr wi) (fun _ i _ => n - (intOf i).toNat)
          case atStart => exact ⟨rfl, s + 1, by omega, by omega, by go_num, Below.refl _ _⟩
          case round =>
            obtain ⟨rfl, b, hsb, hby, rfl, hb2⟩ := hrel
            have hbw := HF.out.2.2.2.2.2.1.trans (hb2.mono HF.out.2.2.2.2.2.1.size)
            have hRb := HR.out.2.below hbw HR.out.2.lt
            have hrb := ownsRow_below2 HF.out.1 hb2
            have cN := hRb.num
            have c1 : decide ((b : Int) < (n : Int)) = true := decide_eq_true (by omega)
            have c2 : decide (b < n) = true := decide_eq_true (by omega)
            have GA := Lib.hid (rel_class hRb)
            have cV := fun d os => (owns_below hrb (below_regrown wr d os) (Nat.le_refl _)).cellAt q (by omega)
            rw [HF.out.2.2.2.2.1] at cV
            have hp := pairB_ok H.out.2.2.2.1 x b
            have HB := Lib.hid (And.intro hbw (And.intro hRb (And.intro hrb hb2)))
            clear hbw hRb hrb hb2
            by_cases hlast : b = y
            · subst hlast
              have ht2 := HF.out.2.1
              unfold Rl.tstN at ht2
              rw [Bool.and_eq_true, decide_eq_true_eq] at ht2
              rw [ht2.1] at hp
              have HC := Lib.hid (And.intro hp ht2.2)
              clear hp ht2
              go_wp2_with fail
              refine wp_region_quiet_below (by kernel_rfl) (by kernel_rfl) ?_
              repeat (first | (refine wpQuiet_load_rel (by rfl) _ (by rfl) w.heap.size n f (by rfl) GA.out ?_) | go_big_quiet_step (first | (go_at_call 63; with_reducible exact Calls.regrown_of (rpair_is n f x b true HC.out.1 _ H.out.2.2.2.1.z)) | (go_at_call 86; with_reducible exact Calls.regrown_of (rsteps_is n f b s s l HC.out.2 _ H.out.2.2.2.1 (by omega) (by omega) (by omega))) | fail) | quiet_step (first | (go_at_call 63; with_reducible exact Calls.regrown_of (rpair_is n f x b true HC.out.1 _ H.out.2.2.2.1.z)) | (go_at_call 86; with_reducible exact Calls.regrown_of (rsteps_is n f b s s l HC.out.2 _ H.out.2.2.2.1 (by omega) (by omega) (by omega))) | fail))
              refine wpQuiet_nil ?_
              intro W1 hw1
              have hb1 : Below wr.heap.size wr W1 := by obtain ⟨⟨d, os⟩, rfl⟩ := hw1; exact below_regrown _ _ _
              have hW1 : W0.heap.size ≤ W1.heap.size := Nat.le_trans HB.out.1.size hb1.size
              have H1x := Lib.hid (And.intro (owns_below HB.out.2.2.1 hb1 (Nat.le_refl _)) (HB.out.1.trans (hb1.mono HB.out.1.size)))
              clear hw1 hb1 cV
              go_wp2_with (at_builtin; refine wpList_append_own _ rfl _ _ 35 rfl W0.heap.size 3 i0 (.int .i64 0) 1 8 Tryd.underlying35 hi hz0 hz1 hz2 rfl (by decide) _ _ _ rfl (H1x.out.1.alloc _) ⟨W1.heap.size, 0, none⟩ 1 1 [.int .i64 b] rfl rfl (cell_one_new _ _ _) (by simp [Value.oneCell']) (by unfold maxLen; omega) (by omega) (by simp; omega) ?_; intro v' w7 hown' hgrow hnil')
              have hown2 : w7.ownsRow W0.heap.size 3 1 v' (N + 1) (nums (M ++ [b])) := by rw [nums_snoc]; exact hown'
              obtain ⟨A9, cap9, hv9, _, _, _⟩ := row_nums hown2
              have hbn := (H1x.out.2.alloc hW1 (.cells #[.int .i64 b] 3)).grown hgrow (by simp; omega) (fun z e => (H1x.out.1.lt z e).1)
              have H9 := Lib.hid (And.intro hown2 hbn)
              subst hv9
              clear hown' hgrow hnil' hbn hown2
              go_wp2_with fail
              go_roundw
              case rel =>
                have e1 := HF.out.2.2.2.2.2.2.2
                have e2 := HF.out.2.2.2.2.2.2.1
                refine ⟨q + 1, by omega, by congr 1; omega, ?_, H9.out.2⟩
                rw [← e1, HF.out.2.2.2.1]; exact H9.out.1
              case measure => simp [lenV]; omega
            · have ht2 := HF.out.2.2.1 b hsb (by omega)
              unfold Rl.tstN at ht2
              cases hbit : Rl.bit f x b
              · rw [hbit] at hp
                have HC := Lib.hid hp
                clear hp ht2 hbit
                go_wp2_with fail
                refine wp_region_quiet_below (by kernel_rfl) (by kernel_rfl) ?_
                repeat (first | (refine wpQuiet_load_rel (by rfl) _ (by rfl) w.heap.size n f (by rfl) GA.out ?_) | go_big_quiet_step (first | (go_at_call 63; with_reducible exact Calls.regrown_of (rpair_is n f x b false HC.out _ H.out.2.2.2.1.z)) | fail) | quiet_step (first | (go_at_call 63; with_reducible exact Calls.regrown_of (rpair_is n f x b false HC.out _ H.out.2.2.2.1.z)) | fail))
                refine wpQuiet_nil ?_
                intro W1 hw1
                have hb1 : Below wr.heap.size wr W1 := by obtain ⟨⟨d, os⟩, rfl⟩ := hw1; exact below_regrown _ _ _
                have H1x := Lib.hid (HB.out.2.2.2.trans (hb1.mono HB.out.2.2.2.size))
                clear hw1 hb1 cV
                go_wp2_with fail
                go_roundw
                case rel => exact ⟨by first | rfl | trivial, b + 1, by omega, by omega, by go_num, H1x.out⟩
                case measure => simp [intOf]; omega
              · rw [hbit] at hp
                rw [hbit, Bool.true_and] at ht2
                obtain ⟨k, hk⟩ : ∃ k, Rl.stepsN f b s s = k := ⟨_, rfl⟩
                rw [hk] at ht2
                have hkl : ¬ k = l := of_decide_eq_false ht2
                have e0 : ((k : Int) == (l : Int)) = false := by simp; omega
                have HC := Lib.hid (And.intro hp hk)
                clear hp ht2 hbit hk hkl
                go_wp2_with fail
                refine wp_region_quiet_below (by kernel_rfl) (by kernel_rfl) ?_
                repeat (first | (refine wpQuiet_load_rel (by rfl) _ (by rfl) w.heap.size n f (by rfl) GA.out ?_) | go_big_quiet_step (first | (go_at_call 63; with_reducible exact Calls.regrown_of (rpair_is n f x b true HC.out.1 _ H.out.2.2.2.1.z)) | (go_at_call 86; with_reducible exact Calls.regrown_of (rsteps_is n f b s s k HC.out.2 _ H.out.2.2.2.1 (by omega) (by omega) (by omega))) | fail) | quiet_step (first | (go_at_call 63; with_reducible exact Calls.regrown_of (rpair_is n f x b true HC.out.1 _ H.out.2.2.2.1.z)) | (go_at_call 86; with_reducible exact Calls.regrown_of (rsteps_is n f b s s k HC.out.2 _ H.out.2.2.2.1 (by omega) (by omega) (by omega))) | fail))
                refine wpQuiet_nil ?_
                intro W1 hw1
                have hb1 : Below wr.heap.size wr W1 := by obtain ⟨⟨d, os⟩, rfl⟩ := hw1; exact below_regrown _ _ _
                have H1x := Lib.hid (HB.out.2.2.2.trans (hb1.mono HB.out.2.2.2.size))
                clear hw1 hb1 cV
                go_wp2_with fail
                go_roundw
                case rel => exact ⟨by first | rfl | trivial, b + 1, by omega, by omega, by go_num, H1x.out⟩
                case measure => simp [intOf]; omega
        · have hl0 : l = 0 := by omega
          subst hl0
          have hqL : q + 1 = R.length := by rw [← H.out.2.2.2.2.2.1]; omega
          rw [hqL, take_len] at hrow
          have HF := Lib.hid (And.intro (owns_base hrow hW0) (HL.out.2.2.trans (hb.mono hW0)))
          clear hrow hb hl hq hq1 hqL
          go_wp2_with fail
          go_ret
          exact ⟨_, rfl, HF.out.1, HF.out.2⟩
theorem rring_any (n : Int) (f : Rl.Rows) (w : World) (zf : Rl.Z f) :
    Calls Tryd.prog 33 #[.agg (relC n f)] w (RingOut (ringR n f) w) := by
  unfold ringR
  cases h : Rl.rightB n f
  · rw [if_neg (by simp)]; exact rring_not n f w zf h
  · obtain ⟨m, rfl, hm⟩ := Rl.right_nat zf h
    rw [if_pos rfl, Int.toNat_natCast]
    have ht : (topR m f).isSome = (Rl.topL m f).isSome := by unfold topR; rw [h, if_pos rfl, Int.toNat_natCast]
    rcases Rl.ring_ref hm with ⟨h1, h2⟩ | ⟨s, hs⟩
    · rw [h1]; exact rring_top m f w zf (by rw [ht]; exact (Rl.top_iff hm).2 h2)
    · refine rring_cyc m f w hm ?_ s _ hs
      rw [ht]
      cases hb : (Rl.topL m f).isSome
      · rfl
      · have hno := (Rl.top_iff hm).1 hb
        rcases Rl.ring_cyc hm with ⟨h3, _⟩ | h3
        · have := hs.pos; rw [h3] at this; simp at this
        · obtain ⟨a, p⟩ := h3.round; exact absurd p.path (hno a)
end Go.Proofs.YtknjdfgmejobfaaDoor

/- reference of layer 2: Back. -/
namespace Go.Proofs.YtknjdfgmejobfaaDoor
open Go.RowKit Go.Shelf

attribute [-go_sem] run_eql_struct run_neq_struct
attribute [local go_sem] Bv.and_u Bv.or_u Bv.andNot_u Bv.wrap_sub1 Bv.eq0 Bv.ne0 Bv.wrap_pow Bv.wrap_powmin Bv.wrap_neg Bv.eq_u Bv.ne_u Bv.shr_min Bv.shr_pow Bv.tmod2 Bv.and1 Bv.wrap_add Bv.B1_eq1 Bv.B1_eq0 Bv.B1_ne1 Bv.B1_ne0

/-- what is laid down when the walk stands at (a, b) -/
def Upto (T : Nat → Nat → Bool) (a b : Nat) (g : Rl.Rows) : Prop := ∀ x y, Rl.bit g x y = (T x y && (decide (x < a) || (decide (x = a) && decide (y < b))))
theorem Upto.miss {T : Nat → Nat → Bool} {a b : Nat} {g : Rl.Rows} (h : Upto T a b g) (ht : T a b = false) : Upto T a (b + 1) g := fun x y => by
  rw [h x y]
  by_cases e : x = a
  · subst e
    by_cases e2 : y = b
    · subst e2; rw [ht]; simp
    · have : decide (y < b + 1) = decide (y < b) := by rw [decide_eq_decide]; omega
      rw [this]
  · simp [e]
theorem Upto.hit {T : Nat → Nat → Bool} {a b : Nat} {g : Rl.Rows} (h : Upto T a b g) (ht : T a b = true) (hb : b < 64) : Upto T a (b + 1) (upd g a (g a ||| Bv.bit b)) := fun x y => by
  rw [upd_bit _ _ _ _ _ hb, h x y]
  by_cases e : x = a
  · subst e
    by_cases e2 : y = b
    · subst e2; rw [ht]; simp
    · have : decide (y < b + 1) = decide (y < b) := by rw [decide_eq_decide]; omega
      rw [this]; simp [e2]
  · simp [e]
theorem Upto.row {T : Nat → Nat → Bool} {a n : Nat} {g : Rl.Rows} (h : Upto T a n g) (hT : ∀ x y, T x y = true → y < n) : Upto T (a + 1) 0 g := fun x y => by
  rw [h x y]
  cases ht : T x y
  · simp
  · have hy := hT x y ht
    rw [decide_eq_true hy, Bool.eq_iff_iff]; simp; omega
theorem Upto.start (T : Nat → Nat → Bool) : Upto T 0 0 zeroR := fun x y => by
  have : Rl.bit zeroR x y = false := by unfold Rl.bit zeroR; exact Bv.zero_get y
  rw [this]; simp
theorem Upto.done {T : Nat → Nat → Bool} {n : Nat} {g f : Rl.Rows} (h : Upto T n 0 g) (hT : ∀ x y, T x y = true → x < n) (hf : ∀ x y, Rl.bit f x y = T x y) : g = f := Rl.rows_ext fun x y _ => by
  rw [h x y, hf]
  cases ht : T x y
  · simp
  · have := hT x y ht; simp; omega
set_option maxRecDepth 100000 in
set_option maxHeartbeats 2000000 in
theorem rback_yes (n : Nat) (f : Rl.Rows) (w : World) (hr : Rl.Ok n f) :
    Calls Tryd.prog 65 #[.agg (relC n f)] w fun e w' => e = .returned (.agg (relC n (Rl.backF n f))) ∧ Below w.heap.size w w' := by
  have hzr := zero_rel
  have hbr := build_rel
  have hne0 : ¬ relC 0 zeroR = #[] := by intro h; have := congrArg Array.size h; rw [relC_size] at this; simp at this
  have hn := hr.le
  have hH := ((Held.nil w).box n f).box 0 zeroR
  simp only [World.size_alloc] at hH
  have H0 := Lib.hid (And.intro hH (And.intro (Rl.right_of hr) hr))
  clear hH hr
  go_enter Tryd.func65, Tryd.ntmps65
  go_wp2_with (refine wpList_load_rel (by rfl) (.tmp 1) (by rfl) w.heap.size n f (by rfl) (H0.out.1.at 0 rfl) ?_)
  generalize (w.alloc (.cells (relC n f) 26)).alloc (.cells (relC 0 zeroR) 26) = W0 at H0 ⊢
  with_reducible refine (rright_is n f true H0.out.2.1 _ H0.out.2.2.z).mono ?_
  rintro e w1 ⟨rfl, hb⟩
  have H1 := Lib.hid (H0.out.1.step hb)
  have c0 := (H1.out.at 0 rfl).num
  clear hb
  go_wp2_with (refine wpList_store_rel (by rfl) (.tmp 3) (.tmp 12) (by rfl) w1.heap.size n 0 zeroR zeroR (by rfl) (by rfl) (RelAt.new w1 0 zeroR) ?_; intro w2 hR hg; have H2 := Lib.hid (H1.out.push hR hg); clear hR hg)
  clear c0
  go_loopw [4, 5] (fun i _ wr => ∃ a : Nat, a ≤ n ∧ i = .int .i64 a ∧ ∃ g, Upto (fun x y => Rl.bit f y x) a 0 g ∧ Held w [(w.heap.size, (n : Int), f), (w.heap.size + 1, 0, zeroR), (w1.heap.size, (n : Int), g)] wr) (fun i _ _ => n - (intOf i).toNat)
  case atStart => exact ⟨0, Nat.zero_le _, rfl, zeroR, Upto.start _, H2.out⟩
  case round =>
    obtain ⟨a, ha, rfl, g, hg, hh⟩ := hrel
    have c0 := (hh.at 0 rfl).num
    have HG := Lib.hid (And.intro hg hh)
    clear hg hh
    by_cases hlt : a < n
    · go_wp2_with fail
      go_loopw [5] (fun j wr => ∃ b : Nat, b ≤ n ∧ j = .int .i64 b ∧ ∃ g, Upto (fun x y => Rl.bit f y x) a b g ∧ Held w [(w.heap.size, (n : Int), f), (w.heap.size + 1, 0, zeroR), (w1.heap.size, (n : Int), g)] wr) (fun j _ => n - (intOf j).toNat)
      case atStart => exact ⟨0, Nat.zero_le _, rfl, g, HG.out.1, HG.out.2⟩
      case round =>
        obtain ⟨b, hb', rfl, g2, hg2, hh2⟩ := hrel
        have c0 := (hh2.at 0 rfl).num
        by_cases hltb : b < n
        · have c1 := (hh2.at 0 rfl).row b (by omega)
          have q0 : (0 : Int) ≤ (b : Int) := by omega
          have q1 : (b : Int) < 48 := by omega
          have h1 := hasB_nat (f b) a (by omega)
          cases b1 : Bv.G (f b) a
          · rw [b1] at h1
            have HH := Lib.hid (And.intro h1 (And.intro (hg2.miss (show Rl.bit f b a = false from b1)) hh2))
            clear h1 b1 hg2 hh2
            go_wp2_with fail
            with_reducible refine (rhas_is (f b) a false HH.out.1 _).mono ?_
            rintro e w' ⟨rfl, rfl⟩
            go_wp2_with fail
            go_roundw
            case rel => exact ⟨b + 1, by omega, by go_num, g2, HH.out.2.1, HH.out.2.2⟩
            case measure => simp [intOf]; omega
          · rw [b1] at h1
            have HH := Lib.hid (And.intro h1 (And.intro (hg2.hit (show Rl.bit f b a = true from b1) (by omega)) hh2))
            clear h1 b1 hg2 hh2
            go_wp2_with fail
            with_reducible refine (rhas_is (f b) a true HH.out.1 _).mono ?_
            rintro e w' ⟨rfl, rfl⟩
            go_wp2_with (refine wpList_load_rel (by rfl) (.tmp 3) (by rfl) w1.heap.size n g2 (by rfl) (HH.out.2.2.at 2 rfl) ?_)
            with_reducible refine (rwithP_is n g2 a b _ (by omega) (by omega)).mono ?_
            rintro e w3 ⟨rfl, hb3⟩
            have H3 := Lib.hid (HH.out.2.2.step hb3)
            clear hb3
            go_wp2_with (refine wpList_store_rel (by rfl) (.tmp 3) (.tmp 34) (by rfl) w1.heap.size n n (upd g2 a (g2 a ||| Bv.bit b)) g2 (by rfl) (by rfl) (H3.out.at 2 rfl) ?_; intro w4 hR hg; have H4 := Lib.hid (H3.out.put 2 rfl hR hg); clear hR hg)
            go_roundw
            case rel => exact ⟨b + 1, by omega, by go_num, _, HH.out.2.1, H4.out⟩
            case measure => simp [intOf]; omega
        · have hbn : b = n := by omega
          subst hbn
          have HH := Lib.hid (And.intro (hg2.row (fun x y h => (H0.out.2.2.in_ y x h).1)) hh2)
          clear hg2 hh2
          go_wp2_with fail
          go_roundw
          case rel => exact ⟨a + 1, by omega, by go_num, g2, HH.out.1, HH.out.2⟩
          case measure => simp [intOf]; omega
    · have han : a = n := by omega
      subst han
      have hgf := HG.out.1.done (f := Rl.backF a f) (fun x y h => (H0.out.2.2.in_ y x h).2) (fun x y => Rl.back_ok H0.out.2.2 x y)
      have hh := HG.out.2
      rw [hgf] at hh
      have HH := Lib.hid hh
      clear hh hgf
      go_wp2_with (first | (refine wpList_load_rel (by rfl) (.tmp 3) (by rfl) w1.heap.size a (Rl.backF a f) (by rfl) (HH.out.at 2 rfl) ?_) | (refine wpList_store_rel (by rfl) (.tmp 2) (.tmp 35) (by rfl) (w.heap.size + 1) a 0 (Rl.backF a f) zeroR (by rfl) (by rfl) (HH.out.at 1 rfl) ?_; intro w5 hR hg; have H5 := Lib.hid (And.intro hR (HH.out.put 1 rfl hR hg)); clear hR hg))
      refine bodyPost_ret (results_cell_row rfl _ _ (w.heap.size + 1) 26 (relC a (Rl.backF a f)) (0, 0) _ rfl H5.out.1 uRel rfl (sRelC _ _)) rfl ⟨rfl, H5.out.2.bel⟩
end Go.Proofs.YtknjdfgmejobfaaDoor

/- reference of layer 2: Cross. -/
namespace Go.Proofs.YtknjdfgmejobfaaDoor
open Go.RowKit Go.Shelf

attribute [-go_sem] run_eql_struct run_neq_struct
attribute [local go_sem] Bv.and_u Bv.or_u Bv.andNot_u Bv.wrap_sub1 Bv.eq0 Bv.ne0 Bv.wrap_pow Bv.wrap_powmin Bv.wrap_neg Bv.eq_u Bv.ne_u Bv.shr_min Bv.shr_pow Bv.tmod2 Bv.and1 Bv.wrap_add Bv.B1_eq1 Bv.B1_eq0 Bv.B1_ne1 Bv.B1_ne0
/-- the pairs of a cross product -/
def crossT (n : Nat) (s t : BitVec 64) (x y : Nat) : Bool := decide (x < n) && decide (y < n) && (Bv.G s x && Bv.G t y)
theorem cross_T {n : Nat} (hn : n ≤ 48) (s t : BitVec 64) (x y : Nat) : Rl.bit (Rl.crossF n s t) x y = crossT n s t x y := by
  unfold Rl.crossF crossT
  rw [Rl.cut_bit]
  show _ = _
  unfold Rl.bit
  simp only []
  by_cases hx : x < n
  · rw [decide_eq_true hx]
    cases hs : s.getLsbD x
    · rw [show Bv.G s x = false from hs, if_neg (by simp), Bv.zero_get]; simp
    · rw [show Bv.G s x = true from hs, if_pos rfl, Bool.true_and, Bool.true_and, Bool.true_and]
      by_cases hy : y < 64
      · rw [BitVec.getLsbD_and, Rl.below_getN _ _ hy, Bool.and_comm]; rfl
      · have h1 : (t &&& Rl.below (n : Int)).getLsbD y = false := by
          cases h : (t &&& Rl.below (n : Int)).getLsbD y
          · rfl
          · exact absurd (Bx.lt64 h) hy
        rw [h1, decide_eq_false (by omega)]; rfl
  · rw [decide_eq_false hx]; simp
set_option maxRecDepth 100000 in
set_option maxHeartbeats 2000000 in
theorem rcross_yes (n : Nat) (s t : BitVec 64) (w : World) (hn : n ≤ 48) :
    Calls Tryd.prog 61 #[.int .i64 n, .int .u64 (Bv.U s), .int .u64 (Bv.U t)] w fun e w' => e = .returned (.agg (relC n (Rl.crossF n s t))) ∧ Below w.heap.size w w' := by
  have hzr := zero_rel
  have hbr := build_rel
  have hne0 : ¬ relC 0 zeroR = #[] := by intro h; have := congrArg Array.size h; rw [relC_size] at this; simp at this
  have hH := (Held.nil w).box 0 zeroR
  have H0 := Lib.hid hH
  clear hH
  have d0 : decide ((n : Int) < 0) = false := decide_eq_false (by omega)
  have d1 : decide ((48 : Int) < (n : Int)) = false := decide_eq_false (by omega)
  have d2 : decide (48 < n) = false := decide_eq_false (by omega)
  have d3 : ¬ ((n : Int) < 0) := by omega
  go_enter Tryd.func61, Tryd.ntmps61
  go_wp2_with (refine wpList_store_rel (by rfl) (.tmp 7) (.tmp 18) (by rfl) (w.heap.size + 1) n 0 zeroR zeroR (by rfl) (by rfl) (by simpa using RelAt.new (w.alloc (.cells (relC 0 zeroR) 26)) 0 zeroR) ?_; intro w2 hR hg; have H2 := Lib.hid (H0.out.push (by simpa using hR) (by simpa using hg)); clear hR hg)
  have H3 := H2
  rw [show (w.alloc (.cells (relC 0 zeroR) 26)).heap.size = w.heap.size + 1 from by simp] at H3
  have hTn : ∀ x y, crossT n s t x y = true → x < n ∧ y < n := fun x y h => by
    unfold crossT at h; rw [Bool.and_eq_true, Bool.and_eq_true, decide_eq_true_eq, decide_eq_true_eq] at h; exact h.1
  have HT := Lib.hid hTn
  clear hTn H2 d0 d1 d2 d3
  go_loopw [8, 9] (fun i _ wr => ∃ a : Nat, a ≤ n ∧ i = .int .i64 a ∧ ∃ g, Upto (crossT n s t) a 0 g ∧ Held w [(w.heap.size, 0, zeroR), (w.heap.size + 1, (n : Int), g)] wr) (fun i _ _ => n - (intOf i).toNat)
  case atStart => exact ⟨0, Nat.zero_le _, rfl, zeroR, Upto.start _, H3.out⟩
  case round =>
    obtain ⟨a, ha, rfl, g, hg, hh⟩ := hrel
    have HG := Lib.hid (And.intro hg hh)
    clear hg hh
    by_cases hlt : a < n
    · go_wp2_with fail
      go_loopw [9] (fun j wr => ∃ b : Nat, b ≤ n ∧ j = .int .i64 b ∧ ∃ g, Upto (crossT n s t) a b g ∧ Held w [(w.heap.size, 0, zeroR), (w.heap.size + 1, (n : Int), g)] wr) (fun j _ => n - (intOf j).toNat)
      case atStart => exact ⟨0, Nat.zero_le _, rfl, g, HG.out.1, HG.out.2⟩
      case round =>
        obtain ⟨b, hb', rfl, g2, hg2, hh2⟩ := hrel
        by_cases hltb : b < n
        · have h1 := hasB_nat s a (by omega)
          have h2 := hasB_nat t b (by omega)
          have hct : crossT n s t a b = (Bv.G s a && Bv.G t b) := by unfold crossT; rw [decide_eq_true hlt, decide_eq_true hltb]; rfl
          cases b1 : Bv.G s a
          · rw [b1] at h1 hct
            have HH := Lib.hid (And.intro h1 (And.intro (hg2.miss hct) hh2))
            clear h1 h2 b1 hg2 hh2 hct
            go_wp2_with fail
            with_reducible refine (rhas_is s a false HH.out.1 _).mono ?_
            rintro e w' ⟨rfl, rfl⟩
            go_wp2_with fail
            go_roundw
            case rel => exact ⟨b + 1, by omega, by go_num, g2, HH.out.2.1, HH.out.2.2⟩
            case measure => simp [intOf]; omega
          · cases b2 : Bv.G t b
            · rw [b1, b2] at hct
              rw [b1] at h1
              rw [b2] at h2
              have HH := Lib.hid (And.intro h1 (And.intro (hg2.miss hct) (And.intro hh2 h2)))
              clear h1 h2 b1 b2 hg2 hh2 hct
              go_wp2_with fail
              with_reducible refine (rhas_is s a true HH.out.1 _).mono ?_
              rintro e w' ⟨rfl, rfl⟩
              go_wp2_with fail
              with_reducible refine (rhas_is t b false HH.out.2.2.2 _).mono ?_
              rintro e w' ⟨rfl, rfl⟩
              go_wp2_with fail
              go_roundw
              case rel => exact ⟨b + 1, by omega, by go_num, g2, HH.out.2.1, HH.out.2.2.1⟩
              case measure => simp [intOf]; omega
            · rw [b1, b2] at hct
              rw [b1] at h1
              rw [b2] at h2
              have HH := Lib.hid (And.intro h1 (And.intro (hg2.hit hct (by omega)) (And.intro hh2 h2)))
              clear h1 h2 b1 b2 hg2 hh2 hct
              go_wp2_with fail
              with_reducible refine (rhas_is s a true HH.out.1 _).mono ?_
              rintro e w' ⟨rfl, rfl⟩
              go_wp2_with fail
              with_reducible refine (rhas_is t b true HH.out.2.2.2 _).mono ?_
              rintro e w' ⟨rfl, rfl⟩
              go_wp2_with (refine wpList_load_rel (by rfl) (.tmp 7) (by rfl) (w.heap.size + 1) n g2 (by rfl) (HH.out.2.2.1.at 1 rfl) ?_)
              with_reducible refine (rwithP_is n g2 a b _ (by omega) (by omega)).mono ?_
              rintro e w3 ⟨rfl, hb3⟩
              have H4 := Lib.hid (HH.out.2.2.1.step hb3)
              clear hb3
              go_wp2_with (refine wpList_store_rel (by rfl) (.tmp 7) (.tmp 40) (by rfl) (w.heap.size + 1) n n (upd g2 a (g2 a ||| Bv.bit b)) g2 (by rfl) (by rfl) (H4.out.at 1 rfl) ?_; intro w4 hR hg; have H5 := Lib.hid (H4.out.put 1 rfl hR hg); clear hR hg)
              go_roundw
              case rel => exact ⟨b + 1, by omega, by go_num, _, HH.out.2.1, H5.out⟩
              case measure => simp [intOf]; omega
        · have hbn : b = n := by omega
          subst hbn
          have HH := Lib.hid (And.intro (hg2.row (fun x y h => (HT.out x y h).2)) hh2)
          clear hg2 hh2
          go_wp2_with fail
          go_roundw
          case rel => exact ⟨a + 1, by omega, by go_num, g2, HH.out.1, HH.out.2⟩
          case measure => simp [intOf]; omega
    · have han : a = n := by omega
      subst han
      have hgf := HG.out.1.done (f := Rl.crossF a s t) (fun x y h => (HT.out x y h).1) (cross_T hn s t)
      have hh := HG.out.2
      rw [hgf] at hh
      have HH := Lib.hid hh
      clear hh hgf
      go_wp2_with (first | (refine wpList_load_rel (by rfl) (.tmp 7) (by rfl) (w.heap.size + 1) a (Rl.crossF a s t) (by rfl) (HH.out.at 1 rfl) ?_) | (refine wpList_store_rel (by rfl) (.tmp 6) (.tmp 41) (by rfl) w.heap.size a 0 (Rl.crossF a s t) zeroR (by rfl) (by rfl) (HH.out.at 0 rfl) ?_; intro w5 hR hg; have H5 := Lib.hid (And.intro hR (HH.out.put 0 rfl hR hg)); clear hR hg))
      refine bodyPost_ret (results_cell_row rfl _ _ w.heap.size 26 (relC a (Rl.crossF a s t)) (0, 0) _ rfl H5.out.1 uRel rfl (sRelC _ _)) rfl ⟨rfl, H5.out.2.bel⟩
end Go.Proofs.YtknjdfgmejobfaaDoor

/- reference of layer 2: Id; Cross and Id of a number that is not valid. -/
namespace Go.Proofs.YtknjdfgmejobfaaDoor
open Go.RowKit Go.Shelf

attribute [-go_sem] run_eql_struct run_neq_struct
attribute [local go_sem] Bv.and_u Bv.or_u Bv.andNot_u Bv.wrap_sub1 Bv.eq0 Bv.ne0 Bv.wrap_pow Bv.wrap_powmin Bv.wrap_neg Bv.eq_u Bv.ne_u Bv.shr_min Bv.shr_pow Bv.tmod2 Bv.and1 Bv.wrap_add Bv.B1_eq1 Bv.B1_eq0 Bv.B1_ne1 Bv.B1_ne0
set_option maxRecDepth 100000 in
set_option maxHeartbeats 2000000 in
theorem rid_yes (n : Nat) (s : BitVec 64) (w : World) (hn : n ≤ 48) :
    Calls Tryd.prog 60 #[.int .i64 n, .int .u64 (Bv.U s)] w fun e w' => e = .returned (.agg (relC n (Rl.idF n s))) ∧ Below w.heap.size w w' := by
  have hzr := zero_rel
  have hbr := build_rel
  have hne0 : ¬ relC 0 zeroR = #[] := by intro h; have := congrArg Array.size h; rw [relC_size] at this; simp at this
  have hH := (Held.nil w).box 0 zeroR
  have H0 := Lib.hid hH
  clear hH
  have d0 : decide ((n : Int) < 0) = false := decide_eq_false (by omega)
  have d1 : decide ((48 : Int) < (n : Int)) = false := decide_eq_false (by omega)
  have d2 : decide (48 < n) = false := decide_eq_false (by omega)
  have d3 : ¬ ((n : Int) < 0) := by omega
  go_enter Tryd.func60, Tryd.ntmps60
  go_wp2_with (refine wpList_store_rel (by rfl) (.tmp 5) (.tmp 15) (by rfl) (w.heap.size + 1) n 0 zeroR zeroR (by rfl) (by rfl) (by simpa using RelAt.new (w.alloc (.cells (relC 0 zeroR) 26)) 0 zeroR) ?_; intro w2 hR hg; have H2 := Lib.hid (H0.out.push (by simpa using hR) (by simpa using hg)); clear hR hg)
  have H3 := H2
  rw [show (w.alloc (.cells (relC 0 zeroR) 26)).heap.size = w.heap.size + 1 from by simp] at H3
  clear H2 d0 d1 d2 d3
  go_loopw [6] (fun i wr => ∃ a : Nat, a ≤ n ∧ i = .int .i64 a ∧ ∃ g, (∀ x y, Rl.bit g x y = (decide (x < a) && (decide (y = x) && Bv.G s x))) ∧ Held w [(w.heap.size, 0, zeroR), (w.heap.size + 1, (n : Int), g)] wr) (fun i _ => n - (intOf i).toNat)
  case atStart => exact ⟨0, Nat.zero_le _, rfl, zeroR, fun x y => by
    have : Rl.bit zeroR x y = false := by unfold Rl.bit zeroR; exact Bv.zero_get y
    rw [this]; simp, H3.out⟩
  case round =>
    obtain ⟨a, ha, rfl, g, hg, hh⟩ := hrel
    by_cases hlt : a < n
    · have h1 := hasB_nat s a (by omega)
      cases b1 : Bv.G s a
      · rw [b1] at h1
        have HH := Lib.hid (And.intro h1 (And.intro hg (And.intro hh b1)))
        clear h1 b1 hg hh
        go_wp2_with fail
        with_reducible refine (rhas_is s a false HH.out.1 _).mono ?_
        rintro e w' ⟨rfl, rfl⟩
        go_wp2_with fail
        go_roundw
        case rel => exact ⟨a + 1, by omega, by go_num, g, fun x y => by
          rw [HH.out.2.1 x y]
          by_cases e : x = a
          · subst e; rw [HH.out.2.2.2]; simp
          · have h2 : decide (x < a + 1) = decide (x < a) := by rw [decide_eq_decide]; omega
            rw [h2], HH.out.2.2.1⟩
        case measure => simp [intOf]; omega
      · rw [b1] at h1
        have HH := Lib.hid (And.intro h1 (And.intro hg (And.intro hh b1)))
        clear h1 b1 hg hh
        go_wp2_with fail
        with_reducible refine (rhas_is s a true HH.out.1 _).mono ?_
        rintro e w' ⟨rfl, rfl⟩
        go_wp2_with (refine wpList_load_rel (by rfl) (.tmp 5) (by rfl) (w.heap.size + 1) n g (by rfl) (HH.out.2.2.1.at 1 rfl) ?_)
        with_reducible refine (rwithP_is n g a a _ (by omega) (by omega)).mono ?_
        rintro e w3 ⟨rfl, hb3⟩
        have H4 := Lib.hid (HH.out.2.2.1.step hb3)
        clear hb3
        go_wp2_with (refine wpList_store_rel (by rfl) (.tmp 5) (.tmp 27) (by rfl) (w.heap.size + 1) n n (upd g a (g a ||| Bv.bit a)) g (by rfl) (by rfl) (H4.out.at 1 rfl) ?_; intro w4 hR hg; have H5 := Lib.hid (H4.out.put 1 rfl hR hg); clear hR hg)
        go_roundw
        case rel => exact ⟨a + 1, by omega, by go_num, _, fun x y => by
          rw [upd_bit _ _ _ _ _ (by omega), HH.out.2.1 x y]
          by_cases e : x = a
          · subst e; rw [HH.out.2.2.2]; simp
          · have h2 : decide (x < a + 1) = decide (x < a) := by rw [decide_eq_decide]; omega
            rw [h2]; simp [e], H5.out⟩
        case measure => simp [intOf]; omega
    · have han : a = n := by omega
      subst han
      have hgf : g = Rl.idF a s := Rl.rows_ext fun x y hy => by
        rw [hg x y]
        by_cases hx : x < a
        · rw [Rl.id_bit a s x y hx hn, decide_eq_true hx, Bool.true_and]
          by_cases e : y = x
          · subst e; rfl
          · simp [e]
        · rw [decide_eq_false hx]
          cases hb : Rl.bit (Rl.idF a s) x y
          · rfl
          · exact absurd ((Rl.ok_id hn s).in_ x y hb).1 hx
      rw [hgf] at hh
      have HH := Lib.hid hh
      clear hh hgf hg
      go_wp2_with (first | (refine wpList_load_rel (by rfl) (.tmp 5) (by rfl) (w.heap.size + 1) a (Rl.idF a s) (by rfl) (HH.out.at 1 rfl) ?_) | (refine wpList_store_rel (by rfl) (.tmp 4) (.tmp 28) (by rfl) w.heap.size a 0 (Rl.idF a s) zeroR (by rfl) (by rfl) (HH.out.at 0 rfl) ?_; intro w5 hR hg; have H5 := Lib.hid (And.intro hR (HH.out.put 0 rfl hR hg)); clear hR hg))
      refine bodyPost_ret (results_cell_row rfl _ _ w.heap.size 26 (relC a (Rl.idF a s)) (0, 0) _ rfl H5.out.1 uRel rfl (sRelC _ _)) rfl ⟨rfl, H5.out.2.bel⟩

set_option maxRecDepth 100000 in
set_option maxHeartbeats 1000000 in
theorem rid_no (n : Int) (s : BitVec 64) (w : World) (hn : n < 0 ∨ 48 < n) :
    Calls Tryd.prog 60 #[.int .i64 n, .int .u64 (Bv.U s)] w fun e w' => e = .returned (.agg (relC 0 zeroR)) ∧ Below w.heap.size w w' := by
  have hzr := zero_rel
  have hbz := build_zero
  have H0 := Lib.hid ((Held.nil w).box 0 zeroR)
  rcases hn with h | h
  all_goals
    have d0 : decide (n < 0) = true ∨ decide (n < 0) = false := by cases decide (n < 0) <;> simp
    have d1 : n < 0 ∨ (decide (n < 0) = false ∧ decide (48 < n) = true) := by
      by_cases e : n < 0
      · exact .inl e
      · exact .inr ⟨decide_eq_false e, decide_eq_true (by omega)⟩
    clear d0
    rcases d1 with e | ⟨e1, e2⟩
    · have e1 : decide (n < 0) = true := decide_eq_true e
      go_enter Tryd.func60, Tryd.ntmps60
      go_wp2_with (refine wpList_store_rel (by rfl) (.tmp 4) (.tmp 13) (by rfl) w.heap.size 0 0 zeroR zeroR (by rfl) (by rfl) (H0.out.at 0 rfl) ?_; intro w5 hR hg; have H5 := Lib.hid (And.intro hR (H0.out.put 0 rfl hR hg)); clear hR hg)
      refine bodyPost_ret (results_cell_row rfl _ _ w.heap.size 26 (relC 0 zeroR) (0, 0) _ rfl H5.out.1 uRel rfl (sRelC _ _)) rfl ⟨rfl, H5.out.2.bel⟩
    · go_enter Tryd.func60, Tryd.ntmps60
      go_wp2_with (refine wpList_store_rel (by rfl) (.tmp 4) (.tmp 13) (by rfl) w.heap.size 0 0 zeroR zeroR (by rfl) (by rfl) (H0.out.at 0 rfl) ?_; intro w5 hR hg; have H5 := Lib.hid (And.intro hR (H0.out.put 0 rfl hR hg)); clear hR hg)
      refine bodyPost_ret (results_cell_row rfl _ _ w.heap.size 26 (relC 0 zeroR) (0, 0) _ rfl H5.out.1 uRel rfl (sRelC _ _)) rfl ⟨rfl, H5.out.2.bel⟩

set_option maxRecDepth 100000 in
set_option maxHeartbeats 1000000 in
theorem rcross_no (n : Int) (s t : BitVec 64) (w : World) (hn : n < 0 ∨ 48 < n) :
    Calls Tryd.prog 61 #[.int .i64 n, .int .u64 (Bv.U s), .int .u64 (Bv.U t)] w fun e w' => e = .returned (.agg (relC 0 zeroR)) ∧ Below w.heap.size w w' := by
  have hzr := zero_rel
  have hbz := build_zero
  have H0 := Lib.hid ((Held.nil w).box 0 zeroR)
  rcases hn with h | h
  all_goals
    have d0 : decide (n < 0) = true ∨ decide (n < 0) = false := by cases decide (n < 0) <;> simp
    have d1 : n < 0 ∨ (decide (n < 0) = false ∧ decide (48 < n) = true) := by
      by_cases e : n < 0
      · exact .inl e
      · exact .inr ⟨decide_eq_false e, decide_eq_true (by omega)⟩
    clear d0
    rcases d1 with e | ⟨e1, e2⟩
    · have e1 : decide (n < 0) = true := decide_eq_true e
      go_enter Tryd.func61, Tryd.ntmps61
      go_wp2_with (refine wpList_store_rel (by rfl) (.tmp 6) (.tmp 16) (by rfl) w.heap.size 0 0 zeroR zeroR (by rfl) (by rfl) (H0.out.at 0 rfl) ?_; intro w5 hR hg; have H5 := Lib.hid (And.intro hR (H0.out.put 0 rfl hR hg)); clear hR hg)
      refine bodyPost_ret (results_cell_row rfl _ _ w.heap.size 26 (relC 0 zeroR) (0, 0) _ rfl H5.out.1 uRel rfl (sRelC _ _)) rfl ⟨rfl, H5.out.2.bel⟩
    · go_enter Tryd.func61, Tryd.ntmps61
      go_wp2_with (refine wpList_store_rel (by rfl) (.tmp 6) (.tmp 16) (by rfl) w.heap.size 0 0 zeroR zeroR (by rfl) (by rfl) (H0.out.at 0 rfl) ?_; intro w5 hR hg; have H5 := Lib.hid (And.intro hR (H0.out.put 0 rfl hR hg)); clear hR hg)
      refine bodyPost_ret (results_cell_row rfl _ _ w.heap.size 26 (relC 0 zeroR) (0, 0) _ rfl H5.out.1 uRel rfl (sRelC _ _)) rfl ⟨rfl, H5.out.2.bel⟩
end Go.Proofs.YtknjdfgmejobfaaDoor
