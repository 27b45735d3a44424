/- Texts that stand together: Pk, Pl. -/
import Derived.Test.YtknjdfgmejobfaaDoorLb
import Derived.Test.YtknjdfgmejobfaaDoorLh
import Derived.Test.YtknjdfgmejobfaaDoorLg
/- reference of layer 2: steps. -/
namespace Go.Rl
/-- what the inner loops have laid down of the next set when they stand at (x, y) -/
def Nx (f : Rows) (b : Nat) (s : BitVec 64) (x y : Nat) (T : BitVec 64) : Prop := ∀ c, c < 64 → (T.getLsbD c = true ↔ b < c ∧ ((∃ z, z < x ∧ s.getLsbD z = true ∧ bit f z c = true) ∨ (c < y ∧ s.getLsbD x = true ∧ bit f x c = true)))
/-- no step to the goal so far -/
def NoH (f : Rows) (s : BitVec 64) (to x y : Nat) : Prop := (∀ z, z < x → s.getLsbD z = true → bit f z to = false) ∧ (to < y → s.getLsbD x = true → bit f x to = false)
variable {f : Rows} {b to x y n : Nat} {s T : BitVec 64}
theorem Nx.start (f : Rows) (b : Nat) (s : BitVec 64) : Nx f b s 0 0 0#64 := fun c hc => by
  rw [Bv.zero_get]
  constructor
  · intro h; cases h
  · rintro ⟨_, ⟨z, h, _⟩ | ⟨h, _⟩⟩ <;> omega
theorem Nx.miss (h : Nx f b s x y T) (hm : (s.getLsbD x && bit f x y) = false ∨ ¬ b < y) : Nx f b s x (y + 1) T := fun c hc => by
  rw [h c hc]
  constructor
  · rintro ⟨h1, h2 | ⟨h2, h3⟩⟩
    · exact ⟨h1, .inl h2⟩
    · exact ⟨h1, .inr ⟨by omega, h3⟩⟩
  · rintro ⟨h1, h2 | ⟨h2, h3, h4⟩⟩
    · exact ⟨h1, .inl h2⟩
    · by_cases e : c = y
      · subst e
        rcases hm with hm | hm
        · rw [h3, h4] at hm; cases hm
        · exact absurd h1 hm
      · exact ⟨h1, .inr ⟨by omega, h3, h4⟩⟩
theorem Nx.hit (h : Nx f b s x y T) (hs : s.getLsbD x = true) (hb : bit f x y = true) (hy : b < y) : Nx f b s x (y + 1) (T ||| Bv.bit y) := fun c hc => by
  have hy64 := bit64 hb
  rw [BitVec.getLsbD_or, Bool.or_eq_true, h c hc, Bv.bit_get y c hy64, decide_eq_true_eq]
  constructor
  · rintro (⟨h1, h2 | ⟨h2, h3⟩⟩ | rfl)
    · exact ⟨h1, .inl h2⟩
    · exact ⟨h1, .inr ⟨by omega, h3⟩⟩
    · exact ⟨hy, .inr ⟨by omega, hs, hb⟩⟩
  · rintro ⟨h1, h2 | ⟨h2, h3, h4⟩⟩
    · exact .inl ⟨h1, .inl h2⟩
    · by_cases e : c = y
      · exact .inr e
      · exact .inl ⟨h1, .inr ⟨by omega, h3, h4⟩⟩
theorem Nx.row (h : Nx f b s x n T) (hf : Ok n f) : Nx f b s (x + 1) 0 T := fun c hc => by
  rw [h c hc]
  constructor
  · rintro ⟨h1, ⟨z, h2, h3⟩ | ⟨h2, h3⟩⟩
    · exact ⟨h1, .inl ⟨z, by omega, h3⟩⟩
    · exact ⟨h1, .inl ⟨x, by omega, h3⟩⟩
  · rintro ⟨h1, ⟨z, h2, h3, h4⟩ | ⟨h2, _⟩⟩
    · by_cases e : z = x
      · subst e; exact ⟨h1, .inr ⟨(hf.in_ z c h4).2, h3, h4⟩⟩
      · exact ⟨h1, .inl ⟨z, by omega, h3, h4⟩⟩
    · omega
theorem Nx.done (h : Nx f b s n 0 T) (hf : Ok n f) : T = nextS f b s := by
  apply Bv.ext_get; intro c hc
  rw [Bool.eq_iff_iff, h c hc, nextS_iff]
  constructor
  · rintro ⟨h1, ⟨z, _, h3, h4⟩ | ⟨h2, _⟩⟩
    · exact ⟨h1, z, h3, h4⟩
    · omega
  · rintro ⟨h1, z, h3, h4⟩
    exact ⟨h1, .inl ⟨z, (hf.in_ z c h4).1, h3, h4⟩⟩
theorem NoH.start (f : Rows) (s : BitVec 64) (to : Nat) : NoH f s to 0 0 := ⟨fun z h => by omega, fun h => by omega⟩
theorem NoH.next (h : NoH f s to x y) (hm : (s.getLsbD x && bit f x y) = false ∨ y ≠ to) : NoH f s to x (y + 1) := ⟨h.1, fun h1 h2 => by
  by_cases e : to = y
  · subst e
    rcases hm with hm | hm
    · rw [h2, Bool.true_and] at hm; exact hm
    · exact absurd rfl hm
  · exact h.2 (by omega) h2⟩
theorem NoH.row (h : NoH f s to x n) (hf : Ok n f) : NoH f s to (x + 1) 0 := ⟨fun z h1 h2 => by
  by_cases e : z = x
  · subst e
    cases hb : bit f z to
    · rfl
    · have := h.2 (hf.in_ z to hb).2 h2; rw [hb] at this; cases this
  · exact h.1 z (by omega) h2, fun h => by omega⟩
theorem NoH.done (h : NoH f s to n 0) (hf : Ok n f) : hitB f s to = false := by
  cases hh : hitB f s to
  · rfl
  · obtain ⟨z, h1, h2⟩ := (hitB_iff f s to).1 hh
    have := h.1 z (hf.in_ z to h2).1 h1
    rw [h2] at this; cases this
theorem stGo_hit {k m : Nat} (h : hitB f s to = true) : stGo f b to (k + 1) m s = m := by unfold stGo; rw [if_pos h]
theorem stGo_miss {k m : Nat} (h : hitB f s to = false) : stGo f b to (k + 1) m s = stGo f b to k (m + 1) (nextS f b s) := by rw [stGo, if_neg (by rw [h]; exact Bool.false_ne_true)]
theorem hit_of (hs : s.getLsbD x = true) (hb : bit f x to = true) : hitB f s to = true := (hitB_iff f s to).2 ⟨x, hs, hb⟩
end Go.Rl
namespace Go.Proofs.YtknjdfgmejobfaaDoor
open Go.RowKit Go.Shelf

attribute [-go_sem] run_eql_struct run_neq_struct
attribute [local go_sem] Bv.and_u Bv.or_u Bv.andNot_u Bv.wrap_sub1 Bv.eq0 Bv.ne0 Bv.wrap_pow Bv.wrap_powmin Bv.wrap_neg Bv.eq_u Bv.ne_u Bv.shr_min Bv.shr_pow Bv.tmod2 Bv.and1 Bv.wrap_add Bv.B1_eq1 Bv.B1_eq0 Bv.B1_ne1 Bv.B1_ne0

theorem rwith_zero (a : Nat) (ha : a < 64) (w : World) :
    Calls Tryd.prog 85 #[.int .u64 0, .int .i64 a] w fun e w' => e = .returned (.int .u64 (Bv.U (Bv.bit a))) ∧ w = w' :=
  rwith_is 0#64 a _ (by rw [withS_nat _ a ha]; exact BitVec.zero_or) w
set_option maxRecDepth 100000 in
set_option maxHeartbeats 4000000 in
theorem rsteps_is (n : Nat) (f : Rl.Rows) (a to b R : Nat) (hR : Rl.stepsN f a to b = R) (w : World) (hr : Rl.Ok n f) (ha : a < 64) (hto : to < 64) (hb : b < 64) :
    Calls Tryd.prog 86 #[.agg (relC n f), .int .i64 a, .int .i64 to, .int .i64 b] w fun e w' => e = .returned (.int .i64 R) ∧ Below w.heap.size w w' := by
  have hn := hr.le
  have H := Lib.hid (And.intro (RelAt.new w n f) (And.intro ((Below.refl w.heap.size w).alloc (Nat.le_refl _) (.cells (relC n f) 26)) (And.intro hr hR)))
  clear hr hR
  go_enter Tryd.func86, Tryd.ntmps86
  go_wp2_with fail
  generalize w.alloc (.cells (relC n f) 26) = W0 at H ⊢
  with_reducible refine (rwith_zero a ha _).mono ?_
  rintro e w1 ⟨rfl, rfl⟩
  go_wp2_with fail
  go_loopw [9, 10, 11, 12, 13] (fun t i _ _ _ wr => ∃ (m : Nat) (s : BitVec 64), 1 ≤ m ∧ m ≤ 49 ∧ i = .int .i64 m ∧ t = .int .u64 (Bv.U s) ∧ Rl.stGo f b to (49 - m) m s = R ∧ Below W0.heap.size W0 wr) (fun _ i _ _ _ _ => 49 - (intOf i).toNat)
  case atStart => exact ⟨1, Bv.bit a, by omega, by omega, rfl, rfl, H.out.2.2.2, Below.refl _ _⟩
  case round =>
    obtain ⟨m, s, hm1, hm, rfl, rfl, hst, hb1⟩ := hrel
    have HR := Lib.hid (And.intro hst hb1)
    clear hst hb1
    by_cases hlt : m ≤ 48
    · have d0 : decide ((m : Int) ≤ 48) = true := decide_eq_true (by omega)
      have d1 : decide (m ≤ 48) = true := decide_eq_true hlt
      go_wp2_with fail
      go_loopw [11, 12, 13] (fun v i _ wi => ∃ (x : Nat) (T : BitVec 64), x ≤ n ∧ i = .int .i64 x ∧ v = .int .u64 (Bv.U T) ∧ Rl.Nx f b s x 0 T ∧ Rl.NoH f s to x 0 ∧ Below W0.heap.size W0 wi) (fun _ i _ _ => n - (intOf i).toNat)
      case atStart => exact ⟨0, 0#64, Nat.zero_le _, rfl, rfl, Rl.Nx.start _ _ _, Rl.NoH.start _ _ _, HR.out.2⟩
      case round =>
        obtain ⟨x, T, hx, rfl, rfl, hnx, hno, hb2⟩ := hrel
        have c0 := (H.out.1.below hb2 H.out.1.lt).num
        have HX := Lib.hid (And.intro hnx (And.intro hno hb2))
        clear hnx hno hb2
        by_cases hltx : x < n
        · go_wp2_with fail
          go_loopw [11, 13] (fun v i wi => ∃ (y : Nat) (T : BitVec 64), y ≤ n ∧ i = .int .i64 y ∧ v = .int .u64 (Bv.U T) ∧ Rl.Nx f b s x y T ∧ Rl.NoH f s to x y ∧ Below W0.heap.size W0 wi) (fun _ i _ => n - (intOf i).toNat)
          case atStart => exact ⟨0, T, Nat.zero_le _, rfl, rfl, HX.out.1, HX.out.2.1, HX.out.2.2⟩
          case round =>
            obtain ⟨y, T2, hy, rfl, rfl, hnx, hno, hb2⟩ := hrel
            have hRy := H.out.1.below hb2 H.out.1.lt
            have c0 := hRy.num
            by_cases hlty : y < n
            · have hp := pairB_ok H.out.2.2.1 x y
              have hh := hasB_nat s x (by omega)
              cases hs : Bv.G s x
              · rw [hs] at hh
                have hm0 : (s.getLsbD x && Rl.bit f x y) = false := by rw [show s.getLsbD x = false from hs]; rfl
                have HY := Lib.hid (And.intro hh (And.intro (hnx.miss (.inl hm0)) (And.intro (hno.next (.inl hm0)) hb2)))
                clear hh hnx hno hb2 hp hs hm0 hRy
                go_wp2_with fail
                with_reducible refine (rhas_is s x false HY.out.1 _).mono ?_
                rintro e w' ⟨rfl, rfl⟩
                go_wp2_with fail
                go_roundw
                case rel => exact ⟨y + 1, T2, by omega, by go_num, rfl, HY.out.2.1, HY.out.2.2.1, HY.out.2.2.2⟩
                case measure => simp [intOf]; omega
              · rw [hs] at hh
                cases hbit : Rl.bit f x y
                · rw [hbit] at hp
                  have hm0 : (s.getLsbD x && Rl.bit f x y) = false := by rw [hbit, Bool.and_false]
                  have HY := Lib.hid (And.intro hh (And.intro (hnx.miss (.inl hm0)) (And.intro (hno.next (.inl hm0)) (And.intro hb2 (And.intro hp hRy)))))
                  clear hh hnx hno hb2 hp hs hm0 hbit hRy
                  go_wp2_with fail
                  with_reducible refine (rhas_is s x true HY.out.1 _).mono ?_
                  rintro e w' ⟨rfl, rfl⟩
                  go_wp2_with (refine wpList_load_rel_want (by rfl) (.tmp 4) (by rfl) w.heap.size n f (by rfl) HY.out.2.2.2.2.2 ?_)
                  with_reducible refine (rpair_is n f x y false HY.out.2.2.2.2.1 _ H.out.2.2.1.z).mono ?_
                  rintro e w4 ⟨rfl, hb4⟩
                  have H4 := Lib.hid (HY.out.2.2.2.1.trans (hb4.mono HY.out.2.2.2.1.size))
                  clear hb4
                  go_wp2_with fail
                  go_roundw
                  case rel => exact ⟨y + 1, T2, by omega, by go_num, rfl, HY.out.2.1, HY.out.2.2.1, H4.out⟩
                  case measure => simp [intOf]; omega
                · rw [hbit] at hp
                  have HY := Lib.hid (And.intro hh (And.intro hp hRy))
                  clear hh hp hRy
                  by_cases hyt : y = to
                  · subst hyt
                    have hRm : R = m := by
                      have h1 := HR.out.1
                      rw [show 49 - m = (48 - m) + 1 by omega, Rl.stGo_hit (Rl.hit_of (show s.getLsbD x = true from hs) hbit)] at h1
                      exact h1.symm
                    subst hRm
                    have HB := Lib.hid hb2
                    clear hnx hno hb2 hs hbit
                    go_wp2_with fail
                    with_reducible refine (rhas_is s x true HY.out.1 _).mono ?_
                    rintro e w' ⟨rfl, rfl⟩
                    go_wp2_with (refine wpList_load_rel_want (by rfl) (.tmp 4) (by rfl) w.heap.size n f (by rfl) HY.out.2.2 ?_)
                    with_reducible refine (rpair_is n f x y true HY.out.2.1 _ H.out.2.2.1.z).mono ?_
                    rintro e w4 ⟨rfl, hb4⟩
                    have H4 := Lib.hid (H.out.2.1.trans ((HB.out.trans (hb4.mono HB.out.size)).mono H.out.2.1.size))
                    clear hb4
                    go_wp2_with fail
                    go_ret
                    exact ⟨rfl, H4.out⟩
                  · have e0 : ((y : Int) == (to : Int)) = false := by simp; omega
                    by_cases hyb : b < y
                    · have e1 : decide ((b : Int) < (y : Int)) = true := decide_eq_true (by omega)
                      have e2 : decide (b < y) = true := decide_eq_true hyb
                      have hw2 := withS_nat T2 y (by omega)
                      have HZ := Lib.hid (And.intro (hnx.hit (show s.getLsbD x = true from hs) hbit hyb) (And.intro (hno.next (.inr hyt)) (And.intro hb2 hw2)))
                      clear hnx hno hb2 hs hbit hw2
                      go_wp2_with fail
                      with_reducible refine (rhas_is s x true HY.out.1 _).mono ?_
                      rintro e w' ⟨rfl, rfl⟩
                      go_wp2_with (refine wpList_load_rel_want (by rfl) (.tmp 4) (by rfl) w.heap.size n f (by rfl) HY.out.2.2 ?_)
                      with_reducible refine (rpair_is n f x y true HY.out.2.1 _ H.out.2.2.1.z).mono ?_
                      rintro e w4 ⟨rfl, hb4⟩
                      have H4 := Lib.hid (HZ.out.2.2.1.trans (hb4.mono HZ.out.2.2.1.size))
                      clear hb4
                      go_wp2_with fail
                      with_reducible refine (rwith_is T2 y _ HZ.out.2.2.2 _).mono ?_
                      rintro e w' ⟨rfl, rfl⟩
                      go_wp2_with fail
                      go_roundw
                      case rel => exact ⟨y + 1, _, by omega, by go_num, rfl, HZ.out.1, HZ.out.2.1, H4.out⟩
                      case measure => simp [intOf]; omega
                    · have e1 : decide ((b : Int) < (y : Int)) = false := decide_eq_false (by omega)
                      have e2 : decide (b < y) = false := decide_eq_false hyb
                      have HZ := Lib.hid (And.intro (hnx.miss (.inr hyb)) (And.intro (hno.next (.inr hyt)) hb2))
                      clear hnx hno hb2 hs hbit
                      go_wp2_with fail
                      with_reducible refine (rhas_is s x true HY.out.1 _).mono ?_
                      rintro e w' ⟨rfl, rfl⟩
                      go_wp2_with (refine wpList_load_rel_want (by rfl) (.tmp 4) (by rfl) w.heap.size n f (by rfl) HY.out.2.2 ?_)
                      with_reducible refine (rpair_is n f x y true HY.out.2.1 _ H.out.2.2.1.z).mono ?_
                      rintro e w4 ⟨rfl, hb4⟩
                      have H4 := Lib.hid (HZ.out.2.2.trans (hb4.mono HZ.out.2.2.size))
                      clear hb4
                      go_wp2_with fail
                      go_roundw
                      case rel => exact ⟨y + 1, _, by omega, by go_num, rfl, HZ.out.1, HZ.out.2.1, H4.out⟩
                      case measure => simp [intOf]; omega
            · have hyn : y = n := by omega
              subst hyn
              have HI := Lib.hid (And.intro (hnx.row H.out.2.2.1) (And.intro (hno.row H.out.2.2.1) hb2))
              clear hnx hno hb2 hRy
              go_wp2_with fail
              go_roundw
              case rel => exact ⟨x + 1, T2, by omega, by go_num, rfl, HI.out.1, HI.out.2.1, HI.out.2.2⟩
              case measure => simp [intOf]; omega
        · have hxn : x = n := by omega
          subst hxn
          have h1 := HR.out.1
          rw [show 49 - m = (48 - m) + 1 by omega, Rl.stGo_miss (HX.out.2.1.done H.out.2.2.1), ← HX.out.1.done H.out.2.2.1, show 48 - m = 49 - (m + 1) by omega] at h1
          have HI := Lib.hid h1
          clear h1
          go_wp2_with fail
          go_roundw
          case rel => exact ⟨m + 1, T, by omega, by omega, by go_num, rfl, HI.out, HX.out.2.2⟩
          case measure => simp [intOf]; omega
    · have hm49 : m = 49 := by omega
      subst hm49
      have hR100 : R = 100 := by have h1 := HR.out.1; exact h1.symm
      subst hR100
      have HB := Lib.hid (H.out.2.1.trans (HR.out.2.mono H.out.2.1.size))
      go_wp2_with fail
      go_ret
      exact ⟨rfl, HB.out⟩
end Go.Proofs.YtknjdfgmejobfaaDoor

/- reference of layer 2: Ring. -/
namespace Go.Proofs.YtknjdfgmejobfaaDoor
open Go.RowKit Go.Shelf

attribute [-go_sem] run_eql_struct run_neq_struct
attribute [local go_sem] Bv.and_u Bv.or_u Bv.andNot_u Bv.wrap_sub1 Bv.eq0 Bv.ne0 Bv.wrap_pow Bv.wrap_powmin Bv.wrap_neg Bv.eq_u Bv.ne_u Bv.shr_min Bv.shr_pow Bv.tmod2 Bv.and1 Bv.wrap_add Bv.B1_eq1 Bv.B1_eq0 Bv.B1_ne1 Bv.B1_ne0

set_option maxRecDepth 100000 in
set_option maxHeartbeats 1000000 in
theorem rring_not (n : Int) (f : Rl.Rows) (w : World) (zf : Rl.Z f) (hr : Rl.rightB n f = false) :
    Calls Tryd.prog 33 #[.agg (relC n f)] w (RingOut [] w) := by
  have he : (topR n f).isSome = false := by unfold topR; rw [hr]; rfl
  have H := Lib.hid (And.intro (RelAt.new w n f) (And.intro ((Below.refl w.heap.size w).alloc (Nat.le_refl _) (.cells (relC n f) 26)) (And.intro hr (And.intro he zf))))
  clear hr he zf
  go_enter Tryd.func33, Tryd.ntmps33
  go_wp2_with (refine wpList_load_rel (by rfl) (.tmp 1) (by rfl) w.heap.size n f (by rfl) H.out.1 ?_)
  with_reducible refine (racyc_is n f false H.out.2.2.2.1 _ H.out.2.2.2.2).mono ?_
  rintro e w1 ⟨rfl, hb⟩
  have H1 := Lib.hid (And.intro (H.out.1.below hb H.out.1.lt) (H.out.2.1.trans (hb.mono H.out.2.1.size)))
  clear hb
  go_wp2_with (refine wpList_load_rel_want (by rfl) (.tmp 1) (by rfl) w.heap.size n f (by rfl) H1.out.1 ?_)
  with_reducible refine (rright_is n f false H.out.2.2.1 _ H.out.2.2.2.2).mono ?_
  rintro e w2 ⟨rfl, hb⟩
  have H2 := Lib.hid (H1.out.2.trans (hb.mono H1.out.2.size))
  clear hb
  go_wp2_with fail
  go_ret
  exact ⟨_, rfl, World.ownsRow_nil _ _ _ _, H2.out⟩
set_option maxRecDepth 100000 in
set_option maxHeartbeats 1000000 in
theorem rring_top (n : Int) (f : Rl.Rows) (w : World) (zf : Rl.Z f) (he : (topR n f).isSome = true) :
    Calls Tryd.prog 33 #[.agg (relC n f)] w (RingOut [] w) := by
  have H := Lib.hid (And.intro (RelAt.new w n f) (And.intro ((Below.refl w.heap.size w).alloc (Nat.le_refl _) (.cells (relC n f) 26)) (And.intro he zf)))
  clear he zf
  go_enter Tryd.func33, Tryd.ntmps33
  go_wp2_with (refine wpList_load_rel (by rfl) (.tmp 1) (by rfl) w.heap.size n f (by rfl) H.out.1 ?_)
  with_reducible refine (racyc_is n f true H.out.2.2.1 _ H.out.2.2.2).mono ?_
  rintro e w1 ⟨rfl, hb⟩
  have H1 := Lib.hid (H.out.2.1.trans (hb.mono H.out.2.1.size))
  clear hb
  go_wp2_with fail
  go_ret
  exact ⟨_, rfl, World.ownsRow_nil _ _ _ _, H1.out⟩
theorem best_lt {f : Rl.Rows} {a l R : Nat} {i : Int} (hb : Rl.bestN f a = (l, i)) (hR : Rl.stepsN f a a a = R) (h : R < l) : Rl.bestN f (a + 1) = (R, (a : Int)) := by
  unfold Rl.bestN; rw [hb, hR]; exact if_pos h
theorem best_ge {f : Rl.Rows} {a l R : Nat} {i : Int} (hb : Rl.bestN f a = (l, i)) (hR : Rl.stepsN f a a a = R) (h : ¬ R < l) : Rl.bestN f (a + 1) = (l, i) := by
  unfold Rl.bestN; rw [hb, hR]; exact if_neg h
theorem take_len {l : List Nat} : l.take l.length = l := List.take_of_length_le (Nat.le_refl _)
set_option maxRecDepth 100000 in
set_option maxHeartbeats 8000000 in
theorem rring_cyc (n : Nat) (f : Rl.Rows) (w : World) (hr : Rl.Ok n f) (he : (topR n f).isSome = false) (s : Nat) (R : List Nat) (hR : Rl.Rng n f s R) :
    Calls Tryd.prog 33 #[.agg (relC n f)] w (RingOut R w) := by
  have hn := hr.le
  have hsn := hR.sn
  obtain ⟨L, hL⟩ : ∃ L, L = R.length := ⟨_, rfl⟩
  have hL48 : L ≤ 48 := by rw [hL]; exact hR.le
  have hLp : 0 < L := by rw [hL]; exact hR.pos
  have hbn : Rl.bestN f n = (L, (s : Int)) := by rw [hL]; exact hR.best
  obtain ⟨i0, hi, hz0, hz1, hz2⟩ := info_parts infoInt
  have H := Lib.hid (And.intro (RelAt.new w n f) (And.intro ((Below.refl w.heap.size w).alloc (Nat.le_refl _) (.cells (relC n f) 26)) (And.intro he (And.intro hr (And.intro hR (And.intro hL hbn))))))
  clear hr he hR hL hbn
  go_enter Tryd.func33, Tryd.ntmps33
  go_wp2_with (refine wpList_load_rel (by rfl) (.tmp 1) (by rfl) w.heap.size n f (by rfl) H.out.1 ?_)
  with_reducible refine (racyc_is n f false H.out.2.2.1 _ H.out.2.2.2.1.z).mono ?_
  rintro e w1 ⟨rfl, hb⟩
  have H1 := Lib.hid (And.intro (H.out.1.below hb H.out.1.lt) (H.out.2.1.trans (hb.mono H.out.2.1.size)))
  clear hb
  go_wp2_with (refine wpList_load_rel_want (by rfl) (.tmp 1) (by rfl) w.heap.size n f (by rfl) H1.out.1 ?_)
  with_reducible refine (rright_is n f true (Rl.right_of H.out.2.2.2.1) _ H.out.2.2.2.1.z).mono ?_
  rintro e w2 ⟨rfl, hb⟩
  have H2 := Lib.hid (And.intro (H1.out.1.below hb H1.out.1.lt) (H1.out.2.trans (hb.mono H1.out.2.size)))
  clear hb
  go_wp2_with fail
  go_loopw [3, 4, 5, 6] (fun l x i _ wr => ∃ a : Nat, a ≤ n ∧ i = .int .i64 a ∧ l = .int .i64 ((Rl.bestN f a).1 : Nat) ∧ x = .int .i64 (Rl.bestN f a).2 ∧ Below w2.heap.size w2 wr) (fun _ _ i _ _ => n - (intOf i).toNat)
  case atStart => exact ⟨0, Nat.zero_le _, rfl, rfl, rfl, Below.refl _ _⟩
  case round =>
    obtain ⟨a, ha, rfl, rfl, rfl, hb⟩ := hrel
    have hRa := H2.out.1.below hb H2.out.1.lt
    have c0 := hRa.num
    have HR := Lib.hid (And.intro hb hRa)
    clear hb hRa
    by_cases hlt : a < n
    · obtain ⟨⟨l0, x0⟩, hp⟩ : ∃ p, Rl.bestN f a = p := ⟨_, rfl⟩
      obtain ⟨R0, hR0⟩ : ∃ p, Rl.stepsN f a a a = p := ⟨_, rfl⟩
      rw [hp]
      have HP := Lib.hid (And.intro hp hR0)
      clear hp hR0
      dsimp only
      go_wp2_with (refine wpList_load_rel (by rfl) (.tmp 1) (by rfl) w.heap.size n f (by rfl) HR.out.2 ?_)
      with_reducible refine (rsteps_is n f a a a R0 HP.out.2 _ H.out.2.2.2.1 (by omega) (by omega) (by omega)).mono ?_
      rintro e w4 ⟨rfl, hb4⟩
      have H4 := Lib.hid (HR.out.1.trans (hb4.mono HR.out.1.size))
      clear hb4
      by_cases hlb : R0 < l0
      · have d0 : decide ((R0 : Int) < (l0 : Int)) = true := decide_eq_true (by omega)
        have d1 : decide (R0 < l0) = true := decide_eq_true hlb
        go_wp2_with fail
        go_roundw
        case rel => exact ⟨a + 1, by omega, by go_num, by rw [best_lt HP.out.1 HP.out.2 hlb], by rw [best_lt HP.out.1 HP.out.2 hlb], H4.out⟩
        case measure => simp [intOf]; omega
      · have d0 : decide ((R0 : Int) < (l0 : Int)) = false := decide_eq_false (by omega)
        have d1 : decide (R0 < l0) = false := decide_eq_false hlb
        go_wp2_with fail
        go_roundw
        case rel => exact ⟨a + 1, by omega, by go_num, by rw [best_ge HP.out.1 HP.out.2 hlb], by rw [best_ge HP.out.1 HP.out.2 hlb], H4.out⟩
        case measure => simp [intOf]; omega
    · have han : n = a := by omega
      subst han
      rw [H.out.2.2.2.2.2.2]
      dsimp only
      go_wp2_with fail
      obtain ⟨W0, rfl⟩ : ∃ W0, W0 = wr := ⟨wr, rfl⟩
      have hW0 : w.heap.size ≤ W0.heap.size := Nat.le_trans H2.out.2.size HR.out.1.size
      have hlit := World.ownsRow_lit (base := W0.heap.size) (e := 3) (size := 1) W0 #[.int .i64 s] 1 (Nat.le_refl _) (by unfold maxLen; omega) rfl
      have HL := Lib.hid (And.intro hlit (And.intro ((Below.refl W0.heap.size W0).alloc (Nat.le_refl _) (.cells #[.int .i64 s] 3)) (H2.out.2.trans (HR.out.1.mono H2.out.2.size))))
      have ht1 : R.take (0 + 1) = [s] := by rw [List.take_add_one, H.out.2.2.2.2.1.fst]; rfl
      have HT1 := Lib.hid ht1
      clear hlit ht1 c0
      go_loopw [7, 8, 9] (fun v i _ wr => ∃ q : Nat, q < L ∧ i = .int .i64 ((L - (q + 1) : Nat) : Int) ∧ wr.ownsRow W0.heap.size 3 1 v (q + 1) (nums (R.take (q + 1))) ∧ Below W0.heap.size W0 wr) (fun v _ _ _ => L - lenV v)
      case atStart => exact ⟨0, hLp, by congr 1; omega, by rw [HT1.out]; exact HL.out.1, HL.out.2.1⟩
      case round =>
        obtain ⟨q, hq, rfl, hrow, hb⟩ := hrel
        obtain ⟨l, hl⟩ : ∃ l, l = L - (q + 1) := ⟨_, rfl⟩
        rw [← hl]
        by_cases hq1 : q + 1 < L
        · obtain ⟨x, hx⟩ : ∃ x, R[q]? = some x := ⟨_, List.getElem?_eq_getElem (by rw [← H.out.2.2.2.2.2.1]; exact hq)⟩
          obtain ⟨y, hy⟩ : ∃ y, R[q + 1]? = some y := ⟨_, List.getElem?_eq_getElem (by rw [← H.out.2.2.2.2.2.1]; exact hq1)⟩
          have hxn := H.out.2.2.2.2.1.lt q x hx
          have hyn := H.out.2.2.2.2.1.lt (q + 1) y hy
          obtain ⟨hsy, hty, htc⟩ := H.out.2.2.2.2.1.next q x y hx hy
          rw [← H.out.2.2.2.2.2.1, ← hl] at hty htc
          have htk : R.take (q + 1 + 1) = R.take (q + 1) ++ [y] := by rw [List.take_add_one, hy]; rfl
          obtain ⟨g, cap, hv, hg1, hg2⟩ := hrow.form (by omega)
          subst hv
          have hxg : (nums (R.take (q + 1)))[q]? = some (.int .i64 (x : Int)) := by
            unfold nums; rw [List.getElem?_map, List.getElem?_take, if_pos (by omega), hx]; rfl
          obtain ⟨M, hM⟩ : ∃ M, M = R.take (q + 1) := ⟨_, rfl⟩
          rw [← hM] at hrow htk hxg
          obtain ⟨N, hN⟩ : ∃ N, N = q + 1 := ⟨_, rfl⟩
          rw [← hN] at hrow htk hq1 ⊢
          have l0 : decide ((0 : Int) < (l : Int)) = true := decide_eq_true (by omega)
          have l1 : decide (0 < l) = true := decide_eq_true (by omega)
          have HF := Lib.hid (And.intro hrow (And.intro hty (And.intro htc (And.intro htk (And.intro hxg (And.intro hb (And.intro hl hN)))))))
          have hqN : q < N := by omega
          have hN48 : N ≤ 48 := by omega
          have q2 : (0 : Int) ≤ (q : Int) := by omega
          have q3 : (q : Int) < (N : Int) := by omega
          have q7 : IntKind.i64.wrap ((l : Int) - 1) = ((l - 1 : Nat) : Int) := by rw [IntWalk.i64_in _ (by omega)]; omega
          have q6 : IntKind.i64.wrap ((N : Int) - 1) = (q : Int) := by rw [IntWalk.i64_in _ (by omega)]; omega
          clear hrow hty htc htk hxg hb hx hy hg1 hg2 hM hl hN
          go_wp2_with fail
          go_loopw [7, 9] (fun v i wi => v = .slice (some ⟨g, 0, none⟩) N cap ∧ ∃ b : Nat, s < b ∧ b ≤ y ∧ i = .int .i64 b ∧ Below wr.heap.size wr wi) (fun _ i _ => n - (intOf i).toNat)
          case atStart => exact ⟨rfl, s + 1, by omega, by omega, by go_num, Below.refl _ _⟩
          case round =>
            obtain ⟨rfl, b, hsb, hby, rfl, hb2⟩ := hrel
            have hbw := HF.out.2.2.2.2.2.1.trans (hb2.mono HF.out.2.2.2.2.2.1.size)
            have hRb := HR.out.2.below hbw HR.out.2.lt
            have hrb := ownsRow_below2 HF.out.1 hb2
            have cN := hRb.num
            have c1 : decide ((b : Int) < (n : Int)) = true := decide_eq_true (by omega)
            have c2 : decide (b < n) = true := decide_eq_true (by omega)
            have GA := Lib.hid (rel_class hRb)
            have cV := fun d os => (owns_below hrb (below_regrown wr d os) (Nat.le_refl _)).cellAt q (by omega)
            rw [HF.out.2.2.2.2.1] at cV
            have hp := pairB_ok H.out.2.2.2.1 x b
            have HB := Lib.hid (And.intro hbw (And.intro hRb (And.intro hrb hb2)))
            clear hbw hRb hrb hb2
            by_cases hlast : b = y
            · subst hlast
              have ht2 := HF.out.2.1
              unfold Rl.tstN at ht2
              rw [Bool.and_eq_true, decide_eq_true_eq] at ht2
              rw [ht2.1] at hp
              have HC := Lib.hid (And.intro hp ht2.2)
              clear hp ht2
              go_wp2_with fail
              refine wp_region_quiet_below (by kernel_rfl) (by kernel_rfl) ?_
              repeat (first | (refine wpQuiet_load_rel (by rfl) _ (by rfl) w.heap.size n f (by rfl) GA.out ?_) | go_big_quiet_step (first | (go_at_call 63; with_reducible exact Calls.regrown_of (rpair_is n f x b true HC.out.1 _ H.out.2.2.2.1.z)) | (go_at_call 86; with_reducible exact Calls.regrown_of (rsteps_is n f b s s l HC.out.2 _ H.out.2.2.2.1 (by omega) (by omega) (by omega))) | fail) | quiet_step (first | (go_at_call 63; with_reducible exact Calls.regrown_of (rpair_is n f x b true HC.out.1 _ H.out.2.2.2.1.z)) | (go_at_call 86; with_reducible exact Calls.regrown_of (rsteps_is n f b s s l HC.out.2 _ H.out.2.2.2.1 (by omega) (by omega) (by omega))) | fail))
              refine wpQuiet_nil ?_
              intro W1 hw1
              have hb1 : Below wr.heap.size wr W1 := by obtain ⟨⟨d, os⟩, rfl⟩ := hw1; exact below_regrown _ _ _
              have hW1 : W0.heap.size ≤ W1.heap.size := Nat.le_trans HB.out.1.size hb1.size
              have H1x := Lib.hid (And.intro (owns_below HB.out.2.2.1 hb1 (Nat.le_refl _)) (HB.out.1.trans (hb1.mono HB.out.1.size)))
              clear hw1 hb1 cV
              go_wp2_with (at_builtin; refine wpList_append_own _ rfl _ _ 35 rfl W0.heap.size 3 i0 (.int .i64 0) 1 8 Tryd.underlying35 hi hz0 hz1 hz2 rfl (by decide) _ _ _ rfl (H1x.out.1.alloc _) ⟨W1.heap.size, 0, none⟩ 1 1 [.int .i64 b] rfl rfl (cell_one_new _ _ _) (by simp [Value.oneCell']) (by unfold maxLen; omega) (by omega) (by simp; omega) ?_; intro v' w7 hown' hgrow hnil')
              have hown2 : w7.ownsRow W0.heap.size 3 1 v' (N + 1) (nums (M ++ [b])) := by rw [nums_snoc]; exact hown'
              obtain ⟨A9, cap9, hv9, _, _, _⟩ := row_nums hown2
              have hbn := (H1x.out.2.alloc hW1 (.cells #[.int .i64 b] 3)).grown hgrow (by simp; omega) (fun z e => (H1x.out.1.lt z e).1)
              have H9 := Lib.hid (And.intro hown2 hbn)
              subst hv9
              clear hown' hgrow hnil' hbn hown2
              go_wp2_with fail
              go_roundw
              case rel =>
                have e1 := HF.out.2.2.2.2.2.2.2
                have e2 := HF.out.2.2.2.2.2.2.1
                refine ⟨q + 1, by omega, by congr 1; omega, ?_, H9.out.2⟩
                rw [← e1, HF.out.2.2.2.1]; exact H9.out.1
              case measure => simp [lenV]; omega
            · have ht2 := HF.out.2.2.1 b hsb (by omega)
              unfold Rl.tstN at ht2
              cases hbit : Rl.bit f x b
              · rw [hbit] at hp
                have HC := Lib.hid hp
                clear hp ht2 hbit
                go_wp2_with fail
                refine wp_region_quiet_below (by kernel_rfl) (by kernel_rfl) ?_
                repeat (first | (refine wpQuiet_load_rel (by rfl) _ (by rfl) w.heap.size n f (by rfl) GA.out ?_) | go_big_quiet_step (first | (go_at_call 63; with_reducible exact Calls.regrown_of (rpair_is n f x b false HC.out _ H.out.2.2.2.1.z)) | fail) | quiet_step (first | (go_at_call 63; with_reducible exact Calls.regrown_of (rpair_is n f x b false HC.out _ H.out.2.2.2.1.z)) | fail))
                refine wpQuiet_nil ?_
                intro W1 hw1
                have hb1 : Below wr.heap.size wr W1 := by obtain ⟨⟨d, os⟩, rfl⟩ := hw1; exact below_regrown _ _ _
                have H1x := Lib.hid (HB.out.2.2.2.trans (hb1.mono HB.out.2.2.2.size))
                clear hw1 hb1 cV
                go_wp2_with fail
                go_roundw
                case rel => exact ⟨by first | rfl | trivial, b + 1, by omega, by omega, by go_num, H1x.out⟩
                case measure => simp [intOf]; omega
              · rw [hbit] at hp
                rw [hbit, Bool.true_and] at ht2
                obtain ⟨k, hk⟩ : ∃ k, Rl.stepsN f b s s = k := ⟨_, rfl⟩
                rw [hk] at ht2
                have hkl : ¬ k = l := of_decide_eq_false ht2
                have e0 : ((k : Int) == (l : Int)) = false := by simp; omega
                have HC := Lib.hid (And.intro hp hk)
                clear hp ht2 hbit hk hkl
                go_wp2_with fail
                refine wp_region_quiet_below (by kernel_rfl) (by kernel_rfl) ?_
                repeat (first | (refine wpQuiet_load_rel (by rfl) _ (by rfl) w.heap.size n f (by rfl) GA.out ?_) | go_big_quiet_step (first | (go_at_call 63; with_reducible exact Calls.regrown_of (rpair_is n f x b true HC.out.1 _ H.out.2.2.2.1.z)) | (go_at_call 86; with_reducible exact Calls.regrown_of (rsteps_is n f b s s k HC.out.2 _ H.out.2.2.2.1 (by omega) (by omega) (by omega))) | fail) | quiet_step (first | (go_at_call 63; with_reducible exact Calls.regrown_of (rpair_is n f x b true HC.out.1 _ H.out.2.2.2.1.z)) | (go_at_call 86; with_reducible exact Calls.regrown_of (rsteps_is n f b s s k HC.out.2 _ H.out.2.2.2.1 (by omega) (by omega) (by omega))) | fail))
                refine wpQuiet_nil ?_
                intro W1 hw1
                have hb1 : Below wr.heap.size wr W1 := by obtain ⟨⟨d, os⟩, rfl⟩ := hw1; exact below_regrown _ _ _
                have H1x := Lib.hid (HB.out.2.2.2.trans (hb1.mono HB.out.2.2.2.size))
                clear hw1 hb1 cV
                go_wp2_with fail
                go_roundw
                case rel => exact ⟨by first | rfl | trivial, b + 1, by omega, by omega, by go_num, H1x.out⟩
                case measure => simp [intOf]; omega
        · have hl0 : l = 0 := by omega
          subst hl0
          have hqL : q + 1 = R.length := by rw [← H.out.2.2.2.2.2.1]; omega
          rw [hqL, take_len] at hrow
          have HF := Lib.hid (And.intro (owns_base hrow hW0) (HL.out.2.2.trans (hb.mono hW0)))
          clear hrow hb hl hq hq1 hqL
          go_wp2_with fail
          go_ret
          exact ⟨_, rfl, HF.out.1, HF.out.2⟩
theorem rring_any (n : Int) (f : Rl.Rows) (w : World) (zf : Rl.Z f) :
    Calls Tryd.prog 33 #[.agg (relC n f)] w (RingOut (ringR n f) w) := by
  unfold ringR
  cases h : Rl.rightB n f
  · rw [if_neg (by simp)]; exact rring_not n f w zf h
  · obtain ⟨m, rfl, hm⟩ := Rl.right_nat zf h
    rw [if_pos rfl, Int.toNat_natCast]
    have ht : (topR m f).isSome = (Rl.topL m f).isSome := by unfold topR; rw [h, if_pos rfl, Int.toNat_natCast]
    rcases Rl.ring_ref hm with ⟨h1, h2⟩ | ⟨s, hs⟩
    · rw [h1]; exact rring_top m f w zf (by rw [ht]; exact (Rl.top_iff hm).2 h2)
    · refine rring_cyc m f w hm ?_ s _ hs
      rw [ht]
      cases hb : (Rl.topL m f).isSome
      · rfl
      · have hno := (Rl.top_iff hm).1 hb
        rcases Rl.ring_cyc hm with ⟨h3, _⟩ | h3
        · have := hs.pos; rw [h3] at this; simp at this
        · obtain ⟨a, p⟩ := h3.round; exact absurd p.path (hno a)
end Go.Proofs.YtknjdfgmejobfaaDoor
