/- package rel: Has. -/
import Derived.Test.YtknjdfgmejobfaaDoorNh
namespace Go.Proofs.YtknjdfgmejobfaaDoor
open Go.RowKit Go.Shelf

attribute [local go_sem] Bv.and_u Bv.or_u Bv.andNot_u Bv.wrap_sub1 Bv.eq0 Bv.ne0 Bv.wrap_pow Bv.wrap_powmin Bv.wrap_neg Bv.eq_u Bv.ne_u Bv.shr_min Bv.shr_pow Bv.tmod2 Bv.and1 Bv.wrap_add Bv.B1_eq1 Bv.B1_eq0 Bv.B1_ne1 Bv.B1_ne0

/-- the inverse, valid or not -/
def backN (n : Int) (f : Rl.Rows) : Int := if Rl.rightB n f then n else 0
def backR (n : Int) (f : Rl.Rows) : Rl.Rows := if Rl.rightB n f then Rl.backF n.toNat f else zeroR
theorem back_any (n : Int) (f : Rl.Rows) (w : World) (zf : Rl.Z f) (hT : Tab w) (hw : 0 < w.heap.size) :
    Calls Tryd.prog 20 #[.agg (relC n f)] w fun e w' => e = .returned (.agg (relC (backN n f) (backR n f))) ∧ Below w.heap.size w w' := by
  unfold backN backR
  cases h : Rl.rightB n f
  · rw [if_neg (by simp), if_neg (by simp)]; exact back_no n f w h
  · obtain ⟨m, rfl, hm⟩ := Rl.right_nat zf h
    rw [if_pos rfl, if_pos rfl, Int.toNat_natCast]; exact back_yes m f w hm hT hw
/-- is (a, b) a pair? -/
def pairB (n : Int) (f : Rl.Rows) (a b : Int) : Bool := Rl.rightB n f && decide (0 ≤ a ∧ a < n ∧ 0 ≤ b ∧ b < n) && Rl.bit f a.toNat b.toNat

set_option maxRecDepth 100000 in
set_option maxHeartbeats 1000000 in
theorem has_any (n : Int) (f : Rl.Rows) (a b : Int) (w : World) (zf : Rl.Z f) :
    Calls Tryd.prog 29 #[.agg (relC n f), .int .i64 a, .int .i64 b] w fun e w' => e = .returned (.bool (pairB n f a b)) ∧ Below w.heap.size w w' := by
  have h0 := RelAt.new w n f
  have hB := (Below.refl w.heap.size w).alloc (Nat.le_refl _) (.cells (relC n f) 26)
  cases hr : Rl.rightB n f
  · have he : pairB n f a b = false := by unfold pairB; rw [hr]; rfl
    rw [he]
    have H := Lib.hid (And.intro h0 (And.intro hB hr))
    clear h0 hB hr he
    go_enter Tryd.func29, Tryd.ntmps29
    go_wp2_with (refine wpList_load_rel (by rfl) (.tmp 3) (by rfl) w.heap.size n f (by rfl) H.out.1 ?_)
    with_reducible refine (right_is _ _ _ H.out.2.2 _).mono ?_
    rintro e w1 ⟨rfl, hb⟩
    have H1 := Lib.hid (H.out.2.1.trans (hb.mono H.out.2.1.size))
    clear hb
    go_wp2_with fail
    go_ret
    exact ⟨rfl, H1.out⟩
  · obtain ⟨m, rfl, hm⟩ := Rl.right_nat zf hr
    have m48 := hm.le
    by_cases hin : 0 ≤ a ∧ a < m ∧ 0 ≤ b ∧ b < m
    · obtain ⟨x, rfl⟩ : ∃ x : Nat, a = (x : Int) := ⟨a.toNat, by omega⟩
      obtain ⟨y, rfl⟩ : ∃ y : Nat, b = (y : Int) := ⟨b.toNat, by omega⟩
      have he : pairB m f x y = Bv.G (f x) y := by unfold pairB; rw [hr, decide_eq_true hin]; rfl
      rw [he]
      have hx : x < m := by omega
      have hy : y < m := by omega
      have H := Lib.hid (And.intro h0 (And.intro hB hr))
      clear h0 hB hr he hin
      go_enter Tryd.func29, Tryd.ntmps29
      go_wp2_with (refine wpList_load_rel (by rfl) (.tmp 3) (by rfl) w.heap.size m f (by rfl) H.out.1 ?_)
      with_reducible refine (right_is _ _ _ H.out.2.2 _).mono ?_
      rintro e w1 ⟨rfl, hb⟩
      have H1 := Lib.hid (And.intro (H.out.1.below hb (by simp)) (H.out.2.1.trans (hb.mono H.out.2.1.size)))
      clear hb
      have c0 := H1.out.1.num
      have c1 := H1.out.1.row x (by omega)
      have q0 : (0 : Int) ≤ (x : Int) := by omega
      have q1 : (x : Int) < 48 := by omega
      have q2 : (0 : Int) ≤ (y : Int) := by omega
      have q3 : (y : Int) < 64 := by omega
      go_wp2_with fail
      go_ret
      exact ⟨rfl, H1.out.2⟩
    · have he : pairB m f a b = false := by unfold pairB; rw [hr, decide_eq_false hin]; rfl
      rw [he]
      have H := Lib.hid (And.intro h0 (And.intro hB hr))
      clear h0 hB hr he
      have hcase : a < 0 ∨ (0 ≤ a ∧ (m : Int) ≤ a) ∨ (0 ≤ a ∧ a < m ∧ b < 0) ∨ (0 ≤ a ∧ a < m ∧ 0 ≤ b ∧ (m : Int) ≤ b) := by omega
      clear hin
      rcases hcase with h1 | ⟨h1, h2⟩ | ⟨h1, h2, h3⟩ | ⟨h1, h2, h3, h4⟩
      all_goals
        go_enter Tryd.func29, Tryd.ntmps29
        go_wp2_with (refine wpList_load_rel (by rfl) (.tmp 3) (by rfl) w.heap.size m f (by rfl) H.out.1 ?_)
        with_reducible refine (right_is _ _ _ H.out.2.2 _).mono ?_
        rintro e w1 ⟨rfl, hb⟩
        have H1 := Lib.hid (And.intro (H.out.1.below hb (by simp)) (H.out.2.1.trans (hb.mono H.out.2.1.size)))
        clear hb
        have c0 := H1.out.1.num
        go_wp2_with fail
        go_ret
        exact ⟨rfl, H1.out.2⟩
end Go.Proofs.YtknjdfgmejobfaaDoor
