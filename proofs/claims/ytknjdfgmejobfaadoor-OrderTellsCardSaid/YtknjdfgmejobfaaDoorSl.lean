/- seisinlaw03: Lists. -/
import Derived.Test.YtknjdfgmejobfaaDoorSk
import Derived.Test.YtknjdfgmejobfaaDoorSg
import Derived.StillTailTactics
import Derived.BigQuiet
namespace Go.Proofs.YtknjdfgmejobfaaDoor
open Go.RowKit Go.Shelf

/-- the lists l lie from A on -/
def ListsAt (w : World) (A : Option Addr) (l : List (List Nat)) : Prop :=
  0 < l.length → ∃ b off, A = some ⟨b, off, none⟩ ∧ b < w.heap.size ∧ ∀ i x, l[i]? = some x → ∃ B c, w.cell? ⟨b, off + i, none⟩ = some (.slice B x.length c) ∧ x.length ≤ 64 ∧ IntsAt w B (ints x)
theorem ListsAt.below {n : Nat} {w w' : World} {A : Option Addr} {l : List (List Nat)} (h : ListsAt w A l) (hb : Below n w w') (hn : w.heap.size ≤ n) : ListsAt w' A l := by
  intro hp
  obtain ⟨b, off, e, hlt, hc⟩ := h hp
  refine ⟨b, off, e, Nat.lt_of_lt_of_le hlt hb.size, fun i x hx => ?_⟩
  obtain ⟨B, c, h1, h2, h3⟩ := hc i x hx
  exact ⟨B, c, (hb.cell (p := ⟨b, off + i, none⟩) (by show b < n; omega)).trans h1, h2, h3.below hb hn⟩
theorem lists_at {base : Nat} {l : List (List Nat)} {v : Value} {W : World} (h : ListsV base l v W) (hx : ∀ x ∈ l, x.length ≤ 64) : ∃ A c, v = .slice A l.length c ∧ ListsAt W A l := by
  obtain ⟨vs, hrow, hel⟩ := h
  obtain ⟨A, c, e1, e2, _, h4⟩ := row_at hrow
  rw [e2] at e1 h4
  refine ⟨A, c, e1, fun hp => ?_⟩
  obtain ⟨b, rfl, _, hb, hc⟩ := h4 hp
  refine ⟨b, 0, rfl, hb, fun i x hi => ?_⟩
  obtain ⟨u, hu, g, k, rfl, _, hr⟩ := hel i x hi
  obtain ⟨A2, c2, e3, _, _, h5⟩ := row_ints hr
  rw [ints_len] at e3
  injection e3 with e3 e4 e5
  subst e3
  exact ⟨_, _, hc i _ hu, hx x (List.mem_of_getElem? hi), h5⟩

theorem map_inj : ∀ {xs ys : List Nat}, xs.map (fun k : Nat => (k : Int)) = ys.map (fun k : Nat => (k : Int)) → xs = ys
  | [], [], _ => rfl
  | [], _ :: _, h => by simp at h
  | _ :: _, [], h => by simp at h
  | x :: xs, y :: ys, h => by
    simp only [List.map_cons, List.cons.injEq] at h
    rw [map_inj h.2, show x = y by omega]
attribute [local go_sem] Bv.and_u Bv.or_u Bv.andNot_u Bv.wrap_sub1 Bv.eq0 Bv.ne0 Bv.wrap_pow Bv.wrap_powmin Bv.wrap_neg Bv.eq_u Bv.ne_u
theorem ints_dec (A B : Option Addr) (xs ys : List Nat) (c d : Nat) (r : Bool) (w : World) (hr : r = decide (xs = ys)) (hx : xs.length ≤ 64) (hy : ys.length ≤ 64) (hA : IntsAt w A (ints xs)) (hB : IntsAt w B (ints ys)) :
    Calls Tryd.prog 32 #[.slice A xs.length c, .slice B ys.length d] w fun e w' => e = .returned (.bool r) ∧ Below w.heap.size w w' := by
  have h := ints_any A B (ints xs) (ints ys) c d w (by rw [ints_len]; unfold maxLen; omega) (by rw [ints_len]; unfold maxLen; omega) hA hB
  rw [ints_len, ints_len] at h
  have : decide (ints xs = ints ys) = r := by
    rw [hr]
    apply decide_eq_decide.2
    constructor
    · intro e
      unfold ints at e
      exact map_inj e
    · intro e; rw [e]
  rw [this] at h
  exact h
set_option maxRecDepth 100000 in
set_option maxHeartbeats 2000000 in
theorem lists_any (A B : Option Addr) (la lb : List (List Nat)) (c d : Nat) (w : World) (hx : la.length ≤ maxLen) (hy : lb.length ≤ maxLen) (hA : ListsAt w A la) (hB : ListsAt w B lb) (r : Bool) (hr : r = decide (la = lb)) :
    Calls Tryd.prog 53 #[.slice A la.length c, .slice B lb.length d] w fun e w' => e = .returned (.bool r) ∧ Below w.heap.size w w' := by
  unfold maxLen at hx hy
  by_cases hlen : la.length = lb.length
  · have H := Lib.hid (And.intro hA (And.intro hB (And.intro hr hlen)))
    have he : (((la.length : Nat) : Int) != ((lb.length : Nat) : Int)) = false := by simp; omega
    have he2 : (la.length != lb.length) = false := by simp; omega
    clear hA hB hr hlen
    go_enter Tryd.func53, Tryd.ntmps53
    go_wp2_with fail
    go_loopw [13] (fun i wr => ∃ k : Nat, k ≤ la.length ∧ i = .int .i64 k ∧ (∀ j, j < k → la[j]? = lb[j]?) ∧ Below w.heap.size w wr) (fun i _ => la.length - (intOf i).toNat)
    case atStart => exact ⟨0, Nat.zero_le _, rfl, fun j hj => by omega, Below.refl _ _⟩
    case round =>
      obtain ⟨k, hk, rfl, hsame, hb⟩ := hrel
      by_cases hlt : k < la.length
      · obtain ⟨b, off, hAe, hbl, hc⟩ := (H.out.1.below hb (Nat.le_refl _)) (by omega)
        obtain ⟨b2, off2, hBe, hbl2, hc2⟩ := (H.out.2.1.below hb (Nat.le_refl _)) (by have := H.out.2.2.2; omega)
        subst hAe hBe
        have hlt2 : k < lb.length := by have := H.out.2.2.2; omega
        obtain ⟨x, hx0⟩ : ∃ x, la[k]? = some x := ⟨_, List.getElem?_eq_getElem hlt⟩
        obtain ⟨y, hy0⟩ : ∃ y, lb[k]? = some y := ⟨_, List.getElem?_eq_getElem hlt2⟩
        obtain ⟨X, cx, c1, x64, hX⟩ := hc k x hx0
        obtain ⟨Y, cy, c2, y64, hY⟩ := hc2 k y hy0
        obtain ⟨s, hs⟩ : ∃ s, s = decide (x = y) := ⟨_, rfl⟩
        have HX := Lib.hid (And.intro hX (And.intro hY (And.intro hs (And.intro hsame (And.intro hb (And.intro hx0 (And.intro hy0 (And.intro x64 y64))))))))
        clear hX hY hs hsame hb hx0 hy0 hc hc2 x64 y64
        go_wp2_with fail
        have g1 : ∀ (d : Nat) (os : Array Obj), (Go.Sort.grow (redrawn wr d) os).cell? ⟨b, off + k, none⟩ = some (.slice X x.length cx) := fun d os => ((below_regrown wr d os).cell (p := ⟨b, off + k, none⟩) hbl).trans c1
        have g2 : ∀ (d : Nat) (os : Array Obj), (Go.Sort.grow (redrawn wr d) os).cell? ⟨b2, off2 + k, none⟩ = some (.slice Y y.length cy) := fun d os => ((below_regrown wr d os).cell (p := ⟨b2, off2 + k, none⟩) hbl2).trans c2
        refine wp_region_quiet_below (by kernel_rfl) (by kernel_rfl) ?_
        repeat (first | go_big_quiet_step (first | (go_at_call 32; with_reducible exact Calls.regrown_of (ints_dec _ _ x y _ _ s _ HX.out.2.2.1 HX.out.2.2.2.2.2.2.2.1 HX.out.2.2.2.2.2.2.2.2 (HX.out.1.below (below_regrown _ _ _) (Nat.le_refl _)) (HX.out.2.1.below (below_regrown _ _ _) (Nat.le_refl _))))) | quiet_step (first | (go_at_call 32; with_reducible exact Calls.regrown_of (ints_dec _ _ x y _ _ s _ HX.out.2.2.1 HX.out.2.2.2.2.2.2.2.1 HX.out.2.2.2.2.2.2.2.2 (HX.out.1.below (below_regrown _ _ _) (Nat.le_refl _)) (HX.out.2.1.below (below_regrown _ _ _) (Nat.le_refl _))))))
        refine wpQuiet_nil ?_
        intro W1 hw1
        have B1 : Hid (Below wr.heap.size wr W1) := by obtain ⟨⟨d, os⟩, rfl⟩ := hw1; exact Lib.hid (below_regrown _ _ _)
        clear hw1
        cases hsv : s
        · have hne : r = false := by
            rw [H.out.2.2.1]
            apply decide_eq_false
            intro e
            have h1 := HX.out.2.2.2.2.2.1
            rw [e, HX.out.2.2.2.2.2.2.1] at h1
            injection h1 with h1
            have h2 := HX.out.2.2.1
            rw [hsv, h1] at h2
            simp at h2
          have HN := Lib.hid hne
          clear hne
          go_wp2_with fail
          go_ret
          exact ⟨by rw [HN.out]; rfl, HX.out.2.2.2.2.1.trans (B1.out.mono HX.out.2.2.2.2.1.size)⟩
        · have heq : x = y := by
            have h2 := HX.out.2.2.1
            rw [hsv] at h2
            exact of_decide_eq_true h2.symm
          have HN := Lib.hid heq
          clear heq
          go_wp2_with fail
          go_roundw
          case rel =>
            refine ⟨k + 1, by omega, by go_num, fun j hj => ?_, HX.out.2.2.2.2.1.trans (B1.out.mono HX.out.2.2.2.2.1.size)⟩
            by_cases e : j = k
            · subst e; rw [HX.out.2.2.2.2.2.1, HX.out.2.2.2.2.2.2.1, HN.out]
            · exact HX.out.2.2.2.1 j (by omega)
          case measure => simp [intOf]; omega
      · have hall : la = lb := by
          apply List.ext_getElem?
          intro i
          by_cases hi : i < la.length
          · exact hsame i (by omega)
          · rw [List.getElem?_eq_none (by omega), List.getElem?_eq_none (by have := H.out.2.2.2; omega)]
        have hd : r = true := H.out.2.2.1.trans (decide_eq_true hall)
        have HB := Lib.hid (And.intro hb hd)
        clear hsame hall hb hd
        go_wp2_with fail
        go_ret
        exact ⟨by rw [HB.out.2]; rfl, HB.out.1⟩
  · have hd : r = false := hr.trans (decide_eq_false (fun e => hlen (by rw [e])))
    have he : (((la.length : Nat) : Int) != ((lb.length : Nat) : Int)) = true := by simp; omega
    have he2 : (la.length != lb.length) = true := by simp; omega
    clear hA hB hr
    go_enter Tryd.func53, Tryd.ntmps53
    go_wp2_with fail
    go_ret
    exact ⟨by rw [hd]; rfl, Below.refl _ _⟩
end Go.Proofs.YtknjdfgmejobfaaDoor
