/- seisinlaw03: ahead. -/
import Derived.Test.YtknjdfgmejobfaaDoorUd
namespace Go.Proofs.YtknjdfgmejobfaaDoor
open Go.RowKit Go.Shelf

set_option maxRecDepth 100000 in
set_option maxHeartbeats 1000000 in
theorem ahead_any (A B : Option Addr) (x y : List Nat) (n c d : Nat) (w : World) (hx : x.length = n) (hy : y.length = n) (hn : n ≤ 64) (hA : IntsAt w A (ints x)) (hB : IntsAt w B (ints y)) (r : Bool) (hr : aheadB x y = r) :
    Calls Tryd.prog 57 #[.slice A n c, .slice B n d] w fun e w' => e = .returned (.bool r) ∧ Below w.heap.size w w' := by
  have H := Lib.hid (And.intro hx (And.intro hy (And.intro hA (And.intro hB hr))))
  clear hx hy hA hB hr
  go_enter Tryd.func57, Tryd.ntmps57
  go_wp2_with fail
  go_loopw [8] (fun i wr => ∃ k : Nat, k ≤ n ∧ i = .int .i64 k ∧ (∀ j, j < k → x[j]? = y[j]?) ∧ Below w.heap.size w wr) (fun i _ => n - (intOf i).toNat)
  case atStart => exact ⟨0, Nat.zero_le _, rfl, fun j hj => by omega, Below.refl _ _⟩
  case round =>
    obtain ⟨k, hk, rfl, hsame, hb⟩ := hrel
    by_cases hlt : k < n
    · obtain ⟨b, off, rfl, hbl, hc⟩ := (H.out.2.2.1.below hb (Nat.le_refl _)) (by rw [ints_len, H.out.1]; omega)
      obtain ⟨b2, off2, rfl, hbl2, hc2⟩ := (H.out.2.2.2.1.below hb (Nat.le_refl _)) (by rw [ints_len, H.out.2.1]; omega)
      obtain ⟨p, hp⟩ : ∃ p, x[k]? = some p := ⟨_, List.getElem?_eq_getElem (by rw [H.out.1]; exact hlt)⟩
      obtain ⟨q, hq⟩ : ∃ q, y[k]? = some q := ⟨_, List.getElem?_eq_getElem (by rw [H.out.2.1]; exact hlt)⟩
      have c1 := hc k (by rw [ints_len, H.out.1]; exact hlt)
      have c2 := hc2 k (by rw [ints_len, H.out.2.1]; exact hlt)
      rw [ints_get hp] at c1
      rw [ints_get hq] at c2
      have HH := Lib.hid (And.intro hsame (And.intro hb (And.intro hp hq)))
      clear hc hc2 hp hq hsame hb
      by_cases hxy : p = q
      · have he : ((p : Int) != (q : Int)) = false := by simp [hxy]
        have he2 : (p != q) = false := by simp [hxy]
        have HX := Lib.hid hxy
        clear hxy
        go_wp2_with fail
        go_quiet (fail)
        go_wp2_with fail
        go_roundw
        case rel =>
          refine ⟨k + 1, by omega, by go_num, fun j hj => ?_, by repeat (first | exact HH.out.2.1 | exact below_drewN HH.out.2.1 _ | refine Below.drew ?_)⟩
          by_cases e : j = k
          · subst e; rw [HH.out.2.2.1, HH.out.2.2.2, HX.out]
          · exact HH.out.1 j (by omega)
        case measure => simp [intOf]; omega
      · have he : ((p : Int) != (q : Int)) = true := by simp; omega
        have he2 : (p != q) = true := by simp [hxy]
        have hans : decide ((p : Int) < (q : Int)) = r := by
          rw [← H.out.2.2.2.2, aheadB_at k HH.out.1 HH.out.2.2.1 HH.out.2.2.2 hxy]
          apply decide_eq_decide.2; omega
        have hans2 : decide (p < q) = r := by
          rw [← H.out.2.2.2.2, aheadB_at k HH.out.1 HH.out.2.2.1 HH.out.2.2.2 hxy]
        clear hxy
        go_wp2_with fail
        go_quiet (fail)
        go_wp2_with fail
        go_quiet (fail)
        go_wp2_with fail
        go_ret
        exact ⟨rfl, by repeat (first | exact HH.out.2.1 | exact below_drewN HH.out.2.1 _ | exact below_drewN (below_drewN HH.out.2.1 _) _ | refine Below.drew ?_)⟩
    · obtain rfl : k = n := by omega
      have heq : x = y := List.ext_getElem? fun j => by
        by_cases e : j < k
        · exact hsame j e
        · rw [List.getElem?_eq_none (by rw [H.out.1]; omega), List.getElem?_eq_none (by rw [H.out.2.1]; omega)]
      have hans : r = false := by rw [← H.out.2.2.2.2, heq, aheadB_same]
      have HB := Lib.hid (And.intro hb hans)
      clear hb hans heq hsame
      go_wp2_with fail
      go_ret
      exact ⟨by rw [HB.out.2]; rfl, HB.out.1⟩
end Go.Proofs.YtknjdfgmejobfaaDoor
