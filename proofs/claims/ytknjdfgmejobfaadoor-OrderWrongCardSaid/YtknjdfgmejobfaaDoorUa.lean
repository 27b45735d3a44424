/- layer 3's law: the walk of OrderWrong. -/
import Derived.Test.YtknjdfgmejobfaaDoorSn
import Derived.Test.YtknjdfgmejobfaaDoorSl
import Derived.Lib.QuietBelow
import Derived.Maps.OwnOps
import Derived.Maps.OwnSet
import Derived.Maps.Views
import Derived.WalkArith
namespace Go.Proofs.YtknjdfgmejobfaaDoor
open Go.RowKit Go.Shelf Go.Maps

/-- are the first k integers different items of n? -/
def wrongK (n : Int) (zs : List Int) (k : Nat) : Bool := decide (0 ≤ n ∧ n ≤ 48 ∧ (zs.length : Int) = n) && decide ((∀ z ∈ zs.take k, 0 ≤ z ∧ z < n) ∧ (zs.take k).Nodup)
theorem wrongK_all (n : Int) (zs : List Int) : wrongK n zs zs.length = okL n zs := by unfold wrongK okL; rw [List.take_length]
theorem wrongK_zero (n : Int) (zs : List Int) : wrongK n zs 0 = decide (0 ≤ n ∧ n ≤ 48 ∧ (zs.length : Int) = n) := by unfold wrongK; simp
theorem wrongK_succ (n : Int) (zs : List Int) (k : Nat) (hk : k < zs.length) : wrongK n zs (k + 1) = (wrongK n zs k && decide (0 ≤ zs.getD k 0) && decide (zs.getD k 0 < n) && decide ((((zs.take k).count (zs.getD k 0) + 1 : Nat) : Int) = 1)) := by
  unfold wrongK
  have e : zs.take (k + 1) = zs.take k ++ [zs.getD k 0] := by
    rw [List.take_add_one, List.getElem?_eq_getElem hk, List.getD_eq_getElem?_getD, List.getElem?_eq_getElem hk]; rfl
  rw [e, Bool.eq_iff_iff]
  simp only [Bool.and_eq_true, decide_eq_true_eq, List.mem_append, List.mem_singleton, List.nodup_append]
  have hc : (((zs.take k).count (zs.getD k 0) + 1 : Nat) : Int) = 1 ↔ zs.getD k 0 ∉ zs.take k := by
    rw [← List.count_eq_zero]; omega
  rw [hc]
  constructor
  · rintro ⟨h0, h1, h2, _, h3⟩
    refine ⟨⟨⟨⟨h0, fun z hz => h1 z (.inl hz), h2⟩, (h1 _ (.inr rfl)).1⟩, (h1 _ (.inr rfl)).2⟩, fun hm => h3 _ hm _ (by simp) rfl⟩
  · rintro ⟨⟨⟨⟨h0, h1, h2⟩, h3⟩, h4⟩, h5⟩
    refine ⟨h0, fun z hz => ?_, h2, by simp, fun a ha b hb e2 => ?_⟩
    · rcases hz with hz | rfl
      · exact h1 z hz
      · exact ⟨h3, h4⟩
    · exact h5 (by rw [← hb, ← e2]; exact ha)

/-- the map holds how often each integer has been met -/
def Met (W : World) (b : Nat) (l : List Int) : Prop := ∃ D : DataW Unit, W.ownsMap Tryd.prog 3 (plainElem Tryd.prog 3) b l.length D ∧ ∀ z : Int, D.atKey (.int .i64 z) (.lit (.int .i64 0)) = .lit (.int .i64 (l.count z))
theorem met_made (W : World) : Met (W.alloc (.map #[] 0)) W.heap.size [] := ⟨_, World.ownsMap_made _ _ _ _, fun z => by rfl⟩
set_option maxRecDepth 100000 in
theorem keyInt (z : Int) (hz : (Lit.int .i64 z).wf = true) : keyOf Tryd.prog 3 (.int .i64 z) = some (.int .i64 z) := keyOf_int_mk Tryd.underlying3 hz
set_option maxRecDepth 100000 in
theorem zeroInt (W : World) : (zeroValue 3).run Tryd.prog W = .ok (.int .i64 0) W := by kernel_rfl
set_option maxRecDepth 100000 in
theorem lawInt : Keyed Tryd.prog 3 := int_keyed Tryd.underlying3
set_option maxRecDepth 100000 in
theorem Met.look {W : World} {b : Nat} {l : List Int} (h : Met W b l) (z : Int) (hz : (Lit.int .i64 z).wf = true) : (Instr.lookup 68 (.map (some b)) (.int .i64 z) false).run Tryd.prog W = .ok (.int .i64 (l.count z)) W := by
  obtain ⟨D, hown, hat⟩ := h
  obtain ⟨c, hrun, hc, _⟩ := hown.lookup_int (t := 68) lawInt Tryd.underlying68 Tryd.underlying3 (zeroInt W) (keyInt z hz)
  rw [hat] at hc
  injection hc with hc
  injection hc with _ hc
  rw [hrun, hc]
set_option maxRecDepth 100000 in
theorem Met.store {W : World} {b : Nat} {l : List Int} (h : Met W b l) (z : Int) (hz : (Lit.int .i64 z).wf = true) (hl : l.length < maxLen) : ∃ W', (Instr.mapUpdate 68 (.map (some b)) (.int .i64 z) (.int .i64 ((l.count z : Int) + 1))).run Tryd.prog W = .ok () W' ∧ Met W' b (l ++ [z]) ∧ W.grownBy W' (some b) := by
  obtain ⟨D, hown, hat⟩ := h
  have hle := List.count_le_length (a := z) (l := l)
  have hw2 : (Lit.int .i64 ((l.count z : Int) + 1)).wf = true := by
    unfold maxLen at hl
    exact WalkArith.wf_i64 ⟨by omega, by omega⟩
  obtain ⟨W', h1, h2, h3⟩ := hown.update (t := 68) lawInt Tryd.underlying68 hl (keyInt z hz) (plainElem_int Tryd.underlying3 hw2)
  refine ⟨W', h1, ⟨_, by rw [List.length_append]; exact h2, fun y => ?_⟩, h3⟩
  by_cases e : y = z
  · subst e
    rw [atKey_put_same (hown.isMap) (by trivial)]
    simp [List.count_append]
  · rw [atKey_put_other (fun e2 => e (by injection e2)), hat, List.count_append]
    rw [show List.count y [z] = 0 from List.count_eq_zero.2 (by simp [e])]
    simp
end Go.Proofs.YtknjdfgmejobfaaDoor
