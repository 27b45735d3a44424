/- what opens a list of pairs that comes in. -/
import Derived.Test.YtknjdfgmejobfaaDoorLg
import Derived.Deep.Slices
namespace Go.Proofs.YtknjdfgmejobfaaDoor
open Go.ChangeShapes Go.WideShapes Go.RowKit

theorem cellsPair : Tryd.prog.cellsOf 42 = 2 := by kernel_rfl
theorem cellsInt : Tryd.prog.cellsOf 3 = 1 := by kernel_rfl
theorem open_pairsl {H : Type} {enc : TypeId × Value → H} {w : World} {fuel : Nat} {A : Option Addr} {len cap : Nat} {x : DataW H × List MemPlace}
    (h : DataW.trod enc Tryd.prog w 0 (fun _ => true) true fuel 40 (Value.slice A len cap).cells.toList = some x) :
    ∃ l : List (Int × Int), l.length = len ∧ len ≤ maxLen ∧ PairsAt w A l := by
  rcases Deep.open_slice Tryd.underlying40 h with ⟨e1, _⟩ | ⟨a, len', cap', m, n, D, Pl, e1, hb, hle, hm, hmm, _, hx⟩
  · simp only [Value.cells, List.cons.injEq, and_true] at e1
    injection e1 with _ e2 e3
    exact ⟨[], by simp [e2], by omega, fun h => by simp at h⟩
  · simp only [Value.cells, List.cons.injEq, and_true] at e1
    injection e1 with e0 e2 e3
    subst e0 e2 e3
    rw [if_pos rfl] at hmm
    rw [hmm] at hx
    have each : ∀ i, i < cap → ∃ q : Int × Int, w.cell? (a.add (i * 2)) = some (.int .i64 q.1) ∧ w.cell? (a.add (i * 2 + 1)) = some (.int .i64 q.2) := by
      intro i hi
      obtain ⟨cs', h1, h2⟩ := hx i hi
      rw [cellsPair] at h1
      obtain ⟨_, hlen, hcell⟩ := World.cells?_some h1
      obtain ⟨xs, k, _, _, _, hxl, hf⟩ := DataW.trod_array uPair h2
      rw [cellsInt] at hf
      match xs, hxl, cs', hlen with
      | [y0, y1], _, [v0, v1], _ =>
        have g0 := hf 0 (by omega)
        have g1 := hf 1 (by omega)
        simp at g0 g1
        obtain ⟨z0, ez0, _, _⟩ := DataW.trod_int uInt g0
        obtain ⟨z1, ez1, _, _⟩ := DataW.trod_int uInt g1
        have e0 := hcell 0 (by omega)
        have e1 := hcell 1 (by omega)
        rw [Deep.add_add] at e0 e1
        simp only [List.cons.injEq, and_true] at ez0 ez1
        subst ez0 ez1
        exact ⟨(z0, z1), by simpa using e0, by simpa using e1⟩
    obtain ⟨q, hq⟩ := Deep.choose_lt each
    refine ⟨(List.range len).map q, by simp, by omega, fun hp => ?_⟩
    simp only [List.length_map, List.length_range] at hp ⊢
    obtain ⟨b, off, spot⟩ := a
    have hspot : spot = none := by simpa [Addr.add] using World.cell?_spot (hq 0 (by omega)).1
    subst hspot
    simp only [add_plain] at hq
    refine ⟨b, off, rfl, World.block_lt_of_cell? w _ (hq 0 (by omega)).1, fun i hi => ?_⟩
    have hg : ((List.range len).map q).getD i (0, 0) = q i := by
      rw [List.getD_eq_getElem?_getD, List.getElem?_map, List.getElem?_range hi]; rfl
    rw [hg]
    exact ⟨(hq i (by omega)).1, by rw [Nat.add_assoc]; exact (hq i (by omega)).2⟩
end Go.Proofs.YtknjdfgmejobfaaDoor
