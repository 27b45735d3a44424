/- seisinlaw03: mixed. -/
import Derived.Test.YtknjdfgmejobfaaDoorUd
namespace Go.Proofs.YtknjdfgmejobfaaDoor
open Go.RowKit Go.Shelf

/-- the places that the bytes name -/
def placeF (l : Nat) (zs : List Int) (k : Nat) : Nat := if 0 < l then (zs.getD (k % l) 0).toNat % (k + 1) else k
theorem placeF_le (l : Nat) (zs : List Int) (k : Nat) : placeF l zs k ≤ k := by
  unfold placeF
  split
  · have := Nat.mod_lt (zs.getD (k % l) 0).toNat (show 0 < k + 1 by omega); omega
  · exact Nat.le_refl _
theorem nums_app (a b : List Nat) : nums (a ++ b) = nums a ++ nums b := by unfold nums; rw [List.map_append]
theorem nums_len (a : List Nat) : (nums a).length = a.length := by unfold nums; rw [List.length_map]
theorem nums_one (a : List Nat) : ∀ u ∈ nums a, u.oneCell' = true := by
  intro u hu; unfold nums at hu; obtain ⟨x, _, rfl⟩ := List.mem_map.1 hu; rfl
/-- the cells of the end of a list, and of its front -/
theorem add_at (g k j : Nat) : (⟨g, k, none⟩ : Addr).add j = ⟨g, k + j, none⟩ := by unfold Addr.add; split <;> simp_all
theorem drop_cells {W : World} {g p : Nat} {L : List Nat} (h : IntsAt W (some ⟨g, 0, none⟩) (ints L)) : ∀ j u, (nums (L.drop p))[j]? = some u → W.cell? ((⟨g, p, none⟩ : Addr).add j) = some u := by
  intro j u hu
  obtain ⟨hj, hx⟩ := List.getElem?_eq_some_iff.1 hu
  have hj2 : j < (L.drop p).length := by rw [nums_len] at hj; exact hj
  rw [List.length_drop] at hj2
  obtain ⟨b, off, e, _, hc⟩ := h (by rw [ints_len]; omega)
  injection e with e
  injection e with e3 e4
  rw [add_at]
  have h5 := hc (p + j) (by rw [ints_len]; omega)
  rw [← e3, ← e4, Nat.zero_add] at h5
  rw [h5, ← hx]
  unfold ints nums
  simp [List.getD_eq_getElem?_getD, List.getElem?_eq_getElem (show p + j < L.length by omega)]
theorem take_cells {W : World} {g p : Nat} {L : List Nat} (h : IntsAt W (some ⟨g, 0, none⟩) (ints L)) : ∀ j u, (nums (L.take p))[j]? = some u → W.cell? ((⟨g, 0, none⟩ : Addr).add j) = some u := by
  intro j u hu
  obtain ⟨hj, hx⟩ := List.getElem?_eq_some_iff.1 hu
  have hj2 : j < (L.take p).length := by rw [nums_len] at hj; exact hj
  rw [List.length_take] at hj2
  obtain ⟨b, off, e, _, hc⟩ := h (by rw [ints_len]; omega)
  injection e with e
  injection e with e3 e4
  rw [add_at, Nat.zero_add]
  have h5 := hc j (by rw [ints_len]; omega)
  rw [← e3, ← e4, Nat.zero_add] at h5
  rw [h5, ← hx]
  unfold ints nums
  simp [List.getD_eq_getElem?_getD, List.getElem?_eq_getElem (show j < L.length by omega)]
end Go.Proofs.YtknjdfgmejobfaaDoor
