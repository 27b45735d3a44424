/- reference of layer 3, plain: which lists are orders; the pairs of an order. -/
import Derived.Test.YtknjdfgmejobfaaDoorWa
import Derived.Test.YtknjdfgmejobfaaDoorLg
import Derived.Test.YtknjdfgmejobfaaDoorTf
namespace Go.Proofs.YtknjdfgmejobfaaDoor
open Go.RowKit Go.Shelf

theorem listed_iff (n : Nat) (zs : List Int) : listedB n zs = true ↔ zs.length = n ∧ (∀ z ∈ zs, 0 ≤ z ∧ z < n) ∧ zs.Nodup := by
  unfold listedB listedK
  rw [Bool.and_eq_true, decide_eq_true_eq, List.all_eq_true]
  constructor
  · rintro ⟨h1, h2⟩
    have hl : zs.length = n := by omega
    rw [hl] at h2
    have hin : ∀ a, a < n → (a : Int) ∈ zs := fun a ha => by
      have := h2 a (List.mem_range.2 ha)
      rw [decide_eq_true_eq] at this
      exact List.count_pos_iff.1 (by omega)
    have hr : ∀ z ∈ zs, 0 ≤ z ∧ z < n := fun z hz => by
      apply Classical.byContradiction
      intro hno
      have hnd : (z :: ints (List.range n)).Nodup := by
        rw [List.nodup_cons]
        refine ⟨fun hm => ?_, ?_⟩
        · unfold ints at hm
          obtain ⟨a, ha, rfl⟩ := List.mem_map.1 hm
          have := List.mem_range.1 ha
          exact hno ⟨by omega, by omega⟩
        · unfold ints
          exact List.pairwise_map.2 (List.nodup_range.imp fun h e => h (by omega))
      have := List.Nodup.length_le_of_subset hnd (fun x hx => by
        rcases List.mem_cons.1 hx with rfl | hx
        · exact hz
        · unfold ints at hx
          obtain ⟨a, ha, rfl⟩ := List.mem_map.1 hx
          exact hin a (List.mem_range.1 ha))
      rw [List.length_cons, ints_len, List.length_range] at this
      omega
    refine ⟨hl, hr, List.nodup_iff_count.2 fun z => ?_⟩
    by_cases hz : z ∈ zs
    · obtain ⟨h0, h3⟩ := hr z hz
      obtain ⟨a, rfl⟩ : ∃ a : Nat, z = (a : Int) := ⟨z.toNat, by omega⟩
      have := h2 a (List.mem_range.2 (by omega))
      rw [decide_eq_true_eq] at this
      omega
    · rw [List.count_eq_zero.2 hz]; omega
  · rintro ⟨h1, h2, h3⟩
    refine ⟨by omega, fun a ha => ?_⟩
    rw [h1] at ha
    have ha := List.mem_range.1 ha
    rw [decide_eq_true_eq]
    have hle := List.nodup_iff_count.1 h3 (a : Int)
    have hm : (a : Int) ∈ zs := by
      have e : zs = ints (natL zs) := (ints_natL (fun z hz => (h2 z hz).1)).symm
      have hf := full_list (n := n) (L := natL zs) (by
        rw [e] at h3; unfold ints at h3
        exact (List.pairwise_map.1 h3).imp fun h e => h (by rw [e])) (fun b hb => by
        unfold natL at hb
        obtain ⟨z, hz, rfl⟩ := List.mem_map.1 hb
        have := h2 z hz; omega) (by unfold natL; rw [List.length_map, h1]) a ha
      rw [e]; unfold ints; exact List.mem_map.2 ⟨a, hf, rfl⟩
    have := List.count_pos_iff.2 hm
    omega
theorem okL_listed (n : Int) (zs : List Int) : okL n zs = (decide (0 ≤ n ∧ n ≤ 48) && listedB n zs) := by
  by_cases h0 : 0 ≤ n
  · obtain ⟨m, rfl⟩ : ∃ m : Nat, n = (m : Int) := ⟨n.toNat, by omega⟩
    rw [Bool.eq_iff_iff, Bool.and_eq_true, listed_iff, decide_eq_true_eq]
    unfold okL
    rw [Bool.and_eq_true, decide_eq_true_eq, decide_eq_true_eq]
    constructor
    · rintro ⟨⟨_, h1, h2⟩, h3, h4⟩; exact ⟨⟨by omega, h1⟩, by omega, h3, h4⟩
    · rintro ⟨⟨_, h1⟩, h2, h3, h4⟩; exact ⟨⟨by omega, h1, by omega⟩, h3, h4⟩
  · unfold okL
    rw [decide_eq_false (p := 0 ≤ n ∧ n ≤ 48 ∧ (zs.length : Int) = n) (fun h => h0 h.1), decide_eq_false (p := 0 ≤ n ∧ n ≤ 48) (fun h => h0 h.1), Bool.false_and, Bool.false_and]

/-! ### the pairs of an order -/
def rowQ (L : List Nat) (a j : Nat) : List (Nat × Nat) := (List.range' (a + 1) (j - (a + 1))).map fun i => (L.getD a 0, L.getD i 0)
def PP (L : List Nat) (i : Nat) : List (Nat × Nat) := (List.range i).flatMap fun a => rowQ L a L.length
theorem rowQ_first (L : List Nat) (a : Nat) : rowQ L a (a + 1) = [] := by unfold rowQ; rw [Nat.sub_self]; rfl
theorem rowQ_succ (L : List Nat) (a j : Nat) (h : a + 1 ≤ j) : rowQ L a (j + 1) = rowQ L a j ++ [(L.getD a 0, L.getD j 0)] := by
  unfold rowQ
  rw [show j + 1 - (a + 1) = (j - (a + 1)) + 1 by omega, List.range'_1_concat, List.map_append, show a + 1 + (j - (a + 1)) = j by omega]; rfl
theorem PP_succ (L : List Nat) (i : Nat) : PP L (i + 1) = PP L i ++ rowQ L i L.length := by unfold PP; rw [List.range_succ, List.flatMap_append]; simp
theorem rowQ_le (L : List Nat) (a j : Nat) : (rowQ L a j).length ≤ j := by unfold rowQ; rw [List.length_map, List.length_range']; omega
theorem PP_le (L : List Nat) (i : Nat) : (PP L i).length ≤ i * L.length := by
  have := Rl.flatMap_le (l := List.range i) (g := fun a => rowQ L a L.length) (m := L.length) (fun a _ => rowQ_le L a _)
  rw [List.length_range] at this; exact this
theorem mem_PP (L : List Nat) (x y : Nat) : (x, y) ∈ PP L L.length ↔ ∃ a i, a < i ∧ i < L.length ∧ L.getD a 0 = x ∧ L.getD i 0 = y := by
  unfold PP rowQ
  rw [List.mem_flatMap]
  constructor
  · rintro ⟨a, ha, h⟩
    obtain ⟨i, hi, e⟩ := List.mem_map.1 h
    rw [List.mem_range'_1] at hi
    injection e with e1 e2
    exact ⟨a, i, by omega, by omega, e1, e2⟩
  · rintro ⟨a, i, h1, h2, h3, h4⟩
    exact ⟨a, List.mem_range.2 (by omega), List.mem_map.2 ⟨i, by rw [List.mem_range'_1]; omega, by rw [h3, h4]⟩⟩
theorem getD_idx {L : List Nat} (hd : L.Nodup) {a x : Nat} (ha : a < L.length) (h : L.getD a 0 = x) : L.idxOf x = a := by
  apply idxOf_at hd
  rw [← h, List.getD_eq_getElem?_getD, List.getElem?_eq_getElem ha]; rfl
theorem mem_PP_idx {n : Nat} {L : List Nat} (h : Full n L) (x y : Nat) : (x, y) ∈ PP L L.length ↔ y < n ∧ L.idxOf x < L.idxOf y := by
  rw [mem_PP]
  constructor
  · rintro ⟨a, i, h1, h2, h3, h4⟩
    rw [getD_idx h.nodup (by omega) h3, getD_idx h.nodup h2 h4]
    refine ⟨h.lt y ?_, h1⟩
    rw [← h4, List.getD_eq_getElem?_getD, List.getElem?_eq_getElem h2]
    exact List.getElem_mem _
  · rintro ⟨h1, h2⟩
    have hy := List.idxOf_lt_length_of_mem ((h.mem y).2 h1)
    refine ⟨L.idxOf x, L.idxOf y, h2, hy, ?_, ?_⟩
    · rw [List.getD_eq_getElem?_getD, List.getElem?_eq_getElem (by omega)]; exact List.getElem_idxOf _
    · rw [List.getD_eq_getElem?_getD, List.getElem?_eq_getElem hy]; exact List.getElem_idxOf _
theorem PP_ofB {n : Nat} {L : List Nat} (hn : n ≤ 48) (h : Full n L) : ofB n (pI (PP L L.length)) = true := by
  unfold ofB
  rw [decide_eq_true (show (0 : Int) ≤ (n : Int) ∧ (n : Int) ≤ 48 by omega), Bool.true_and, List.all_eq_true]
  intro p hp
  unfold pI at hp
  obtain ⟨⟨x, y⟩, hm, rfl⟩ := List.mem_map.1 hp
  have h2 := (mem_PP_idx h x y).1 hm
  have hx : x < n := (h.mem x).1 (List.idxOf_lt_length_iff.1 (Nat.lt_trans h2.2 (List.idxOf_lt_length_of_mem ((h.mem y).2 h2.1))))
  unfold inB
  rw [decide_eq_true_eq]
  show (0 : Int) ≤ (x : Int) ∧ (x : Int) < n ∧ (0 : Int) ≤ (y : Int) ∧ (y : Int) < n
  omega
theorem PP_ofR {n : Nat} {L : List Nat} (hn : n ≤ 48) (h : Full n L) : ofR (pI (PP L L.length)) = totL L :=
  Rl.ok_iff_ext (ok_of (PP_ofB hn h)) (tot_ok hn h) fun x y _ _ => by
    rw [ofR_bit (PP_ofB hn h), tot_bit hn h, ← mem_PP_idx h]
    unfold pI
    rw [List.mem_map]
    constructor
    · rintro ⟨⟨a, b⟩, hm, e⟩
      injection e with e1 e2
      rw [show a = x by omega, show b = y by omega] at hm
      exact hm
    · intro hm; exact ⟨(x, y), hm, rfl⟩
end Go.Proofs.YtknjdfgmejobfaaDoor
