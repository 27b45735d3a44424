/- layer 1, plain: first elements and what lies above a number, as lists. -/
import Derived.Test.YtjnoiahkbdoejaaDoorMk
namespace Go.Proofs.YtjnoiahkbdoejaaDoor

theorem first_list (s : BitVec 64) : firstN s = ((Bs.elems s)[0]?.getD 0 : Nat) ∧ someB s = decide (0 < (Bs.elems s).length) := by
  unfold firstN someB
  by_cases h : s = 0#64
  · subst h
    have e : Bs.elems 0#64 = [] := Bs.elems_zero
    rw [e]; simp
  · rw [if_neg h, Bs.elems_step h]
    have : (s == 0#64) = false := by simpa using h
    simp [this]

theorem above_list (s : BitVec 64) (i : Int) : Bs.elems (aboveS s i) = (Bs.elems s).filter (fun x : Nat => decide (i < (x : Int))) := by
  have e : ∀ x, x < 64 → (aboveS s i).getLsbD x = (s.getLsbD x && decide (i < (x : Int))) := by
    intro x hx
    unfold aboveS
    split
    · rw [Bv.zero_get]
      have : decide (i < (x : Int)) = false := by simp; omega
      rw [this]; simp
    · rw [BitVec.getLsbD_and, Bv.not_get _ _ hx, allS_get _ _ hx]
      congr 1
      rw [Bool.eq_iff_iff]; simp; omega
  unfold Bs.elems
  rw [List.filter_filter]
  apply List.filter_congr
  intro x hx
  rw [List.mem_range] at hx
  rw [e x hx, Bool.and_comm]

theorem sorted_above : ∀ {l : List Nat} {k x : Nat}, l.Pairwise (· < ·) → l[k]? = some x → l.filter (fun y : Nat => decide ((x : Int) < (y : Int))) = l.drop (k + 1)
  | [], k, x, _, h => by simp at h
  | a :: l, 0, x, hp, h => by
    simp at h
    subst h
    rw [List.pairwise_cons] at hp
    have h1 : ¬ ((a : Int) < (a : Int)) := by omega
    rw [List.filter_cons_of_neg (by simp), List.drop_succ_cons, List.drop_zero, List.filter_eq_self]
    intro y hy
    have := hp.1 y hy
    simp; omega
  | a :: l, k + 1, x, hp, h => by
    rw [List.pairwise_cons] at hp
    have hm : l[k]? = some x := by simpa using h
    have hax := hp.1 x (List.mem_of_getElem? hm)
    rw [List.filter_cons_of_neg (by simp; omega), List.drop_succ_cons]
    exact sorted_above hp.2 hm

/-- the element at place k, or 0; is there one? -/
def nthN (s : BitVec 64) (k : Nat) : Int := ((Bs.elems s)[k]?.getD 0 : Nat)
def nthB (s : BitVec 64) (k : Nat) : Bool := decide (k < (Bs.elems s).length)
theorem nth_first (s : BitVec 64) : firstN s = nthN s 0 ∧ someB s = nthB s 0 := first_list s
theorem nth_next (s : BitVec 64) (k : Nat) (h : k < (Bs.elems s).length) : firstN (aboveS s (nthN s k)) = nthN s (k + 1) ∧ someB (aboveS s (nthN s k)) = nthB s (k + 1) := by
  have h1 := first_list (aboveS s (nthN s k))
  have hk : (Bs.elems s)[k]? = some (Bs.elems s)[k] := List.getElem?_eq_getElem h
  have e : Bs.elems (aboveS s (nthN s k)) = (Bs.elems s).drop (k + 1) := by
    rw [above_list]
    have : nthN s k = ((Bs.elems s)[k] : Nat) := by unfold nthN; rw [hk]; rfl
    rw [this]
    exact sorted_above (Bs.elems_sorted s) hk
  rw [h1.1, h1.2, e]
  unfold nthN nthB
  refine ⟨by simp, ?_⟩
  rw [Bool.eq_iff_iff]; simp; omega
theorem ints_getD (l : List Nat) (k : Nat) : (ints l).getD k 0 = ((l[k]?.getD 0 : Nat) : Int) := by
  unfold ints
  rw [List.getD_eq_getElem?_getD, List.getElem?_map]
  cases l[k]? <;> rfl
/-- the first element above i, place by place -/
theorem above_hit (s : BitVec 64) (i : Int) (k : Nat) (hk : k < (Bs.elems s).length) (hlow : ∀ j, j < k → nthN s j ≤ i) (hx : i < nthN s k) : firstN (aboveS s i) = nthN s k ∧ someB (aboveS s i) = true := by
  have h1 := first_list (aboveS s i)
  have hg : (Bs.elems s)[k]? = some (Bs.elems s)[k] := List.getElem?_eq_getElem hk
  have hn : nthN s k = ((Bs.elems s)[k] : Nat) := by unfold nthN; rw [hg]; rfl
  have hd : (Bs.elems s).drop k = (Bs.elems s)[k] :: (Bs.elems s).drop (k + 1) := List.drop_eq_getElem_cons hk
  have e : Bs.elems (aboveS s i) = (Bs.elems s)[k] :: ((Bs.elems s).drop (k + 1)).filter (fun x : Nat => decide (i < (x : Int))) := by
    rw [above_list]
    conv => lhs; rw [← List.take_append_drop k (Bs.elems s), List.filter_append, hd]
    rw [List.filter_cons_of_pos (by rw [hn] at hx; simpa using hx)]
    have : ((Bs.elems s).take k).filter (fun x : Nat => decide (i < (x : Int))) = [] := by
      rw [List.filter_eq_nil_iff]
      intro a ha
      obtain ⟨j, hj, rfl⟩ := List.mem_iff_getElem.1 ha
      have hjk : j < k := by simp at hj; omega
      have := hlow j hjk
      unfold nthN at this
      have hj2 : j < (Bs.elems s).length := by omega
      rw [List.getElem?_eq_getElem hj2] at this
      simp only [Option.getD_some] at this
      simp; omega
    rw [this]; rfl
  rw [h1.1, h1.2, e, hn]; simp
theorem above_none (s : BitVec 64) (i : Int) (hlow : ∀ j, j < (Bs.elems s).length → nthN s j ≤ i) : firstN (aboveS s i) = 0 ∧ someB (aboveS s i) = false := by
  have h1 := first_list (aboveS s i)
  have e : Bs.elems (aboveS s i) = [] := by
    rw [above_list, List.filter_eq_nil_iff]
    intro a ha
    obtain ⟨j, hj, rfl⟩ := List.mem_iff_getElem.1 ha
    have := hlow j hj
    unfold nthN at this
    rw [List.getElem?_eq_getElem hj] at this
    simp only [Option.getD_some] at this
    simp; omega
  rw [h1.1, h1.2, e]; simp
theorem nth_range (s : BitVec 64) (k : Nat) : 0 ≤ nthN s k ∧ nthN s k ≤ 63 := by
  unfold nthN
  cases h : (Bs.elems s)[k]? with
  | none => simp
  | some x =>
    have := Bx.lt64 (Bx.elems_bit h)
    simp; omega
end Go.Proofs.YtjnoiahkbdoejaaDoor
