/- reference of layer 3, plain: Of by how many stand ahead of each item. -/
import Derived.Test.YtknjdfgmejobfaaDoorWd
import Derived.Test.YtknjdfgmejobfaaDoorLg
namespace Go.Proofs.YtknjdfgmejobfaaDoor
open Go.RowKit Go.Shelf

def aheadK (f : Rl.Rows) (a j : Nat) : Nat := (List.range j).countP fun b => Rl.bit f b a
def aheadN (n : Nat) (f : Rl.Rows) (a : Nat) : Nat := aheadK f a n
theorem aheadK_succ (f : Rl.Rows) (a j : Nat) : aheadK f a (j + 1) = aheadK f a j + (if Rl.bit f j a then 1 else 0) := by
  unfold aheadK
  rw [List.range_succ, List.countP_append]
  congr 1
  simp [List.countP_cons]
theorem aheadK_le (f : Rl.Rows) (a j : Nat) : aheadK f a j ≤ j := by
  have := List.countP_le_length (p := fun b => Rl.bit f b a) (l := List.range j)
  rw [List.length_range] at this; exact this
def laid (n : Nat) (f : Rl.Rows) : Nat → List Nat
  | 0 => List.replicate n 0
  | k + 1 => (laid n f k).set (aheadN n f k) k
theorem laid_len (n : Nat) (f : Rl.Rows) : ∀ k, (laid n f k).length = n
  | 0 => by simp [laid]
  | k + 1 => by unfold laid; rw [List.length_set]; exact laid_len n f k
theorem laid_lt (n : Nat) (f : Rl.Rows) (hn : 0 < n) : ∀ k, k ≤ n → ∀ x ∈ laid n f k, x < n
  | 0, _, x, hx => by
    unfold laid at hx
    have := (List.mem_replicate.1 hx).2
    omega
  | k + 1, hk, x, hx => by
    unfold laid at hx
    rcases List.mem_or_eq_of_mem_set hx with h | h
    · exact laid_lt n f hn k (by omega) x h
    · omega
def fitK (n : Nat) (f : Rl.Rows) (k : Nat) : Bool := (List.range k).all fun a => decide (aheadN n f a < n)
theorem fitK_succ (n : Nat) (f : Rl.Rows) (k : Nat) : fitK n f (k + 1) = (fitK n f k && decide (aheadN n f k < n)) := by
  unfold fitK; rw [List.range_succ, List.all_append]; simp
theorem fitK_bad {n : Nat} {f : Rl.Rows} {a k : Nat} (h : ¬ aheadN n f a < n) (ha : a < k) : fitK n f k = false := by
  unfold fitK; rw [List.all_eq_false]; exact ⟨a, List.mem_range.2 ha, by simp; omega⟩
/-- what the reference's Of answers -/
def rofO (n : Nat) (f : Rl.Rows) : Option (List Nat) := if fitK n f n && (okL n (ints (laid n f n)) && relEq n n (totL (laid n f n)) f) then some (laid n f n) else none

theorem countP_idx {L : List Nat} (hd : L.Nodup) (k : Nat) (hk : k ≤ L.length) : L.countP (fun b => decide (L.idxOf b < k)) = k := by
  have e : L.countP (fun b => decide (L.idxOf b < k)) = (L.take k).countP (fun b => decide (L.idxOf b < k)) + (L.drop k).countP (fun b => decide (L.idxOf b < k)) := by
    rw [← List.countP_append, List.take_append_drop]
  rw [e, List.countP_eq_length.2 (fun b hb => ?_), List.countP_eq_zero.2 (fun b hb => ?_), List.length_take]
  · omega
  · rw [mem_drop_iff hd] at hb
    simp; omega
  · obtain ⟨i, hi, he⟩ := List.getElem_of_mem hb
    rw [List.length_take] at hi
    rw [List.getElem_take] at he
    rw [← he, hd.idxOf_getElem i (by omega)]
    simp; omega
theorem ahead_tot {n : Nat} {L : List Nat} (hn : n ≤ 48) (h : Full n L) {a : Nat} (ha : a < n) : aheadN n (totL L) a = L.idxOf a := by
  unfold aheadN aheadK
  have hp : (List.range n).Perm L := (List.perm_ext_iff_of_nodup List.nodup_range h.nodup).2 fun x => by rw [List.mem_range, h.mem]
  rw [hp.countP_eq]
  have hlt := List.idxOf_lt_length_of_mem ((h.mem a).2 ha)
  rw [← countP_idx h.nodup (L.idxOf a) (by omega)]
  apply List.countP_congr
  intro b hb
  rw [tot_bit hn h, decide_eq_true_eq]
  exact ⟨fun h => h.2, fun h => ⟨ha, h⟩⟩
theorem laid_tot {n : Nat} {L : List Nat} (hn : n ≤ 48) (h : Full n L) : ∀ k, k ≤ n → ∀ a, a < k → (laid n (totL L) k)[L.idxOf a]? = some a
  | 0, _, a, ha => by omega
  | k + 1, hk, a, ha => by
    unfold laid
    rw [ahead_tot hn h (by omega)]
    have hlt := List.idxOf_lt_length_of_mem ((h.mem a).2 (by omega))
    rw [h.len] at hlt
    by_cases e : a = k
    · subst e
      rw [List.getElem?_set_self (by rw [laid_len]; exact hlt)]
    · rw [List.getElem?_set_ne (fun e2 => e (Rl.idx_inj ((h.mem a).2 (by omega)) ((h.mem k).2 (by omega)) e2.symm))]
      exact laid_tot hn h k (by omega) a (by omega)
theorem laid_full {n : Nat} {L : List Nat} (hn : n ≤ 48) (h : Full n L) : laid n (totL L) n = L := by
  apply List.ext_getElem?
  intro i
  by_cases hi : i < n
  · have hiL : i < L.length := by rw [h.len]; exact hi
    have hm := h.lt _ (List.getElem_mem hiL)
    have := laid_tot hn h n (Nat.le_refl _) (L[i]) hm
    rw [h.nodup.idxOf_getElem i hiL] at this
    rw [this, List.getElem?_eq_getElem hiL]
  · rw [List.getElem?_eq_none (by rw [laid_len]; omega), List.getElem?_eq_none (by rw [h.len]; omega)]
theorem rofO_eq {n : Nat} {f : Rl.Rows} (oF : Rl.Ok n f) : rofO n f = ofO n f := by
  have hn := oF.le
  have fwd : ∀ L, rofO n f = some L → ofO n f = some L := by
    intro L h
    unfold rofO at h
    split at h
    · rename_i hc
      injection h with h
      rw [h, Bool.and_eq_true, Bool.and_eq_true] at hc
      obtain ⟨m, e, h1, h2, h3, h4⟩ := (okL_nat n L).1 hc.2.1
      obtain rfl : n = m := by omega
      have fL := full_of h2 h3 h4
      have e2 := ((relEq_iff (tot_ok hn fL).z oF.z).1 hc.2.2).2
      rw [← e2]; exact tot_of hn fL
    · cases h
  have bwd : ∀ L, ofO n f = some L → rofO n f = some L := by
    intro L h
    unfold ofO at h
    rw [Option.filter_eq_some_iff] at h
    obtain ⟨ht, hq⟩ := h
    unfold topR at ht
    rw [Rl.right_of oF, if_pos rfl, Int.toNat_natCast] at ht
    have hls := Rl.top_some oF ht
    have fL : Full n L := ⟨hls.1, hls.2.1⟩
    have e2 := ((relEq_iff (tot_ok hn fL).z oF.z).1 hq).2
    have hla : laid n f n = L := by rw [← e2]; exact laid_full hn fL
    have hfit : fitK n f n = true := by
      unfold fitK
      rw [List.all_eq_true]
      intro a ha
      have ha := List.mem_range.1 ha
      rw [decide_eq_true_eq, ← e2, ahead_tot hn fL ha, ← fL.len]
      exact List.idxOf_lt_length_of_mem ((fL.mem a).2 ha)
    unfold rofO
    rw [hla, hfit, fL.okL hn, hq]; rfl
  cases h1 : rofO n f with
  | none =>
    cases h2 : ofO n f with
    | none => rfl
    | some L => rw [bwd L h2] at h1; cases h1
  | some L => rw [fwd L h1]
end Go.Proofs.YtknjdfgmejobfaaDoor
