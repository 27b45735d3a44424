/- seisinlaw02: Fine. -/
import Derived.Test.YtknjdfgmejobfaaDoorNl
namespace Go.Proofs.YtknjdfgmejobfaaDoor
open Go.RowKit Go.Shelf

attribute [-go_sem] run_eql_struct run_neq_struct
attribute [local go_sem] Bv.and_u Bv.or_u Bv.andNot_u Bv.wrap_sub1 Bv.eq0 Bv.ne0 Bv.wrap_pow Bv.wrap_powmin Bv.wrap_neg Bv.eq_u Bv.ne_u Bv.shr_min Bv.shr_pow Bv.tmod2 Bv.and1 Bv.wrap_add Bv.B1_eq1 Bv.B1_eq0 Bv.B1_ne1 Bv.B1_ne0

/-- the number that Fine makes of n -/
def fineK (n : Int) (m : Nat) : Nat := ((n.tmod ((m : Int) + 1) + m + 1) % ((m : Int) + 1)).toNat
/-- the rows that Fine makes -/
def fineR (k : Nat) (f : Rl.Rows) : Rl.Rows := Rl.cut k fun a => f a &&& Rl.below (k : Int)
theorem fineK_le (n : Int) (m : Nat) : fineK n m ≤ m := by
  unfold fineK
  have h1 := Int.emod_lt_of_pos (n.tmod ((m : Int) + 1) + m + 1) (show (0 : Int) < (m : Int) + 1 by omega)
  have h2 := Int.emod_nonneg (n.tmod ((m : Int) + 1) + m + 1) (show (m : Int) + 1 ≠ 0 by omega)
  omega
theorem ok_fine {k : Nat} (hk : k ≤ 48) (f : Rl.Rows) : Rl.Ok k (fineR k f) := Rl.ok_cut hk fun a b _ h => by
  unfold Rl.bit at h
  have hb := Bx.lt64 h
  rw [BitVec.getLsbD_and, Rl.below_getN _ _ hb, Bool.and_eq_true] at h
  exact of_decide_eq_true h.2
/-- after j rows -/
def fineM (j k : Nat) (f : Rl.Rows) : Rl.Rows := fun i => if i < j then fineR k f i else f i
theorem fineM_zero (k : Nat) (f : Rl.Rows) : fineM 0 k f = f := by funext i; unfold fineM; rw [if_neg (by omega)]
theorem fineM_all (k : Nat) (f : Rl.Rows) (hk : k ≤ 48) (zf : Rl.Z f) : fineM 48 k f = fineR k f := by
  funext i; unfold fineM
  by_cases h : i < 48
  · rw [if_pos h]
  · rw [if_neg h, zf i (by omega)]; unfold fineR; rw [Rl.cut_ge (by omega)]
theorem fineM_in (j k : Nat) (f : Rl.Rows) (h : j < k) : upd (fineM j k f) j (f j &&& Rl.below (k : Int)) = fineM (j + 1) k f := by
  funext i; unfold upd fineM
  by_cases e : i = j
  · subst e; rw [if_pos rfl, if_pos (by omega)]; unfold fineR; rw [Rl.cut_lt h]
  · rw [if_neg e]
    by_cases hi : i < j
    · rw [if_pos hi, if_pos (by omega)]
    · rw [if_neg hi, if_neg (by omega)]
theorem fineM_out (j k : Nat) (f : Rl.Rows) (h : ¬ j < k) : upd (fineM j k f) j 0#64 = fineM (j + 1) k f := by
  funext i; unfold upd fineM
  by_cases e : i = j
  · subst e; rw [if_pos rfl, if_pos (by omega)]; unfold fineR; rw [Rl.cut_ge h]
  · rw [if_neg e]
    by_cases hi : i < j
    · rw [if_pos hi, if_pos (by omega)]
    · rw [if_neg hi, if_neg (by omega)]
theorem fineM_at (j k : Nat) (f : Rl.Rows) : fineM j k f j = f j := by unfold fineM; rw [if_neg (by omega)]
theorem upd_upd (f : Rl.Rows) (a : Nat) (s t : BitVec 64) : upd (upd f a s) a t = upd f a t := by
  funext i; unfold upd; split <;> rfl
end Go.Proofs.YtknjdfgmejobfaaDoor
