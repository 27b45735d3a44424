/- Orders of a relation, plain: how the iterator lists them. -/
import Derived.Test.YtknjdfgmejobfaaDoorLb
namespace Go.Rl

/-- may a come next, where the items of left are still to come? -/
def mayB (before : Rows) (left : BitVec 64) (a : Nat) : Bool := before a &&& left == 0#64
/-- the orders that begin with l and go on with the items of left, in the order in which the iterator hands them -/
def ext (before : Rows) : Nat → BitVec 64 → List Nat → List (List Nat)
  | 0, _, l => [l]
  | k + 1, left, l => if left = 0#64 then [l] else (Bs.elems left).flatMap fun a => if mayB before left a then ext before k (left &&& ~~~ Bv.bit a) (l ++ [a]) else []
/-- what is still to come when the loop over the items stands at rest -/
def extR (before : Rows) (k : Nat) (left : BitVec 64) (l : List Nat) (rest : BitVec 64) : List (List Nat) := (Bs.elems rest).flatMap fun a => if mayB before left a then ext before k (left &&& ~~~ Bv.bit a) (l ++ [a]) else []
theorem ext_nil (before : Rows) (k : Nat) (l : List Nat) : ext before k 0#64 l = [l] := by
  cases k with
  | zero => rfl
  | succ k => unfold ext; rw [if_pos rfl]
theorem ext_step {before : Rows} {k : Nat} {left : BitVec 64} {l : List Nat} (h : left ≠ 0#64) : ext before (k + 1) left l = extR before k left l left := by
  unfold ext extR; rw [if_neg h]
theorem extR_zero (before : Rows) (k : Nat) (left : BitVec 64) (l : List Nat) : extR before k left l 0#64 = [] := by
  unfold extR; rw [show Bs.elems 0#64 = [] from Bs.elems_zero]; rfl
theorem extR_hit {before : Rows} {k : Nat} {left : BitVec 64} {l : List Nat} {rest : BitVec 64} (hr : rest ≠ 0#64) (h : mayB before left (Bs.low rest) = true) :
    extR before k left l rest = ext before k (left &&& ~~~ Bv.bit (Bs.low rest)) (l ++ [Bs.low rest]) ++ extR before k left l (Bs.rest rest) := by
  unfold extR; rw [Bs.elems_step hr, List.flatMap_cons, if_pos h]
theorem extR_miss {before : Rows} {k : Nat} {left : BitVec 64} {l : List Nat} {rest : BitVec 64} (hr : rest ≠ 0#64) (h : mayB before left (Bs.low rest) = false) :
    extR before k left l rest = extR before k left l (Bs.rest rest) := by
  unfold extR; rw [Bs.elems_step hr, List.flatMap_cons, if_neg (by rw [h]; exact Bool.false_ne_true), List.nil_append]
end Go.Rl
