/- reference of layer 3: more, one item more: the loop but its inner step. -/
import Derived.Test.YtknjdfgmejobfaaDoorWh
import Derived.Test.YtknjdfgmejobfaaDoorUk
import Derived.Deep.RegionHeld3
import Derived.OwnWalk
namespace Go.Proofs.YtknjdfgmejobfaaDoor
open Go.RowKit Go.Shelf

/-- what more answers for all that has m items to come -/
def MoreAll (n : Nat) (f : Rl.Rows) (m most base : Nat) : Prop := ∀ (B : List Nat) (O : List (List Nat)) (A : Option Addr) (cb : Nat) (v : Value) (w : World), B.length + m = n → O.length ≤ most → ListsV base O v w →
  (∀ W', w.grownBy W' v.ownBlock → IntsAt W' A (ints B)) → (A = none → B.length = 0 ∧ cb = 0) → base ≤ w.heap.size →
  Calls Tryd.prog 93 #[.agg (relC n f), .slice A B.length cb, v, .int .i64 most] w (MoreOut n f m B O most base v w)
theorem grown_refl (w : World) (r : Option Nat) : w.grownBy w r := ⟨rfl, rfl, rfl, Nat.le_refl _, fun _ _ _ => rfl⟩
theorem grown_below {W0 W V : World} {r : Option Nat} (h : W0.grownBy W r) (hb : Below W.heap.size W V) : W0.grownBy V r :=
  ⟨hb.os.trans h.os, hb.tape.trans h.tape, hb.output.trans h.output, Nat.le_trans h.size hb.size, fun k hk hne => (hb.block k (Nat.lt_of_lt_of_le hk h.size)).trans (h.block k hk hne)⟩
theorem grown_more {W0 W V : World} {r r2 : Option Nat} (h : W0.grownBy W r) (h2 : W.grownBy V r2) (hr : ∀ k, k < W0.heap.size → some k ≠ r → some k ≠ r2) : W0.grownBy V r :=
  ⟨h2.os.trans h.os, h2.tape.trans h.tape, h2.output.trans h.output, Nat.le_trans h.size h2.size, fun k hk hne => (h2.block k (Nat.lt_of_lt_of_le hk h.size) (hr k hk hne)).trans (h.block k hk hne)⟩
theorem lists_form {base : Nat} {l : List (List Nat)} {v : Value} {W : World} (h : ListsV base l v W) : ∃ A c, v = .slice A l.length c ∧ ∀ g, v.ownBlock = some g → base ≤ g ∧ g < W.heap.size := by
  obtain ⟨vs, hr, _⟩ := h
  obtain ⟨A, c, e, e2, _⟩ := row_at hr
  have hl : vs.length = l.length := e2
  exact ⟨A, c, by rw [e, hl], fun g hg => hr.lt g hg⟩
/-- the memory of one round -/
structure MoreI (n : Nat) (f : Rl.Rows) (m : Nat) (B : List Nat) (O : List (List Nat)) (most base : Nat) (v : Value) (w : World) (k : Nat) (u : Value) (W : World) : Prop where
  lists : ListsV base (moreF most O (allR n f m B k)) u W
  grown : (w.alloc (.cells (relC n f) 26)).grownBy W v.ownBlock
  own : ∀ g, u.ownBlock = some g → v.ownBlock = some g ∨ w.heap.size + 1 ≤ g
variable {n m most base k : Nat} {f : Rl.Rows} {B : List Nat} {O : List (List Nat)} {u v : Value} {w W W' : World}
theorem MoreI.below (h : MoreI n f m B O most base v w k u W) (hb : Below W.heap.size W W') : MoreI n f m B O most base v w k u W' := ⟨h.lists.below hb, grown_below h.grown hb, h.own⟩
theorem MoreI.rel (h : MoreI n f m B O most base v w k u W) (hv : ∀ g, v.ownBlock = some g → g < w.heap.size) : RelAt W w.heap.size n f := by
  have h1 := RelAt.new w n f
  unfold RelAt at h1 ⊢
  rw [h.grown.block w.heap.size (by simp) (fun e => by have := hv _ e.symm; omega)]
  exact h1
theorem MoreI.out (h : MoreI n f m B O most base v w k u W) : w.grownBy W v.ownBlock :=
  ⟨h.grown.os, h.grown.tape, h.grown.output, by have := h.grown.size; simp at this; omega, fun q hq hne => (h.grown.block q (by simp; omega) hne).trans (Below.heap_alloc w _ q hq)⟩
end Go.Proofs.YtknjdfgmejobfaaDoor
