/- operations on valid relations, the answer under a name; comparison of a relation with itself; what the laws of layer 2 share. -/
import Derived.Test.YtknjdfgmejobfaaDoorNw
namespace Go.Proofs.YtknjdfgmejobfaaDoor
open Go.RowKit Go.Shelf

theorem relEq_self (n : Int) (f : Rl.Rows) : relEq n n f f = true := relEq_true rfl
theorem then_is (n : Nat) (f g r : Rl.Rows) (hr : r = Rl.thenF n f g) (w : World) (hf : Rl.Ok n f) (hg : Rl.Ok n g) (hT : Tab w ∧ 0 < w.heap.size) :
    Calls Tryd.prog 18 #[.agg (relC n f), .agg (relC n g)] w fun e w' => e = .returned (.tuple #[.agg (relC n r), .int .i64 0]) ∧ Below w.heap.size w w' := by subst hr; exact then_ok n f g w hf hg hT
theorem union_is (n : Nat) (f g r : Rl.Rows) (hr : r = Rl.unionF n f g) (w : World) (hf : Rl.Ok n f) (hg : Rl.Ok n g) :
    Calls Tryd.prog 19 #[.agg (relC n f), .agg (relC n g)] w fun e w' => e = .returned (.tuple #[.agg (relC n r), .int .i64 0]) ∧ Below w.heap.size w w' := by subst hr; exact union_ok n f g w hf hg
theorem both_is (n : Nat) (f g r : Rl.Rows) (hr : r = Rl.bothF n f g) (w : World) (hf : Rl.Ok n f) (hg : Rl.Ok n g) :
    Calls Tryd.prog 42 #[.agg (relC n f), .agg (relC n g)] w fun e w' => e = .returned (.tuple #[.agg (relC n r), .int .i64 0]) ∧ Below w.heap.size w w' := by subst hr; exact both_ok n f g w hf hg
theorem less_is (n : Nat) (f g r : Rl.Rows) (hr : r = Rl.lessF n f g) (w : World) (hf : Rl.Ok n f) (hg : Rl.Ok n g) :
    Calls Tryd.prog 40 #[.agg (relC n f), .agg (relC n g)] w fun e w' => e = .returned (.tuple #[.agg (relC n r), .int .i64 0]) ∧ Below w.heap.size w w' := by subst hr; exact less_ok n f g w hf hg
theorem back_is (n : Nat) (f r : Rl.Rows) (hr : r = Rl.backF n f) (w : World) (hf : Rl.Ok n f) (hT : Tab w ∧ 0 < w.heap.size) :
    Calls Tryd.prog 20 #[.agg (relC n f)] w fun e w' => e = .returned (.agg (relC n r)) ∧ Below w.heap.size w w' := by subst hr; exact back_fine n f w hf hT
theorem plus_is (n : Nat) (f r : Rl.Rows) (hr : r = Rl.plusF n f) (w : World) (hf : Rl.Ok n f) (hT : Tab w ∧ 0 < w.heap.size) :
    Calls Tryd.prog 25 #[.agg (relC n f)] w fun e w' => e = .returned (.agg (relC n r)) ∧ Below w.heap.size w w' := by subst hr; exact plus_fine n f w hf hT
theorem id_is (n : Nat) (s : BitVec 64) (x : Int) (r : Rl.Rows) (hx : Bv.U s = x) (hr : r = Rl.idF n s) (w : World) (hn : n ≤ 48) :
    Calls Tryd.prog 21 #[.int .i64 n, .int .u64 x] w fun e w' => e = .returned (.agg (relC n r)) ∧ Below w.heap.size w w' := by subst hr hx; exact id_any n s w hn
theorem cross_is (n : Nat) (s t : BitVec 64) (r : Rl.Rows) (hr : r = Rl.crossF n s t) (w : World) (hn : n ≤ 48) :
    Calls Tryd.prog 39 #[.int .i64 n, .int .u64 (Bv.U s), .int .u64 (Bv.U t)] w fun e w' => e = .returned (.agg (relC n r)) ∧ Below w.heap.size w w' := by subst hr; exact cross_any n s t w hn
theorem fine_is (n : Int) (f : Rl.Rows) (m : Nat) (mi : Int) (k : Nat) (r : Rl.Rows) (hmi : (m : Int) = mi) (hk : k = fineK n m) (hr : r = fineR k f) (w : World) (hm : m ≤ 48) (zf : Rl.Z f) :
    Calls Tryd.prog 17 #[.agg (relC n f), .int .i64 mi] w fun e w' => e = .returned (.agg (relC k r)) ∧ Below w.heap.size w w' := by subst hr; subst hk; subst hmi; exact fine_any n f m w hm zf
/-- a piece of code that ends in one frame and one world, whatever order was drawn -/
def endsAt (A : Act) (WW : World) : Exit → Act → World → Prop
  | .normal, a, w => a = A ∧ w = WW
  | _, _, _ => False
theorem wp_end {P : Program} {c : Code} {Q : Exit → Act → World → Prop} {a : Act} {w : World} {A : Act} {WW : World} (h : c.wp P (endsAt A WW) a w) (k : Q .normal A WW) : c.wp P Q a w :=
  Code.wp_mono (fun e a' w' he => by cases e <;> first | exact (he : False).elim | (obtain ⟨rfl, rfl⟩ := (he : a' = A ∧ w' = WW); exact k)) h
theorem Held.drew {w W : World} {L : List (Nat × Int × Rl.Rows)} (h : Held w L W) : Held w L W.drew := h.step ⟨rfl, rfl, rfl, Nat.le_refl _, fun _ _ => rfl⟩
theorem twenty : ((20 : Nat) : Int) = 20 := rfl
/-- a relation's number is set -/
theorem Held.setN {w W : World} {L : List (Nat × Int × Rl.Rows)} (h : Held w L W) (i : Nat) {b : Nat} {n : Int} {f : Rl.Rows} (hi : L[i]? = some (b, n, f)) (m : Int) : Held w (L.set i (b, m, f)) (W.setCell ⟨b, 0, none⟩ (.int .i64 m)) :=
  h.put i hi ((h.at i hi).setN m) ⟨rfl, rfl, rfl, by simp, fun k _ hk => Below.heap_setCell _ _ _ _ (fun e => hk (by rw [e]))⟩
end Go.Proofs.YtknjdfgmejobfaaDoor
