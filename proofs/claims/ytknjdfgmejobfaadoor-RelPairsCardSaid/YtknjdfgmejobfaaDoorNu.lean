/- seisinlaw02: awake. -/
import Derived.Test.YtknjdfgmejobfaaDoorNt
import Derived.Test.YtknjdfgmejobfaaDoorNv
namespace Go.Proofs.YtknjdfgmejobfaaDoor
open Go.RowKit Go.Shelf

attribute [-go_sem] run_eql_struct run_neq_struct
attribute [local go_sem] Bv.and_u Bv.or_u Bv.andNot_u Bv.wrap_sub1 Bv.eq0 Bv.ne0 Bv.wrap_pow Bv.wrap_powmin Bv.wrap_neg Bv.eq_u Bv.ne_u Bv.shr_min Bv.shr_pow Bv.tmod2 Bv.and1 Bv.wrap_add Bv.B1_eq1 Bv.B1_eq0 Bv.B1_ne1 Bv.B1_ne0

/-! ### relations by their pairs -/
theorem addP_bit (f : Rl.Rows) (p : Int × Int) (a b : Nat) (hp : p.2.toNat < 64) : Rl.bit (addP f p) a b = (Rl.bit f a b || decide (a = p.1.toNat ∧ b = p.2.toNat)) := by
  unfold Rl.bit addP upd
  by_cases h : a = p.1.toNat
  · rw [if_pos h, BitVec.getLsbD_or, Bv.bit_get _ _ hp, ← h]; simp
  · rw [if_neg h]; simp [h]
theorem ofR_any : ∀ (l : List (Int × Int)) (f : Rl.Rows) (a b : Nat), (∀ p ∈ l, 0 ≤ p.1 ∧ 0 ≤ p.2 ∧ p.2 < 64) → (Rl.bit (l.foldl addP f) a b = true ↔ Rl.bit f a b = true ∨ ((a : Int), (b : Int)) ∈ l)
  | [], f, a, b, _ => by simp
  | p :: l, f, a, b, h => by
    have hp := h p (by simp)
    rw [List.foldl_cons, ofR_any l (addP f p) a b (fun q hq => h q (by simp [hq])), addP_bit f p a b (by omega), Bool.or_eq_true, decide_eq_true_eq, List.mem_cons]
    have e : (a = p.1.toNat ∧ b = p.2.toNat) ↔ ((a : Int), (b : Int)) = p := by
      obtain ⟨x, y⟩ := p
      simp only [Prod.mk.injEq] at *
      omega
    rw [e, or_assoc]
theorem inB_spec {n : Int} {p : Int × Int} (h : inB n p = true) : 0 ≤ p.1 ∧ p.1 < n ∧ 0 ≤ p.2 ∧ p.2 < n := of_decide_eq_true h
theorem ofB_spec {n : Int} {l : List (Int × Int)} (h : ofB n l = true) : 0 ≤ n ∧ n ≤ 48 ∧ ∀ p ∈ l, 0 ≤ p.1 ∧ p.1 < n ∧ 0 ≤ p.2 ∧ p.2 < n := by
  unfold ofB at h
  rw [Bool.and_eq_true, decide_eq_true_eq, List.all_eq_true] at h
  exact ⟨h.1.1, h.1.2, fun p hp => inB_spec (h.2 p hp)⟩
theorem ofR_bit {n : Int} {l : List (Int × Int)} (h : ofB n l = true) (a b : Nat) : Rl.bit (ofR l) a b = true ↔ ((a : Int), (b : Int)) ∈ l := by
  obtain ⟨h0, h1, h2⟩ := ofB_spec h
  unfold ofR
  rw [ofR_any l zeroR a b (fun p hp => by have := h2 p hp; omega)]
  have : Rl.bit zeroR a b = false := by unfold Rl.bit zeroR; exact Bv.zero_get b
  rw [this]; simp
theorem ok_of {n : Nat} {l : List (Int × Int)} (h : ofB n l = true) : Rl.Ok n (ofR l) := by
  obtain ⟨h0, h1, h2⟩ := ofB_spec h
  refine ⟨by omega, fun a b hb => ?_⟩
  have := h2 _ ((ofR_bit h a b).1 hb)
  simp only [] at this
  omega
theorem of_good (n : Nat) (A : Option Addr) (l : List (Int × Int)) (cap : Nat) (w : World) (hb : ofB n l = true) (hl : l.length ≤ maxLen) (hA : PairsAt w A l) :
    Calls Tryd.prog 78 #[.int .i64 n, .slice A l.length cap] w fun e w' => e = .returned (.agg (relC n (ofR l))) ∧ Below w.heap.size w w' := by
  have h := of_fn n A l cap w hl hA
  rw [(of_true hb).1, (of_true hb).2.1] at h
  exact h
/-! ### literals -/
def pairW (l : List (Int × Int)) : List Value := l.flatMap fun p => [Value.int .i64 p.1, Value.int .i64 p.2]
theorem pairW_get : ∀ (l : List (Int × Int)) (i : Nat), i < l.length → (pairW l)[i * 2]? = some (.int .i64 (l.getD i (0, 0)).1) ∧ (pairW l)[i * 2 + 1]? = some (.int .i64 (l.getD i (0, 0)).2)
  | [], i, h => by simp at h
  | p :: l, 0, _ => by rw [show pairW (p :: l) = [Value.int .i64 p.1, Value.int .i64 p.2] ++ pairW l by simp [pairW]]; simp
  | p :: l, i + 1, h => by
    have ih := pairW_get l i (by simpa using h)
    rw [show pairW (p :: l) = [Value.int .i64 p.1, Value.int .i64 p.2] ++ pairW l by simp [pairW], List.getElem?_append_right (by simp; omega), List.getElem?_append_right (by simp; omega)]
    rw [show (i + 1) * 2 - [Value.int .i64 p.1, Value.int .i64 p.2].length = i * 2 by simp; omega, show (i + 1) * 2 + 1 - [Value.int .i64 p.1, Value.int .i64 p.2].length = i * 2 + 1 by simp; omega]
    simpa using ih
theorem lit_pairs (W : World) (e : TypeId) (l : List (Int × Int)) (cs : Array Value) (hcs : cs.toList = pairW l) : PairsAt (W.alloc (.cells cs e)) (some ⟨W.heap.size, 0, none⟩) l := by
  intro _
  refine ⟨W.heap.size, 0, rfl, by simp, fun i hi => ?_⟩
  have h1 := pairW_get l i hi
  rw [← hcs] at h1
  rw [cell_of_row _ _ (0 + i * 2) _ _ _ (World.alloc_heap_new W _), cell_of_row _ _ (0 + i * 2 + 1) _ _ _ (World.alloc_heap_new W _), Nat.zero_add]
  simpa using h1
theorem lit_intsAt (W : World) (e : TypeId) (l : List Int) (cs : Array Value) (hcs : cs.toList = intsV l) : IntsAt (W.alloc (.cells cs e)) (some ⟨W.heap.size, 0, none⟩) l := by
  intro _
  refine ⟨W.heap.size, 0, rfl, by simp, fun i hi => ?_⟩
  rw [cell_of_row _ _ (0 + i) _ _ _ (World.alloc_heap_new W _), Nat.zero_add]
  have : cs[i]? = cs.toList[i]? := by simp
  rw [this, hcs]
  simp [intsV, hi, List.getD_eq_getElem?_getD]
theorem lit_pairsN (W : World) (e : TypeId) (l : List (Int × Int)) (cs : Array Value) (n : Nat) (hn : W.heap.size = n) (hcs : cs.toList = pairW l) : PairsAt (W.alloc (.cells cs e)) (some ⟨n, 0, none⟩) l := by
  subst hn; exact lit_pairs W e l cs hcs
theorem lit_intsN (W : World) (e : TypeId) (l : List Int) (cs : Array Value) (n : Nat) (hn : W.heap.size = n) (hcs : cs.toList = intsV l) : IntsAt (W.alloc (.cells cs e)) (some ⟨n, 0, none⟩) l := by
  subst hn; exact lit_intsAt W e l cs hcs
theorem ints_true (A B : Option Addr) (xs : List Int) (c d : Nat) (w : World) (hx : xs.length ≤ maxLen) (hA : IntsAt w A xs) (hB : IntsAt w B xs) :
    Calls Tryd.prog 32 #[.slice A xs.length c, .slice B xs.length d] w fun e w' => e = .returned (.bool true) ∧ Below w.heap.size w w' := by
  have h := ints_any A B xs xs c d w hx hx hA hB
  rwa [decide_eq_true rfl] at h
theorem has_is (n : Int) (f : Rl.Rows) (a b : Int) (r : Bool) (hr : pairB n f a b = r) (w : World) (zf : Rl.Z f) :
    Calls Tryd.prog 29 #[.agg (relC n f), .int .i64 a, .int .i64 b] w fun e w' => e = .returned (.bool r) ∧ Below w.heap.size w w' := by subst hr; exact has_any n f a b w zf
theorem pairB_ok {n : Nat} {f : Rl.Rows} (hf : Rl.Ok n f) (a b : Nat) : pairB n f a b = Rl.bit f a b := by
  unfold pairB
  rw [Rl.right_of hf, Bool.true_and, Int.toNat_natCast, Int.toNat_natCast]
  cases hb : Rl.bit f a b
  · simp
  · have := hf.in_ a b hb
    rw [decide_eq_true ⟨by omega, by omega, by omega, by omega⟩]; rfl

/-! ### the examples -/
def awA : List (Int × Int) := [(0, 1), (1, 2), (2, 0), (2, 3)]
def awB : List (Int × Int) := [(0, 1), (1, 2), (2, 3)]
def awC : List (Int × Int) := [(0, 1), (1, 0), (2, 2)]
theorem awOkA : Rl.Ok 4 (ofR awA) := ok_of (by decide +kernel)
theorem awOkB : Rl.Ok 4 (ofR awB) := ok_of (by decide +kernel)
theorem awOkC : Rl.Ok 3 (ofR awC) := ok_of (by decide +kernel)
theorem thenA : Rl.pairsF (Rl.thenF 4 (ofR awA) (ofR awA)) 4 = [(0, 2), (1, 0), (1, 3), (2, 1)] := by decide +kernel
theorem topA : Rl.topL 4 (ofR awA) = none := by decide +kernel
theorem topB : Rl.topL 4 (ofR awB) = some [0, 1, 2, 3] := by decide +kernel
theorem ringA : Rl.ringL 4 (ofR awA) = [0, 1, 2] := by decide +kernel
theorem ringC : Rl.ringL 3 (ofR awC) = [2] := by decide +kernel
theorem stepA (a b : Nat) (h : (((a : Nat) : Int), ((b : Nat) : Int)) ∈ awA) : Rl.bit (ofR awA) a b = true := (ofR_bit (n := 4) (by decide +kernel) a b).2 h
theorem plusA00 : Rl.bit (Rl.plusF 4 (ofR awA)) 0 0 = true := (Rl.plus_bit awOkA).2 (.step (stepA 0 1 (by decide)) (.step (stepA 1 2 (by decide)) (.one (stepA 2 0 (by decide)))))
theorem plusA03 : Rl.bit (Rl.plusF 4 (ofR awA)) 0 3 = true := (Rl.plus_bit awOkA).2 (.step (stepA 0 1 (by decide)) (.step (stepA 1 2 (by decide)) (.one (stepA 2 3 (by decide)))))
theorem plusA33 : Rl.bit (Rl.plusF 4 (ofR awA)) 3 3 = false := by
  cases h : Rl.bit (Rl.plusF 4 (ofR awA)) 3 3
  · rfl
  · obtain ⟨c, hc⟩ := ((Rl.plus_bit awOkA).1 h).fst
    have := (ofR_bit (n := 4) (by decide +kernel) 3 c).1 hc
    simp [awA] at this
end Go.Proofs.YtknjdfgmejobfaaDoor
