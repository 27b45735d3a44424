/- seisinlaw03: the examples of awake. -/
import Derived.Test.YtknjdfgmejobfaaDoorSl
import Derived.Test.YtknjdfgmejobfaaDoorLg
namespace Go.Proofs.YtknjdfgmejobfaaDoor
open Go.RowKit Go.Shelf

def xA : List (Int × Int) := [(0, 1)]
def xB : List (Int × Int) := [(0, 1), (1, 0)]
theorem xOk3 : Rl.Ok 3 (ofR xA) := ok_of (by decide +kernel)
theorem xOk2 : Rl.Ok 2 (ofR xA) := ok_of (by decide +kernel)
theorem xOkB : Rl.Ok 2 (ofR xB) := ok_of (by decide +kernel)
theorem xOkT : Rl.Ok 3 (totL [2, 0, 1]) := (Rl.right_iff 3 _ (fun a ha => by
  unfold totL
  rw [show List.idxOf a [2, 0, 1] = 3 by
    rw [List.idxOf_eq_length (by simp; omega)]; rfl]
  rfl)).1 (by decide +kernel)
theorem xOrd3 : Rl.ordL 3 (ofR xA) = [[0, 1, 2], [0, 2, 1], [2, 0, 1]] := by decide +kernel
theorem xOrdB : Rl.ordL 2 (ofR xB) = [] := by decide +kernel
theorem xOrd0 : Rl.ordL 0 zeroR = [[]] := by decide +kernel
theorem xTop2 : Rl.topL 2 (ofR xA) = some [0, 1] := by decide +kernel
theorem xTop0 : Rl.topL 2 zeroR = some [0, 1] := by decide +kernel
theorem xEq : relEq (2 : Nat) (2 : Nat) (totL [0, 1]) (ofR xA) = true := by decide +kernel
theorem xNe : relEq (2 : Nat) (2 : Nat) (totL [0, 1]) zeroR = false := by decide +kernel
theorem xPairs : (Rl.pairsF (totL [2, 0, 1]) 3).length = 3 := by decide +kernel
theorem xKeeps : keepsN (ofR xA) 2 [1, 0] = false := by decide +kernel
theorem zOk (n : Nat) (hn : n ≤ 48) : Rl.Ok n zeroR := Rl.ok_zero n hn

theorem ofG_lit (n : Nat) (A : Option Addr) (l : List (Int × Int)) (len cap : Nat) (w : World) (hlen : l.length = len) (hb : ofB n l = true) (hl : l.length ≤ maxLen) (hA : PairsAt w A l) :
    Calls Tryd.prog 41 #[.int .i64 n, .slice A len cap] w fun e w' => e = .returned (.tuple #[.agg (relC n (ofR l)), .int .i64 0]) ∧ Below w.heap.size w w' := by
  subst hlen
  have h := of_any n A l cap w hl hA
  rw [(of_true hb).1, (of_true hb).2.1, (of_true hb).2.2] at h
  exact h
theorem orders_gives (n : Nat) (f : Rl.Rows) (most : Nat) (L : List (List Nat)) (k : Nat) (hL : Rl.ordL n f = L) (hk : L.length = k) (hle : k ≤ most) (hmost : most ≤ 10000) (w : World) (hf : Rl.Ok n f) (hT : Tab w) (hw : 0 < w.heap.size) :
    Calls Tryd.prog 46 #[.agg (relC n f), .int .i64 most] w fun e w' => ∃ A c, e = .returned (.tuple #[.slice A k c, .int .i64 0]) ∧ ListsAt w' A L ∧ Below w.heap.size w w' := by
  have h := orders_yes n f most hmost w hf hT hw
  rw [hL, hk, if_pos hle, if_pos hle] at h
  refine h.mono ?_
  rintro e w' ⟨v, rfl, hv, hb⟩
  obtain ⟨A, c, rfl, hA⟩ := lists_at hv (fun x hx => ord_len (by rw [hL]; exact hx))
  exact ⟨A, c, by rw [hk], hA, hb⟩
theorem count_gives (n : Nat) (f : Rl.Rows) (most k : Nat) (hk : (Rl.ordL n f).length = k) (hmost : most ≤ 10000) (r e0 : Int) (hr : r = if k ≤ most then (k : Int) else 0) (he : e0 = if k ≤ most then 0 else 5) (w : World) (hf : Rl.Ok n f) (hT : Tab w) (hw : 0 < w.heap.size) :
    Calls Tryd.prog 48 #[.agg (relC n f), .int .i64 most] w fun e w' => e = .returned (.tuple #[.int .i64 r, .int .i64 e0]) ∧ Below w.heap.size w w' := by
  have h := count_yes n f most hmost w hf hT hw
  rw [hk, ← hr, ← he] at h
  exact h
theorem pairs_slice (n : Nat) (f : Rl.Rows) (N : Nat) (hN : (Rl.pairsF f n).length = N) (w : World) (hf : Rl.Ok n f) (hT : Tab w) (hw : 0 < w.heap.size) :
    Calls Tryd.prog 28 #[.agg (relC n f)] w fun e w' => ∃ A c, e = .returned (.slice A N c) ∧ Below w.heap.size w w' := by
  refine (pairs_yes n f w hf hT hw).mono ?_
  rintro e w' ⟨v, rfl, hrow, hb⟩
  obtain ⟨A, c, e1, e2, _⟩ := row_pairs hrow
  rw [e2, hN] at e1
  exact ⟨A, c, by rw [e1], hb⟩
theorem oof_gives (n : Nat) (f : Rl.Rows) (L : List Nat) (k : Nat) (hk : L.length = k) (ht : Rl.topL n f = some L) (hq : relEq n n (totL L) f = true) (w : World) (oF : Rl.Ok n f) (hT : Tab w) (hw : 0 < w.heap.size) :
    Calls Tryd.prog 51 #[.agg (relC n f)] w fun e w' => ∃ A c, e = .returned (.tuple #[.slice A k c, .bool true]) ∧ IntsAt w' A (ints L) ∧ Below w.heap.size w w' := by
  refine (oof_eq n f w oF hT hw L ht hq).mono ?_
  rintro e w' ⟨v, rfl, hrow, hb⟩
  have hrow : w'.ownsRow w.heap.size 3 1 v L.length (nums L) := hrow
  obtain ⟨A, c, e1, e2, _, hA⟩ := row_ints hrow
  subst e1
  exact ⟨A, c, by rw [ints_len, hk]; rfl, hA, hb⟩
theorem lists_same (A B : Option Addr) (l : List (List Nat)) (m k c d : Nat) (w : World) (hm : l.length = m) (hk : l.length = k) (hl : l.length ≤ maxLen) (hA : ListsAt w A l) (hB : ListsAt w B l) :
    Calls Tryd.prog 53 #[.slice A m c, .slice B k d] w fun e w' => e = .returned (.bool true) ∧ Below w.heap.size w w' := by
  have h := lists_any A B l l c d w hl hl hA hB true (by simp)
  rw [hm] at h
  rw [← hk, hm]
  exact h
/-! the calls of awake, each with its answer -/
theorem a1 (w : World) (A : Option Addr) (c : Nat) (hA : PairsAt w A xA) : Calls Tryd.prog 41 #[.int .i64 3, .slice A 1 c] w fun e w' => e = .returned (.tuple #[.agg (relC 3 (ofR xA)), .int .i64 0]) ∧ Below w.heap.size w w' := ofG_lit 3 A xA 1 c w rfl (by decide +kernel) (by decide) hA
theorem a2 (w : World) (hT : Tab w ∧ 0 < w.heap.size) : Calls Tryd.prog 46 #[.agg (relC 3 (ofR xA)), .int .i64 3] w fun e w' => ∃ A c, e = .returned (.tuple #[.slice A 3 c, .int .i64 0]) ∧ ListsAt w' A [[0, 1, 2], [0, 2, 1], [2, 0, 1]] ∧ Below w.heap.size w w' := orders_gives 3 _ 3 _ 3 xOrd3 rfl (by decide) (by decide) w xOk3 hT.1 hT.2
theorem a3 (w : World) (hT : Tab w ∧ 0 < w.heap.size) : Calls Tryd.prog 48 #[.agg (relC 3 (ofR xA)), .int .i64 3] w fun e w' => e = .returned (.tuple #[.int .i64 3, .int .i64 0]) ∧ Below w.heap.size w w' := count_gives 3 _ 3 3 (by rw [xOrd3]; rfl) (by decide) 3 0 (by simp) (by simp) w xOk3 hT.1 hT.2
theorem a4 (w : World) (hT : Tab w ∧ 0 < w.heap.size) : Calls Tryd.prog 48 #[.agg (relC 3 (ofR xA)), .int .i64 2] w fun e w' => e = .returned (.tuple #[.int .i64 0, .int .i64 5]) ∧ Below w.heap.size w w' := count_gives 3 _ 2 3 (by rw [xOrd3]; rfl) (by decide) 0 5 (by simp) (by simp) w xOk3 hT.1 hT.2
theorem a5 (w : World) (A : Option Addr) (c : Nat) (hA : PairsAt w A xB) : Calls Tryd.prog 41 #[.int .i64 2, .slice A 2 c] w fun e w' => e = .returned (.tuple #[.agg (relC 2 (ofR xB)), .int .i64 0]) ∧ Below w.heap.size w w' := ofG_lit 2 A xB 2 c w rfl (by decide +kernel) (by decide) hA
theorem a6 (w : World) (hT : Tab w ∧ 0 < w.heap.size) : Calls Tryd.prog 46 #[.agg (relC 2 (ofR xB)), .int .i64 5] w fun e w' => ∃ A c, e = .returned (.tuple #[.slice A 0 c, .int .i64 0]) ∧ Below w.heap.size w w' := (orders_gives 2 _ 5 _ 0 xOrdB rfl (by decide) (by decide) w xOkB hT.1 hT.2).mono fun e w' ⟨A, c, h1, _, h2⟩ => ⟨A, c, h1, h2⟩
theorem a7 (w : World) (A : Option Addr) (c : Nat) (hA : IntsAt w A (ints [2, 0, 1])) : Calls Tryd.prog 49 #[.int .i64 3, .slice A 3 c] w fun e w' => e = .returned (.tuple #[.agg (relC 3 (totL [2, 0, 1])), .int .i64 0]) ∧ Below w.heap.size w w' := total_yes 3 A [2, 0, 1] c w (by decide) rfl (by decide) (by decide) hA (by decide +kernel)
theorem a8 (w : World) (A : Option Addr) (c : Nat) (hA : IntsAt w A (ints [0, 0])) : Calls Tryd.prog 49 #[.int .i64 2, .slice A 2 c] w fun e w' => e = .returned (.tuple #[.agg (relC 0 zeroR), .int .i64 2]) ∧ Below w.heap.size w w' := total_no 2 A (ints [0, 0]) c w hA (by decide +kernel)
theorem a9 (w : World) (A : Option Addr) (c : Nat) (hA : PairsAt w A xA) : Calls Tryd.prog 41 #[.int .i64 2, .slice A 1 c] w fun e w' => e = .returned (.tuple #[.agg (relC 2 (ofR xA)), .int .i64 0]) ∧ Below w.heap.size w w' := ofG_lit 2 A xA 1 c w rfl (by decide +kernel) (by decide) hA
theorem a10 (w : World) (hT : Tab w ∧ 0 < w.heap.size) : Calls Tryd.prog 51 #[.agg (relC 2 (ofR xA))] w fun e w' => ∃ A c, e = .returned (.tuple #[.slice A 2 c, .bool true]) ∧ IntsAt w' A (ints [0, 1]) ∧ Below w.heap.size w w' := oof_gives 2 _ [0, 1] 2 rfl xTop2 xEq w xOk2 hT.1 hT.2
theorem a11 (w : World) (hT : Tab w ∧ 0 < w.heap.size) : Calls Tryd.prog 51 #[.agg (relC 2 zeroR)] w fun e w' => ∃ v, e = .returned (.tuple #[v, .bool false]) ∧ Below w.heap.size w w' := (oof_ne 2 zeroR w (zOk 2 (by decide)) hT.1 hT.2 [0, 1] xTop0 xNe).mono fun e w' ⟨v, h1, _, h2⟩ => ⟨v, h1, h2⟩
theorem a12 (w : World) (hT : Tab w ∧ 0 < w.heap.size) : Calls Tryd.prog 46 #[.agg (relC 0 zeroR), .int .i64 1] w fun e w' => ∃ A c, e = .returned (.tuple #[.slice A 1 c, .int .i64 0]) ∧ ListsAt w' A [[]] ∧ Below w.heap.size w w' := orders_gives 0 _ 1 _ 1 xOrd0 rfl (by decide) (by decide) w (zOk 0 (by decide)) hT.1 hT.2
theorem aH (a b : Nat) (h : Rl.bit (totL [2, 0, 1]) a b = true) (w : World) : Calls Tryd.prog 29 #[.agg (relC 3 (totL [2, 0, 1])), .int .i64 a, .int .i64 b] w fun e w' => e = .returned (.bool true) ∧ Below w.heap.size w w' :=
  has_is ((3 : Nat) : Int) _ a b true (by rw [pairB_ok xOkT]; exact h) w xOkT.z
theorem a13 (w : World) : Calls Tryd.prog 29 #[.agg (relC 3 (totL [2, 0, 1])), .int .i64 0, .int .i64 1] w fun e w' => e = .returned (.bool true) ∧ Below w.heap.size w w' := aH 0 1 (by decide +kernel) w
theorem a14 (w : World) : Calls Tryd.prog 29 #[.agg (relC 3 (totL [2, 0, 1])), .int .i64 2, .int .i64 0] w fun e w' => e = .returned (.bool true) ∧ Below w.heap.size w w' := aH 2 0 (by decide +kernel) w
theorem a15 (w : World) : Calls Tryd.prog 29 #[.agg (relC 3 (totL [2, 0, 1])), .int .i64 2, .int .i64 1] w fun e w' => e = .returned (.bool true) ∧ Below w.heap.size w w' := aH 2 1 (by decide +kernel) w
theorem a16 (w : World) (hT : Tab w ∧ 0 < w.heap.size) : Calls Tryd.prog 28 #[.agg (relC 3 (totL [2, 0, 1]))] w fun e w' => ∃ A c, e = .returned (.slice A 3 c) ∧ Below w.heap.size w w' := pairs_slice 3 _ 3 xPairs w xOkT hT.1 hT.2
theorem a17 (w : World) (A : Option Addr) (c : Nat) (hA : IntsAt w A (ints [1, 0])) (hT : Tab w ∧ 0 < w.heap.size) : Calls Tryd.prog 54 #[.agg (relC 2 (ofR xA)), .slice A 2 c] w fun e w' => e = .returned (.bool false) ∧ Below w.heap.size w w' := keeps_yes 2 _ A [1, 0] c w xOk2 (by decide +kernel) hA hT.1 hT.2 false xKeeps.symm
end Go.Proofs.YtknjdfgmejobfaaDoor
