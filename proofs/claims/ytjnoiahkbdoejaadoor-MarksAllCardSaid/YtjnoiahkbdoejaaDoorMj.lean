/- layer 1's law: awake. -/
import Derived.Test.YtjnoiahkbdoejaaDoorMi
namespace Go.Proofs.YtjnoiahkbdoejaaDoor
open Go.RowKit Go.Shelf

attribute [local go_sem] Bv.and_u Bv.or_u Bv.andNot_u Bv.wrap_sub1 Bv.eq0 Bv.ne0 Bv.wrap_pow Bv.wrap_powmin Bv.wrap_neg Bv.eq_u Bv.ne_u

theorem alloc_cell (w : World) (vs : Array Value) (t : TypeId) (i : Nat) (v : Value) (h : vs[i]? = some v) : (w.alloc (.cells vs t)).cell? ⟨w.heap.size, i, none⟩ = some v := by
  have := World.alloc_heap_new w (.cells vs t)
  unfold World.cell?; rw [this]; exact h
theorem lit_ints (w : World) (vs : Array Value) (t : TypeId) (zs : List Int) (n : Nat) (hn : w.heap.size = n) (h : vs = (zs.map (Value.int .i64)).toArray) : IntsAt (w.alloc (.cells vs t)) (some ⟨n, 0, none⟩) zs := by
  subst h hn
  exact fun _ => ⟨w.heap.size, 0, rfl, by simp, fun i hi => alloc_cell w _ t (0 + i) _ (by simp [hi])⟩
theorem lit_sets (w : World) (vs : Array Value) (t : TypeId) (l : List (BitVec 64)) (n : Nat) (hn : w.heap.size = n) (h : vs = (sets l).toArray) : SetsAt (w.alloc (.cells vs t)) (some ⟨n, 0, none⟩) l := by
  subst h hn
  exact fun _ => ⟨w.heap.size, 0, rfl, by simp, fun i hi => alloc_cell w _ t (0 + i) _ (by simp [sets, hi])⟩

theorem of_lit (A : Option Addr) (zs : List Int) (n cap : Nat) (w : World) (hn : zs.length = n) (hl : n ≤ maxLen) (hA : IntsAt w A zs) (s e : Int) (hs : Bv.U (ofS zs) = s) (he : ofE zs = e) :
    Calls Tryd.prog 11 #[.slice A n cap] w fun e' w' => e' = .returned (.tuple #[.int .u64 s, .int .i64 e]) ∧ w' = w := by
  subst hn hs he; exact of_any A zs cap w hl hA
theorem all_lit (n : Int) (w : World) (t : Int) (ht : Bv.U (allS n) = t) :
    Calls Tryd.prog 13 #[.int .i64 n] w fun e w' => e = .returned (.int .u64 t) ∧ w' = w := by subst ht; exact all_any n w
theorem list_lit (s : BitVec 64) (u : Int) (hu : Bv.U s = u) (l : List Nat) (hl : Bs.elems s = l) (w : World) (hT : Tab w) (hw : 0 < w.heap.size) :
    Calls Tryd.prog 16 #[.int .u64 u] w fun e W' => ∃ v, e = .returned v ∧ W'.ownsRow w.heap.size 3 1 v l.length (nums l) ∧ (v = .slice none 0 0 ↔ l = []) ∧ Below w.heap.size w W' := by
  subst hu hl; exact list_any s w hT hw
theorem first_lit (s : BitVec 64) (u : Int) (hu : Bv.U s = u) (n : Int) (b : Bool) (hn : firstN s = n) (hb : someB s = b) (w : World) (hT : Tab w) (hw : 0 < w.heap.size) :
    Calls Tryd.prog 21 #[.int .u64 u] w fun e W' => e = .returned (.tuple #[.int .i64 n, .bool b]) ∧ Below w.heap.size w W' := by
  subst hu hn hb; exact first_any s w hT hw
theorem next_lit (s : BitVec 64) (u : Int) (hu : Bv.U s = u) (i n : Int) (b : Bool) (hn : firstN (aboveS s i) = n) (hb : someB (aboveS s i) = b) (w : World) (hT : Tab w) (hw : 0 < w.heap.size) :
    Calls Tryd.prog 23 #[.int .u64 u, .int .i64 i] w fun e W' => e = .returned (.tuple #[.int .i64 n, .bool b]) ∧ Below w.heap.size w W' := by
  subst hu hn hb; exact next_any s i w hT hw
theorem pick_lit (s : BitVec 64) (u : Int) (hu : Bv.U s = u) (k n : Int) (b : Bool) (hn : pickN s k = n) (hb : pickB s k = b) (h0 : -9223372036854775808 ≤ k) (h1 : k ≤ 9223372036854775807) (w : World) (hT : Tab w) (hw : 0 < w.heap.size) :
    Calls Tryd.prog 24 #[.int .u64 u, .int .i64 k] w fun e W' => e = .returned (.tuple #[.int .i64 n, .bool b]) ∧ Below w.heap.size w W' := by
  subst hu hn hb; exact pick_any s k w hT hw h0 h1
theorem rank_lit (s : BitVec 64) (u : Int) (hu : Bv.U s = u) (i n : Int) (hn : ((Bs.elems (s &&& allS i)).length : Int) = n) (w : World) (hT : Tab w) (hw : 0 < w.heap.size) :
    Calls Tryd.prog 19 #[.int .u64 u, .int .i64 i] w fun e w' => e = .returned (.int .i64 n) ∧ Below w.heap.size w w' := by
  subst hu hn; exact rank_any s i w hT hw
theorem subsets_lit (s : BitVec 64) (u : Int) (hu : Bv.U s = u) (most e0 : Int) (l : List (BitVec 64)) (he : subsE s most = e0) (hl : subsL s most = l) (w : World) (hT : Tab w) (hw : 0 < w.heap.size) :
    Calls Tryd.prog 26 #[.int .u64 u, .int .i64 most] w fun e w' => ∃ v, e = .returned (.tuple #[v, .int .i64 e0]) ∧ w'.ownsRow w.heap.size 23 1 v l.length (sets l) ∧ Below w.heap.size w w' := by
  subst hu he hl; exact subsets_any s most w hT hw
theorem setsq_lit (A B : Option Addr) (xs ys : List (BitVec 64)) (n m c d : Nat) (w : World) (hn : xs.length = n) (hm : ys.length = m) (hx : xs.length ≤ maxLen) (hy : ys.length ≤ maxLen) (hA : SetsAt w A xs) (hB : SetsAt w B ys) (b : Bool) (hb : decide (xs = ys) = b) :
    Calls Tryd.prog 28 #[.slice A n c, .slice B m d] w fun e w' => e = .returned (.bool b) ∧ Below w.heap.size w w' := by
  subst hn hm hb; exact setsq_any A B xs ys c d w hx hy hA hB
theorem ints_lit (A B : Option Addr) (xs ys : List Int) (n m c d : Nat) (w : World) (hn : xs.length = n) (hm : ys.length = m) (hx : xs.length ≤ maxLen) (hy : ys.length ≤ maxLen) (hA : IntsAt w A xs) (hB : IntsAt w B ys) (b : Bool) (hb : decide (xs = ys) = b) :
    Calls Tryd.prog 15 #[.slice A n c, .slice B m d] w fun e w' => e = .returned (.bool b) ∧ Below w.heap.size w w' := by
  subst hn hm hb; exact ints_any A B xs ys c d w hx hy hA hB

set_option maxRecDepth 100000 in
set_option maxHeartbeats 2000000 in
theorem awake_any (w : World) (hT : Tab w) (hw : 0 < w.heap.size) :
    Calls Tryd.prog 10 #[] w fun e w' => e = .returned (.bool true) ∧ Below w.heap.size w w' := by
  have hTl : ∀ W, Below w.heap.size w W → Tab W ∧ 0 < W.heap.size := fun W h => ⟨hT.below h hw, Nat.lt_of_lt_of_le hw h.size⟩
  have HT := Lib.hid hTl
  clear hTl hT
  go_enter Tryd.func10, Tryd.ntmps10
  go_wp2_with fail
  refine (of_lit _ [5, 1, 5] 3 3 _ (by rfl) (by decide) (lit_ints _ _ _ _ _ (by simp) (by rfl)) 34 0 (by decide) (by decide)).mono ?_; rintro e w' ⟨rfl, rfl⟩
  go_wp2_with fail
  refine (of_lit _ [64] 1 1 _ (by rfl) (by decide) (lit_ints _ _ _ _ _ (by simp) (by rfl)) 0 2 (by decide) (by decide)).mono ?_; rintro e w' ⟨rfl, rfl⟩
  have b0 : Below w.heap.size w ((w.alloc (.cells #[.int .i64 5, .int .i64 1, .int .i64 5] 3)).alloc (.cells #[.int .i64 64] 3)) := ((Below.refl _ _).alloc (Nat.le_refl _) _).alloc (by simp) _
  have B0 := Lib.hid b0
  clear b0
  go_wp2_with fail
  refine (subsets_lit 34#64 34 (by decide) 4 0 [0#64, 2#64, 32#64, 34#64] (by decide +kernel) (by decide +kernel) _ (HT.out _ B0.out).1 (HT.out _ B0.out).2).mono ?_
  rintro e w1 ⟨v1, rfl, hrow, hb⟩
  obtain ⟨A, cap, rfl, _, hcap, hat⟩ := row_sets hrow
  have HA := Lib.hid hat
  have B1 := Lib.hid (B0.out.trans (hb.mono B0.out.size))
  clear hrow hb hat B0
  go_wp2_with fail
  refine (subsets_lit 34#64 34 (by decide) 3 5 [] (by decide +kernel) (by decide +kernel) _ (HT.out _ B1.out).1 (HT.out _ B1.out).2).mono ?_
  rintro e w2 ⟨v2, rfl, hrow, hb⟩
  have HA2 := Lib.hid (HA.out.below hb (Nat.le_refl _))
  have B2 := Lib.hid (B1.out.trans (hb.mono B1.out.size))
  clear hrow hb HA B1
  go_wp2_with fail
  refine (setsq_lit A _ [0#64, 2#64, 32#64, 34#64] [0#64, 2#64, 32#64, 34#64] 4 4 cap 4 _ (by rfl) (by rfl) (by decide) (by decide) (HA2.out.below ((Below.refl _ _).alloc (Nat.le_refl _) _) (Nat.le_refl _)) (lit_sets _ _ _ _ _ (by simp) (by rfl)) true (by decide)).mono ?_
  rintro e w3 ⟨rfl, hb⟩
  have B3 := Lib.hid ((B2.out.alloc B2.out.size (.cells #[.int .u64 0, .int .u64 2, .int .u64 32, .int .u64 34] 23)).trans (hb.mono (by have := B2.out.size; simp; omega)))
  clear hb HA2 B2
  go_wp2_with fail
  refine (all_lit 3 _ 7 (by decide)).mono ?_
  rintro e w3 ⟨rfl, rfl⟩
  go_wp2_with fail
  refine (list_lit 7#64 7 (by decide) [0, 1, 2] (by decide +kernel) _ (HT.out _ B3.out).1 (HT.out _ B3.out).2).mono ?_
  rintro e w4 ⟨v4, rfl, hrow, _, hb⟩
  obtain ⟨A4, cap4, rfl, _, hcap4, hat⟩ := row_ints hrow
  have HA := Lib.hid hat
  have B4 := Lib.hid (B3.out.trans (hb.mono B3.out.size))
  clear hrow hb hat B3
  go_wp2_with fail
  refine (ints_lit A4 _ [0, 1, 2] [0, 1, 2] 3 3 cap4 3 _ (by rfl) (by rfl) (by decide) (by decide) (HA.out.below ((Below.refl _ _).alloc (Nat.le_refl _) _) (Nat.le_refl _)) (lit_ints _ _ _ _ _ (by simp) (by rfl)) true (by decide)).mono ?_
  rintro e w5 ⟨rfl, hb⟩
  have B5 := Lib.hid ((B4.out.alloc B4.out.size (.cells #[.int .i64 0, .int .i64 1, .int .i64 2] 3)).trans (hb.mono (by have := B4.out.size; simp; omega)))
  clear hb HA B4
  go_wp2_with fail
  refine (all_lit (-1) _ 0 (by decide)).mono ?_
  rintro e w5 ⟨rfl, rfl⟩
  go_wp2_with fail
  refine (is_any 1 _).mono ?_
  rintro e w' ⟨rfl, rfl⟩
  have Ba6 := Lib.hid (B5.out.alloc B5.out.size (.cells #[.int .i64 1] 3))
  have hcl6 := alloc_cell w5 #[.int .i64 1] 3 0 (.int .i64 1) rfl
  have hlt6 : w5.heap.size < (w5.alloc (.cells #[.int .i64 1] 3)).heap.size := by simp
  clear B5
  go_wp2_with fail
  refine (first_lit 34#64 34 (by decide) 1 true (by decide +kernel) (by decide +kernel) _ (HT.out _ Ba6.out).1 (HT.out _ Ba6.out).2).mono ?_
  rintro e w6 ⟨rfl, hb⟩
  have hcx6 := (hb.cell (p := ⟨w5.heap.size, 0, none⟩) hlt6).trans hcl6
  have B6 := Lib.hid (Ba6.out.trans (hb.mono Ba6.out.size))
  clear hb Ba6 hcl6 hlt6
  go_wp2_with fail
  refine (is_yes 1 w5.heap.size w6 (by decide) hcx6).mono ?_
  rintro e w6 ⟨rfl, rfl⟩
  clear hcx6
  go_wp2_with fail
  refine (is_any 5 _).mono ?_
  rintro e w' ⟨rfl, rfl⟩
  have Ba7 := Lib.hid (B6.out.alloc B6.out.size (.cells #[.int .i64 5] 3))
  have hcl7 := alloc_cell w6 #[.int .i64 5] 3 0 (.int .i64 5) rfl
  have hlt7 : w6.heap.size < (w6.alloc (.cells #[.int .i64 5] 3)).heap.size := by simp
  clear B6
  go_wp2_with fail
  refine (next_lit 34#64 34 (by decide) 1 5 true (by decide +kernel) (by decide +kernel) _ (HT.out _ Ba7.out).1 (HT.out _ Ba7.out).2).mono ?_
  rintro e w7 ⟨rfl, hb⟩
  have hcx7 := (hb.cell (p := ⟨w6.heap.size, 0, none⟩) hlt7).trans hcl7
  have B7 := Lib.hid (Ba7.out.trans (hb.mono Ba7.out.size))
  clear hb Ba7 hcl7 hlt7
  go_wp2_with fail
  refine (is_yes 5 w6.heap.size w7 (by decide) hcx7).mono ?_
  rintro e w7 ⟨rfl, rfl⟩
  clear hcx7
  go_wp2_with fail
  refine (is_any 1 _).mono ?_
  rintro e w' ⟨rfl, rfl⟩
  have Ba8 := Lib.hid (B7.out.alloc B7.out.size (.cells #[.int .i64 1] 3))
  have hcl8 := alloc_cell w7 #[.int .i64 1] 3 0 (.int .i64 1) rfl
  have hlt8 : w7.heap.size < (w7.alloc (.cells #[.int .i64 1] 3)).heap.size := by simp
  clear B7
  go_wp2_with fail
  refine (next_lit 34#64 34 (by decide) (-9) 1 true (by decide +kernel) (by decide +kernel) _ (HT.out _ Ba8.out).1 (HT.out _ Ba8.out).2).mono ?_
  rintro e w8 ⟨rfl, hb⟩
  have hcx8 := (hb.cell (p := ⟨w7.heap.size, 0, none⟩) hlt8).trans hcl8
  have B8 := Lib.hid (Ba8.out.trans (hb.mono Ba8.out.size))
  clear hb Ba8 hcl8 hlt8
  go_wp2_with fail
  refine (is_yes 1 w7.heap.size w8 (by decide) hcx8).mono ?_
  rintro e w8 ⟨rfl, rfl⟩
  clear hcx8
  go_wp2_with fail
  refine (is_any (-1) _).mono ?_
  rintro e w' ⟨rfl, rfl⟩
  have Ba9 := Lib.hid (B8.out.alloc B8.out.size (.cells #[.int .i64 (-1)] 3))
  have hcl9 := alloc_cell w8 #[.int .i64 (-1)] 3 0 (.int .i64 (-1)) rfl
  have hlt9 : w8.heap.size < (w8.alloc (.cells #[.int .i64 (-1)] 3)).heap.size := by simp
  clear B8
  go_wp2_with fail
  refine (next_lit 34#64 34 (by decide) 5 0 false (by decide +kernel) (by decide +kernel) _ (HT.out _ Ba9.out).1 (HT.out _ Ba9.out).2).mono ?_
  rintro e w9 ⟨rfl, hb⟩
  have hcx9 := (hb.cell (p := ⟨w8.heap.size, 0, none⟩) hlt9).trans hcl9
  have B9 := Lib.hid (Ba9.out.trans (hb.mono Ba9.out.size))
  clear hb Ba9 hcl9 hlt9
  go_wp2_with fail
  refine (is_no (-1) w8.heap.size w9 (by decide) hcx9).mono ?_
  rintro e w9 ⟨rfl, rfl⟩
  clear hcx9
  go_wp2_with fail
  refine (is_any 5 _).mono ?_
  rintro e w' ⟨rfl, rfl⟩
  have Ba10 := Lib.hid (B9.out.alloc B9.out.size (.cells #[.int .i64 5] 3))
  have hcl10 := alloc_cell w9 #[.int .i64 5] 3 0 (.int .i64 5) rfl
  have hlt10 : w9.heap.size < (w9.alloc (.cells #[.int .i64 5] 3)).heap.size := by simp
  clear B9
  go_wp2_with fail
  refine (pick_lit 34#64 34 (by decide) 1 5 true (by decide +kernel) (by decide +kernel) (by decide) (by decide) _ (HT.out _ Ba10.out).1 (HT.out _ Ba10.out).2).mono ?_
  rintro e w10 ⟨rfl, hb⟩
  have hcx10 := (hb.cell (p := ⟨w9.heap.size, 0, none⟩) hlt10).trans hcl10
  have B10 := Lib.hid (Ba10.out.trans (hb.mono Ba10.out.size))
  clear hb Ba10 hcl10 hlt10
  go_wp2_with fail
  refine (is_yes 5 w9.heap.size w10 (by decide) hcx10).mono ?_
  rintro e w10 ⟨rfl, rfl⟩
  clear hcx10
  go_wp2_with fail
  refine (rank_lit 34#64 34 (by decide) 5 1 (by decide +kernel) _ (HT.out _ B10.out).1 (HT.out _ B10.out).2).mono ?_
  rintro e w11 ⟨rfl, hb⟩
  have B11 := Lib.hid (B10.out.trans (hb.mono B10.out.size))
  clear hb B10
  go_wp2_with fail
  refine (rank_lit 34#64 34 (by decide) 99 2 (by decide +kernel) _ (HT.out _ B11.out).1 (HT.out _ B11.out).2).mono ?_
  rintro e w12 ⟨rfl, hb⟩
  have B12 := Lib.hid (B11.out.trans (hb.mono B11.out.size))
  clear hb B11
  go_wp2_with fail
  go_ret
  exact ⟨rfl, B12.out⟩
end Go.Proofs.YtjnoiahkbdoejaaDoor
