/- package view: Told. -/
import Derived.Test.YtjijgncahonfhaaDoorVi
import Derived.Test.YtjijgncahonfhaaDoorVd
import Derived.Lib.Hide
namespace Go.Proofs.YtjijgncahonfhaaDoor
open Go.RowKit Go.Shelf

attribute [local go_sem] Bv.and_u Bv.or_u Bv.andNot_u Bv.wrap_sub1 Bv.eq0 Bv.ne0 Bv.wrap_pow Bv.wrap_powmin Bv.wrap_neg

set_option maxHeartbeats 400000 in
theorem told_no1 (k : Int) (m : Int) (a : Bool) (n : Int) (w : World) (hk : ¬ (k = 1 ∨ k = 2 ∨ k = 3)) :
    Calls Tryd.prog 15 #[.agg #[.int .u8 k, .int .u64 m, .bool a], .int .i64 n] w fun e w' => e = .returned (.int .u64 0) ∧ Below w.heap.size w w' := by
  have e1 : decide (k = 1 ∨ k = 2 ∨ k = 3) = false := by simpa using hk
  clear hk
  go_enter Tryd.func15, Tryd.ntmps15
  go_wp2_with (first | (go_at_call 20; refine (known_any _ _).mono ?_; rintro e w' ⟨rfl, rfl⟩) | (go_at_call 21; refine (counts_any _ _).mono ?_; rintro e w' ⟨rfl, rfl⟩))
  go_ret
  exact ⟨rfl, (Below.refl _ _).alloc (Nat.le_refl _) _⟩
set_option maxHeartbeats 400000 in
theorem told_no2 (k : Int) (m : Int) (a : Bool) (n : Int) (w : World) (hk : k = 1 ∨ k = 2 ∨ k = 3) (hn : ¬ (1 ≤ n ∧ n ≤ 4)) :
    Calls Tryd.prog 15 #[.agg #[.int .u8 k, .int .u64 m, .bool a], .int .i64 n] w fun e w' => e = .returned (.int .u64 0) ∧ Below w.heap.size w w' := by
  have e1 : decide (k = 1 ∨ k = 2 ∨ k = 3) = true := by simpa using hk
  have e2 : decide (1 ≤ n ∧ n ≤ 4) = false := by simpa using hn
  clear hk hn
  go_enter Tryd.func15, Tryd.ntmps15
  go_wp2_with (first | (go_at_call 20; refine (known_any _ _).mono ?_; rintro e w' ⟨rfl, rfl⟩) | (go_at_call 21; refine (counts_any _ _).mono ?_; rintro e w' ⟨rfl, rfl⟩))
  go_ret
  exact ⟨rfl, (Below.refl _ _).alloc (Nat.le_refl _) _⟩
set_option maxHeartbeats 400000 in
theorem told_all (k : Int) (m : Int) (n : Int) (w : World) (hk : k = 1 ∨ k = 2 ∨ k = 3) (h1 : 1 ≤ n) (h2 : n ≤ 4) :
    Calls Tryd.prog 15 #[.agg #[.int .u8 k, .int .u64 m, .bool true], .int .i64 n] w fun e w' => e = .returned (.int .u64 (Bv.U (Bv.bit n.toNat - 1#64))) ∧ Below w.heap.size w w' := by
  have e1 : decide (k = 1 ∨ k = 2 ∨ k = 3) = true := by simpa using hk
  have e2 : decide (1 ≤ n ∧ n ≤ 4) = true := decide_eq_true ⟨h1, h2⟩
  clear hk
  go_enter Tryd.func15, Tryd.ntmps15
  go_wp2_with (first | (go_at_call 20; refine (known_any _ _).mono ?_; rintro e w' ⟨rfl, rfl⟩) | (go_at_call 21; refine (counts_any _ _).mono ?_; rintro e w' ⟨rfl, rfl⟩) | (go_at_call 25; refine (below_any _ _ (by omega) (by omega)).mono ?_; rintro e w' ⟨rfl, rfl⟩))
  go_ret
  exact ⟨rfl, (Below.refl _ _).alloc (Nat.le_refl _) _⟩
set_option maxHeartbeats 400000 in
theorem told_12 (k : Int) (m : BitVec 64) (n : Int) (w : World) (hk : k = 1 ∨ k = 2) (h1 : 1 ≤ n) (h2 : n ≤ 4) :
    Calls Tryd.prog 15 #[.agg #[.int .u8 k, .int .u64 (Bv.U m), .bool false], .int .i64 n] w fun e w' => e = .returned (.int .u64 (Bv.U (m &&& (Bv.bit n.toNat - 1#64)))) ∧ Below w.heap.size w w' := by
  have e1 : decide (k = 1 ∨ k = 2 ∨ k = 3) = true := by simp; omega
  have e2 : decide (1 ≤ n ∧ n ≤ 4) = true := decide_eq_true ⟨h1, h2⟩
  have e3 : (k == 3) = false := by simp; omega
  have e4 : (k != 3) = true := by simp [bne, e3]
  clear hk
  go_enter Tryd.func15, Tryd.ntmps15
  go_wp2_with (first | (go_at_call 20; refine (known_any _ _).mono ?_; rintro e w' ⟨rfl, rfl⟩) | (go_at_call 21; refine (counts_any _ _).mono ?_; rintro e w' ⟨rfl, rfl⟩) | (go_at_call 25; refine (below_any _ _ (by omega) (by omega)).mono ?_; rintro e w' ⟨rfl, rfl⟩))
  go_ret
  exact ⟨rfl, (Below.refl _ _).alloc (Nat.le_refl _) _⟩

/-- the pairs' caches -/
def pairs (t : BitVec 64) (x : Nat) : BitVec 64 := if x = 0 then t ||| 3#64 else t ||| 12#64

attribute [local go_sem] Oper.semAt_some
set_option maxRecDepth 100000 in
set_option maxHeartbeats 1000000 in
theorem told_3 (m : BitVec 64) (n : Int) (w : World) (h1 : 1 ≤ n) (h2 : n ≤ 4) (hT : Tab w) (hw : 0 < w.heap.size) :
    Calls Tryd.prog 15 #[.agg #[.int .u8 3, .int .u64 (Bv.U m), .bool false], .int .i64 n] w fun e w' => e = .returned (.int .u64 (Bv.U ((Bs.elems (m &&& 3#64)).foldl pairs 0#64 &&& (Bv.bit n.toNat - 1#64)))) ∧ Below w.heap.size w w' := by
  have e2 : decide (1 ≤ n ∧ n ≤ 4) = true := decide_eq_true ⟨h1, h2⟩
  refine (callsIn_wide (n := 9)).1 ?_
  refine callsIn_of_wp_marks Tryd.func15 rfl trivial ?_ rfl
  simp only [Tryd.ntmps15, List.size_toArray, List.length_cons, List.length_nil, Nat.reduceAdd, Nat.reduceSub, Array.replicate_succ, Array.replicate_zero, List.push_toArray, List.append_toArray, List.nil_append, List.cons_append]
  gi_wp2_with (refine ⟨trivial, ?_⟩; first | (gi_at_call 20; refine (callsIn_wide.2 (known_any _ _)).mono ?_; rintro e w' ⟨rfl, rfl⟩) | (gi_at_call 21; refine (callsIn_wide.2 (counts_any _ _)).mono ?_; rintro e w' ⟨rfl, rfl⟩) | (gi_at_call 25; refine (callsIn_wide.2 (below_any _ _ (by omega) (by omega))).mono ?_; rintro e w' ⟨rfl, rfl⟩))
  refine Rf.wpIn_noPanic ?_
  gi_region_with (refine ⟨trivial, ?_⟩; first | (gi_at_call 25; refine (callsIn_wide.2 (below_any _ _ (by omega) (by omega))).mono ?_; rintro e w' ⟨rfl, rfl⟩) | (gi_at_call 24; refine (callsIn_wide.2 (elements_any _ _)).mono ?_; rintro e w' ⟨rfl, rfl⟩))
  all_goals refine NoPanic.normal ?_
  all_goals
    gi_wp2_with fail
    refine Rf.wpIn_rangeFunc_box rfl (by omega) (gf := 33) (lb := #[.pointer (some ⟨w.heap.size + 1 + 1, 0, none⟩)]) rfl trivial (enters_of Tryd.func33 (by kernel_rfl) rfl)
      (elements_in 8 (w.heap.size + 1 + 1) (m &&& (Bv.bit 2 - 1#64))) (by have := World.alloc_heap_new ((w.alloc (.cells #[.int .u8 3, .int .u64 (Bv.U m), .bool false] 25)).alloc (.cells #[.int .u64 0] 23)) (.cells #[.int .u64 (Bv.U (m &&& (Bv.bit 2 - 1#64)))] 23 (0, 0)); rw [World.size_alloc, World.size_alloc] at this; exact this) (fun _ => rfl)
      (fun pre W => W.heap[w.heap.size + 1]? = some (.cells #[.int .u64 (Bv.U (pre.foldl pairs 0#64))] 23 (0, 0)) ∧ Below w.heap.size w W)
      (fun pre W h => hT.below h.2 hw) ?_ ?_ ?_ ?_ ?_ ?_
    · intro W o h; exact Rf.box_alloc o (Nat.le_refl _) h
    · intro pre W v h; exact Rf.box_set ⟨w.heap.size + 1 + 1, 0, none⟩ v (by show w.heap.size + 1 ≠ w.heap.size + 1 + 1; omega) (by show w.heap.size ≤ w.heap.size + 1 + 1; omega) h
    · intro pre W l o o' hl ho _ h; simp only [World.size_alloc, World.size_drew] at hl; exact Rf.box_put l o o' (by omega) (by omega) ho (Nat.le_refl _) h
    · refine ⟨?_, ((((Below.refl _ _).alloc (Nat.le_refl _) _).alloc (by simp) _).alloc (by simp; omega) _).drew⟩
      have := World.alloc_heap_new (w.alloc (.cells #[.int .u8 3, .int .u64 (Bv.U m), .bool false] 25)) (.cells #[.int .u64 0] 23 (0, 0))
      rw [World.size_alloc] at this
      exact (Below.heap_alloc _ _ _ (by simp)).trans this
    · intro l pre x W W2 _ hI hpre
      have hx2 : x < 2 := by
        have hm : x ∈ Bs.elems (m &&& (Bv.bit 2 - 1#64)) := hpre.subset (by simp)
        rw [Bs.mem_elems, BitVec.getLsbD_and, Bv.ones_get 2 x (by omega) (by apply Nat.lt_of_not_le; intro hle; rw [BitVec.getLsbD_of_ge _ _ hle] at hm; cases hm)] at hm
        simp at hm; omega
      obtain ⟨hb, hB⟩ := hI
      have hc := cell_of_one hb
      have hf := free_of_one hb
      have hfold : (pre ++ [x]).foldl pairs 0#64 = pairs (pre.foldl pairs 0#64) x := by simp
      have HF := Lib.hid (And.intro hfold hb)
      clear hfold hb hpre
      obtain rfl | rfl : x = 0 ∨ x = 1 := by omega
      · have ho : bits BinOp.or IntKind.u64 (Bv.U (pre.foldl pairs 0#64)) 3 = Bv.U (pairs (pre.foldl pairs 0#64) 0) := Bv.or_lit _ 3
        gi_wp2
        refine ⟨trivial, ?_⟩
        gi_wp2
        exact ⟨KeepsOthers.setCell _ _ _, Below.heap_setCell _ _ _ _ (by show w.heap.size + 1 + 1 ≠ w.heap.size + 1; omega), by rw [HF.out.1]; exact one_setCell HF.out.2, hB.setCell (by show w.heap.size ≤ w.heap.size + 1; omega) _⟩
      · have ho : bits BinOp.or IntKind.u64 (Bv.U (pre.foldl pairs 0#64)) 12 = Bv.U (pairs (pre.foldl pairs 0#64) 1) := Bv.or_lit _ 12
        gi_wp2
        refine ⟨trivial, ?_⟩
        gi_wp2
        exact ⟨KeepsOthers.setCell _ _ _, Below.heap_setCell _ _ _ _ (by show w.heap.size + 1 + 1 ≠ w.heap.size + 1; omega), by rw [HF.out.1]; exact one_setCell HF.out.2, hB.setCell (by show w.heap.size ≤ w.heap.size + 1; omega) _⟩
    · rintro D W hD ⟨hb, hB⟩ hK
      have hc := cell_of_one hb
      simp only [World.size_alloc, World.size_drew] at hD
      gi_wp2
      refine ⟨by simp, .inl ⟨_, _, rfl, run_takeDeferred hK, ?_⟩⟩
      exact ⟨_, results_tmp rfl _ _ _, rfl, Rf.below_put D _ (by omega) (Nat.le_refl _) hB⟩

/-- Told -/
def toldS (k : Int) (m : BitVec 64) (a : Bool) (n : Int) : BitVec 64 :=
  if (k = 1 ∨ k = 2 ∨ k = 3) ∧ 1 ≤ n ∧ n ≤ 4 then
    (if a then Bv.bit n.toNat - 1#64 else if k = 3 then (Bs.elems (m &&& 3#64)).foldl pairs 0#64 &&& (Bv.bit n.toNat - 1#64) else m &&& (Bv.bit n.toNat - 1#64))
  else 0#64
theorem told_any (k : Int) (m : BitVec 64) (a : Bool) (n : Int) (w : World) (hT : Tab w) (hw : 0 < w.heap.size) :
    Calls Tryd.prog 15 #[.agg #[.int .u8 k, .int .u64 (Bv.U m), .bool a], .int .i64 n] w fun e w' => e = .returned (.int .u64 (Bv.U (toldS k m a n))) ∧ Below w.heap.size w w' := by
  unfold toldS
  by_cases hk : k = 1 ∨ k = 2 ∨ k = 3
  · by_cases hn : 1 ≤ n ∧ n ≤ 4
    · rw [if_pos ⟨hk, hn⟩]
      cases a
      · rcases hk with rfl | rfl | rfl
        · exact told_12 1 m n w (by omega) hn.1 hn.2
        · exact told_12 2 m n w (by omega) hn.1 hn.2
        · exact told_3 m n w hn.1 hn.2 hT hw
      · exact told_all k _ n w hk hn.1 hn.2
    · rw [if_neg (fun h => hn h.2)]; exact told_no2 k _ a n w hk hn
  · rw [if_neg (fun h => hk h.1)]; exact told_no1 k _ a n w hk
end Go.Proofs.YtjijgncahonfhaaDoor
