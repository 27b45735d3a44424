/- package view: Least. -/
import Derived.Test.YtjijgncahonfhaaDoorVi
import Derived.Test.YtjijgncahonfhaaDoorVc
import Derived.Lib.Hide
namespace Go.Proofs.YtjijgncahonfhaaDoor
open Go.RowKit Go.Shelf

attribute [local go_sem] Bv.and_u Bv.or_u Bv.andNot_u Bv.wrap_sub1 Bv.eq0 Bv.ne0 Bv.wrap_pow Bv.wrap_powmin Bv.wrap_neg

set_option maxHeartbeats 400000 in
theorem least_no (k n : Int) (s : Int) (w : World) (h : newK k n = 0) :
    Calls Tryd.prog 11 #[.int .u8 k, .int .i64 n, .int .u64 s] w fun e w' => e = .returned (.agg #[.int .u8 0, .int .u64 0, .bool false]) ∧ Below w.heap.size w w' := by
  go_enter Tryd.func11, Tryd.ntmps11
  go_wp2_with fail
  refine (new_any _ _ _).mono ?_
  rintro e w1 ⟨rfl, hb⟩
  obtain ⟨hc, hf⟩ := bcell hb
  have hz : w.heap.size < w1.heap.size := by have := hb.size; simp at this; omega
  go_wp2_with fail
  exact bodyPost_ret (v := .agg #[.int .u8 0, .int .u64 0, .bool false]) (by simp [results, Tryd.results11, go_sem, hc, hz]) rfl ⟨rfl,
    by repeat (first | exact ((Below.refl _ _).alloc (Nat.le_refl _) _).trans (hb.mono (by simp)) | (refine Below.setCell ?_ (by simp) _) | (refine Below.alloc ?_ (by simp; omega) _))⟩

/-- recording a cache: Marks and All -/
def noteStep (k : Int) (st : BitVec 64 × Bool) (c : Nat) : BitVec 64 × Bool := (noteM k st.1 st.2 c, noteA k st.1 st.2 c)

attribute [local go_sem] Oper.semAt_some
set_option maxRecDepth 100000 in
set_option maxHeartbeats 2000000 in
theorem least_yes (k n : Int) (s : BitVec 64) (w : World) (hk : newK k n = k) (hk0 : k ≠ 0) (h1 : 1 ≤ n) (h2 : n ≤ 4) (hT : Tab w) (hw : 0 < w.heap.size) :
    Calls Tryd.prog 11 #[.int .u8 k, .int .i64 n, .int .u64 (Bv.U s)] w fun e w' => e = .returned (.agg #[.int .u8 k, .int .u64 (Bv.U ((Bs.elems (s &&& (Bv.bit n.toNat - 1#64))).foldl (noteStep k) (0#64, false)).1), .bool ((Bs.elems (s &&& (Bv.bit n.toNat - 1#64))).foldl (noteStep k) (0#64, false)).2]) ∧ Below w.heap.size w w' := by
  have q0 : (k == 0) = false := by simpa using hk0
  refine (callsIn_wide (n := 9)).1 ?_
  refine callsIn_of_wp_marks Tryd.func11 rfl trivial ?_ rfl
  simp only [Tryd.ntmps11, List.size_toArray, List.length_cons, List.length_nil, Nat.reduceAdd, Nat.reduceSub, Array.replicate_succ, Array.replicate_zero, List.push_toArray, List.append_toArray, List.nil_append, List.cons_append]
  gi_wp2_with fail
  refine ⟨trivial, ?_⟩
  refine (callsIn_wide.2 (new_any _ _ _)).mono ?_
  rintro e w1 ⟨rfl, hb⟩
  obtain ⟨hc, hf⟩ := bcell hb
  have hz : w.heap.size < w1.heap.size := by have := hb.size; simp at this; omega
  have hB1 : Below w.heap.size w w1 := ((Below.refl _ _).alloc (Nat.le_refl _) _).trans (hb.mono (by simp))
  have H1 := Lib.hid (And.intro hb hB1)
  clear hb hB1
  gi_wp2_with (refine ⟨trivial, ?_⟩; first | (gi_at_call 25; refine (callsIn_wide.2 (below_any _ _ (by omega) (by omega))).mono ?_; rintro e w' ⟨rfl, rfl⟩) | (gi_at_call 24; refine (callsIn_wide.2 (elements_any _ _)).mono ?_; rintro e w' ⟨rfl, rfl⟩))
  clear hc hf
  refine Rf.wpIn_rangeFunc_box rfl (by omega) (gf := 33) (lb := #[.pointer (some ⟨w1.heap.size + 1, 0, none⟩)]) rfl trivial (enters_of Tryd.func33 (by kernel_rfl) rfl)
    (elements_in 8 (w1.heap.size + 1) (s &&& (Bv.bit n.toNat - 1#64))) (by have := World.alloc_heap_new (w1.alloc (.cells #[.int .u8 k, .int .u64 0, .bool false] 25)) (.cells #[.int .u64 (Bv.U (s &&& (Bv.bit n.toNat - 1#64)))] 23 (0, 0)); rw [World.size_alloc] at this; exact this) (fun _ => rfl)
    (fun pre W => (W.heap[w1.heap.size]? = some (.cells #[.int .u8 k, .int .u64 (Bv.U (pre.foldl (noteStep k) (0#64, false)).1), .bool (pre.foldl (noteStep k) (0#64, false)).2] 25 (0, 0)) ∧ Below w.heap.size w W) ∧
      (W.heap[w.heap.size]? = some (.cells #[.int .u8 0, .int .u64 0, .bool false] 25 (0, 0)) ∧ Below w.heap.size w W))
    (fun pre W h => hT.below h.1.2 hw) ?_ ?_ ?_ ?_ ?_ ?_
  · intro W o h; exact ⟨Rf.box_alloc o (Nat.le_refl _) h.1, Rf.box_alloc o (Nat.le_refl _) h.2⟩
  · intro pre W v h
    exact ⟨Rf.box_set ⟨w1.heap.size + 1, 0, none⟩ v (by show w1.heap.size ≠ w1.heap.size + 1; omega) (by show w.heap.size ≤ w1.heap.size + 1; omega) h.1,
      Rf.box_set ⟨w1.heap.size + 1, 0, none⟩ v (by show w.heap.size ≠ w1.heap.size + 1; omega) (by show w.heap.size ≤ w1.heap.size + 1; omega) h.2⟩
  · intro pre W l o o' hl ho _ h
    simp only [World.size_alloc] at hl
    exact ⟨Rf.box_put l o o' (by omega) (by omega) ho (Nat.le_refl _) h.1, Rf.box_put l o o' (by omega) (by omega) ho (Nat.le_refl _) h.2⟩
  · have hB : Below w.heap.size w ((w1.alloc (.cells #[.int .u8 k, .int .u64 0, .bool false] 25)).alloc (.cells #[.int .u64 (Bv.U (s &&& (Bv.bit n.toNat - 1#64)))] 23 (0, 0))) := (H1.out.2.alloc (by omega) _).alloc (by simp; omega) _
    refine ⟨⟨?_, hB⟩, ?_, hB⟩
    · exact (Below.heap_alloc _ _ _ (by simp)).trans (World.alloc_heap_new w1 _)
    · exact (Below.heap_alloc _ _ _ (by simp; omega)).trans ((Below.heap_alloc _ _ _ hz).trans ((H1.out.1.block _ (by simp)).trans (World.alloc_heap_new w _)))
  · intro l pre x W W2 hsz2 hI hpre
    obtain ⟨⟨hb, hB⟩, hb6, _⟩ := hI
    have hfold : (pre ++ [x]).foldl (noteStep k) (0#64, false) = noteStep k (pre.foldl (noteStep k) (0#64, false)) x := by simp
    have hx64 : x < 64 := by
      have hm : x ∈ Bs.elems (s &&& (Bv.bit n.toNat - 1#64)) := hpre.subset (by simp)
      exact (Bs.mem_upto (k := 64)).1 hm |>.1
    obtain ⟨st, hst⟩ : ∃ st, st = pre.foldl (noteStep k) (0#64, false) := ⟨_, rfl⟩
    rw [← hst] at hb hfold
    obtain ⟨c0, c1, c2, f0, f1, f2⟩ := Rf.cells3 hb
    have hlt := lt_of_block hb
    have HF := Lib.hid (And.intro hfold (And.intro hb hb6))
    clear hfold hpre hst hb hb6
    gi_wp2
    refine ⟨trivial, ?_⟩
    gi_wp2_with fail
    refine ⟨trivial, ?_⟩
    refine (CallsIn.inRound l (callsIn_wide.2 (note_any k st.1 st.2 x W2 (by omega)))).mono ?_
    rintro e w3 ⟨rfl, hb3⟩
    have hb3' := (hb3.block _ hlt).trans HF.out.2.1
    obtain ⟨c0', c1', c2', f0', f1', f2'⟩ := Rf.cells3 hb3'
    have HG := Lib.hid (And.intro hb3 hb3')
    have hlt6 := lt_of_block HF.out.2.2
    clear hb3 hb3' c0 c1 c2 f0 f1 f2
    gi_wp2_with fail
    simp only [World.size_alloc] at hsz2
    have hk2 : KeepsOthers W2 (((w3.setCell ⟨w1.heap.size, 0, none⟩ (.int .u8 k)).setCell ⟨w1.heap.size, 1, none⟩ (.int .u64 (Bv.U (noteM k st.1 st.2 x)))).setCell ⟨w1.heap.size, 2, none⟩ (.bool (noteA k st.1 st.2 x))) :=
      ((Rf.keeps_of_below HG.out.1).trans (KeepsOthers.setCell _ _ _)).trans ((KeepsOthers.setCell _ _ _).trans (KeepsOthers.setCell _ _ _))
    have hBn : Below w.heap.size w (((w3.setCell ⟨w1.heap.size, 0, none⟩ (.int .u8 k)).setCell ⟨w1.heap.size, 1, none⟩ (.int .u64 (Bv.U (noteM k st.1 st.2 x)))).setCell ⟨w1.heap.size, 2, none⟩ (.bool (noteA k st.1 st.2 x))) :=
      (((hB.trans (HG.out.1.mono hB.size)).setCell (Nat.le_of_lt hz) _).setCell (Nat.le_of_lt hz) _).setCell (Nat.le_of_lt hz) _
    have hot : ∀ j, j ≠ w1.heap.size → j < W2.heap.size → (((w3.setCell ⟨w1.heap.size, 0, none⟩ (.int .u8 k)).setCell ⟨w1.heap.size, 1, none⟩ (.int .u64 (Bv.U (noteM k st.1 st.2 x)))).setCell ⟨w1.heap.size, 2, none⟩ (.bool (noteA k st.1 st.2 x))).heap[j]? = W2.heap[j]? := fun j hj hl =>
      (Below.heap_setCell _ _ _ _ hj).trans ((Below.heap_setCell _ _ _ _ hj).trans ((Below.heap_setCell _ _ _ _ hj).trans (HG.out.1.block _ hl)))
    refine ⟨hk2, hot _ (by omega) (by omega), ⟨?_, hBn⟩, (hot _ (by omega) hlt6).trans HF.out.2.2, hBn⟩
    rw [HF.out.1]
    exact Rf.set3 HG.out.2
  · rintro D W hD ⟨⟨hb, hB⟩, hb6, _⟩ hK
    obtain ⟨c0, c1, c2, f0, f1, f2⟩ := Rf.cells3 hb
    obtain ⟨d0, d1, d2, g0, g1, g2⟩ := Rf.cells3 hb6
    simp only [World.size_alloc] at hD
    gi_wp2
    refine ⟨by simp, .inl ⟨_, _, rfl, run_takeDeferred ((KeepsOthers.setCell _ _ _).same D _ ((KeepsOthers.setCell _ _ _).same D _ ((KeepsOthers.setCell _ _ _).same D _ hK rfl) rfl) rfl), ?_⟩⟩
    refine ⟨.agg #[.int .u8 k, .int .u64 (Bv.U ((Bs.elems (s &&& (Bv.bit n.toNat - 1#64))).foldl (noteStep k) (0#64, false)).1), .bool ((Bs.elems (s &&& (Bv.bit n.toNat - 1#64))).foldl (noteStep k) (0#64, false)).2], ?_, rfl, ?_⟩
    · have hres := (World.putObj_heap_other (o := Obj.deferred none) (show w.heap.size ≠ D by omega)).trans (Rf.set3 (x' := .int .u8 k) (y' := .int .u64 (Bv.U ((Bs.elems (s &&& (Bv.bit n.toNat - 1#64))).foldl (noteStep k) (0#64, false)).1)) (z' := .bool ((Bs.elems (s &&& (Bv.bit n.toNat - 1#64))).foldl (noteStep k) (0#64, false)).2) hb6)
      obtain ⟨r0, r1, r2, _, _, _⟩ := Rf.cells3 hres
      simp [results, Tryd.results11, go_sem, r0, r1, r2]
    · exact Rf.below_put D _ (by omega) (Nat.le_refl _) (((hB.setCell (Nat.le_refl _) _).setCell (Nat.le_refl _) _).setCell (Nat.le_refl _) _)
/-- Least: Kind, and Marks and All -/
def leastSt (k n : Int) (s : BitVec 64) : BitVec 64 × Bool := if newK k n = 0 then (0#64, false) else (Bs.elems (s &&& (Bv.bit n.toNat - 1#64))).foldl (noteStep k) (0#64, false)
theorem least_any (k n : Int) (s : BitVec 64) (w : World) (hT : Tab w) (hw : 0 < w.heap.size) :
    Calls Tryd.prog 11 #[.int .u8 k, .int .i64 n, .int .u64 (Bv.U s)] w fun e w' => e = .returned (.agg #[.int .u8 (newK k n), .int .u64 (Bv.U (leastSt k n s).1), .bool (leastSt k n s).2]) ∧ Below w.heap.size w w' := by
  unfold leastSt
  by_cases h : newK k n = 0
  · rw [if_pos h, h]; exact least_no k n _ w h
  · rw [if_neg h]
    have hk : newK k n = k := by unfold newK at h ⊢; split <;> simp_all
    have hn : 1 ≤ n ∧ n ≤ 4 := by
      by_cases h2 : (k = 1 ∨ k = 2 ∨ k = 3) ∧ 1 ≤ n ∧ n ≤ 4
      · exact h2.2
      · exact absurd (if_neg h2) h
    rw [hk]
    exact least_yes k n s w hk (by rw [hk] at h; exact h) hn.1 hn.2 hT hw
end Go.Proofs.YtjijgncahonfhaaDoor
