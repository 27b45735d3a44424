/- the reference of layer 19: Least. -/
import Derived.Test.YtjijgncahonfhaaDoorVg
import Derived.Test.YtjijgncahonfhaaDoorRf
namespace Go.Proofs.YtjijgncahonfhaaDoor
open Go.RowKit Go.Shelf

attribute [local go_sem] Bv.and_u Bv.or_u Bv.andNot_u Bv.wrap_sub1 Bv.eq0 Bv.ne0 Bv.wrap_pow Bv.wrap_powmin Bv.wrap_neg

/-- the reference's Least, after c caches -/
def rleastTo (k : Int) (s : BitVec 64) : Nat → BitVec 64 × Bool
  | 0 => (0#64, false)
  | c + 1 => if hasB s (c : Int) then (rnoteM k (rleastTo k s c).1 (rleastTo k s c).2 c, rnoteA k (rleastTo k s c).1 (rleastTo k s c).2 c) else rleastTo k s c

set_option maxRecDepth 100000 in
set_option maxHeartbeats 1000000 in
theorem rleast_any (k n : Int) (s : BitVec 64) (w : World) :
    Calls Tryd.prog 12 #[.int .u8 k, .int .i64 n, .int .u64 (Bv.U s)] w fun e w' => e = .returned (.agg #[.int .u8 (newK k n), .int .u64 (Bv.U (rleastTo (newK k n) s (min n 4).toNat).1), .bool (rleastTo (newK k n) s (min n 4).toNat).2]) ∧ Below w.heap.size w w' := by
  go_enter Tryd.func12, Tryd.ntmps12
  go_wp2_with fail
  refine (rnew_any _ _ _).mono ?_
  rintro e w1 ⟨rfl, hb⟩
  obtain ⟨K, hK⟩ : ∃ K, K = newK k n := ⟨_, rfl⟩
  rw [← hK]
  have hz : w.heap.size < w1.heap.size := by have := hb.size; simp at this; omega
  have hB1 : Below w.heap.size w w1 := ((Below.refl _ _).alloc (Nat.le_refl _) _).trans (hb.mono (by simp))
  have H1 := Lib.hid (And.intro hK (And.intro hb hB1))
  clear hb hB1 hK
  go_wp2_with fail
  go_loopw [8] (fun i wr => ∃ c : Nat, (c : Int) ≤ max n 0 ∧ c ≤ 4 ∧ i = .int .i64 c ∧ wr.heap[w1.heap.size]? = some (.cells #[.int .u8 K, .int .u64 (Bv.U (rleastTo K s c).1), .bool (rleastTo K s c).2] 25 (0, 0)) ∧
      wr.heap[w.heap.size]? = some (.cells #[.int .u8 0, .int .u64 0, .bool false] 25 (0, 0)) ∧ Below w.heap.size w wr) (fun i _ => 4 - (intOf i).toNat)
  case atStart =>
    refine ⟨0, by omega, by omega, rfl, World.alloc_heap_new w1 _, ?_, H1.out.2.2.alloc (by omega) _⟩
    exact (Below.heap_alloc _ _ _ hz).trans ((H1.out.2.1.block _ (by simp)).trans (World.alloc_heap_new w _))
  case round =>
    obtain ⟨c, hcn, hc4, rfl, hb, hb6, hB⟩ := hrel
    obtain ⟨c0, c1, c2, f0, f1, f2⟩ := Rf.cells3 hb
    obtain ⟨d0, d1, d2, g0, g1, g2⟩ := Rf.cells3 hb6
    have HB := Lib.hid (And.intro hb (And.intro hb6 hB))
    have hlt := lt_of_block hb
    clear hb hb6 hB
    by_cases hlt1 : (c : Int) < n ∧ c < 4
    · obtain ⟨hl1, hl2⟩ := hlt1
      have hs : rleastTo K s (c + 1) = if hasB s (c : Int) then (rnoteM K (rleastTo K s c).1 (rleastTo K s c).2 c, rnoteA K (rleastTo K s c).1 (rleastTo K s c).2 c) else rleastTo K s c := rfl
      cases hb : hasB s (c : Int)
      · rw [hb] at hs
        have HS := Lib.hid hs
        clear hs
        go_wp2_with (go_at_call 26; refine (rhas_any _ _ _).mono ?_; rintro e w' ⟨rfl, rfl⟩)
        go_roundw
        case rel => exact ⟨c + 1, by omega, by omega, by go_num, by rw [HS.out]; exact HB.out.1, HB.out.2.1, HB.out.2.2⟩
        case measure => simp [intOf]; omega
      · rw [hb] at hs
        have HS := Lib.hid hs
        clear hs
        generalize rleastTo K s c = st at *
        go_wp2_with (first | (go_at_call 26; refine (rhas_any _ _ _).mono ?_; rintro e w' ⟨rfl, rfl⟩))
        refine (rnote_any K st.1 st.2 c _ (by omega)).mono ?_
        rintro e w3 ⟨rfl, hb3⟩
        have hb3' := (hb3.block _ hlt).trans HB.out.1
        obtain ⟨c0', c1', c2', f0', f1', f2'⟩ := Rf.cells3 hb3'
        have HG := Lib.hid (And.intro hb3 hb3')
        have hlt6 := lt_of_block HB.out.2.1
        clear hb3 hb3' c0 c1 c2 f0 f1 f2
        go_wp2_with fail
        go_roundw
        case rel =>
          refine ⟨c + 1, by omega, by omega, by go_num, by rw [HS.out]; exact Rf.set3 HG.out.2, ?_, ?_⟩
          · exact (Below.heap_setCell _ _ _ _ (Nat.ne_of_lt hz)).trans ((Below.heap_setCell _ _ _ _ (Nat.ne_of_lt hz)).trans ((Below.heap_setCell _ _ _ _ (Nat.ne_of_lt hz)).trans ((HG.out.1.block _ hlt6).trans HB.out.2.1)))
          · exact (((HB.out.2.2.trans (HG.out.1.mono HB.out.2.2.size)).setCell (Nat.le_of_lt hz) _).setCell (Nat.le_of_lt hz) _).setCell (Nat.le_of_lt hz) _
        case measure => simp [intOf]; omega
    · have hcm : c = (min n 4).toNat := by omega
      have HC := Lib.hid hcm
      clear hcm
      have hfin : ∀ W : World, W = (((wr.setCell ⟨w.heap.size, 0, none⟩ (.int .u8 K)).setCell ⟨w.heap.size, 1, none⟩ (.int .u64 (Bv.U (rleastTo K s c).1))).setCell ⟨w.heap.size, 2, none⟩ (.bool (rleastTo K s c).2)) →
          W.heap[w.heap.size]? = some (.cells #[.int .u8 K, .int .u64 (Bv.U (rleastTo K s c).1), .bool (rleastTo K s c).2] 25 (0, 0)) ∧ Below w.heap.size w W := fun W e => by
        subst e
        exact ⟨Rf.set3 HB.out.2.1, ((HB.out.2.2.setCell (Nat.le_refl _) _).setCell (Nat.le_refl _) _).setCell (Nat.le_refl _) _⟩
      have HF := Lib.hid hfin
      clear hfin
      by_cases hl1 : (c : Int) < n
      all_goals
        go_wp2
        obtain ⟨hr, hBf⟩ := HF.out _ rfl
        obtain ⟨r0, r1, r2, _, _, _⟩ := Rf.cells3 hr
        exact bodyPost_ret (v := .agg #[.int .u8 K, .int .u64 (Bv.U (rleastTo K s c).1), .bool (rleastTo K s c).2]) (by simp [results, Tryd.results12, go_sem, r0, r1, r2]) rfl ⟨by rw [← HC.out, ← H1.out.1], hBf⟩
end Go.Proofs.YtjijgncahonfhaaDoor
