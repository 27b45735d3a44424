/- package marks: Rank, First, Next. -/
import Derived.Test.YtjnoiahkbdoejaaDoorMd
namespace Go.Proofs.YtjnoiahkbdoejaaDoor
open Go.RowKit Go.Shelf

attribute [local go_sem] Bv.and_u Bv.or_u Bv.andNot_u Bv.wrap_sub1 Bv.eq0 Bv.ne0 Bv.wrap_pow Bv.wrap_powmin Bv.wrap_neg

set_option maxHeartbeats 400000 in
theorem rank_any (s : BitVec 64) (i : Int) (w : World) (hT : Tab w) (hw : 0 < w.heap.size) :
    Calls Tryd.prog 19 #[.int .u64 (Bv.U s), .int .i64 i] w fun e w' => e = .returned (.int .i64 (Bs.elems (s &&& allS i)).length) ∧ Below w.heap.size w w' := by
  go_enter Tryd.func19, Tryd.ntmps19
  go_wp2_with fail
  refine (all_any _ _).mono ?_
  rintro e w1 ⟨rfl, rfl⟩
  go_wp2_with fail
  refine (len_any _ _ hT hw).mono ?_
  rintro e w2 ⟨rfl, hb⟩
  have HB := Lib.hid hb
  clear hb
  go_wp2_with fail
  go_ret
  exact ⟨rfl, HB.out⟩

/-- the least element, or 0; is there one? -/
def firstN (s : BitVec 64) : Int := if s = 0#64 then 0 else (Bs.low s : Nat)
def someB (s : BitVec 64) : Bool := !(s == 0#64)

attribute [local go_sem] Oper.semAt_some
set_option maxRecDepth 100000 in
set_option maxHeartbeats 2000000 in
theorem first_any (s : BitVec 64) (w : World) (hT : Tab w) (hw : 0 < w.heap.size) :
    Calls Tryd.prog 21 #[.int .u64 (Bv.U s)] w fun e W' => e = .returned (.tuple #[.int .i64 (firstN s), .bool (someB s)]) ∧ Below w.heap.size w W' := by
  refine (callsIn_wide (n := 9)).1 ?_
  refine callsIn_of_wp_marks Tryd.func21 rfl trivial ?_ rfl
  simp only [Tryd.ntmps21, List.size_toArray, List.length_cons, List.length_nil, Nat.reduceAdd, Nat.reduceSub, Array.replicate_succ, Array.replicate_zero, List.push_toArray, List.append_toArray, List.nil_append, List.cons_append]
  gi_wp2_with fail
  refine ⟨trivial, ?_⟩
  refine (callsIn_wide.2 (elements_any _ _)).mono ?_
  rintro e w1 ⟨rfl, rfl⟩
  gi_wp2_with fail
  have b0 := Boxed.new w 3 (.int .i64 0)
  have b1 := Boxed.new (w.alloc (.cells #[.int .i64 0] 3)) 4 (.bool false)
  have b2 := Boxed.new ((w.alloc (.cells #[.int .i64 0] 3)).alloc (.cells #[.bool false] 4)) 23 (.int .u64 (Bv.U s))
  simp only [World.size_alloc] at b1 b2
  have hB0 : Below w.heap.size w (((w.alloc (.cells #[.int .i64 0] 3)).alloc (.cells #[.bool false] 4)).alloc (.cells #[.int .u64 (Bv.U s)] 23)) := (((Below.refl _ w).alloc (Nat.le_refl _) _).alloc (by simp) _).alloc (by simp; omega) _
  refine wpIn_rangeFunc_ownG rfl (by omega) (gf := 36) (lb := #[.pointer (some ⟨w.heap.size + 1 + 1, 0, none⟩)]) rfl trivial (enters_of Tryd.func36 (by kernel_rfl) rfl)
    (elements_stops 8 (w.heap.size + 1 + 1) w.heap.size s _ (by simp) (by omega) (by simp; omega) b2.cell (hT.below hB0 hw)) belowK_t (belowK_b (by simp; omega)) (Below.refl _ _) (fun _ => rfl)
    (fun pre W => (pre = [] ∧ Boxed W w.heap.size 3 (.int .i64 0) ∧ Boxed W (w.heap.size + 1) 4 (.bool false)) ∧ Below w.heap.size w W)
    (fun c pre W => (c = .ret ∧ (∃ x : Nat, pre = [x] ∧ Boxed W w.heap.size 3 (.int .i64 x) ∧ Boxed W (w.heap.size + 1) 4 (.bool true))) ∧ Below w.heap.size w W)
    (OwnFrom.and (Own.from (fun s A B row hs hg hr => ⟨hs.1, boxed_own w.heap.size 3 (fun _ : Unit => .int .i64 0) () A B row hs.2.1 hg hr, boxed_own (w.heap.size + 1) 4 (fun _ : Unit => .bool false) () A B row hs.2.2 hg hr⟩) _) (ownFrom_below (Nat.le_refl _) (by simp; omega)))
    (fun c => OwnFrom.and (Own.from (fun s A B row hs hg hr => by
      obtain ⟨h1, x, h2, h3, h4⟩ := hs
      exact ⟨h1, x, h2, boxed_own w.heap.size 3 (fun _ : Unit => .int .i64 x) () A B row h3 hg hr, boxed_own (w.heap.size + 1) 4 (fun _ : Unit => .bool true) () A B row h4 hg hr⟩) _) (ownFrom_below (Nat.le_refl _) (by simp; omega)))
    ⟨⟨rfl, (b0.alloc _).alloc _, b1.alloc _⟩, hB0⟩
    (fun x => { tmps := #[.int .u64 (Bv.U s), undef, .pointer (some ⟨w.heap.size, 0, none⟩), .pointer (some ⟨w.heap.size + 1, 0, none⟩), .int .i64 x, .int .u64 (Bv.U s), .func (.func 36) #[] #[.pointer (some ⟨w.heap.size + 1 + 1, 0, none⟩)], .int .i64 x, undef], defers := [] }) ?assign ?body ?done ?stop
  case assign =>
    intro l x W K hK
    gi_wp2
    exact hK
  case body =>
    rintro l pre x W ⟨⟨rfl, h0, h1⟩, hB⟩ hlt
    have c0 := h0.cell
    have f0 := h0.frozen
    have c1 := h1.cell
    have f1 := h1.frozen
    have HH := Lib.hid (And.intro h0 (And.intro h1 hB))
    clear h0 h1 hB
    gi_wp2
    have hq := (HH.out.1.set (.int .i64 x)).other (show w.heap.size ≠ w.heap.size + 1 by omega) (.bool true)
    have hr := (HH.out.2.1.other (show w.heap.size + 1 ≠ w.heap.size by omega) (.int .i64 x)).set (.bool true)
    exact ⟨((KeepsOthers.setCell _ _ _).trans (KeepsOthers.setCell _ _ _)).from _, ⟨rfl, x, rfl, hq, hr⟩, (HH.out.2.2.setCell (p := ⟨w.heap.size, 0, none⟩) (Nat.le_refl _) _).setCell (p := ⟨w.heap.size + 1, 0, none⟩) (by simp) _⟩
  case done =>
    rintro D ys W hD hys ⟨⟨rfl, h0, h1⟩, hB⟩ hK
    have c0 := h0.cell
    have f0 := h0.frozen
    have c1 := h1.cell
    have f1 := h1.frozen
    have HH := Lib.hid (And.intro hys (And.intro h0 (And.intro h1 (And.intro hB hK))))
    clear h0 h1 hB hys hK
    gi_wp2
    have hK2 := ((KeepsOthers.setCell W ⟨w.heap.size, 0, none⟩ (.int .i64 0)).trans (KeepsOthers.setCell _ ⟨w.heap.size + 1, 0, none⟩ (.bool false))).same D _ HH.out.2.2.2.2 rfl
    refine ⟨by simp, .inl ⟨_, _, rfl, run_takeDeferred hK2, ?_⟩⟩
    have hq := (HH.out.2.1.set (.int .i64 0)).other (show w.heap.size ≠ w.heap.size + 1 by omega) (.bool false)
    have hr := (HH.out.2.2.1.other (show w.heap.size + 1 ≠ w.heap.size by omega) (.int .i64 0)).set (.bool false)
    have hq' := cell_kept hq.cell (grownBy_putObj' _ D (.deferred none)) (fun r e => by cases e; exact ⟨_, hK2, rfl⟩)
    have hr' := cell_kept hr.cell (grownBy_putObj' _ D (.deferred none)) (fun r e => by cases e; exact ⟨_, hK2, rfl⟩)
    have hs0 : s = 0#64 := by
      apply Classical.byContradiction
      intro hne
      rw [Bs.elems_step hne] at HH
      exact absurd HH.out.1 (by simp)
    refine ⟨.tuple #[.int .i64 0, .bool false], ?_, by unfold firstN someB; simp [hs0], ((HH.out.2.2.2.1.setCell (p := ⟨w.heap.size, 0, none⟩) (Nat.le_refl _) _).setCell (p := ⟨w.heap.size + 1, 0, none⟩) (by simp) _).trans (belowK_b (w := w) (Nat.le_refl _) _ D _ _ (by simp at hD; omega) hK2 rfl rfl)⟩
    simp [results, Tryd.results21, go_sem, hq', hr']
  case stop =>
    rintro D c pre W hD hpre ⟨⟨rfl, x, rfl, hq, hr⟩, hB⟩ hK
    have HH := Lib.hid (And.intro hpre (And.intro hq (And.intro hr (And.intro hB hK))))
    clear hpre hq hr hB hK
    gi_wp2
    refine ⟨by simp, .inl ⟨_, _, rfl, run_takeDeferred HH.out.2.2.2.2, ?_⟩⟩
    have hq' := cell_kept HH.out.2.1.cell (grownBy_putObj' _ D (.deferred none)) (fun r e => by cases e; exact ⟨_, HH.out.2.2.2.2, rfl⟩)
    have hr' := cell_kept HH.out.2.2.1.cell (grownBy_putObj' _ D (.deferred none)) (fun r e => by cases e; exact ⟨_, HH.out.2.2.2.2, rfl⟩)
    have hs0 : s ≠ 0#64 := by
      intro e
      have h := HH.out.1
      rw [e, show Bs.elems 0#64 = [] from Bs.elems_zero] at h
      simp at h
    have hx : x = Bs.low s := by
      obtain ⟨t, ht⟩ := HH.out.1
      rw [Bs.elems_step hs0] at ht
      simp at ht
      exact ht.1
    refine ⟨.tuple #[.int .i64 x, .bool true], ?_, by unfold firstN someB; rw [if_neg hs0, hx]; simp [hs0], HH.out.2.2.2.1.trans (belowK_b (w := w) (Nat.le_refl _) _ D _ _ (by simp at hD; omega) HH.out.2.2.2.2 rfl rfl)⟩
    simp [results, Tryd.results21, go_sem, hq', hr']

/-- the elements above i -/
def aboveS (s : BitVec 64) (i : Int) : BitVec 64 := if 63 ≤ i then 0#64 else s &&& ~~~ (allS (i + 1))

set_option maxHeartbeats 400000 in
theorem next_any (s : BitVec 64) (i : Int) (w : World) (hT : Tab w) (hw : 0 < w.heap.size) :
    Calls Tryd.prog 23 #[.int .u64 (Bv.U s), .int .i64 i] w fun e W' => e = .returned (.tuple #[.int .i64 (firstN (aboveS s i)), .bool (someB (aboveS s i))]) ∧ Below w.heap.size w W' := by
  by_cases h0 : i < 0
  · have he : aboveS s i = s := by
      unfold aboveS
      rw [if_neg (by omega)]
      have : allS (i + 1) = 0#64 := by
        have : min (i + 1).toNat 64 = 0 := by omega
        unfold allS; rw [this]; rfl
      rw [this]
      apply Bv.ext_get
      intro j hj
      rw [BitVec.getLsbD_and, Bv.not_get _ _ hj, Bv.zero_get]
      simp
    rw [he]
    go_enter Tryd.func23, Tryd.ntmps23
    go_wp2_with fail
    refine (first_any _ _ hT hw).mono ?_
    rintro e w2 ⟨rfl, hb⟩
    have HB := Lib.hid hb
    clear hb
    go_wp2_with fail
    go_ret2
    exact ⟨rfl, HB.out⟩
  · by_cases h1 : 63 ≤ i
    · have he : aboveS s i = 0#64 := by unfold aboveS; rw [if_pos h1]
      rw [he]
      show Calls Tryd.prog 23 #[.int .u64 (Bv.U s), .int .i64 i] w fun e W' => e = .returned (.tuple #[.int .i64 0, .bool false]) ∧ Below w.heap.size w W'
      go_enter Tryd.func23, Tryd.ntmps23
      go_wp2_with fail
      go_ret2
      exact ⟨rfl, Below.refl _ _⟩
    · have he : aboveS s i = s &&& ~~~ (allS (i + 1)) := by unfold aboveS; rw [if_neg h1]
      rw [he]
      go_enter Tryd.func23, Tryd.ntmps23
      go_wp2_with fail
      refine (all_any _ _).mono ?_
      rintro e w1 ⟨rfl, rfl⟩
      go_wp2_with fail
      refine (first_any _ _ hT hw).mono ?_
      rintro e w2 ⟨rfl, hb⟩
      have HB := Lib.hid hb
      clear hb
      go_wp2_with fail
      go_ret2
      exact ⟨rfl, HB.out⟩
end Go.Proofs.YtjnoiahkbdoejaaDoor
