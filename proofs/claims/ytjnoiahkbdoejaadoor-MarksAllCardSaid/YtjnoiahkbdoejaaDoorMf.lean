/- package marks: Pick. -/
import Derived.Test.YtjnoiahkbdoejaaDoorMe
namespace Go.Proofs.YtjnoiahkbdoejaaDoor
open Go.RowKit Go.Shelf

attribute [local go_sem] Bv.and_u Bv.or_u Bv.andNot_u Bv.wrap_sub1 Bv.eq0 Bv.ne0 Bv.wrap_pow Bv.wrap_powmin Bv.wrap_neg
attribute [local go_sem] Oper.semAt_some

/-- what the counter k holds after j rounds -/
def kAt (k : Int) (j : Nat) : Int := wrap64 (k - j)
theorem wrap_i64 (x : Int) : wrap64 x = (x + 9223372036854775808) % 18446744073709551616 - 9223372036854775808 := by unfold wrap64; rfl
theorem kAt_zero (k : Int) (h0 : -9223372036854775808 ≤ k) (h1 : k ≤ 9223372036854775807) : kAt k 0 = k := by
  unfold kAt; rw [wrap_i64]; simp; omega
theorem kAt_succ (k : Int) (j : Nat) : wrap64 (kAt k j - 1) = kAt k (j + 1) := by
  unfold kAt; simp only [wrap_i64]; omega
theorem kAt_eq (k : Int) (j : Nat) (hj : j ≤ 64) (h0 : -9223372036854775808 ≤ k) (h1 : k ≤ 9223372036854775807) : (kAt k j == 0) = decide (k = j) := by
  rw [Bool.eq_iff_iff]
  unfold kAt; rw [wrap_i64]
  simp
  omega

/-- the element at place k; is there one? -/
def pickN (s : BitVec 64) (k : Int) : Int := if 0 ≤ k then (((Bs.elems s)[k.toNat]?.getD 0 : Nat) : Int) else 0
def pickB (s : BitVec 64) (k : Int) : Bool := decide (0 ≤ k ∧ k < (Bs.elems s).length)

set_option maxRecDepth 100000 in
set_option maxHeartbeats 2000000 in
theorem pick_any (s : BitVec 64) (k : Int) (w : World) (hT : Tab w) (hw : 0 < w.heap.size) (hk0 : -9223372036854775808 ≤ k) (hk1 : k ≤ 9223372036854775807) :
    Calls Tryd.prog 24 #[.int .u64 (Bv.U s), .int .i64 k] w fun e W' => e = .returned (.tuple #[.int .i64 (pickN s k), .bool (pickB s k)]) ∧ Below w.heap.size w W' := by
  have hle := Bs.elems_le s
  refine (callsIn_wide (n := 9)).1 ?_
  refine callsIn_of_wp_marks Tryd.func24 rfl trivial ?_ rfl
  simp only [Tryd.ntmps24, List.size_toArray, List.length_cons, List.length_nil, Nat.reduceAdd, Nat.reduceSub, Array.replicate_succ, Array.replicate_zero, List.push_toArray, List.append_toArray, List.nil_append, List.cons_append]
  gi_wp2_with fail
  refine ⟨trivial, ?_⟩
  refine (callsIn_wide.2 (elements_any _ _)).mono ?_
  rintro e w1 ⟨rfl, rfl⟩
  gi_wp2_with fail
  have b0 := Boxed.new w 3 (.int .i64 k)
  have b1 := Boxed.new (w.alloc (.cells #[.int .i64 k] 3)) 3 (.int .i64 0)
  have b2 := Boxed.new ((w.alloc (.cells #[.int .i64 k] 3)).alloc (.cells #[.int .i64 0] 3)) 4 (.bool false)
  have b3 := Boxed.new (((w.alloc (.cells #[.int .i64 k] 3)).alloc (.cells #[.int .i64 0] 3)).alloc (.cells #[.bool false] 4)) 23 (.int .u64 (Bv.U s))
  simp only [World.size_alloc] at b1 b2 b3
  have hB0 : Below w.heap.size w ((((w.alloc (.cells #[.int .i64 k] 3)).alloc (.cells #[.int .i64 0] 3)).alloc (.cells #[.bool false] 4)).alloc (.cells #[.int .u64 (Bv.U s)] 23)) := ((((Below.refl _ w).alloc (Nat.le_refl _) _).alloc (by simp) _).alloc (by simp; omega) _).alloc (by simp; omega) _
  refine wpIn_rangeFunc_ownG rfl (by omega) (gf := 36) (lb := #[.pointer (some ⟨w.heap.size + 1 + 1 + 1, 0, none⟩)]) rfl trivial (enters_of Tryd.func36 (by kernel_rfl) rfl)
    (elements_stops 8 (w.heap.size + 1 + 1 + 1) w.heap.size s _ (by simp) (by omega) (by simp; omega) b3.cell (hT.below hB0 hw)) belowK_t (belowK_b (by simp; omega)) (Below.refl _ _) (fun _ => rfl)
    (fun pre W => ((∀ j : Nat, j < pre.length → k ≠ j) ∧ Boxed W w.heap.size 3 (.int .i64 (kAt k pre.length)) ∧ Boxed W (w.heap.size + 1) 3 (.int .i64 0) ∧ Boxed W (w.heap.size + 1 + 1) 4 (.bool false)) ∧ Below w.heap.size w W)
    (fun c pre W => (c = .ret ∧ (∃ p x, pre = p ++ [x] ∧ k = p.length ∧ Boxed W (w.heap.size + 1) 3 (.int .i64 (x : Nat)) ∧ Boxed W (w.heap.size + 1 + 1) 4 (.bool true))) ∧ Below w.heap.size w W)
    (OwnFrom.and (Own.from (fun s A B row hs hg hr => ⟨hs.1, boxed_own w.heap.size 3 (fun s : List Nat => .int .i64 (kAt k s.length)) s A B row hs.2.1 hg hr, boxed_own (w.heap.size + 1) 3 (fun _ : Unit => .int .i64 0) () A B row hs.2.2.1 hg hr, boxed_own (w.heap.size + 1 + 1) 4 (fun _ : Unit => .bool false) () A B row hs.2.2.2 hg hr⟩) _) (ownFrom_below (Nat.le_refl _) (by simp; omega)))
    (fun c => OwnFrom.and (Own.from (fun s A B row hs hg hr => by
      obtain ⟨h1, p, x, h2, h2', h3, h4⟩ := hs
      exact ⟨h1, p, x, h2, h2', boxed_own (w.heap.size + 1) 3 (fun _ : Unit => .int .i64 x) () A B row h3 hg hr, boxed_own (w.heap.size + 1 + 1) 4 (fun _ : Unit => .bool true) () A B row h4 hg hr⟩) _) (ownFrom_below (Nat.le_refl _) (by simp; omega)))
    ⟨⟨fun j hj => by simp at hj, by rw [show kAt k ([] : List Nat).length = k from kAt_zero k hk0 hk1]; exact ((b0.alloc _).alloc _).alloc _, (b1.alloc _).alloc _, b2.alloc _⟩, hB0⟩
    (fun x => { tmps := #[.int .u64 (Bv.U s), .int .i64 k, undef, .pointer (some ⟨w.heap.size, 0, none⟩), .pointer (some ⟨w.heap.size + 1, 0, none⟩), .pointer (some ⟨w.heap.size + 1 + 1, 0, none⟩), .int .i64 x, .int .u64 (Bv.U s), .func (.func 36) #[] #[.pointer (some ⟨w.heap.size + 1 + 1 + 1, 0, none⟩)], .int .i64 x, undef, undef, undef, undef, undef], defers := [] }) ?assign ?body ?done ?stop
  case assign =>
    intro l x W K hK
    gi_wp2
    exact hK
  case body =>
    rintro l pre x W ⟨⟨hne, h0, h1, h2⟩, hB⟩ hlt
    have hz0 := kAt_eq k pre.length (by omega) hk0 hk1
    have hz1 := kAt_succ k pre.length
    obtain ⟨z, hz⟩ : ∃ z, z = kAt k pre.length := ⟨_, rfl⟩
    rw [← hz] at hz0 hz1 h0
    have c0 := h0.cell
    have f0 := h0.frozen
    have c1 := h1.cell
    have f1 := h1.frozen
    have c2 := h2.cell
    have f2 := h2.frozen
    have HH := Lib.hid (And.intro h0 (And.intro h1 (And.intro h2 (And.intro hB hz1))))
    have HN := Lib.hid hne
    clear h0 h1 h2 hB hz1 hne hz b0 b1 b2 b3 hB0 hlt hle
    by_cases hk : k = pre.length
    · have he : (z == 0) = true := by rw [hz0]; simpa using hk
      have HK := Lib.hid hk
      clear hz0 hk
      gi_wp2
      have hq := (HH.out.2.1.set (.int .i64 x)).other (show w.heap.size + 1 ≠ w.heap.size + 1 + 1 by omega) (.bool true)
      have hr := (HH.out.2.2.1.other (show w.heap.size + 1 + 1 ≠ w.heap.size + 1 by omega) (.int .i64 x)).set (.bool true)
      exact ⟨((KeepsOthers.setCell _ _ _).trans (KeepsOthers.setCell _ _ _)).from _, ⟨rfl, pre, x, rfl, HK.out, hq, hr⟩, (HH.out.2.2.2.1.setCell (p := ⟨w.heap.size + 1, 0, none⟩) (by simp) _).setCell (p := ⟨w.heap.size + 1 + 1, 0, none⟩) (by simp; omega) _⟩
    · have he : (z == 0) = false := by rw [hz0]; simpa using hk
      have HK := Lib.hid hk
      clear hz0 hk
      gi_wp2
      refine ⟨(KeepsOthers.setCell _ _ _).from _, (Below.refl _ _).setCell (p := ⟨w.heap.size, 0, none⟩) (Nat.le_refl _) _, ⟨?_, ?_, HH.out.2.1.other (by omega) _, HH.out.2.2.1.other (by omega) _⟩, HH.out.2.2.2.1.setCell (p := ⟨w.heap.size, 0, none⟩) (Nat.le_refl _) _⟩
      · intro j hj
        simp at hj
        by_cases e : j = pre.length
        · subst e; exact HK.out
        · exact HN.out j (by omega)
      · have := HH.out.1.set (.int .i64 (kAt k (pre ++ [x]).length))
        have e : kAt k (pre ++ [x]).length = wrap64 (z - 1) := by rw [HH.out.2.2.2.2]; simp
        rw [e] at this ⊢
        exact this
  case done =>
    rintro D ys W hD hys ⟨⟨hne, h0, h1, h2⟩, hB⟩ hK
    have c1 := h1.cell
    have f1 := h1.frozen
    have c2 := h2.cell
    have f2 := h2.frozen
    have HH := Lib.hid (And.intro hys (And.intro h1 (And.intro h2 (And.intro hB (And.intro hK hne)))))
    clear h0 h1 h2 hB hys hK hne b0 b1 b2 b3 hB0
    gi_wp2
    have hK2 := ((KeepsOthers.setCell W ⟨w.heap.size + 1, 0, none⟩ (.int .i64 0)).trans (KeepsOthers.setCell _ ⟨w.heap.size + 1 + 1, 0, none⟩ (.bool false))).same D _ HH.out.2.2.2.2.1 rfl
    refine ⟨by simp, .inl ⟨_, _, rfl, run_takeDeferred hK2, ?_⟩⟩
    have hq := (HH.out.2.1.set (.int .i64 0)).other (show w.heap.size + 1 ≠ w.heap.size + 1 + 1 by omega) (.bool false)
    have hr := (HH.out.2.2.1.other (show w.heap.size + 1 + 1 ≠ w.heap.size + 1 by omega) (.int .i64 0)).set (.bool false)
    have hq' := cell_kept hq.cell (grownBy_putObj' _ D (.deferred none)) (fun r e => by cases e; exact ⟨_, hK2, rfl⟩)
    have hr' := cell_kept hr.cell (grownBy_putObj' _ D (.deferred none)) (fun r e => by cases e; exact ⟨_, hK2, rfl⟩)
    have hno : ¬ (0 ≤ k ∧ k < (Bs.elems s).length) := by
      rintro ⟨a, b⟩
      have := HH.out.2.2.2.2.2 k.toNat (by rw [HH.out.1]; omega)
      omega
    have hN : pickN s k = 0 := by
      unfold pickN
      split
      · rw [List.getElem?_eq_none (by omega)]; rfl
      · rfl
    refine ⟨.tuple #[.int .i64 0, .bool false], ?_, by rw [hN]; unfold pickB; rw [decide_eq_false hno], ((HH.out.2.2.2.1.setCell (p := ⟨w.heap.size + 1, 0, none⟩) (by simp) _).setCell (p := ⟨w.heap.size + 1 + 1, 0, none⟩) (by simp; omega) _).trans (belowK_b (w := w) (Nat.le_refl _) _ D _ _ (by simp at hD; omega) hK2 rfl rfl)⟩
    simp [results, Tryd.results24, go_sem, hq', hr']
  case stop =>
    rintro D c pre W hD hpre ⟨⟨rfl, p, x, rfl, hkp, hq, hr⟩, hB⟩ hK
    have HH := Lib.hid (And.intro hpre (And.intro hq (And.intro hr (And.intro hB (And.intro hK hkp)))))
    clear hpre hq hr hB hK hkp b0 b1 b2 b3 hB0
    gi_wp2
    refine ⟨by simp, .inl ⟨_, _, rfl, run_takeDeferred HH.out.2.2.2.2.1, ?_⟩⟩
    have hq' := cell_kept HH.out.2.1.cell (grownBy_putObj' _ D (.deferred none)) (fun r e => by cases e; exact ⟨_, HH.out.2.2.2.2.1, rfl⟩)
    have hr' := cell_kept HH.out.2.2.1.cell (grownBy_putObj' _ D (.deferred none)) (fun r e => by cases e; exact ⟨_, HH.out.2.2.2.2.1, rfl⟩)
    obtain ⟨t, ht⟩ := HH.out.1
    have hkp := HH.out.2.2.2.2.2
    have hlen : p.length < (Bs.elems s).length := by rw [← ht]; simp
    have hget : (Bs.elems s)[p.length]? = some x := by rw [← ht]; simp
    have hN : pickN s k = x := by
      unfold pickN
      rw [if_pos (by omega), show k.toNat = p.length by omega, hget]; rfl
    have hBt : pickB s k = true := by unfold pickB; exact decide_eq_true ⟨by omega, by omega⟩
    refine ⟨.tuple #[.int .i64 x, .bool true], ?_, by rw [hN, hBt], HH.out.2.2.2.1.trans (belowK_b (w := w) (Nat.le_refl _) _ D _ _ (by simp at hD; omega) HH.out.2.2.2.2.1 rfl rfl)⟩
    simp [results, Tryd.results24, go_sem, hq', hr']
end Go.Proofs.YtjnoiahkbdoejaaDoor
