/- Texts that stand together: Na, Nb, Op, Oq, Nc, Nd. -/
import Derived.Test.YtknjdfgmejobfaaDoorLa
import Derived.Test.YtknjdfgmejobfaaDoorLb
import Derived.Laws.MakeOwn
import Derived.Deep.MidRow
import Derived.Deep.WholeRow
import Derived.Lib.QuietBelow
import Derived.Test.YtknjdfgmejobfaaDoorCards
import Derived.Test.YtknjdfgmejobfaaDoorTie
import Derived.ProofKit
import Derived.OpenShut
import Derived.Deep.DeepHandedRow
import Derived.Lib.LaidTab
import Derived.Lib.SmallJoins
/- seat relord: marks.First, lists of ints, Ints, the reference's Has and With. -/
namespace Go.Proofs.YtknjdfgmejobfaaDoor
open Go.RowKit Go.Shelf

section
attribute [local go_sem] Bv.and_u Bv.or_u Bv.andNot_u Bv.wrap_sub1 Bv.eq0 Bv.ne0 Bv.wrap_pow Bv.wrap_powmin Bv.wrap_neg
/-- the least element, or 0; is there one? -/
def firstN (s : BitVec 64) : Int := if s = 0#64 then 0 else (Bs.low s : Nat)
def someB (s : BitVec 64) : Bool := !(s == 0#64)

attribute [local go_sem] Oper.semAt_some
set_option maxRecDepth 100000 in
set_option maxHeartbeats 2000000 in
theorem first_any (s : BitVec 64) (w : World) (hT : Tab w) (hw : 0 < w.heap.size) :
    Calls Tryd.prog 75 #[.int .u64 (Bv.U s)] w fun e W' => e = .returned (.tuple #[.int .i64 (firstN s), .bool (someB s)]) ∧ Below w.heap.size w W' := by
  refine (callsIn_wide (n := 9)).1 ?_
  refine callsIn_of_wp_marks Tryd.func75 rfl trivial ?_ rfl
  simp only [Tryd.ntmps75, List.size_toArray, List.length_cons, List.length_nil, Nat.reduceAdd, Nat.reduceSub, Array.replicate_succ, Array.replicate_zero, List.push_toArray, List.append_toArray, List.nil_append, List.cons_append]
  gi_wp2_with fail
  refine ⟨trivial, ?_⟩
  refine (callsIn_wide.2 (elements_any _ _)).mono ?_
  rintro e w1 ⟨rfl, rfl⟩
  gi_wp2_with fail
  have b0 := Boxed.new w 3 (.int .i64 0)
  have b1 := Boxed.new (w.alloc (.cells #[.int .i64 0] 3)) 4 (.bool false)
  have b2 := Boxed.new ((w.alloc (.cells #[.int .i64 0] 3)).alloc (.cells #[.bool false] 4)) 23 (.int .u64 (Bv.U s))
  simp only [World.size_alloc] at b1 b2
  have hB0 : Below w.heap.size w (((w.alloc (.cells #[.int .i64 0] 3)).alloc (.cells #[.bool false] 4)).alloc (.cells #[.int .u64 (Bv.U s)] 23)) := (((Below.refl _ w).alloc (Nat.le_refl _) _).alloc (by simp) _).alloc (by simp; omega) _
  refine wpIn_rangeFunc_ownG rfl (by omega) (gf := 102) (lb := #[.pointer (some ⟨w.heap.size + 1 + 1, 0, none⟩)]) rfl trivial (enters_of Tryd.func102 (by kernel_rfl) rfl)
    (elements_stops 8 (w.heap.size + 1 + 1) w.heap.size s _ (by simp) (by omega) (by simp; omega) b2.cell (hT.below hB0 hw)) belowK_t (belowK_b (by simp; omega)) (Below.refl _ _) (fun _ => rfl)
    (fun pre W => (pre = [] ∧ Boxed W w.heap.size 3 (.int .i64 0) ∧ Boxed W (w.heap.size + 1) 4 (.bool false)) ∧ Below w.heap.size w W)
    (fun c pre W => (c = .ret ∧ (∃ x : Nat, pre = [x] ∧ Boxed W w.heap.size 3 (.int .i64 x) ∧ Boxed W (w.heap.size + 1) 4 (.bool true))) ∧ Below w.heap.size w W)
    (OwnFrom.and (Own.from (fun s A B row hs hg hr => ⟨hs.1, boxed_own w.heap.size 3 (fun _ : Unit => .int .i64 0) () A B row hs.2.1 hg hr, boxed_own (w.heap.size + 1) 4 (fun _ : Unit => .bool false) () A B row hs.2.2 hg hr⟩) _) (ownFrom_below (Nat.le_refl _) (by simp; omega)))
    (fun c => OwnFrom.and (Own.from (fun s A B row hs hg hr => by
      obtain ⟨h1, x, h2, h3, h4⟩ := hs
      exact ⟨h1, x, h2, boxed_own w.heap.size 3 (fun _ : Unit => .int .i64 x) () A B row h3 hg hr, boxed_own (w.heap.size + 1) 4 (fun _ : Unit => .bool true) () A B row h4 hg hr⟩) _) (ownFrom_below (Nat.le_refl _) (by simp; omega)))
    ⟨⟨rfl, (b0.alloc _).alloc _, b1.alloc _⟩, hB0⟩
    (fun x => { tmps := #[.int .u64 (Bv.U s), undef, .pointer (some ⟨w.heap.size, 0, none⟩), .pointer (some ⟨w.heap.size + 1, 0, none⟩), .int .i64 x, .int .u64 (Bv.U s), .func (.func 102) #[] #[.pointer (some ⟨w.heap.size + 1 + 1, 0, none⟩)], .int .i64 x, undef], defers := [] }) ?assign ?body ?done ?stop
  case assign =>
    intro l x W K hK
    gi_wp2
    exact hK
  case body =>
    rintro l pre x W ⟨⟨rfl, h0, h1⟩, hB⟩ hlt
    have c0 := h0.cell
    have f0 := h0.frozen
    have c1 := h1.cell
    have f1 := h1.frozen
    have HH := Lib.hid (And.intro h0 (And.intro h1 hB))
    clear h0 h1 hB
    gi_wp2
    have hq := (HH.out.1.set (.int .i64 x)).other (show w.heap.size ≠ w.heap.size + 1 by omega) (.bool true)
    have hr := (HH.out.2.1.other (show w.heap.size + 1 ≠ w.heap.size by omega) (.int .i64 x)).set (.bool true)
    exact ⟨((KeepsOthers.setCell _ _ _).trans (KeepsOthers.setCell _ _ _)).from _, ⟨rfl, x, rfl, hq, hr⟩, (HH.out.2.2.setCell (p := ⟨w.heap.size, 0, none⟩) (Nat.le_refl _) _).setCell (p := ⟨w.heap.size + 1, 0, none⟩) (by simp) _⟩
  case done =>
    rintro D ys W hD hys ⟨⟨rfl, h0, h1⟩, hB⟩ hK
    have c0 := h0.cell
    have f0 := h0.frozen
    have c1 := h1.cell
    have f1 := h1.frozen
    have HH := Lib.hid (And.intro hys (And.intro h0 (And.intro h1 (And.intro hB hK))))
    clear h0 h1 hB hys hK
    gi_wp2
    have hK2 := ((KeepsOthers.setCell W ⟨w.heap.size, 0, none⟩ (.int .i64 0)).trans (KeepsOthers.setCell _ ⟨w.heap.size + 1, 0, none⟩ (.bool false))).same D _ HH.out.2.2.2.2 rfl
    refine ⟨by simp, .inl ⟨_, _, rfl, run_takeDeferred hK2, ?_⟩⟩
    have hq := (HH.out.2.1.set (.int .i64 0)).other (show w.heap.size ≠ w.heap.size + 1 by omega) (.bool false)
    have hr := (HH.out.2.2.1.other (show w.heap.size + 1 ≠ w.heap.size by omega) (.int .i64 0)).set (.bool false)
    have hq' := cell_kept hq.cell (grownBy_putObj' _ D (.deferred none)) (fun r e => by cases e; exact ⟨_, hK2, rfl⟩)
    have hr' := cell_kept hr.cell (grownBy_putObj' _ D (.deferred none)) (fun r e => by cases e; exact ⟨_, hK2, rfl⟩)
    have hs0 : s = 0#64 := by
      apply Classical.byContradiction
      intro hne
      rw [Bs.elems_step hne] at HH
      exact absurd HH.out.1 (by simp)
    refine ⟨.tuple #[.int .i64 0, .bool false], ?_, by unfold firstN someB; simp [hs0], ((HH.out.2.2.2.1.setCell (p := ⟨w.heap.size, 0, none⟩) (Nat.le_refl _) _).setCell (p := ⟨w.heap.size + 1, 0, none⟩) (by simp) _).trans (belowK_b (w := w) (Nat.le_refl _) _ D _ _ (by simp at hD; omega) hK2 rfl rfl)⟩
    simp [results, Tryd.results75, go_sem, hq', hr']
  case stop =>
    rintro D c pre W hD hpre ⟨⟨rfl, x, rfl, hq, hr⟩, hB⟩ hK
    have HH := Lib.hid (And.intro hpre (And.intro hq (And.intro hr (And.intro hB hK))))
    clear hpre hq hr hB hK
    gi_wp2
    refine ⟨by simp, .inl ⟨_, _, rfl, run_takeDeferred HH.out.2.2.2.2, ?_⟩⟩
    have hq' := cell_kept HH.out.2.1.cell (grownBy_putObj' _ D (.deferred none)) (fun r e => by cases e; exact ⟨_, HH.out.2.2.2.2, rfl⟩)
    have hr' := cell_kept HH.out.2.2.1.cell (grownBy_putObj' _ D (.deferred none)) (fun r e => by cases e; exact ⟨_, HH.out.2.2.2.2, rfl⟩)
    have hs0 : s ≠ 0#64 := by
      intro e
      have h := HH.out.1
      rw [e, show Bs.elems 0#64 = [] from Bs.elems_zero] at h
      simp at h
    have hx : x = Bs.low s := by
      obtain ⟨t, ht⟩ := HH.out.1
      rw [Bs.elems_step hs0] at ht
      simp at ht
      exact ht.1
    refine ⟨.tuple #[.int .i64 x, .bool true], ?_, by unfold firstN someB; rw [if_neg hs0, hx]; simp [hs0], HH.out.2.2.2.1.trans (belowK_b (w := w) (Nat.le_refl _) _ D _ _ (by simp at hD; omega) HH.out.2.2.2.2 rfl rfl)⟩
    simp [results, Tryd.results75, go_sem, hq', hr']

end
section
attribute [local go_sem] Bv.and_u Bv.or_u Bv.andNot_u Bv.wrap_sub1 Bv.eq0 Bv.ne0 Bv.wrap_pow Bv.wrap_powmin Bv.wrap_neg Bv.eq_u Bv.ne_u Bv.shr_min Bv.shr_pow Bv.tmod2 Bv.wrap_add Bv.B1_eq1 Bv.B1_eq0 Bv.B1_ne1 Bv.B1_ne0
/-- the numbers zs lie from A on -/
def IntsAt (w : World) (A : Option Addr) (zs : List Int) : Prop :=
  0 < zs.length → ∃ b off, A = some ⟨b, off, none⟩ ∧ b < w.heap.size ∧ ∀ i, i < zs.length → w.cell? ⟨b, off + i, none⟩ = some (.int .i64 (zs.getD i 0))
theorem IntsAt.below {n : Nat} {w w' : World} {A : Option Addr} {zs : List Int} (h : IntsAt w A zs) (hb : Below n w w') (hn : w.heap.size ≤ n) : IntsAt w' A zs := by
  intro hp
  obtain ⟨b, off, e, hlt, hc⟩ := h hp
  exact ⟨b, off, e, Nat.lt_of_lt_of_le hlt hb.size, fun i hi => (hb.cell (p := ⟨b, off + i, none⟩) (by show b < n; omega)).trans (hc i hi)⟩

theorem row_at {w : World} {base n : Nat} {e : TypeId} {v : Value} {vs : List Value} (h : w.ownsRow base e 1 v n vs) :
    ∃ A cap, v = .slice A vs.length cap ∧ vs.length = n ∧ cap ≤ maxLen ∧ (0 < vs.length → ∃ b, A = some ⟨b, 0, none⟩ ∧ base ≤ b ∧ b < w.heap.size ∧ ∀ i v, vs[i]? = some v → w.cell? ⟨b, 0 + i, none⟩ = some v) := by
  have hl : vs.length = n := by have := h.1; omega
  rcases h.2 with ⟨rfl, rfl⟩ | ⟨g, cap, cur, rfl, hb, hg, hnc, hcm, hcs, ht⟩
  · exact ⟨none, 0, by rw [hl], hl, Nat.zero_le _, fun hp => by omega⟩
  · refine ⟨some ⟨g, 0, none⟩, cap, by rw [hl], hl, hcm, fun _ => ⟨g, rfl, hb, (Array.getElem?_eq_some_iff.1 hg).1, fun i v hv => ?_⟩⟩
    have hc := h.cells (g := g) rfl i v hv
    have hadd : (⟨g, 0, none⟩ : Addr).add i = ⟨g, 0 + i, none⟩ := by unfold Addr.add; split <;> simp_all
    rwa [hadd] at hc
def ints (l : List Nat) : List Int := l.map (fun k : Nat => (k : Int))
theorem ints_len (l : List Nat) : (ints l).length = l.length := by simp [ints]
theorem row_ints {w : World} {base n : Nat} {e : TypeId} {v : Value} {l : List Nat} (h : w.ownsRow base e 1 v n (nums l)) : ∃ A cap, v = .slice A (ints l).length cap ∧ l.length = n ∧ cap ≤ maxLen ∧ IntsAt w A (ints l) := by
  obtain ⟨A, cap, e1, e2, e3, h4⟩ := row_at h
  have hl : (nums l).length = (ints l).length := by simp [nums, ints]
  rw [hl] at e1 h4
  refine ⟨A, cap, e1, by rw [← e2]; simp [nums], e3, fun hp => ?_⟩
  obtain ⟨b, rfl, _, hb, hc⟩ := h4 hp
  refine ⟨b, 0, rfl, hb, fun i hi => hc i _ ?_⟩
  simp only [ints, List.length_map] at hi
  simp [nums, ints, hi]
theorem getD_ext {α : Type} (d : α) {xs ys : List α} (hl : xs.length = ys.length) (h : ∀ i, i < xs.length → xs.getD i d = ys.getD i d) : xs = ys := by
  apply List.ext_getElem hl
  intro i h1 h2
  have := h i h1
  simpa [List.getD_eq_getElem?_getD, h1, h2] using this

set_option maxHeartbeats 1000000 in
theorem ints_any (A B : Option Addr) (xs ys : List Int) (c d : Nat) (w : World) (hx : xs.length ≤ maxLen) (hy : ys.length ≤ maxLen) (hA : IntsAt w A xs) (hB : IntsAt w B ys) :
    Calls Tryd.prog 32 #[.slice A xs.length c, .slice B ys.length d] w fun e w' => e = .returned (.bool (decide (xs = ys))) ∧ Below w.heap.size w w' := by
  unfold maxLen at hx hy
  by_cases hlen : xs.length = ys.length
  · go_enter Tryd.func32, Tryd.ntmps32
    go_wp2
    go_loopw [13] (fun i wr => ∃ k : Nat, k ≤ xs.length ∧ i = .int .i64 k ∧ (∀ j, j < k → xs.getD j 0 = ys.getD j 0) ∧ Below w.heap.size w wr) (fun i _ => xs.length - (intOf i).toNat)
    case atStart => exact ⟨0, Nat.zero_le _, rfl, fun j hj => by omega, Below.refl _ _⟩
    case round =>
      obtain ⟨k, hk, rfl, hsame, hb⟩ := hrel
      by_cases hlt : k < xs.length
      · obtain ⟨b, off, rfl, hbl, hc⟩ := (hA.below hb (Nat.le_refl _)) (by omega)
        obtain ⟨b2, off2, rfl, hbl2, hc2⟩ := (hB.below hb (Nat.le_refl _)) (by omega)
        have c1 := hc k hlt
        have c2 := hc2 k (by omega)
        obtain ⟨x, hx0⟩ : ∃ x, x = xs.getD k 0 := ⟨_, rfl⟩
        obtain ⟨y, hy0⟩ : ∃ y, y = ys.getD k 0 := ⟨_, rfl⟩
        rw [← hx0] at c1
        rw [← hy0] at c2
        have hlt2 : k < ys.length := by omega
        have HH := Lib.hid (And.intro hsame (And.intro hb (And.intro hx0 (And.intro hy0 hlen))))
        clear hA hB hc hc2 hx0 hy0 hsame hb hlen
        by_cases hxy : x = y
        · have he : (x != y) = false := by simp [hxy]
          have HX := Lib.hid hxy
          clear hxy
          go_wp2
          go_quiet (fail)
          go_wp2
          go_roundw
          case rel =>
            refine ⟨k + 1, by omega, by go_num, fun j hj => ?_, by repeat (first | exact HH.out.2.1 | exact below_drewN HH.out.2.1 _ | refine Below.drew ?_)⟩
            by_cases e : j = k
            · subst e; rw [← HH.out.2.2.1, ← HH.out.2.2.2.1]; exact HX.out
            · exact HH.out.1 j (by omega)
          case measure => simp [intOf]; omega
        · have he : (x != y) = true := by simp [hxy]
          have hne : decide (xs = ys) = false := by
            apply decide_eq_false
            intro e
            apply hxy
            rw [HH.out.2.2.1, HH.out.2.2.2.1, e]
          clear hxy
          go_wp2
          go_quiet (fail)
          go_wp2
          go_ret
          exact ⟨by rw [hne]; rfl, by repeat (first | exact HH.out.2.1 | exact below_drewN HH.out.2.1 _ | refine Below.drew ?_)⟩
      · have hall : xs = ys := getD_ext 0 hlen (fun i hi => hsame i (by omega))
        have hd : decide (xs = ys) = true := decide_eq_true hall
        have HB := Lib.hid hb
        clear hA hB hsame hall hb
        go_wp2
        go_ret
        exact ⟨by rw [hd]; rfl, HB.out⟩
  · have hd : decide (xs = ys) = false := decide_eq_false (fun e => hlen (by rw [e]))
    have he : (((xs.length : Nat) : Int) != ((ys.length : Nat) : Int)) = true := by simp; omega
    clear hA hB
    go_enter Tryd.func32, Tryd.ntmps32
    go_wp2
    go_ret
    exact ⟨by rw [hd]; rfl, Below.refl _ _⟩
/-- is a number in a set? -/
def hasB (s : BitVec 64) (i : Int) : Bool := decide (0 ≤ i ∧ i < 64) && Bv.G s i.toNat
set_option maxHeartbeats 400000 in
theorem rhas_any (s : BitVec 64) (i : Int) (w : World) :
    Calls Tryd.prog 84 #[.int .u64 (Bv.U s), .int .i64 i] w fun e w' => e = .returned (.bool (hasB s i)) ∧ w = w' := by
  by_cases h0 : 0 ≤ i
  · by_cases h1 : i < 64
    · have hd : hasB s i = Bv.G s i.toNat := by unfold hasB; simp [h0, h1]
      rw [hd]
      cases hb : Bv.G s i.toNat
      all_goals
        go_enter Tryd.func84, Tryd.ntmps84
        go_wp2
        go_ret
        exact ⟨rfl, rfl⟩
    · have hd : hasB s i = false := by unfold hasB; simp [h1]
      rw [hd]
      go_enter Tryd.func84, Tryd.ntmps84
      go_wp2
      go_ret
      exact ⟨rfl, rfl⟩
  · have hd : hasB s i = false := by unfold hasB; simp [h0]
    rw [hd]
    go_enter Tryd.func84, Tryd.ntmps84
    go_wp2
    go_ret
    exact ⟨rfl, rfl⟩
theorem hasB_nat (s : BitVec 64) (k : Nat) (hk : k < 64) : hasB s (k : Int) = Bv.G s k := by unfold hasB; simp; omega
theorem rhas_is (s : BitVec 64) (i : Int) (b : Bool) (hb : hasB s i = b) (w : World) :
    Calls Tryd.prog 84 #[.int .u64 (Bv.U s), .int .i64 i] w fun e w' => e = .returned (.bool b) ∧ w = w' := by subst hb; exact rhas_any s i w

/-- a set and a number -/
def withS (s : BitVec 64) (i : Int) : BitVec 64 := if 0 ≤ i ∧ i < 64 then s ||| Bv.bit i.toNat else s
set_option maxHeartbeats 400000 in
theorem rwith_any (s : BitVec 64) (i : Int) (w : World) :
    Calls Tryd.prog 85 #[.int .u64 (Bv.U s), .int .i64 i] w fun e w' => e = .returned (.int .u64 (Bv.U (withS s i))) ∧ w = w' := by
  by_cases h : 0 ≤ i ∧ i < 64
  · obtain ⟨h0, h1⟩ := h
    obtain ⟨k, rfl⟩ : ∃ k : Nat, i = (k : Int) := ⟨i.toNat, by omega⟩
    have hd := hasB_nat s k (by omega)
    cases hb : Bv.G s k
    · have he : withS s (k : Int) = s + Bv.bit k := by
        unfold withS; rw [if_pos ⟨h0, h1⟩, Int.toNat_natCast]; exact (Bv.add_bit s k hb).symm
      rw [he]
      rw [hb] at hd
      have H := Lib.hid hd
      clear hd hb he
      go_enter Tryd.func85, Tryd.ntmps85
      go_wp2_with fail
      refine (rhas_is _ _ _ H.out _).mono ?_
      rintro e w' ⟨rfl, rfl⟩
      go_wp2_with fail
      go_ret
      exact ⟨rfl, rfl⟩
    · have he : withS s (k : Int) = s := by
        unfold withS; rw [if_pos ⟨h0, h1⟩, Int.toNat_natCast]; exact Bv.or_bit_same s k hb
      rw [he]
      rw [hb] at hd
      have H := Lib.hid hd
      clear hd hb he
      go_enter Tryd.func85, Tryd.ntmps85
      go_wp2_with fail
      refine (rhas_is _ _ _ H.out _).mono ?_
      rintro e w' ⟨rfl, rfl⟩
      go_wp2_with fail
      go_ret
      exact ⟨rfl, rfl⟩
  · have he : withS s i = s := by unfold withS; rw [if_neg h]
    have hd : hasB s i = false := by unfold hasB; rw [decide_eq_false h]; rfl
    rw [he]
    have H := Lib.hid hd
    have hc : i < 0 ∨ 63 < i := by omega
    clear hd he h
    rcases hc with h0 | h0
    all_goals
      go_enter Tryd.func85, Tryd.ntmps85
      go_wp2_with fail
      refine (rhas_is _ _ _ H.out _).mono ?_
      rintro e w' ⟨rfl, rfl⟩
      go_wp2_with fail
      go_ret
      exact ⟨rfl, rfl⟩
theorem rwith_is (s : BitVec 64) (i : Int) (t : BitVec 64) (ht : withS s i = t) (w : World) :
    Calls Tryd.prog 85 #[.int .u64 (Bv.U s), .int .i64 i] w fun e w' => e = .returned (.int .u64 (Bv.U t)) ∧ w = w' := by subst ht; exact rwith_any s i w
theorem withS_nat (s : BitVec 64) (k : Nat) (hk : k < 64) : withS s (k : Int) = s ||| Bv.bit k := by unfold withS; rw [if_pos ⟨by omega, by omega⟩, Int.toNat_natCast]

theorem row_nums {w : World} {base n : Nat} {e : TypeId} {v : Value} {l : List Nat} (h : w.ownsRow base e 1 v n (nums l)) : ∃ A cap, v = .slice A n cap ∧ l.length = n ∧ cap ≤ maxLen ∧ IntsAt w A (ints l) := by
  obtain ⟨A, cap, e1, e2, e3, h4⟩ := row_ints h
  exact ⟨A, cap, by rw [e1, ints_len, e2], e2, e3, h4⟩
def intsV (zs : List Int) : List Value := zs.map (Value.int .i64)
theorem intsV_snoc (zs : List Int) (x : Int) : intsV (zs ++ [x]) = intsV zs ++ [Value.int .i64 x] := by simp [intsV]
theorem row_zs {w : World} {base n : Nat} {e : TypeId} {v : Value} {zs : List Int} (h : w.ownsRow base e 1 v n (intsV zs)) : ∃ A cap, v = .slice A zs.length cap ∧ zs.length = n ∧ cap ≤ maxLen ∧ IntsAt w A zs := by
  obtain ⟨A, cap, e1, e2, e3, h4⟩ := row_at h
  have hl : (intsV zs).length = zs.length := by simp [intsV]
  rw [hl] at e1 h4 e2
  refine ⟨A, cap, e1, e2, e3, fun hp => ?_⟩
  obtain ⟨b, rfl, _, hb, hc⟩ := h4 hp
  exact ⟨b, 0, rfl, hb, fun i hi => hc i _ (by simp [intsV, hi])⟩
theorem owns_base {w : World} {b b' n : Nat} {e : TypeId} {size : Nat} {v : Value} {xs : List Value} (h : w.ownsRow b e size v n xs) (hb : b' ≤ b) : w.ownsRow b' e size v n xs :=
  ⟨h.1, h.2.imp id fun ⟨g, cap, cur, h1, h2, h3⟩ => ⟨g, cap, cur, h1, Nat.le_trans hb h2, h3⟩⟩
theorem all_is (n : Int) (t : BitVec 64) (ht : allS n = t) (w : World) :
    Calls Tryd.prog 81 #[.int .i64 n] w fun e w' => e = .returned (.int .u64 (Bv.U t)) ∧ w = w' := by subst ht; exact (all_any n w).mono fun e w' ⟨a, b⟩ => ⟨a, b.symm⟩
theorem first_is (s : BitVec 64) (n : Int) (b : Bool) (hn : firstN s = n) (hb : someB s = b) (w : World) (hT : Tab w) (hw : 0 < w.heap.size) :
    Calls Tryd.prog 75 #[.int .u64 (Bv.U s)] w fun e W' => e = .returned (.tuple #[.int .i64 n, .bool b]) ∧ Below w.heap.size w W' := by
  subst hn hb; exact first_any s w hT hw
theorem allS_below (n : Int) : allS n = Rl.below n := rfl
end
end Go.Proofs.YtknjdfgmejobfaaDoor

/- Relations in memory: the cells of an api.Rel, symbolic. -/
namespace Go.Proofs.YtknjdfgmejobfaaDoor
open Go.RowKit Go.Shelf

/-- the cells of a relation -/
def relC (n : Int) (f : Rl.Rows) : Array Value := (Value.int .i64 n :: (List.range 48).map fun i => Value.int .u64 (Bv.U (f i))).toArray
theorem relC_size (n : Int) (f : Rl.Rows) : (relC n f).size = 49 := by simp [relC]
theorem relC_zero (n : Int) (f : Rl.Rows) : (relC n f)[0]? = some (.int .i64 n) := by simp [relC]
theorem relC_row (n : Int) (f : Rl.Rows) (i : Nat) (hi : i < 48) : (relC n f)[1 + i]? = some (.int .u64 (Bv.U (f i))) := by
  rw [Nat.add_comm]; simp [relC, hi]
theorem relC_one (n : Int) (f : Rl.Rows) : (relC n f).all (·.oneCell') = true := by
  rw [Array.all_eq_true_iff_forall_mem]
  intro v hv
  simp only [relC, List.mem_toArray, List.mem_cons, List.mem_map] at hv
  rcases hv with rfl | ⟨i, _, rfl⟩ <;> rfl
/-- row a replaced -/
def upd (f : Rl.Rows) (a : Nat) (s : BitVec 64) : Rl.Rows := fun i => if i = a then s else f i
theorem upd_same (f : Rl.Rows) (a : Nat) (s : BitVec 64) : upd f a s a = s := if_pos rfl
theorem upd_other (f : Rl.Rows) {a i : Nat} (s : BitVec 64) (h : i ≠ a) : upd f a s i = f i := if_neg h
theorem relC_set (n : Int) (f : Rl.Rows) (a : Nat) (s : BitVec 64) : (relC n f).setIfInBounds (1 + a) (.int .u64 (Bv.U s)) = relC n (upd f a s) := by
  apply Array.ext_getElem?
  intro i
  rw [Array.getElem?_setIfInBounds]
  by_cases h : 1 + a = i
  · subst h
    rw [if_pos rfl]
    by_cases ha : a < 48
    · rw [if_pos (by rw [relC_size]; omega), relC_row _ _ _ ha, upd_same]
    · rw [if_neg (by rw [relC_size]; omega), Array.getElem?_eq_none (by rw [relC_size]; omega)]
  · rw [if_neg h]
    cases i with
    | zero => rw [relC_zero, relC_zero]
    | succ i =>
      by_cases hi : i < 48
      · have e : i + 1 = 1 + i := Nat.add_comm _ _
        rw [e, relC_row _ _ _ hi, relC_row _ _ _ hi, upd_other f s (by omega)]
      · rw [Array.getElem?_eq_none (by rw [relC_size]; omega), Array.getElem?_eq_none (by rw [relC_size]; omega)]
theorem relC_setN (n m : Int) (f : Rl.Rows) : (relC n f).setIfInBounds 0 (.int .i64 m) = relC m f := by
  apply Array.ext_getElem?
  intro i
  rw [Array.getElem?_setIfInBounds]
  cases i with
  | zero => rw [if_pos rfl, if_pos (by rw [relC_size]; omega), relC_zero]
  | succ i =>
    rw [if_neg (by omega)]
    by_cases hi : i < 48
    · have e : i + 1 = 1 + i := Nat.add_comm _ _
      rw [e, relC_row _ _ _ hi, relC_row _ _ _ hi]
    · rw [Array.getElem?_eq_none (by rw [relC_size]; omega), Array.getElem?_eq_none (by rw [relC_size]; omega)]
theorem relC_inj {n m : Int} {f g : Rl.Rows} (h : relC n f = relC m g) : n = m ∧ ∀ i, i < 48 → f i = g i := by
  constructor
  · have h1 := relC_zero n f
    rw [h, relC_zero] at h1
    injection h1 with h1; injection h1 with _ h1; exact h1.symm
  · intro i hi
    have h1 := relC_row n f i hi
    rw [h, relC_row _ _ _ hi] at h1
    injection h1 with h1; injection h1 with _ h1; exact (Bv.U_inj.1 h1).symm

/-- block b is a variable that holds a relation -/
def RelAt (w : World) (b : Nat) (n : Int) (f : Rl.Rows) : Prop := w.heap[b]? = some (.cells (relC n f) 26 (0, 0))
theorem RelAt.lt {w : World} {b : Nat} {n : Int} {f : Rl.Rows} (h : RelAt w b n f) : b < w.heap.size := (Array.getElem?_eq_some_iff.1 h).1
theorem RelAt.num {w : World} {b : Nat} {n : Int} {f : Rl.Rows} (h : RelAt w b n f) : w.cell? ⟨b, 0, none⟩ = some (.int .i64 n) := by
  rw [cell_of_row w b 0 _ _ _ h, relC_zero]
theorem RelAt.row {w : World} {b : Nat} {n : Int} {f : Rl.Rows} (h : RelAt w b n f) (i : Nat) (hi : i < 48) : w.cell? ⟨b, 1 + i, none⟩ = some (.int .u64 (Bv.U (f i))) := by
  rw [cell_of_row w b (1 + i) _ _ _ h, relC_row _ _ _ hi]
theorem RelAt.free {w : World} {b : Nat} {n : Int} {f : Rl.Rows} (h : RelAt w b n f) (i : Nat) : w.frozen? ⟨b, i, none⟩ = false := frozen_of_row w b i _ _ h
theorem RelAt.new (w : World) (n : Int) (f : Rl.Rows) : RelAt (w.alloc (.cells (relC n f) 26)) w.heap.size n f := World.alloc_heap_new w _
theorem RelAt.alloc {w : World} {b : Nat} {n : Int} {f : Rl.Rows} (h : RelAt w b n f) (o : Obj) : RelAt (w.alloc o) b n f := (Below.heap_alloc _ _ _ h.lt).trans h
theorem RelAt.drew {w : World} {b : Nat} {n : Int} {f : Rl.Rows} (h : RelAt w b n f) : RelAt w.drew b n f := h
theorem RelAt.below {k : Nat} {w w' : World} {b : Nat} {n : Int} {f : Rl.Rows} (h : RelAt w b n f) (hb : Below k w w') (hk : b < k) : RelAt w' b n f := (hb.block b hk).trans h
theorem RelAt.kept {w w' : World} {row : Option Nat} {b : Nat} {n : Int} {f : Rl.Rows} (h : RelAt w b n f) (hg : w.grownBy w' row) (hne : some b ≠ row) : RelAt w' b n f := (hg.block b h.lt hne).trans h
theorem RelAt.set {w : World} {b : Nat} {n : Int} {f : Rl.Rows} (h : RelAt w b n f) (a : Nat) (s : BitVec 64) : RelAt (w.setCell ⟨b, 1 + a, none⟩ (.int .u64 (Bv.U s))) b n (upd f a s) := by
  have := Rf.set_cells (i := 1 + a) (.int .u64 (Bv.U s)) h
  unfold RelAt
  rw [this, relC_set]
theorem RelAt.setN {w : World} {b : Nat} {n : Int} {f : Rl.Rows} (h : RelAt w b n f) (m : Int) : RelAt (w.setCell ⟨b, 0, none⟩ (.int .i64 m)) b m f := by
  have := Rf.set_cells (i := 0) (.int .i64 m) h
  unfold RelAt
  rw [this, relC_setN]
theorem RelAt.other {w : World} {b : Nat} {n : Int} {f : Rl.Rows} (h : RelAt w b n f) (p : Addr) (v : Value) (hne : b ≠ p.block) : RelAt (w.setCell p v) b n f := (Below.heap_setCell _ _ _ _ hne).trans h

theorem uRel : Tryd.prog.underlying 26 = some (.struct (Tryd.prog.fieldsOf 26)) := by kernel_rfl
theorem sRel : (Tryd.prog.info? 26).map (·.size) = some 49 := by kernel_rfl
theorem sRelC (n : Int) (f : Rl.Rows) : (Tryd.prog.info? 26).map (·.size) = some (relC n f).size := by rw [sRel, relC_size]
theorem uArr : Tryd.prog.underlying 24 = some (.array 48 23) := by kernel_rfl
theorem sArr : (Tryd.prog.info? 24).map (·.size) = some 48 := by kernel_rfl
/-- the rows as an array -/
def rowsC (f : Rl.Rows) : List Value := (List.range 48).map fun i => Value.int .u64 (Bv.U (f i))
theorem rowsC_len (f : Rl.Rows) : (rowsC f).length = 48 := by simp [rowsC]
theorem rowsC_get (f : Rl.Rows) (i : Nat) (hi : i < 48) : (rowsC f)[i]? = some (.int .u64 (Bv.U (f i))) := by simp [rowsC, hi]
theorem RelAt.range {w : World} {b : Nat} {n : Int} {f : Rl.Rows} (h : RelAt w b n f) : w.rangeAt b 1 (rowsC f) := by
  intro j v hv
  have hj : j < 48 := by have := (List.getElem?_eq_some_iff.1 hv).1; rwa [rowsC_len] at this
  rw [rowsC_get f j hj] at hv
  rw [h.row j hj, hv]
/-- the zero relation, as the program's table gives it -/
def zeroR : Rl.Rows := fun _ => 0#64
theorem zero_rel (w : World) : (zeroValue 26).run Tryd.prog w = .ok (.agg (relC 0 zeroR)) w := by kernel_rfl

/-- a relation stored whole -/
theorem wpList_store_rel {ops : Array Oper} {rest : List Oper} {op : Oper} {a : Act} {w : World} {Q : Exit → Act → World → Prop} (hgd : op.guard = none) (x y : Operand) (ho : op.op = .store 26 x y)
    (b : Nat) (m n : Int) (g f : Rl.Rows) (hx : a.eval x = .pointer (some ⟨b, 0, none⟩)) (hy : a.eval y = .agg (relC m g)) (hR : RelAt w b n f)
    (h : ∀ w', RelAt w' b m g → w.grownBy w' (some b) → wpList Tryd.prog ops Q rest (a.put op.dst undef) w') : wpList Tryd.prog ops Q (op :: rest) a w := by
  refine wpList_plain hgd fun _ hK => ?_
  have hrun := run_storeVar_row (P := Tryd.prog) w b 26 26 (relC n f) (relC m g) hR (sRelC m g) (by rw [relC_size, relC_size]) (relC_one m g)
  have h1 : RelAt (w.setRow b (relC m g)) b m g := setRow_heap w b (relC n f) _ 26 (0, 0) hR
  have h2 : w.grownBy (w.setRow b (relC m g)) (some b) := ⟨rfl, rfl, rfl, by simp, fun k _ hk => setRow_other w b k _ (fun e => hk (by rw [e]))⟩
  have h3 := h _ h1 h2
  unfold Oper.wp execOp
  simp only [ho, hx, hy, Instr.storeAt, Instr.sureAddr, Sem.run_bind, Sem.run_pure, Result.andThen_ok, hrun]
  exact hK _ _ h3
/-- a relation read whole -/
theorem wpList_load_rel {ops : Array Oper} {rest : List Oper} {op : Oper} {a : Act} {w : World} {Q : Exit → Act → World → Prop} (hgd : op.guard = none) (x : Operand) (ho : op.op = .load 26 x)
    (b : Nat) (n : Int) (f : Rl.Rows) (hx : a.eval x = .pointer (some ⟨b, 0, none⟩)) (hR : RelAt w b n f)
    (h : wpList Tryd.prog ops Q rest (a.put op.dst (.agg (relC n f))) w) : wpList Tryd.prog ops Q (op :: rest) a w :=
  wpList_load_row hgd 26 x ho b hx 26 (relC n f) (0, 0) _ hR uRel rfl (sRelC n f) h
end Go.Proofs.YtknjdfgmejobfaaDoor

/- what every card of this seat needs: the table, a world for the witness. -/
namespace Go.Proofs.YtknjdfgmejobfaaDoor
open Go.ChangeShapes Go.WideShapes Go.ChangeAt Go.RowKit

theorem own : ownKnob Tryd.prog.godebug = none := by kernel_rfl
theorem gTab : Tryd.prog.globalNamed "math/bits.deBruijn64tab" = some 0 := by kernel_rfl
theorem gTabType : (Tryd.prog.globals[0]?).map (·.type) = some 115 := by kernel_rfl
theorem cellsTab : Tryd.prog.cellsOf 115 = 64 := by kernel_rfl
theorem cellsU8 : Tryd.prog.cellsOf 5 = 1 := by kernel_rfl

def zsTab : List Int := Lib.deBruijn64tab.map (fun n : Nat => (n : Int))
theorem zsTab_get : ∀ i, i < 64 → zsTab.getD i 0 = (Lib.deBruijn64tab.getD i 0 : Nat) := by decide +kernel

/-- what the rows' list gives: the table's cells -/
theorem tab_of {W : World} (h : laidMetH Tryd.prog [("math/bits.deBruijn64tab", Rows.laid_math_bits_deBruijn64tab)] W) : Tab W := by
  have hT : Lib.TabIs Tryd.prog W "math/bits.deBruijn64tab" .u8 zsTab := Lib.tabIs_of_head (rest := []) gTab gTabType Tryd.underlying115 Tryd.underlying5 cellsU8 cellsTab h
  intro i hi
  have hc := hT.cell gTab i (by show i < zsTab.length; exact hi)
  rw [zsTab_get i hi] at hc
  exact hc

/-- a world for the witnesses: the settled one, the table holding what its initialiser lays -/
noncomputable def laidWorld (os : Os) : World :=
  { World.holding Tryd.prog os ⟨#[], #[], []⟩ with heap := (World.holding Tryd.prog os ⟨#[], #[], []⟩).heap.modify 0 fun
      | .cells _ t frozen => .cells (zsTab.map (Value.int .u8)).toArray t frozen
      | o => o }
end Go.Proofs.YtknjdfgmejobfaaDoor

/- what opens a list of bytes that comes in. -/
namespace Go.By
open Go.ChangeShapes Go.WideShapes Go.RowKit
variable {H : Type} {enc : TypeId × Value → H} {P : Program} {w : World}
/-- a list's cells, in the form that my walks ask -/
theorem open_bytes {t e : TypeId} {fuel : Nat} {A : Option Addr} {len cap : Nat} {x : DataW H × List MemPlace} (ht : P.underlying t = some (.slice e)) (he : P.underlying e = some (.int .u8)) (hc : P.cellsOf e = 1)
    (h : DataW.trod enc P w 0 (fun _ => true) true fuel t (Value.slice A len cap).cells.toList = some x) :
    ∃ zs : List Int, (0 < len → ∃ b off, A = some ⟨b, off, none⟩ ∧ b < w.heap.size ∧ ∀ i, i < len → w.cell? ⟨b, off + i, none⟩ = some (.int .u8 (zs.getD i 0))) ∧ ∀ i, 0 ≤ zs.getD i 0 ∧ zs.getD i 0 ≤ 255 := by
  rcases open_ints ht he hc h with ⟨e1, _⟩ | ⟨a, len', cap', zs, e1, _, hle, _, hzl, _, hcell, hwf⟩
  · simp only [Value.cells, List.cons.injEq, and_true] at e1
    injection e1 with _ e2 _
    exact ⟨[], fun h => by omega, fun i => by simp⟩
  · simp only [Value.cells, List.cons.injEq, and_true] at e1
    injection e1 with e0 e2 _
    subst e0 e2
    simp only [if_true] at hzl
    refine ⟨zs, fun hp => ?_, fun i => by rw [List.getD_eq_getElem?_getD]; exact range_u8 hwf i⟩
    obtain ⟨b, off, rfl, hj⟩ := ints_at hcell (by omega)
    exact ⟨b, off, rfl, World.block_lt_of_cell? w _ (hj 0 (by omega)), fun i hi => hj i (by omega)⟩
/-- the same for a list of ints -/
theorem open_intsl {t e : TypeId} {fuel : Nat} {A : Option Addr} {len cap : Nat} {x : DataW H × List MemPlace} (ht : P.underlying t = some (.slice e)) (he : P.underlying e = some (.int .i64)) (hc : P.cellsOf e = 1)
    (h : DataW.trod enc P w 0 (fun _ => true) true fuel t (Value.slice A len cap).cells.toList = some x) :
    ∃ zs : List Int, zs.length = len ∧ len ≤ maxLen ∧ (0 < len → ∃ b off, A = some ⟨b, off, none⟩ ∧ b < w.heap.size ∧ ∀ i, i < len → w.cell? ⟨b, off + i, none⟩ = some (.int .i64 (zs.getD i 0))) ∧ (A = none → len = 0 ∧ cap = 0) ∧ ∀ z ∈ zs, (Lit.int .i64 z).wf = true := by
  rcases open_ints ht he hc h with ⟨e1, _⟩ | ⟨a, len', cap', zs, e1, _, hle, hcm, hzl, _, hcell, hwf⟩
  · simp only [Value.cells, List.cons.injEq, and_true] at e1
    injection e1 with _ e2 e3
    exact ⟨[], by simp [e2], by omega, fun h => by omega, fun _ => ⟨e2, e3⟩, fun i => by simp⟩
  · simp only [Value.cells, List.cons.injEq, and_true] at e1
    injection e1 with e0 e2 e3
    subst e0 e2 e3
    simp only [if_true] at hzl
    refine ⟨zs.take len, by simp; omega, by omega, fun hp => ?_, fun h => (by cases h), fun z hz => hwf z (List.mem_of_mem_take hz)⟩
    obtain ⟨b, off, rfl, hj⟩ := ints_at hcell (by omega)
    refine ⟨b, off, rfl, World.block_lt_of_cell? w _ (hj 0 (by omega)), fun i hi => ?_⟩
    rw [hj i (by omega)]
    simp [List.getD_eq_getElem?_getD, List.getElem?_take, hi]
end Go.By

/- package rel: Right. -/
namespace Go.Proofs.YtknjdfgmejobfaaDoor
open Go.RowKit Go.Shelf

attribute [local go_sem] Bv.and_u Bv.or_u Bv.andNot_u Bv.wrap_sub1 Bv.eq0 Bv.ne0 Bv.wrap_pow Bv.wrap_powmin Bv.wrap_neg

theorem run_part_set (w : World) (cs : Array Value) (off : Nat) (v : Value) (h : cs[off]? = some v) : (part 23 cs off).run Tryd.prog w = .ok v w := by
  have hu := Tryd.underlying23
  unfold part isAgg
  simp [Sem.run_bind, run_underlying hu, Result.andThen, h]
theorem run_index_row (f : Rl.Rows) (k : Nat) (hk : k < 48) (w : World) : (Instr.index 24 (.agg (rowsC f).toArray) (.int .i64 k)).run Tryd.prog w = .ok (.int .u64 (Bv.U (f k))) w := by
  have hp := run_part_set w (rowsC f).toArray k (.int .u64 (Bv.U (f k))) (by simpa using rowsC_get f k hk)
  have hs : (sizeOf 23).run Tryd.prog w = .ok 1 w := by kernel_rfl
  have hlt : (k : Int) < 48 := by omega
  simp [Instr.index, asIntOf, run_underlying uArr, Result.andThen, hs, hp, hlt]
  intro h; omega

theorem rowsB_mono (n : Int) (f : Rl.Rows) {k : Nat} (hk : k < 48) (h : Rl.rowsB n f (k + 1) = false) : Rl.rowsB n f 48 = false := by
  rw [Bool.eq_false_iff] at h ⊢
  intro h2
  apply h
  unfold Rl.rowsB at h2 ⊢
  rw [List.all_eq_true] at h2 ⊢
  intro a ha
  rw [List.mem_range] at ha
  exact h2 a (by rw [List.mem_range]; omega)
set_option maxRecDepth 100000 in
set_option maxHeartbeats 1000000 in
theorem right_out (n : Int) (f : Rl.Rows) (w : World) (h : n < 0 ∨ 48 < n) :
    Calls Tryd.prog 58 #[.agg (relC n f)] w fun e w' => e = .returned (.bool false) ∧ Below w.heap.size w w' := by
  have c0 := (RelAt.new w n f).num
  rcases h with h | h
  all_goals
    go_enter Tryd.func58, Tryd.ntmps58
    go_wp2_with fail
    go_ret
    exact ⟨rfl, (Below.refl _ _).alloc (Nat.le_refl _) _⟩

set_option maxRecDepth 100000 in
set_option maxHeartbeats 2000000 in
theorem right_in (n : Int) (f : Rl.Rows) (w : World) (h0 : 0 ≤ n) (h1 : n ≤ 48) :
    Calls Tryd.prog 58 #[.agg (relC n f)] w fun e w' => e = .returned (.bool (Rl.rowsB n f 48)) ∧ Below w.heap.size w w' := by
  have hR := RelAt.new w n f
  have c0 := hR.num
  have HR := Lib.hid hR.range
  clear hR
  go_enter Tryd.func58, Tryd.ntmps58
  go_wp2_with fail
  refine (all_is _ _ (allS_below n) _).mono ?_
  rintro e w1 ⟨rfl, rfl⟩
  go_wp2_with (refine wpList_load_mid (by rfl) 24 (.tmp 17) (by rfl) w.heap.size 1 (by rfl) (rowsC f) _ HR.out uArr rfl (by rw [sArr, rowsC_len]) ?_)
  clear HR
  go_loop [19] (fun c => ∃ k : Nat, k ≤ 48 ∧ c = .int .i64 k ∧ Rl.rowsB n f k = true) (fun c => 48 - (intOf c).toNat)
  case atStart => exact ⟨0, Nat.zero_le _, rfl, rfl⟩
  case round =>
    obtain ⟨k, hk, rfl, hok⟩ := hrel
    by_cases hlt : k < 48
    · have hix := run_index_row f k hlt
      have hsucc := Rl.rowsB_succ n f k
      rw [hok, Bool.true_and] at hsucc
      obtain ⟨s, hs⟩ : ∃ s, s = f k := ⟨_, rfl⟩
      rw [← hs] at hix hsucc
      unfold Rl.rowB at hsucc
      clear hs hok
      have q1 : (s &&& ~~~ (Rl.below n) != 0#64) = !(s &&& ~~~ (Rl.below n) == 0#64) := rfl
      have q2 : (s != 0#64) = !(s == 0#64) := rfl
      cases b1 : (s &&& ~~~ (Rl.below n) == 0#64)
      · rw [b1] at hsucc q1
        have HS := Lib.hid hsucc
        clear hsucc
        go_wp2_with fail
        go_ret
        exact ⟨by rw [rowsB_mono n f hlt HS.out]; rfl, (Below.refl _ _).alloc (Nat.le_refl _) _⟩
      · rw [b1, Bool.true_and] at hsucc
        rw [b1] at q1
        by_cases hkn : (k : Int) < n
        · rw [decide_eq_true hkn, Bool.true_or] at hsucc
          have HS := Lib.hid hsucc
          clear hsucc
          go_wp2_with fail
          go_round
          case rel => exact ⟨k + 1, by omega, by go_num, HS.out⟩
          case measure => simp [intOf]; omega
        · rw [decide_eq_false hkn, Bool.false_or] at hsucc
          cases b2 : (s == 0#64)
          all_goals
            rw [b2] at hsucc q2
            have HS := Lib.hid hsucc
            clear hsucc
          · go_wp2_with fail
            go_ret
            exact ⟨by rw [rowsB_mono n f hlt HS.out]; rfl, (Below.refl _ _).alloc (Nat.le_refl _) _⟩
          · go_wp2_with fail
            go_round
            case rel => exact ⟨k + 1, by omega, by go_num, HS.out⟩
            case measure => simp [intOf]; omega
    · have hk48 : k = 48 := by omega
      subst hk48
      have HS := Lib.hid hok
      clear hok
      go_wp2_with fail
      go_ret
      exact ⟨by rw [HS.out]; rfl, (Below.refl _ _).alloc (Nat.le_refl _) _⟩
theorem right_any (n : Int) (f : Rl.Rows) (w : World) :
    Calls Tryd.prog 58 #[.agg (relC n f)] w fun e w' => e = .returned (.bool (Rl.rightB n f)) ∧ Below w.heap.size w w' := by
  by_cases h : 0 ≤ n ∧ n ≤ 48
  · have e : Rl.rightB n f = Rl.rowsB n f 48 := by unfold Rl.rightB; rw [decide_eq_true h, Bool.true_and]
    rw [e]; exact right_in n f w h.1 h.2
  · have e : Rl.rightB n f = false := by unfold Rl.rightB; rw [decide_eq_false h, Bool.false_and]
    rw [e]; exact right_out n f w (by omega)
theorem right_is (n : Int) (f : Rl.Rows) (b : Bool) (hb : Rl.rightB n f = b) (w : World) :
    Calls Tryd.prog 58 #[.agg (relC n f)] w fun e w' => e = .returned (.bool b) ∧ Below w.heap.size w w' := by subst hb; exact right_any n f w
end Go.Proofs.YtknjdfgmejobfaaDoor

/- package rel: build, image. -/
namespace Go.Proofs.YtknjdfgmejobfaaDoor
open Go.RowKit Go.Shelf

attribute [local go_sem] Bv.and_u Bv.or_u Bv.andNot_u Bv.wrap_sub1 Bv.eq0 Bv.ne0 Bv.wrap_pow Bv.wrap_powmin Bv.wrap_neg

theorem build_rel (n : Int) (w : World) : (Instr.build 26 #[(0, .int .i64 n)]).run Tryd.prog w = .ok (.agg (relC n zeroR)) w := by kernel_rfl
theorem build_zero (w : World) : (Instr.build 26 #[]).run Tryd.prog w = .ok (.agg (relC 0 zeroR)) w := by kernel_rfl
set_option maxRecDepth 100000 in
set_option maxHeartbeats 1000000 in
theorem build_any (n : Nat) (g : FuncId) (caps : Array Value) (rows : Rl.Rows) (w : World) (hn : n ≤ 48) (eg : ∀ args w, (callFunc g args).run Tryd.prog w = .ok (.enter g args) w)
    (hrow : ∀ (a : Nat) (W : World), a < n → Below w.heap.size w W → Calls Tryd.prog g (#[.int .i64 a] ++ caps) W fun e W' => e = .returned (.int .u64 (Bv.U (rows a))) ∧ Below W.heap.size W W') :
    Calls Tryd.prog 76 #[.int .i64 n, .func (.func g) #[] caps] w fun e w' => e = .returned (.agg (relC n (Rl.cut n rows))) ∧ Below w.heap.size w w' := by
  have hzr := zero_rel
  have hbr := build_rel
  have hR0 := RelAt.new w 0 zeroR
  have hR1 := RelAt.new (w.alloc (.cells (relC 0 zeroR) 26)) 0 zeroR
  rw [World.size_alloc] at hR1
  have H0 := Lib.hid (And.intro (hR0.alloc (.cells (relC 0 zeroR) 26)) hR1)
  clear hR0 hR1
  go_enter Tryd.func76, Tryd.ntmps76
  go_wp2_with (refine wpList_store_rel (by rfl) (.tmp 5) (.tmp 8) (by rfl) (w.heap.size + 1) n 0 zeroR zeroR (by rfl) (by rfl) H0.out.2 ?_; intro w1 hR1 hg1)
  have hb1 : Below w.heap.size w w1 := (((Below.refl _ w).alloc (Nat.le_refl _) _).alloc (by simp) _).grown hg1 (by simp; omega) (fun j e => by injection e with e; omega)
  have H1 := Lib.hid (And.intro (H0.out.1.kept hg1 (by intro e; injection e with e; omega)) (And.intro hR1 hb1))
  clear hR1 hg1 hb1
  go_loopw [10] (fun c wr => ∃ k : Nat, k ≤ n ∧ c = .int .i64 k ∧ RelAt wr (w.heap.size + 1) n (Rl.cut k rows) ∧ RelAt wr w.heap.size 0 zeroR ∧ Below w.heap.size w wr) (fun c _ => n - (intOf c).toNat)
  case atStart => exact ⟨0, Nat.zero_le _, rfl, H1.out.2.1, H1.out.1, H1.out.2.2⟩
  case round =>
    obtain ⟨k, hk, rfl, hR, hR0, hb⟩ := hrel
    by_cases hlt : k < n
    · have hcall := hrow k wr hlt hb
      have HC := Lib.hid hcall
      have HH := Lib.hid (And.intro hR (And.intro hR0 hb))
      clear hcall hR hR0 hb hrow
      go_wp2_with fail
      refine HC.out.mono ?_
      rintro e w2 ⟨rfl, hb2⟩
      have hR2 := HH.out.1.below hb2 HH.out.1.lt
      have hc := hR2.row k (by omega)
      have hf := hR2.free (1 + k)
      have hset := hR2.set k (rows k)
      have hupd : upd (Rl.cut k rows) k (rows k) = Rl.cut (k + 1) rows := by
        funext i
        unfold upd Rl.cut
        by_cases e : i = k
        · subst e; simp
        · rw [if_neg e]
          by_cases h : i < k
          · rw [if_pos h, if_pos (by omega)]
          · rw [if_neg h, if_neg (by omega)]
      rw [hupd] at hset
      have H2 := Lib.hid (And.intro hset (And.intro ((HH.out.2.1.below hb2 HH.out.2.1.lt).other ⟨w.heap.size + 1, 1 + k, none⟩ (.int .u64 (Bv.U (rows k))) (by simp)) ((HH.out.2.2.trans (hb2.mono HH.out.2.2.size)).setCell (p := ⟨w.heap.size + 1, 1 + k, none⟩) (by simp) (.int .u64 (Bv.U (rows k))))))
      clear hset hupd hR2 hb2
      go_wp2_with fail
      go_roundw
      case rel => exact ⟨k + 1, by omega, by go_num, H2.out.1, H2.out.2.1, H2.out.2.2⟩
      case measure => simp [intOf]; omega
    · have hkn : k = n := by omega
      subst hkn
      have HH := Lib.hid (And.intro hR (And.intro hR0 hb))
      clear hR hR0 hb hrow
      go_wp2_with (first | (refine wpList_load_rel (by rfl) (.tmp 5) (by rfl) (w.heap.size + 1) k (Rl.cut k rows) (by rfl) HH.out.1 ?_) | (refine wpList_store_rel (by rfl) (.tmp 4) (.tmp 20) (by rfl) w.heap.size k 0 (Rl.cut k rows) zeroR (by rfl) (by rfl) HH.out.2.1 ?_; intro w3 hR3 hg3))
      refine bodyPost_ret (results_cell_row rfl _ _ w.heap.size 26 (relC k (Rl.cut k rows)) (0, 0) _ rfl hR3 uRel rfl (sRelC _ _)) rfl ⟨rfl, HH.out.2.2.grown hg3 HH.out.2.2.size (fun j e => by injection e with e; omega)⟩

theorem some_ne {t : BitVec 64} (h : t ≠ 0#64) : firstN t = (Bs.low t : Nat) ∧ someB t = true := ⟨by unfold firstN; rw [if_neg h], by unfold someB; simpa using h⟩
theorem some_zero : firstN 0#64 = 0 ∧ someB 0#64 = false := ⟨rfl, rfl⟩
/-- the sets that are left, as their elements -/
def leftOf : Value → Nat
  | .int _ z => (Bs.elems (BitVec.ofInt 64 z)).length
  | _ => 0
theorem leftOf_eq (s : BitVec 64) : leftOf (.int .u64 (Bv.U s)) = (Bs.elems s).length := by simp [leftOf, Bv.ofInt_U]

set_option maxRecDepth 100000 in
set_option maxHeartbeats 1000000 in
theorem image_any (b : Nat) (n : Int) (f : Rl.Rows) (s : BitVec 64) (w : World) (hR : RelAt w b n f) (hs : ∀ i, s.getLsbD i = true → i < 48) (hT : Tab w) (hw : 0 < w.heap.size) :
    Calls Tryd.prog 73 #[.pointer (some ⟨b, 0, none⟩), .int .u64 (Bv.U s)] w fun e w' => e = .returned (.int .u64 (Bv.U (Rl.image f s))) ∧ Below w.heap.size w w' := by
  have hTl : ∀ W, Below w.heap.size w W → Tab W ∧ 0 < W.heap.size := fun W h => ⟨hT.below h hw, Nat.lt_of_lt_of_le hw h.size⟩
  have HT := Lib.hid hTl
  have H0 := Lib.hid (And.intro hR hs)
  have HTw := Lib.hid hT
  clear hTl hT hR hs
  go_enter Tryd.func73, Tryd.ntmps73
  go_wp2_with fail
  refine (first_any _ _ HTw.out hw).mono ?_
  rintro e w1 ⟨rfl, hb⟩
  have B1 := Lib.hid hb
  clear hb
  go_wp2_with fail
  go_loopw [1, 5, 6, 7] (fun x y p q wr => ∃ (t acc : BitVec 64), x = .int .u64 (Bv.U t) ∧ y = .int .u64 (Bv.U acc) ∧ p = .int .i64 (firstN t) ∧ q = .bool (someB t) ∧ acc ||| Rl.imageL f (Bs.elems t) = Rl.image f s ∧ (∀ i, t.getLsbD i = true → s.getLsbD i = true) ∧ Below w.heap.size w wr) (fun x _ _ _ _ => leftOf x)
  case atStart => exact ⟨s, 0#64, rfl, rfl, rfl, rfl, by simp [Rl.image], fun _ h => h, B1.out⟩
  case round =>
    obtain ⟨t, acc, rfl, rfl, rfl, rfl, hacc, hsub, hb⟩ := hrel
    by_cases hz : t = 0#64
    · subst hz
      have hfin : acc = Rl.image f s := by
        rw [← hacc, show Bs.elems 0#64 = [] from Bs.elems_zero]; simp [Rl.imageL]
      rw [some_zero.1, some_zero.2]
      have HF := Lib.hid (And.intro hfin hb)
      clear hfin hb hacc hsub
      go_wp2_with fail
      go_ret
      exact ⟨by rw [← HF.out.1]; rfl, HF.out.2⟩
    · have hlow := Bs.low_bit hz
      have h48 := H0.out.2 _ (hsub _ hlow)
      have hcell := ((H0.out.1.below hb H0.out.1.lt)).row (Bs.low t) h48
      have hstep := Bs.elems_step hz
      have hlt := Bs.rest_lt hz
      have hacc2 : (acc ||| f (Bs.low t)) ||| Rl.imageL f (Bs.elems (Bs.rest t)) = Rl.image f s := by rw [← hacc, hstep, ← Rl.imageL_cons]
      have hsub2 : ∀ i, (Bs.rest t).getLsbD i = true → s.getLsbD i = true := fun i hi => hsub i (by rw [Bs.rest_bit hz] at hi; simp at hi; exact hi.1)
      rw [(some_ne hz).1, (some_ne hz).2]
      obtain ⟨a, ha⟩ : ∃ a, a = Bs.low t := ⟨_, rfl⟩
      rw [← ha] at hcell h48 hacc2 ⊢
      obtain ⟨r, hr⟩ : ∃ r, r = f a := ⟨_, rfl⟩
      rw [← hr] at hcell hacc2
      have HH := Lib.hid (And.intro hacc2 (And.intro hsub2 (And.intro hb hlt)))
      clear hacc2 hsub2 hb hlt hstep hacc hsub hlow ha hr hz
      go_wp2_with fail
      refine (first_any _ _ (HT.out _ HH.out.2.2.1).1 (HT.out _ HH.out.2.2.1).2).mono ?_
      rintro e w2 ⟨rfl, hb⟩
      have B2 := Lib.hid (HH.out.2.2.1.trans (hb.mono HH.out.2.2.1.size))
      clear hb
      go_wp2_with fail
      go_roundw
      case rel => exact ⟨Bs.rest t, acc ||| r, rfl, rfl, rfl, rfl, HH.out.1, HH.out.2.1, B2.out⟩
      case measure => rw [leftOf_eq t]; exact Nat.lt_of_le_of_lt (Nat.le_of_eq (leftOf_eq (Bs.rest t))) HH.out.2.2.2
end Go.Proofs.YtknjdfgmejobfaaDoor
