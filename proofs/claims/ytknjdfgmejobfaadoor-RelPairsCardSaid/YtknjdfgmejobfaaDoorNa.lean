/- seat relord: marks.First, lists of ints, Ints, the reference's Has and With. -/
import Derived.Test.YtknjdfgmejobfaaDoorMc
import Derived.Test.YtknjdfgmejobfaaDoorRr
import Derived.Laws.MakeOwn
namespace Go.Proofs.YtknjdfgmejobfaaDoor
open Go.RowKit Go.Shelf

section
attribute [local go_sem] Bv.and_u Bv.or_u Bv.andNot_u Bv.wrap_sub1 Bv.eq0 Bv.ne0 Bv.wrap_pow Bv.wrap_powmin Bv.wrap_neg
/-- the least element, or 0; is there one? -/
def firstN (s : BitVec 64) : Int := if s = 0#64 then 0 else (Bs.low s : Nat)
def someB (s : BitVec 64) : Bool := !(s == 0#64)

attribute [local go_sem] Oper.semAt_some
set_option maxRecDepth 100000 in
set_option maxHeartbeats 2000000 in
theorem first_any (s : BitVec 64) (w : World) (hT : Tab w) (hw : 0 < w.heap.size) :
    Calls Tryd.prog 75 #[.int .u64 (Bv.U s)] w fun e W' => e = .returned (.tuple #[.int .i64 (firstN s), .bool (someB s)]) ∧ Below w.heap.size w W' := by
  refine (callsIn_wide (n := 9)).1 ?_
  refine callsIn_of_wp_marks Tryd.func75 rfl trivial ?_ rfl
  simp only [Tryd.ntmps75, List.size_toArray, List.length_cons, List.length_nil, Nat.reduceAdd, Nat.reduceSub, Array.replicate_succ, Array.replicate_zero, List.push_toArray, List.append_toArray, List.nil_append, List.cons_append]
  gi_wp2_with fail
  refine ⟨trivial, ?_⟩
  refine (callsIn_wide.2 (elements_any _ _)).mono ?_
  rintro e w1 ⟨rfl, rfl⟩
  gi_wp2_with fail
  have b0 := Boxed.new w 3 (.int .i64 0)
  have b1 := Boxed.new (w.alloc (.cells #[.int .i64 0] 3)) 4 (.bool false)
  have b2 := Boxed.new ((w.alloc (.cells #[.int .i64 0] 3)).alloc (.cells #[.bool false] 4)) 23 (.int .u64 (Bv.U s))
  simp only [World.size_alloc] at b1 b2
  have hB0 : Below w.heap.size w (((w.alloc (.cells #[.int .i64 0] 3)).alloc (.cells #[.bool false] 4)).alloc (.cells #[.int .u64 (Bv.U s)] 23)) := (((Below.refl _ w).alloc (Nat.le_refl _) _).alloc (by simp) _).alloc (by simp; omega) _
  refine wpIn_rangeFunc_ownG rfl (by omega) (gf := 102) (lb := #[.pointer (some ⟨w.heap.size + 1 + 1, 0, none⟩)]) rfl trivial (enters_of Tryd.func102 (by kernel_rfl) rfl)
    (elements_stops 8 (w.heap.size + 1 + 1) w.heap.size s _ (by simp) (by omega) (by simp; omega) b2.cell (hT.below hB0 hw)) belowK_t (belowK_b (by simp; omega)) (Below.refl _ _) (fun _ => rfl)
    (fun pre W => (pre = [] ∧ Boxed W w.heap.size 3 (.int .i64 0) ∧ Boxed W (w.heap.size + 1) 4 (.bool false)) ∧ Below w.heap.size w W)
    (fun c pre W => (c = .ret ∧ (∃ x : Nat, pre = [x] ∧ Boxed W w.heap.size 3 (.int .i64 x) ∧ Boxed W (w.heap.size + 1) 4 (.bool true))) ∧ Below w.heap.size w W)
    (OwnFrom.and (Own.from (fun s A B row hs hg hr => ⟨hs.1, boxed_own w.heap.size 3 (fun _ : Unit => .int .i64 0) () A B row hs.2.1 hg hr, boxed_own (w.heap.size + 1) 4 (fun _ : Unit => .bool false) () A B row hs.2.2 hg hr⟩) _) (ownFrom_below (Nat.le_refl _) (by simp; omega)))
    (fun c => OwnFrom.and (Own.from (fun s A B row hs hg hr => by
      obtain ⟨h1, x, h2, h3, h4⟩ := hs
      exact ⟨h1, x, h2, boxed_own w.heap.size 3 (fun _ : Unit => .int .i64 x) () A B row h3 hg hr, boxed_own (w.heap.size + 1) 4 (fun _ : Unit => .bool true) () A B row h4 hg hr⟩) _) (ownFrom_below (Nat.le_refl _) (by simp; omega)))
    ⟨⟨rfl, (b0.alloc _).alloc _, b1.alloc _⟩, hB0⟩
    (fun x => { tmps := #[.int .u64 (Bv.U s), undef, .pointer (some ⟨w.heap.size, 0, none⟩), .pointer (some ⟨w.heap.size + 1, 0, none⟩), .int .i64 x, .int .u64 (Bv.U s), .func (.func 102) #[] #[.pointer (some ⟨w.heap.size + 1 + 1, 0, none⟩)], .int .i64 x, undef], defers := [] }) ?assign ?body ?done ?stop
  case assign =>
    intro l x W K hK
    gi_wp2
    exact hK
  case body =>
    rintro l pre x W ⟨⟨rfl, h0, h1⟩, hB⟩ hlt
    have c0 := h0.cell
    have f0 := h0.frozen
    have c1 := h1.cell
    have f1 := h1.frozen
    have HH := Lib.hid (And.intro h0 (And.intro h1 hB))
    clear h0 h1 hB
    gi_wp2
    have hq := (HH.out.1.set (.int .i64 x)).other (show w.heap.size ≠ w.heap.size + 1 by omega) (.bool true)
    have hr := (HH.out.2.1.other (show w.heap.size + 1 ≠ w.heap.size by omega) (.int .i64 x)).set (.bool true)
    exact ⟨((KeepsOthers.setCell _ _ _).trans (KeepsOthers.setCell _ _ _)).from _, ⟨rfl, x, rfl, hq, hr⟩, (HH.out.2.2.setCell (p := ⟨w.heap.size, 0, none⟩) (Nat.le_refl _) _).setCell (p := ⟨w.heap.size + 1, 0, none⟩) (by simp) _⟩
  case done =>
    rintro D ys W hD hys ⟨⟨rfl, h0, h1⟩, hB⟩ hK
    have c0 := h0.cell
    have f0 := h0.frozen
    have c1 := h1.cell
    have f1 := h1.frozen
    have HH := Lib.hid (And.intro hys (And.intro h0 (And.intro h1 (And.intro hB hK))))
    clear h0 h1 hB hys hK
    gi_wp2
    have hK2 := ((KeepsOthers.setCell W ⟨w.heap.size, 0, none⟩ (.int .i64 0)).trans (KeepsOthers.setCell _ ⟨w.heap.size + 1, 0, none⟩ (.bool false))).same D _ HH.out.2.2.2.2 rfl
    refine ⟨by simp, .inl ⟨_, _, rfl, run_takeDeferred hK2, ?_⟩⟩
    have hq := (HH.out.2.1.set (.int .i64 0)).other (show w.heap.size ≠ w.heap.size + 1 by omega) (.bool false)
    have hr := (HH.out.2.2.1.other (show w.heap.size + 1 ≠ w.heap.size by omega) (.int .i64 0)).set (.bool false)
    have hq' := cell_kept hq.cell (grownBy_putObj' _ D (.deferred none)) (fun r e => by cases e; exact ⟨_, hK2, rfl⟩)
    have hr' := cell_kept hr.cell (grownBy_putObj' _ D (.deferred none)) (fun r e => by cases e; exact ⟨_, hK2, rfl⟩)
    have hs0 : s = 0#64 := by
      apply Classical.byContradiction
      intro hne
      rw [Bs.elems_step hne] at HH
      exact absurd HH.out.1 (by simp)
    refine ⟨.tuple #[.int .i64 0, .bool false], ?_, by unfold firstN someB; simp [hs0], ((HH.out.2.2.2.1.setCell (p := ⟨w.heap.size, 0, none⟩) (Nat.le_refl _) _).setCell (p := ⟨w.heap.size + 1, 0, none⟩) (by simp) _).trans (belowK_b (w := w) (Nat.le_refl _) _ D _ _ (by simp at hD; omega) hK2 rfl rfl)⟩
    simp [results, Tryd.results75, go_sem, hq', hr']
  case stop =>
    rintro D c pre W hD hpre ⟨⟨rfl, x, rfl, hq, hr⟩, hB⟩ hK
    have HH := Lib.hid (And.intro hpre (And.intro hq (And.intro hr (And.intro hB hK))))
    clear hpre hq hr hB hK
    gi_wp2
    refine ⟨by simp, .inl ⟨_, _, rfl, run_takeDeferred HH.out.2.2.2.2, ?_⟩⟩
    have hq' := cell_kept HH.out.2.1.cell (grownBy_putObj' _ D (.deferred none)) (fun r e => by cases e; exact ⟨_, HH.out.2.2.2.2, rfl⟩)
    have hr' := cell_kept HH.out.2.2.1.cell (grownBy_putObj' _ D (.deferred none)) (fun r e => by cases e; exact ⟨_, HH.out.2.2.2.2, rfl⟩)
    have hs0 : s ≠ 0#64 := by
      intro e
      have h := HH.out.1
      rw [e, show Bs.elems 0#64 = [] from Bs.elems_zero] at h
      simp at h
    have hx : x = Bs.low s := by
      obtain ⟨t, ht⟩ := HH.out.1
      rw [Bs.elems_step hs0] at ht
      simp at ht
      exact ht.1
    refine ⟨.tuple #[.int .i64 x, .bool true], ?_, by unfold firstN someB; rw [if_neg hs0, hx]; simp [hs0], HH.out.2.2.2.1.trans (belowK_b (w := w) (Nat.le_refl _) _ D _ _ (by simp at hD; omega) HH.out.2.2.2.2 rfl rfl)⟩
    simp [results, Tryd.results75, go_sem, hq', hr']

end
section
attribute [local go_sem] Bv.and_u Bv.or_u Bv.andNot_u Bv.wrap_sub1 Bv.eq0 Bv.ne0 Bv.wrap_pow Bv.wrap_powmin Bv.wrap_neg Bv.eq_u Bv.ne_u Bv.shr_min Bv.shr_pow Bv.tmod2 Bv.wrap_add Bv.B1_eq1 Bv.B1_eq0 Bv.B1_ne1 Bv.B1_ne0
/-- the numbers zs lie from A on -/
def IntsAt (w : World) (A : Option Addr) (zs : List Int) : Prop :=
  0 < zs.length → ∃ b off, A = some ⟨b, off, none⟩ ∧ b < w.heap.size ∧ ∀ i, i < zs.length → w.cell? ⟨b, off + i, none⟩ = some (.int .i64 (zs.getD i 0))
theorem IntsAt.below {n : Nat} {w w' : World} {A : Option Addr} {zs : List Int} (h : IntsAt w A zs) (hb : Below n w w') (hn : w.heap.size ≤ n) : IntsAt w' A zs := by
  intro hp
  obtain ⟨b, off, e, hlt, hc⟩ := h hp
  exact ⟨b, off, e, Nat.lt_of_lt_of_le hlt hb.size, fun i hi => (hb.cell (p := ⟨b, off + i, none⟩) (by show b < n; omega)).trans (hc i hi)⟩

theorem row_at {w : World} {base n : Nat} {e : TypeId} {v : Value} {vs : List Value} (h : w.ownsRow base e 1 v n vs) :
    ∃ A cap, v = .slice A vs.length cap ∧ vs.length = n ∧ cap ≤ maxLen ∧ (0 < vs.length → ∃ b, A = some ⟨b, 0, none⟩ ∧ base ≤ b ∧ b < w.heap.size ∧ ∀ i v, vs[i]? = some v → w.cell? ⟨b, 0 + i, none⟩ = some v) := by
  have hl : vs.length = n := by have := h.1; omega
  rcases h.2 with ⟨rfl, rfl⟩ | ⟨g, cap, cur, rfl, hb, hg, hnc, hcm, hcs, ht⟩
  · exact ⟨none, 0, by rw [hl], hl, Nat.zero_le _, fun hp => by omega⟩
  · refine ⟨some ⟨g, 0, none⟩, cap, by rw [hl], hl, hcm, fun _ => ⟨g, rfl, hb, (Array.getElem?_eq_some_iff.1 hg).1, fun i v hv => ?_⟩⟩
    have hc := h.cells (g := g) rfl i v hv
    have hadd : (⟨g, 0, none⟩ : Addr).add i = ⟨g, 0 + i, none⟩ := by unfold Addr.add; split <;> simp_all
    rwa [hadd] at hc
def ints (l : List Nat) : List Int := l.map (fun k : Nat => (k : Int))
theorem ints_len (l : List Nat) : (ints l).length = l.length := by simp [ints]
theorem row_ints {w : World} {base n : Nat} {e : TypeId} {v : Value} {l : List Nat} (h : w.ownsRow base e 1 v n (nums l)) : ∃ A cap, v = .slice A (ints l).length cap ∧ l.length = n ∧ cap ≤ maxLen ∧ IntsAt w A (ints l) := by
  obtain ⟨A, cap, e1, e2, e3, h4⟩ := row_at h
  have hl : (nums l).length = (ints l).length := by simp [nums, ints]
  rw [hl] at e1 h4
  refine ⟨A, cap, e1, by rw [← e2]; simp [nums], e3, fun hp => ?_⟩
  obtain ⟨b, rfl, _, hb, hc⟩ := h4 hp
  refine ⟨b, 0, rfl, hb, fun i hi => hc i _ ?_⟩
  simp only [ints, List.length_map] at hi
  simp [nums, ints, hi]
theorem getD_ext {α : Type} (d : α) {xs ys : List α} (hl : xs.length = ys.length) (h : ∀ i, i < xs.length → xs.getD i d = ys.getD i d) : xs = ys := by
  apply List.ext_getElem hl
  intro i h1 h2
  have := h i h1
  simpa [List.getD_eq_getElem?_getD, h1, h2] using this

set_option maxHeartbeats 1000000 in
theorem ints_any (A B : Option Addr) (xs ys : List Int) (c d : Nat) (w : World) (hx : xs.length ≤ maxLen) (hy : ys.length ≤ maxLen) (hA : IntsAt w A xs) (hB : IntsAt w B ys) :
    Calls Tryd.prog 32 #[.slice A xs.length c, .slice B ys.length d] w fun e w' => e = .returned (.bool (decide (xs = ys))) ∧ Below w.heap.size w w' := by
  unfold maxLen at hx hy
  by_cases hlen : xs.length = ys.length
  · go_enter Tryd.func32, Tryd.ntmps32
    go_wp2
    go_loopw [13] (fun i wr => ∃ k : Nat, k ≤ xs.length ∧ i = .int .i64 k ∧ (∀ j, j < k → xs.getD j 0 = ys.getD j 0) ∧ Below w.heap.size w wr) (fun i _ => xs.length - (intOf i).toNat)
    case atStart => exact ⟨0, Nat.zero_le _, rfl, fun j hj => by omega, Below.refl _ _⟩
    case round =>
      obtain ⟨k, hk, rfl, hsame, hb⟩ := hrel
      by_cases hlt : k < xs.length
      · obtain ⟨b, off, rfl, hbl, hc⟩ := (hA.below hb (Nat.le_refl _)) (by omega)
        obtain ⟨b2, off2, rfl, hbl2, hc2⟩ := (hB.below hb (Nat.le_refl _)) (by omega)
        have c1 := hc k hlt
        have c2 := hc2 k (by omega)
        obtain ⟨x, hx0⟩ : ∃ x, x = xs.getD k 0 := ⟨_, rfl⟩
        obtain ⟨y, hy0⟩ : ∃ y, y = ys.getD k 0 := ⟨_, rfl⟩
        rw [← hx0] at c1
        rw [← hy0] at c2
        have hlt2 : k < ys.length := by omega
        have HH := Lib.hid (And.intro hsame (And.intro hb (And.intro hx0 (And.intro hy0 hlen))))
        clear hA hB hc hc2 hx0 hy0 hsame hb hlen
        by_cases hxy : x = y
        · have he : (x != y) = false := by simp [hxy]
          have HX := Lib.hid hxy
          clear hxy
          go_wp2
          go_quiet (fail)
          go_wp2
          go_roundw
          case rel =>
            refine ⟨k + 1, by omega, by go_num, fun j hj => ?_, by repeat (first | exact HH.out.2.1 | exact below_drewN HH.out.2.1 _ | refine Below.drew ?_)⟩
            by_cases e : j = k
            · subst e; rw [← HH.out.2.2.1, ← HH.out.2.2.2.1]; exact HX.out
            · exact HH.out.1 j (by omega)
          case measure => simp [intOf]; omega
        · have he : (x != y) = true := by simp [hxy]
          have hne : decide (xs = ys) = false := by
            apply decide_eq_false
            intro e
            apply hxy
            rw [HH.out.2.2.1, HH.out.2.2.2.1, e]
          clear hxy
          go_wp2
          go_quiet (fail)
          go_wp2
          go_ret
          exact ⟨by rw [hne]; rfl, by repeat (first | exact HH.out.2.1 | exact below_drewN HH.out.2.1 _ | refine Below.drew ?_)⟩
      · have hall : xs = ys := getD_ext 0 hlen (fun i hi => hsame i (by omega))
        have hd : decide (xs = ys) = true := decide_eq_true hall
        have HB := Lib.hid hb
        clear hA hB hsame hall hb
        go_wp2
        go_ret
        exact ⟨by rw [hd]; rfl, HB.out⟩
  · have hd : decide (xs = ys) = false := decide_eq_false (fun e => hlen (by rw [e]))
    have he : (((xs.length : Nat) : Int) != ((ys.length : Nat) : Int)) = true := by simp; omega
    clear hA hB
    go_enter Tryd.func32, Tryd.ntmps32
    go_wp2
    go_ret
    exact ⟨by rw [hd]; rfl, Below.refl _ _⟩
/-- is a number in a set? -/
def hasB (s : BitVec 64) (i : Int) : Bool := decide (0 ≤ i ∧ i < 64) && Bv.G s i.toNat
set_option maxHeartbeats 400000 in
theorem rhas_any (s : BitVec 64) (i : Int) (w : World) :
    Calls Tryd.prog 84 #[.int .u64 (Bv.U s), .int .i64 i] w fun e w' => e = .returned (.bool (hasB s i)) ∧ w = w' := by
  by_cases h0 : 0 ≤ i
  · by_cases h1 : i < 64
    · have hd : hasB s i = Bv.G s i.toNat := by unfold hasB; simp [h0, h1]
      rw [hd]
      cases hb : Bv.G s i.toNat
      all_goals
        go_enter Tryd.func84, Tryd.ntmps84
        go_wp2
        go_ret
        exact ⟨rfl, rfl⟩
    · have hd : hasB s i = false := by unfold hasB; simp [h1]
      rw [hd]
      go_enter Tryd.func84, Tryd.ntmps84
      go_wp2
      go_ret
      exact ⟨rfl, rfl⟩
  · have hd : hasB s i = false := by unfold hasB; simp [h0]
    rw [hd]
    go_enter Tryd.func84, Tryd.ntmps84
    go_wp2
    go_ret
    exact ⟨rfl, rfl⟩
theorem hasB_nat (s : BitVec 64) (k : Nat) (hk : k < 64) : hasB s (k : Int) = Bv.G s k := by unfold hasB; simp; omega
theorem rhas_is (s : BitVec 64) (i : Int) (b : Bool) (hb : hasB s i = b) (w : World) :
    Calls Tryd.prog 84 #[.int .u64 (Bv.U s), .int .i64 i] w fun e w' => e = .returned (.bool b) ∧ w = w' := by subst hb; exact rhas_any s i w

/-- a set and a number -/
def withS (s : BitVec 64) (i : Int) : BitVec 64 := if 0 ≤ i ∧ i < 64 then s ||| Bv.bit i.toNat else s
set_option maxHeartbeats 400000 in
theorem rwith_any (s : BitVec 64) (i : Int) (w : World) :
    Calls Tryd.prog 85 #[.int .u64 (Bv.U s), .int .i64 i] w fun e w' => e = .returned (.int .u64 (Bv.U (withS s i))) ∧ w = w' := by
  by_cases h : 0 ≤ i ∧ i < 64
  · obtain ⟨h0, h1⟩ := h
    obtain ⟨k, rfl⟩ : ∃ k : Nat, i = (k : Int) := ⟨i.toNat, by omega⟩
    have hd := hasB_nat s k (by omega)
    cases hb : Bv.G s k
    · have he : withS s (k : Int) = s + Bv.bit k := by
        unfold withS; rw [if_pos ⟨h0, h1⟩, Int.toNat_natCast]; exact (Bv.add_bit s k hb).symm
      rw [he]
      rw [hb] at hd
      have H := Lib.hid hd
      clear hd hb he
      go_enter Tryd.func85, Tryd.ntmps85
      go_wp2_with fail
      refine (rhas_is _ _ _ H.out _).mono ?_
      rintro e w' ⟨rfl, rfl⟩
      go_wp2_with fail
      go_ret
      exact ⟨rfl, rfl⟩
    · have he : withS s (k : Int) = s := by
        unfold withS; rw [if_pos ⟨h0, h1⟩, Int.toNat_natCast]; exact Bv.or_bit_same s k hb
      rw [he]
      rw [hb] at hd
      have H := Lib.hid hd
      clear hd hb he
      go_enter Tryd.func85, Tryd.ntmps85
      go_wp2_with fail
      refine (rhas_is _ _ _ H.out _).mono ?_
      rintro e w' ⟨rfl, rfl⟩
      go_wp2_with fail
      go_ret
      exact ⟨rfl, rfl⟩
  · have he : withS s i = s := by unfold withS; rw [if_neg h]
    have hd : hasB s i = false := by unfold hasB; rw [decide_eq_false h]; rfl
    rw [he]
    have H := Lib.hid hd
    have hc : i < 0 ∨ 63 < i := by omega
    clear hd he h
    rcases hc with h0 | h0
    all_goals
      go_enter Tryd.func85, Tryd.ntmps85
      go_wp2_with fail
      refine (rhas_is _ _ _ H.out _).mono ?_
      rintro e w' ⟨rfl, rfl⟩
      go_wp2_with fail
      go_ret
      exact ⟨rfl, rfl⟩
theorem rwith_is (s : BitVec 64) (i : Int) (t : BitVec 64) (ht : withS s i = t) (w : World) :
    Calls Tryd.prog 85 #[.int .u64 (Bv.U s), .int .i64 i] w fun e w' => e = .returned (.int .u64 (Bv.U t)) ∧ w = w' := by subst ht; exact rwith_any s i w
theorem withS_nat (s : BitVec 64) (k : Nat) (hk : k < 64) : withS s (k : Int) = s ||| Bv.bit k := by unfold withS; rw [if_pos ⟨by omega, by omega⟩, Int.toNat_natCast]

theorem row_nums {w : World} {base n : Nat} {e : TypeId} {v : Value} {l : List Nat} (h : w.ownsRow base e 1 v n (nums l)) : ∃ A cap, v = .slice A n cap ∧ l.length = n ∧ cap ≤ maxLen ∧ IntsAt w A (ints l) := by
  obtain ⟨A, cap, e1, e2, e3, h4⟩ := row_ints h
  exact ⟨A, cap, by rw [e1, ints_len, e2], e2, e3, h4⟩
def intsV (zs : List Int) : List Value := zs.map (Value.int .i64)
theorem intsV_snoc (zs : List Int) (x : Int) : intsV (zs ++ [x]) = intsV zs ++ [Value.int .i64 x] := by simp [intsV]
theorem row_zs {w : World} {base n : Nat} {e : TypeId} {v : Value} {zs : List Int} (h : w.ownsRow base e 1 v n (intsV zs)) : ∃ A cap, v = .slice A zs.length cap ∧ zs.length = n ∧ cap ≤ maxLen ∧ IntsAt w A zs := by
  obtain ⟨A, cap, e1, e2, e3, h4⟩ := row_at h
  have hl : (intsV zs).length = zs.length := by simp [intsV]
  rw [hl] at e1 h4 e2
  refine ⟨A, cap, e1, e2, e3, fun hp => ?_⟩
  obtain ⟨b, rfl, _, hb, hc⟩ := h4 hp
  exact ⟨b, 0, rfl, hb, fun i hi => hc i _ (by simp [intsV, hi])⟩
theorem owns_base {w : World} {b b' n : Nat} {e : TypeId} {size : Nat} {v : Value} {xs : List Value} (h : w.ownsRow b e size v n xs) (hb : b' ≤ b) : w.ownsRow b' e size v n xs :=
  ⟨h.1, h.2.imp id fun ⟨g, cap, cur, h1, h2, h3⟩ => ⟨g, cap, cur, h1, Nat.le_trans hb h2, h3⟩⟩
theorem all_is (n : Int) (t : BitVec 64) (ht : allS n = t) (w : World) :
    Calls Tryd.prog 81 #[.int .i64 n] w fun e w' => e = .returned (.int .u64 (Bv.U t)) ∧ w = w' := by subst ht; exact (all_any n w).mono fun e w' ⟨a, b⟩ => ⟨a, b.symm⟩
theorem first_is (s : BitVec 64) (n : Int) (b : Bool) (hn : firstN s = n) (hb : someB s = b) (w : World) (hT : Tab w) (hw : 0 < w.heap.size) :
    Calls Tryd.prog 75 #[.int .u64 (Bv.U s)] w fun e W' => e = .returned (.tuple #[.int .i64 n, .bool b]) ∧ Below w.heap.size w W' := by
  subst hn hb; exact first_any s w hT hw
theorem allS_below (n : Int) : allS n = Rl.below n := rfl
end
end Go.Proofs.YtknjdfgmejobfaaDoor
