/- layer 1's law: Ints, Sets, is. -/
import Derived.Test.YtjnoiahkbdoejaaDoorMh
namespace Go.Proofs.YtjnoiahkbdoejaaDoor
open Go.RowKit Go.Shelf

attribute [local go_sem] Bv.and_u Bv.or_u Bv.andNot_u Bv.wrap_sub1 Bv.eq0 Bv.ne0 Bv.wrap_pow Bv.wrap_powmin Bv.wrap_neg Bv.eq_u Bv.ne_u

/-- the sets l lie from A on -/
def SetsAt (w : World) (A : Option Addr) (l : List (BitVec 64)) : Prop :=
  0 < l.length → ∃ b off, A = some ⟨b, off, none⟩ ∧ b < w.heap.size ∧ ∀ i, i < l.length → w.cell? ⟨b, off + i, none⟩ = some (.int .u64 (Bv.U (l.getD i 0#64)))
theorem SetsAt.below {n : Nat} {w w' : World} {A : Option Addr} {l : List (BitVec 64)} (h : SetsAt w A l) (hb : Below n w w') (hn : w.heap.size ≤ n) : SetsAt w' A l := by
  intro hp
  obtain ⟨b, off, e, hlt, hc⟩ := h hp
  exact ⟨b, off, e, Nat.lt_of_lt_of_le hlt hb.size, fun i hi => (hb.cell (p := ⟨b, off + i, none⟩) (by show b < n; omega)).trans (hc i hi)⟩

theorem row_at {w : World} {base n : Nat} {e : TypeId} {v : Value} {vs : List Value} (h : w.ownsRow base e 1 v n vs) :
    ∃ A cap, v = .slice A vs.length cap ∧ vs.length = n ∧ cap ≤ maxLen ∧ (0 < vs.length → ∃ b, A = some ⟨b, 0, none⟩ ∧ base ≤ b ∧ b < w.heap.size ∧ ∀ i v, vs[i]? = some v → w.cell? ⟨b, 0 + i, none⟩ = some v) := by
  have hl : vs.length = n := by have := h.1; omega
  rcases h.2 with ⟨rfl, rfl⟩ | ⟨g, cap, cur, rfl, hb, hg, hnc, hcm, hcs, ht⟩
  · exact ⟨none, 0, by rw [hl], hl, Nat.zero_le _, fun hp => by omega⟩
  · refine ⟨some ⟨g, 0, none⟩, cap, by rw [hl], hl, hcm, fun _ => ⟨g, rfl, hb, (Array.getElem?_eq_some_iff.1 hg).1, fun i v hv => ?_⟩⟩
    have hc := h.cells (g := g) rfl i v hv
    have hadd : (⟨g, 0, none⟩ : Addr).add i = ⟨g, 0 + i, none⟩ := by unfold Addr.add; split <;> simp_all
    rwa [hadd] at hc
def ints (l : List Nat) : List Int := l.map (fun k : Nat => (k : Int))
theorem ints_len (l : List Nat) : (ints l).length = l.length := by simp [ints]
theorem row_ints {w : World} {base n : Nat} {e : TypeId} {v : Value} {l : List Nat} (h : w.ownsRow base e 1 v n (nums l)) : ∃ A cap, v = .slice A (ints l).length cap ∧ l.length = n ∧ cap ≤ maxLen ∧ IntsAt w A (ints l) := by
  obtain ⟨A, cap, e1, e2, e3, h4⟩ := row_at h
  have hl : (nums l).length = (ints l).length := by simp [nums, ints]
  rw [hl] at e1 h4
  refine ⟨A, cap, e1, by rw [← e2]; simp [nums], e3, fun hp => ?_⟩
  obtain ⟨b, rfl, _, hb, hc⟩ := h4 hp
  refine ⟨b, 0, rfl, hb, fun i hi => hc i _ ?_⟩
  simp only [ints, List.length_map] at hi
  simp [nums, ints, hi]
theorem row_sets {w : World} {base n : Nat} {e : TypeId} {v : Value} {l : List (BitVec 64)} (h : w.ownsRow base e 1 v n (sets l)) : ∃ A cap, v = .slice A l.length cap ∧ l.length = n ∧ cap ≤ maxLen ∧ SetsAt w A l := by
  obtain ⟨A, cap, e1, e2, e3, h4⟩ := row_at h
  have hl : (sets l).length = l.length := by simp [sets]
  rw [hl] at e1 h4
  refine ⟨A, cap, e1, by rw [← e2]; simp [sets], e3, fun hp => ?_⟩
  obtain ⟨b, rfl, _, hb, hc⟩ := h4 hp
  refine ⟨b, 0, rfl, hb, fun i hi => hc i _ ?_⟩
  simp [sets, hi]

theorem getD_ext {α : Type} (d : α) {xs ys : List α} (hl : xs.length = ys.length) (h : ∀ i, i < xs.length → xs.getD i d = ys.getD i d) : xs = ys := by
  apply List.ext_getElem hl
  intro i h1 h2
  have := h i h1
  simpa [List.getD_eq_getElem?_getD, h1, h2] using this

set_option maxHeartbeats 1000000 in
theorem ints_any (A B : Option Addr) (xs ys : List Int) (c d : Nat) (w : World) (hx : xs.length ≤ maxLen) (hy : ys.length ≤ maxLen) (hA : IntsAt w A xs) (hB : IntsAt w B ys) :
    Calls Tryd.prog 15 #[.slice A xs.length c, .slice B ys.length d] w fun e w' => e = .returned (.bool (decide (xs = ys))) ∧ Below w.heap.size w w' := by
  unfold maxLen at hx hy
  by_cases hlen : xs.length = ys.length
  · go_enter Tryd.func15, Tryd.ntmps15
    go_wp2
    go_loopw [13] (fun i wr => ∃ k : Nat, k ≤ xs.length ∧ i = .int .i64 k ∧ (∀ j, j < k → xs.getD j 0 = ys.getD j 0) ∧ Below w.heap.size w wr) (fun i _ => xs.length - (intOf i).toNat)
    case atStart => exact ⟨0, Nat.zero_le _, rfl, fun j hj => by omega, Below.refl _ _⟩
    case round =>
      obtain ⟨k, hk, rfl, hsame, hb⟩ := hrel
      by_cases hlt : k < xs.length
      · obtain ⟨b, off, rfl, hbl, hc⟩ := (hA.below hb (Nat.le_refl _)) (by omega)
        obtain ⟨b2, off2, rfl, hbl2, hc2⟩ := (hB.below hb (Nat.le_refl _)) (by omega)
        have c1 := hc k hlt
        have c2 := hc2 k (by omega)
        obtain ⟨x, hx0⟩ : ∃ x, x = xs.getD k 0 := ⟨_, rfl⟩
        obtain ⟨y, hy0⟩ : ∃ y, y = ys.getD k 0 := ⟨_, rfl⟩
        rw [← hx0] at c1
        rw [← hy0] at c2
        have hlt2 : k < ys.length := by omega
        have HH := Lib.hid (And.intro hsame (And.intro hb (And.intro hx0 (And.intro hy0 hlen))))
        clear hA hB hc hc2 hx0 hy0 hsame hb hlen
        by_cases hxy : x = y
        · have he : (x != y) = false := by simp [hxy]
          have HX := Lib.hid hxy
          clear hxy
          go_wp2
          go_quiet (fail)
          go_wp2
          go_roundw
          case rel =>
            refine ⟨k + 1, by omega, by go_num, fun j hj => ?_, by repeat (first | exact HH.out.2.1 | exact below_drewN HH.out.2.1 _ | refine Below.drew ?_)⟩
            by_cases e : j = k
            · subst e; rw [← HH.out.2.2.1, ← HH.out.2.2.2.1]; exact HX.out
            · exact HH.out.1 j (by omega)
          case measure => simp [intOf]; omega
        · have he : (x != y) = true := by simp [hxy]
          have hne : decide (xs = ys) = false := by
            apply decide_eq_false
            intro e
            apply hxy
            rw [HH.out.2.2.1, HH.out.2.2.2.1, e]
          clear hxy
          go_wp2
          go_quiet (fail)
          go_wp2
          go_ret
          exact ⟨by rw [hne]; rfl, by repeat (first | exact HH.out.2.1 | exact below_drewN HH.out.2.1 _ | refine Below.drew ?_)⟩
      · have hall : xs = ys := getD_ext 0 hlen (fun i hi => hsame i (by omega))
        have hd : decide (xs = ys) = true := decide_eq_true hall
        have HB := Lib.hid hb
        clear hA hB hsame hall hb
        go_wp2
        go_ret
        exact ⟨by rw [hd]; rfl, HB.out⟩
  · have hd : decide (xs = ys) = false := decide_eq_false (fun e => hlen (by rw [e]))
    have he : (((xs.length : Nat) : Int) != ((ys.length : Nat) : Int)) = true := by simp; omega
    clear hA hB
    go_enter Tryd.func15, Tryd.ntmps15
    go_wp2
    go_ret
    exact ⟨by rw [hd]; rfl, Below.refl _ _⟩
set_option maxHeartbeats 1000000 in
theorem setsq_any (A B : Option Addr) (xs ys : List (BitVec 64)) (c d : Nat) (w : World) (hx : xs.length ≤ maxLen) (hy : ys.length ≤ maxLen) (hA : SetsAt w A xs) (hB : SetsAt w B ys) :
    Calls Tryd.prog 28 #[.slice A xs.length c, .slice B ys.length d] w fun e w' => e = .returned (.bool (decide (xs = ys))) ∧ Below w.heap.size w w' := by
  unfold maxLen at hx hy
  by_cases hlen : xs.length = ys.length
  · go_enter Tryd.func28, Tryd.ntmps28
    go_wp2
    go_loopw [13] (fun i wr => ∃ k : Nat, k ≤ xs.length ∧ i = .int .i64 k ∧ (∀ j, j < k → xs.getD j 0#64 = ys.getD j 0#64) ∧ Below w.heap.size w wr) (fun i _ => xs.length - (intOf i).toNat)
    case atStart => exact ⟨0, Nat.zero_le _, rfl, fun j hj => by omega, Below.refl _ _⟩
    case round =>
      obtain ⟨k, hk, rfl, hsame, hb⟩ := hrel
      by_cases hlt : k < xs.length
      · obtain ⟨b, off, rfl, hbl, hc⟩ := (hA.below hb (Nat.le_refl _)) (by omega)
        obtain ⟨b2, off2, rfl, hbl2, hc2⟩ := (hB.below hb (Nat.le_refl _)) (by omega)
        have c1 := hc k hlt
        have c2 := hc2 k (by omega)
        obtain ⟨x, hx0⟩ : ∃ x, x = xs.getD k 0#64 := ⟨_, rfl⟩
        obtain ⟨y, hy0⟩ : ∃ y, y = ys.getD k 0#64 := ⟨_, rfl⟩
        rw [← hx0] at c1
        rw [← hy0] at c2
        have hlt2 : k < ys.length := by omega
        have HH := Lib.hid (And.intro hsame (And.intro hb (And.intro hx0 (And.intro hy0 hlen))))
        clear hA hB hc hc2 hx0 hy0 hsame hb hlen
        by_cases hxy : x = y
        · have he : (x != y) = false := by simp [hxy]
          have HX := Lib.hid hxy
          clear hxy
          go_wp2
          go_quiet (fail)
          go_wp2
          go_roundw
          case rel =>
            refine ⟨k + 1, by omega, by go_num, fun j hj => ?_, by repeat (first | exact HH.out.2.1 | exact below_drewN HH.out.2.1 _ | refine Below.drew ?_)⟩
            by_cases e : j = k
            · subst e; rw [← HH.out.2.2.1, ← HH.out.2.2.2.1]; exact HX.out
            · exact HH.out.1 j (by omega)
          case measure => simp [intOf]; omega
        · have he : (x != y) = true := by simp [hxy]
          have hne : decide (xs = ys) = false := by
            apply decide_eq_false
            intro e
            apply hxy
            rw [HH.out.2.2.1, HH.out.2.2.2.1, e]
          clear hxy
          go_wp2
          go_quiet (fail)
          go_wp2
          go_ret
          exact ⟨by rw [hne]; rfl, by repeat (first | exact HH.out.2.1 | exact below_drewN HH.out.2.1 _ | refine Below.drew ?_)⟩
      · have hall : xs = ys := getD_ext 0#64 hlen (fun i hi => hsame i (by omega))
        have hd : decide (xs = ys) = true := decide_eq_true hall
        have HB := Lib.hid hb
        clear hA hB hsame hall hb
        go_wp2
        go_ret
        exact ⟨by rw [hd]; rfl, HB.out⟩
  · have hd : decide (xs = ys) = false := decide_eq_false (fun e => hlen (by rw [e]))
    have he : (((xs.length : Nat) : Int) != ((ys.length : Nat) : Int)) = true := by simp; omega
    clear hA hB
    go_enter Tryd.func28, Tryd.ntmps28
    go_wp2
    go_ret
    exact ⟨by rw [hd]; rfl, Below.refl _ _⟩

set_option maxHeartbeats 400000 in
theorem is_any (want : Int) (w : World) :
    Calls Tryd.prog 29 #[.int .i64 want] w fun e w' => e = .returned (.func (.func 35) #[] #[.pointer (some ⟨w.heap.size, 0, none⟩)]) ∧ w' = w.alloc (.cells #[.int .i64 want] 3) := by
  go_enter Tryd.func29, Tryd.ntmps29
  go_wp2
  go_ret
  exact ⟨rfl, rfl⟩
set_option maxHeartbeats 400000 in
theorem is_yes (want : Int) (b : Nat) (w : World) (h0 : 0 ≤ want) (hb : w.cell? ⟨b, 0, none⟩ = some (.int .i64 want)) :
    Calls Tryd.prog 35 #[.int .i64 want, .bool true, .pointer (some ⟨b, 0, none⟩)] w fun e w' => e = .returned (.bool true) ∧ w' = w := by
  go_enter Tryd.func35, Tryd.ntmps35
  go_wp2
  go_ret
  exact ⟨rfl, rfl⟩
set_option maxHeartbeats 400000 in
theorem is_no (want : Int) (b : Nat) (w : World) (h0 : want < 0) (hb : w.cell? ⟨b, 0, none⟩ = some (.int .i64 want)) :
    Calls Tryd.prog 35 #[.int .i64 0, .bool false, .pointer (some ⟨b, 0, none⟩)] w fun e w' => e = .returned (.bool true) ∧ w' = w := by
  go_enter Tryd.func35, Tryd.ntmps35
  go_wp2
  go_ret
  exact ⟨by have hd : decide (0 ≤ want) = false := decide_eq_false (by omega)
            show Ending.returned (.bool (!decide (0 ≤ want))) = _
            rw [hd]; rfl, rfl⟩
end Go.Proofs.YtjnoiahkbdoejaaDoor
