/- reference of layer 3: place, Listed. -/
import Derived.Test.YtknjdfgmejobfaaDoorSj
namespace Go.Proofs.YtknjdfgmejobfaaDoor
open Go.RowKit Go.Shelf

/-- where an integer stands first in a list; -1: nowhere -/
def placeI (zs : List Int) (a : Int) : Int := if zs.idxOf a < zs.length then (zs.idxOf a : Int) else -1
theorem idxOf_first : ∀ (zs : List Int) (k : Nat) (a : Int), k < zs.length → zs.getD k 0 = a → (∀ j, j < k → zs.getD j 0 ≠ a) → zs.idxOf a = k
  | [], k, a, hk, _, _ => by simp at hk
  | z :: zs, 0, a, _, h, _ => by
    have h : z = a := h
    subst h; exact List.idxOf_cons_self
  | z :: zs, k + 1, a, hk, h, hn => by
    have h0 : z ≠ a := hn 0 (by omega)
    rw [List.idxOf_cons, show (z == a) = false from beq_eq_false_iff_ne.2 h0]
    have := idxOf_first zs k a (by simp at hk; omega) h (fun j hj => hn (j + 1) (by omega))
    simp [this]
theorem place_hit {zs : List Int} {k : Nat} {a : Int} (hk : k < zs.length) (h : zs.getD k 0 = a) (hn : ∀ j, j < k → zs.getD j 0 ≠ a) : placeI zs a = (k : Int) := by
  unfold placeI
  rw [idxOf_first zs k a hk h hn, if_pos hk]
theorem place_miss {zs : List Int} {a : Int} (hn : ∀ j, j < zs.length → zs.getD j 0 ≠ a) : placeI zs a = -1 := by
  unfold placeI
  rw [if_neg]
  intro h
  have h1 : a ∈ zs := List.idxOf_lt_length_iff.1 h
  obtain ⟨j, hj, e⟩ := List.getElem_of_mem h1
  exact hn j hj (by rw [List.getD_eq_getElem?_getD, List.getElem?_eq_getElem hj]; exact e)
set_option maxRecDepth 100000 in
set_option maxHeartbeats 1000000 in
theorem place_any (A : Option Addr) (zs : List Int) (cap : Nat) (a : Int) (r : Int) (hr : placeI zs a = r) (w : World) (hlen : zs.length ≤ 1000) (hA : IntsAt w A zs) :
    Calls Tryd.prog 96 #[.slice A zs.length cap, .int .i64 a] w fun e w' => e = .returned (.int .i64 r) ∧ Below w.heap.size w w' := by
  have H := Lib.hid (And.intro hA hr)
  clear hA hr
  go_enter Tryd.func96, Tryd.ntmps96
  go_wp2_with fail
  go_loopw [5] (fun i wr => ∃ k : Nat, k ≤ zs.length ∧ i = .int .i64 k ∧ (∀ j, j < k → zs.getD j 0 ≠ a) ∧ Below w.heap.size w wr) (fun i _ => zs.length - (intOf i).toNat)
  case atStart => exact ⟨0, Nat.zero_le _, rfl, fun j hj => by omega, Below.refl _ _⟩
  case round =>
    obtain ⟨k, hk, rfl, hn, hb⟩ := hrel
    by_cases hlt : k < zs.length
    · obtain ⟨b, off, rfl, hbl, hc⟩ := (H.out.1.below hb (Nat.le_refl _)) (by omega)
      have c1 := hc k hlt
      obtain ⟨z, hz⟩ : ∃ z, zs.getD k 0 = z := ⟨_, rfl⟩
      rw [hz] at c1
      by_cases e : z = a
      · have hres : r = (k : Int) := by rw [← H.out.2]; exact place_hit hlt (hz.trans e) hn
        have he : (z == a) = true := by simp [e]
        have HB := Lib.hid (And.intro hb hres)
        clear hc hz hn hb hres e
        go_wp2_with fail
        go_ret
        exact ⟨by rw [HB.out.2]; rfl, HB.out.1⟩
      · have he : (z == a) = false := beq_eq_false_iff_ne.2 e
        have HB := Lib.hid (And.intro hb (And.intro hn (show zs.getD k 0 ≠ a by rw [hz]; exact e)))
        clear hc hz hn hb e
        go_wp2_with fail
        go_roundw
        case rel =>
          refine ⟨k + 1, by omega, by go_num, fun j hj => ?_, HB.out.1⟩
          by_cases e : j = k
          · subst e; exact HB.out.2.2
          · exact HB.out.2.1 j (by omega)
        case measure => simp [intOf]; omega
    · obtain rfl : k = zs.length := by omega
      have hres : r = -1 := by rw [← H.out.2]; exact place_miss hn
      have HB := Lib.hid (And.intro hb hres)
      clear hn hb hres
      go_wp2_with fail
      go_ret
      exact ⟨by rw [HB.out.2]; rfl, HB.out.1⟩

/-! ### is a list an order? -/
def listedK (zs : List Int) (k : Nat) : Bool := (List.range k).all fun a => decide (zs.count (a : Int) = 1)
def listedB (n : Int) (zs : List Int) : Bool := decide ((zs.length : Int) = n) && listedK zs zs.length
theorem listedK_succ (zs : List Int) (k : Nat) : listedK zs (k + 1) = (listedK zs k && decide (zs.count (k : Int) = 1)) := by
  unfold listedK; rw [List.range_succ, List.all_append]; simp
theorem listedK_mono {zs : List Int} {k m : Nat} (h : k ≤ m) (hf : listedK zs k = false) : listedK zs m = false := by
  unfold listedK at *
  rw [List.all_eq_false] at *
  obtain ⟨a, ha, hx⟩ := hf
  exact ⟨a, List.mem_range.2 (Nat.lt_of_lt_of_le (List.mem_range.1 ha) h), hx⟩
theorem take_count (zs : List Int) (j : Nat) (hj : j < zs.length) (a : Int) : (zs.take (j + 1)).count a = (zs.take j).count a + (if zs.getD j 0 = a then 1 else 0) := by
  have e : zs.take (j + 1) = zs.take j ++ [zs.getD j 0] := by
    rw [List.take_add_one, List.getElem?_eq_getElem hj, List.getD_eq_getElem?_getD, List.getElem?_eq_getElem hj]; rfl
  rw [e, List.count_append]
  by_cases h : zs.getD j 0 = a
  · rw [if_pos h, h]; simp
  · rw [if_neg h, show List.count a [zs.getD j 0] = 0 from List.count_eq_zero.2 (by simp; exact fun e => h (by rw [List.getD_eq_getElem?_getD]; exact e.symm))]
set_option maxRecDepth 100000 in
set_option maxHeartbeats 2000000 in
theorem listed_any (n : Int) (A : Option Addr) (zs : List Int) (cap : Nat) (r : Bool) (hr : listedB n zs = r) (w : World) (hlen : zs.length ≤ 1000) (hA : IntsAt w A zs) :
    Calls Tryd.prog 95 #[.int .i64 n, .slice A zs.length cap] w fun e w' => e = .returned (.bool r) ∧ Below w.heap.size w w' := by
  by_cases hn : (zs.length : Int) = n
  · subst hn
    have hr2 : listedK zs zs.length = r := by rw [← hr]; unfold listedB; simp
    have H := Lib.hid (And.intro hA hr2)
    clear hA hr hr2
    obtain ⟨m, hm⟩ : ∃ m, zs.length = m := ⟨_, rfl⟩
    rw [hm] at hlen H ⊢
    have HM := Lib.hid hm
    clear hm
    have d0 : ((m : Int) != (m : Int)) = false := by simp
    go_enter Tryd.func95, Tryd.ntmps95
    go_wp2_with fail
    go_loopw [5] (fun i wr => ∃ k : Nat, k ≤ m ∧ i = .int .i64 k ∧ listedK zs k = true ∧ Below w.heap.size w wr) (fun i _ => m - (intOf i).toNat)
    case atStart => exact ⟨0, Nat.zero_le _, rfl, rfl, Below.refl _ _⟩
    case round =>
      obtain ⟨k, hk, rfl, hall, hb⟩ := hrel
      by_cases hlt : k < m
      · have R0 := Lib.hid (And.intro hall hb)
        clear hall hb
        go_wp2_with fail
        go_loopw [6, 7] (fun c i wr2 => ∃ j : Nat, j ≤ m ∧ i = .int .i64 j ∧ c = .int .i64 ((zs.take j).count (k : Int)) ∧ Below w.heap.size w wr2) (fun _ i _ => m - (intOf i).toNat)
        case atStart => exact ⟨0, Nat.zero_le _, rfl, rfl, R0.out.2⟩
        case round =>
          obtain ⟨j, hj, rfl, rfl, hb⟩ := hrel
          obtain ⟨c, hc0⟩ : ∃ c, (zs.take j).count (k : Int) = c := ⟨_, rfl⟩
          have hcm : c ≤ 1000 := by
            have := List.count_le_length (a := (k : Int)) (l := zs.take j)
            rw [List.length_take, hc0] at this; omega
          by_cases hjl : j < m
          · obtain ⟨b, off, rfl, hbl, hc⟩ := (H.out.1.below hb (Nat.le_refl _)) (by rw [HM.out]; omega)
            have c1 := hc j (by rw [HM.out]; exact hjl)
            have hst := take_count zs j (by rw [HM.out]; exact hjl) (k : Int)
            obtain ⟨z, hz⟩ : ∃ z, zs.getD j 0 = z := ⟨_, rfl⟩
            rw [hz] at c1 hst
            rw [hc0] at hst ⊢
            by_cases e : z = (k : Int)
            · have he : (z == (k : Int)) = true := by simp [e]
              rw [if_pos e] at hst
              have HB := Lib.hid (And.intro hb hst)
              clear hc hz hb hst hc0 e
              go_wp2_with fail
              go_roundw
              case rel => exact ⟨j + 1, by omega, by go_num, by rw [HB.out.2]; go_num, HB.out.1⟩
              case measure => simp [intOf]; omega
            · have he : (z == (k : Int)) = false := beq_eq_false_iff_ne.2 e
              rw [if_neg e, Nat.add_zero] at hst
              have HB := Lib.hid (And.intro hb hst)
              clear hc hz hb hst hc0 e
              go_wp2_with fail
              go_roundw
              case rel => exact ⟨j + 1, by omega, by go_num, by rw [HB.out.2]; rfl, HB.out.1⟩
              case measure => simp [intOf]; omega
          · obtain rfl : j = m := by omega
            have hfull : (zs.take j).count (k : Int) = zs.count (k : Int) := by rw [← HM.out, List.take_length]
            have hsc := listedK_succ zs k
            rw [← hfull, hc0, R0.out.1, Bool.true_and] at hsc
            rw [hc0]
            by_cases e : c = 1
            · have HB := Lib.hid (And.intro hb (show listedK zs (k + 1) = true by rw [hsc]; exact decide_eq_true e))
              have he : ((c : Int) != 1) = false := by rw [e]; rfl
              have he2 : (c != 1) = false := by rw [e]; rfl
              have HE := Lib.hid e
              clear hb hsc hfull hc0 e
              go_wp2_with fail
              go_roundw
              case rel => exact ⟨k + 1, by omega, by go_num, HB.out.2, HB.out.1⟩
              case measure => simp [intOf]; omega
            · have hres : r = false := by
                rw [← H.out.2]
                exact listedK_mono (show k + 1 ≤ j by omega) (by rw [hsc]; exact decide_eq_false e)
              have he : ((c : Int) != 1) = true := by simp; omega
              have he2 : (c != 1) = true := by simp [e]
              have HB := Lib.hid (And.intro hb hres)
              clear hb hsc hfull hc0 e hres
              go_wp2_with fail
              go_ret
              exact ⟨by rw [HB.out.2]; rfl, HB.out.1⟩
      · obtain rfl : k = m := by omega
        have hres : r = true := by rw [← H.out.2, hall]
        have HB := Lib.hid (And.intro hb hres)
        clear hb hall hres
        go_wp2_with fail
        go_ret
        exact ⟨by rw [HB.out.2]; rfl, HB.out.1⟩
  · have hres : r = false := by rw [← hr]; unfold listedB; rw [decide_eq_false hn, Bool.false_and]
    have he : ((zs.length : Int) != n) = true := by simp [hn]
    have HB := Lib.hid hres
    clear hn hr hA hres
    go_enter Tryd.func95, Tryd.ntmps95
    go_wp2_with fail
    go_ret
    exact ⟨by rw [HB.out]; rfl, Below.refl _ _⟩
end Go.Proofs.YtknjdfgmejobfaaDoor
