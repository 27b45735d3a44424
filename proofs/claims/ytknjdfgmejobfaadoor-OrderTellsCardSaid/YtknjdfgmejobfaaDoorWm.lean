/- layer 3's law: the walk of OrderTells: what it compares. -/
import Derived.Test.YtknjdfgmejobfaaDoorWl
import Derived.Test.YtknjdfgmejobfaaDoorWb
import Derived.Test.YtknjdfgmejobfaaDoorSn
namespace Go.Proofs.YtknjdfgmejobfaaDoor
open Go.RowKit Go.Shelf

theorem orders_le (n : Int) (f : Rl.Rows) (most : Int) : (ordersR n f most).length ≤ 10000 ∧ ∀ x ∈ ordersR n f most, x.length ≤ 64 := by
  unfold ordersR
  split
  · rename_i h
    rw [Bool.and_eq_true, decide_eq_true_eq] at h
    have h1 := h.1
    unfold validB at h1
    rw [Bool.and_eq_true, decide_eq_true_eq] at h1
    exact ⟨by omega, fun x hx => ord_len hx⟩
  · exact ⟨by simp, fun x hx => by simp at hx⟩
theorem count_len (n : Int) (f : Rl.Rows) (most : Int) : countR n f most = ((ordersR n f most).length : Int) := by
  unfold countR ordersR
  split
  · rfl
  · rfl
theorem orders_at (n : Int) (f : Rl.Rows) (most : Int) (l : List (List Nat)) (E : Int) (hl : ordersR n f most = l) (hE : ordersE n f most = E) (w : World) (zf : Rl.Z f) (hT : Tab w ∧ 0 < w.heap.size) :
    Calls Tryd.prog 46 #[.agg (relC n f), .int .i64 most] w fun e w' => ∃ A c, e = .returned (.tuple #[.slice A l.length c, .int .i64 E]) ∧ ListsAt w' A l ∧ Below w.heap.size w w' := by
  refine (orders_any n f most w zf hT.1 hT.2).mono ?_
  rw [hl, hE]
  rintro e w' ⟨v, rfl, hv, hb⟩
  obtain ⟨A, c, rfl, hA⟩ := lists_at hv (fun x hx => (orders_le n f most).2 x (by rw [hl]; exact hx))
  exact ⟨A, c, rfl, hA, hb⟩
theorem rorders_at (n : Int) (f : Rl.Rows) (most : Int) (l : List (List Nat)) (E : Int) (hl : ordersR n f most = l) (hE : ordersE n f most = E) (w : World) (zf : Rl.Z f) (hT : Tab w ∧ 0 < w.heap.size) :
    Calls Tryd.prog 47 #[.agg (relC n f), .int .i64 most] w fun e w' => ∃ A c, e = .returned (.tuple #[.slice A l.length c, .int .i64 E]) ∧ ListsAt w' A l ∧ Below w.heap.size w w' := by
  refine (rorders_any n f most w zf hT.1 hT.2).mono ?_
  rw [hl, hE]
  rintro e w' ⟨v, rfl, hv, hb⟩
  obtain ⟨A, c, rfl, hA⟩ := lists_at hv (fun x hx => (orders_le n f most).2 x (by rw [hl]; exact hx))
  exact ⟨A, c, rfl, hA, hb⟩
theorem count_at (n : Int) (f : Rl.Rows) (most : Int) (l : List (List Nat)) (E : Int) (hl : ordersR n f most = l) (hE : ordersE n f most = E) (w : World) (zf : Rl.Z f) (hT : Tab w ∧ 0 < w.heap.size) :
    Calls Tryd.prog 48 #[.agg (relC n f), .int .i64 most] w fun e w' => e = .returned (.tuple #[.int .i64 l.length, .int .i64 E]) ∧ Below w.heap.size w w' := by
  have h := count_any n f most w zf hT.1 hT.2
  rw [count_len, hl, hE] at h
  exact h
theorem total_at (n : Int) (A : Option Addr) (zs : List Int) (cap : Nat) (N : Int) (F : Rl.Rows) (E : Int) (hN : totalN n zs = N) (hF : totalF n zs = F) (hE : totalE n zs = E) (w : World) (hA : IntsAt w A zs) :
    Calls Tryd.prog 49 #[.int .i64 n, .slice A zs.length cap] w fun e w' => e = .returned (.tuple #[.agg (relC N F), .int .i64 E]) ∧ Below w.heap.size w w' := by
  have h := total_any n A zs cap w hA
  rw [hN, hF, hE] at h
  exact h
theorem rtotal_at (n : Int) (A : Option Addr) (zs : List Int) (cap : Nat) (N : Int) (F : Rl.Rows) (ok : Bool) (hN : totalN n zs = N) (hF : totalF n zs = F) (hok : okL n zs = ok) (w : World) (hlen : zs.length ≤ 1000) (hA : IntsAt w A zs) :
    Calls Tryd.prog 50 #[.int .i64 n, .slice A zs.length cap] w fun e w' => e = .returned (.tuple #[.agg (relC N F), .bool ok]) ∧ Below w.heap.size w w' := by
  have h := rtotal_any n A zs cap w hlen hA
  rw [hN, hF, hok] at h
  exact h
theorem oof_at (n : Int) (f : Rl.Rows) (L : List Nat) (s : Bool) (hL : (ofO n f).getD [] = L) (hs : (ofO n f).isSome = s) (w : World) (zf : Rl.Z f) (hT : Tab w ∧ 0 < w.heap.size) :
    Calls Tryd.prog 51 #[.agg (relC n f)] w fun e w' => ∃ A c, e = .returned (.tuple #[.slice A L.length c, .bool s]) ∧ IntsAt w' A (ints L) ∧ Below w.heap.size w w' := by
  refine (oof_any n f w zf hT.1 hT.2).mono ?_
  rintro e w' ⟨v, rfl, hrow, hb⟩
  rw [hL] at hrow
  obtain ⟨A, c, rfl, _, _, hI⟩ := row_nums hrow
  exact ⟨A, c, by rw [hs], hI, hb⟩
theorem rof_at (n : Int) (f : Rl.Rows) (L : List Nat) (s : Bool) (hL : (ofO n f).getD [] = L) (hs : (ofO n f).isSome = s) (w : World) (zf : Rl.Z f) :
    Calls Tryd.prog 52 #[.agg (relC n f)] w fun e w' => ∃ A c, e = .returned (.tuple #[.slice A L.length c, .bool s]) ∧ IntsAt w' A (ints L) ∧ Below w.heap.size w w' := by
  have key : Calls Tryd.prog 52 #[.agg (relC n f)] w (TopOut (ofO n f) w) := by
    cases hR : Rl.rightB n f
    · have h0 : ofO n f = none := by unfold ofO topR; rw [hR]; rfl
      rw [h0]; exact rof_bad3 n f w zf hR
    · obtain ⟨m, rfl, oF⟩ := Rl.right_nat zf hR
      exact rof_yes3 m f w oF _ (rofO_eq oF)
  refine key.mono ?_
  rintro e w' ⟨v, rfl, hrow, hb⟩
  rw [hL] at hrow
  obtain ⟨A, c, rfl, _, _, hI⟩ := row_nums hrow
  exact ⟨A, c, by rw [hs], hI, hb⟩
theorem of_le (n : Int) (f : Rl.Rows) (zf : Rl.Z f) : ((ofO n f).getD []).length ≤ 64 := by
  cases h : ofO n f with
  | none => simp
  | some L =>
    unfold ofO at h
    rw [Option.filter_eq_some_iff] at h
    have ht := h.1
    unfold topR at ht
    split at ht
    · rename_i hR
      obtain ⟨m, rfl, oF⟩ := Rl.right_nat zf hR
      rw [Int.toNat_natCast] at ht
      have hls := Rl.top_some oF ht
      have := nodup_len hls.1 hls.2.1
      have := oF.le
      show L.length ≤ 64
      omega
    · cases ht
theorem place_idx {L : List Nat} {a : Nat} (ha : a ∈ L) : placeI (ints L) (a : Int) = (L.idxOf a : Int) := by
  have hlt := List.idxOf_lt_length_of_mem ha
  refine place_hit (k := L.idxOf a) (by rw [ints_len]; exact hlt) ?_ fun j hj => ?_
  · rw [ints_get (List.getElem?_eq_getElem hlt), List.getElem_idxOf hlt]
  · rw [ints_get (List.getElem?_eq_getElem (show j < L.length by omega))]
    intro e
    have h1 : L[j]'(by omega) = a := by omega
    have h2 := List.not_of_lt_findIdx (p := fun x => x == a) (xs := L) (i := j) (by unfold List.idxOf at hj; exact hj)
    simp [h1] at h2
theorem keeps_same (n : Int) (f : Rl.Rows) (zs : List Int) (zf : Rl.Z f) : rkeepsB n f zs = keepsB n f zs := by
  unfold rkeepsB keepsB
  cases hR : Rl.rightB n f
  · rfl
  · obtain ⟨m, rfl, oF⟩ := Rl.right_nat zf hR
    rw [okL_listed, decide_eq_true (show (0 : Int) ≤ (m : Int) ∧ (m : Int) ≤ 48 by have := oF.le; omega), Bool.true_and, Bool.true_and, Int.toNat_natCast]
    cases hL : listedB m zs
    · rfl
    · rw [Bool.true_and, Bool.true_and]
      obtain ⟨h1, h2, h3⟩ := (listed_iff m zs).1 hL
      have e : zs = ints (natL zs) := (ints_natL (fun z hz => (h2 z hz).1)).symm
      have hok : okL m zs = true := by rw [okL_listed, hL, decide_eq_true (show (0 : Int) ≤ (m : Int) ∧ (m : Int) ≤ 48 by have := oF.le; omega)]; rfl
      obtain ⟨m2, e2, _, _, g1, g2, g3⟩ := okL_parts hok
      obtain rfl : m = m2 := by omega
      have fL : Full m (natL zs) := full_of g1 g2 g3
      generalize natL zs = L at e fL
      subst e
      rw [Bool.eq_iff_iff, keeps_iff oF]
      unfold okRows okRow badP
      simp only [List.all_eq_true, List.mem_range]
      constructor
      · intro h a b hb
        have hin := oF.in_ a b hb
        have h4 := h a hin.1 b hin.2
        rw [pairB_ok oF, hb, place_idx ((fL.mem a).2 hin.1), place_idx ((fL.mem b).2 hin.2)] at h4
        simp at h4
        omega
      · intro h a ha b hb
        rw [pairB_ok oF, place_idx ((fL.mem a).2 ha), place_idx ((fL.mem b).2 hb)]
        cases hbit : Rl.bit f a b
        · rfl
        · have := h a b hbit
          simp; omega
theorem rkeeps_at (n : Int) (f : Rl.Rows) (A : Option Addr) (zs : List Int) (cap : Nat) (b : Bool) (hb : keepsB n f zs = b) (w : World) (zf : Rl.Z f) (hlen : zs.length ≤ 1000) (hA : IntsAt w A zs) :
    Calls Tryd.prog 55 #[.agg (relC n f), .slice A zs.length cap] w fun e w' => e = .returned (.bool b) ∧ Below w.heap.size w w' :=
  rkeeps_any n f A zs cap b (by rw [keeps_same n f zs zf]; exact hb) w zf hlen hA
theorem keeps_at (n : Int) (f : Rl.Rows) (A : Option Addr) (zs : List Int) (cap : Nat) (b : Bool) (hb : keepsB n f zs = b) (w : World) (zf : Rl.Z f) (hA : IntsAt w A zs) (hT : Tab w ∧ 0 < w.heap.size) :
    Calls Tryd.prog 54 #[.agg (relC n f), .slice A zs.length cap] w fun e w' => e = .returned (.bool b) ∧ Below w.heap.size w w' := by
  subst hb; exact keeps_any n f A zs cap w zf hA hT.1 hT.2
theorem awake3_at (w : World) (hT : Tab w ∧ 0 < w.heap.size) : Calls Tryd.prog 45 #[] w fun e w' => e = .returned (.bool true) ∧ Below w.heap.size w w' := awake_any3 w hT.1 hT.2
theorem lists_eq (A B : Option Addr) (l : List (List Nat)) (c d : Nat) (w : World) (hl : l.length ≤ maxLen) (hA : ListsAt w A l) (hB : ListsAt w B l) :
    Calls Tryd.prog 53 #[.slice A l.length c, .slice B l.length d] w fun e w' => e = .returned (.bool true) ∧ Below w.heap.size w w' := lists_any A B l l c d w hl hl hA hB true (by simp)
theorem ints_eq (A B : Option Addr) (L : List Nat) (c d : Nat) (w : World) (hL : L.length ≤ 64) (hA : IntsAt w A (ints L)) (hB : IntsAt w B (ints L)) :
    Calls Tryd.prog 32 #[.slice A L.length c, .slice B L.length d] w fun e w' => e = .returned (.bool true) ∧ Below w.heap.size w w' := ints_dec A B L L c d true w (by simp) hL hL hA hB
end Go.Proofs.YtknjdfgmejobfaaDoor
