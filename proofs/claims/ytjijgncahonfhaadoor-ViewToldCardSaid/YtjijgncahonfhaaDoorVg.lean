/- the reference of layer 19: Note, Told, Least. -/
import Derived.Test.YtjijgncahonfhaaDoorVe
namespace Go.Proofs.YtjijgncahonfhaaDoor
open Go.RowKit Go.Shelf

attribute [local go_sem] Bv.and_u Bv.or_u Bv.andNot_u Bv.wrap_sub1 Bv.eq0 Bv.ne0 Bv.wrap_pow Bv.wrap_powmin Bv.wrap_neg Bv.shr_min Bv.shr_pow Bv.tmod2 Bv.wrap_add Bv.B1_eq1 Bv.B1_eq0 Bv.B1_ne1 Bv.B1_ne0

set_option maxHeartbeats 400000 in
theorem rnote_no (k : Int) (m : Int) (a : Bool) (c : Int) (w : World) (_h0 : 0 ≤ c) (h : ¬ ((k = 1 ∨ k = 2 ∨ k = 3) ∧ c ≤ 3)) :
    Calls Tryd.prog 27 #[.agg #[.int .u8 k, .int .u64 m, .bool a], .int .u8 c] w fun e w' => e = .returned (.agg #[.int .u8 k, .int .u64 m, .bool a]) ∧ Below w.heap.size w w' := by
  by_cases hk : k = 1 ∨ k = 2 ∨ k = 3
  · have e1 : decide (k = 1 ∨ k = 2 ∨ k = 3) = true := by simpa using hk
    have e2 : 4 ≤ c := by
      apply Int.le_of_sub_nonneg
      have : ¬ c ≤ 3 := fun h2 => h ⟨hk, h2⟩
      omega
    clear h hk
    go_enter Tryd.func27, Tryd.ntmps27
    go_wp2_with (first | (go_at_call 22; refine (rkind_any _ _).mono ?_; rintro e w' ⟨rfl, rfl⟩))
    exact bodyPost_ret (v := .agg #[.int .u8 k, .int .u64 m, .bool a]) (by simp [results, Tryd.results27, go_sem]) rfl ⟨rfl, by repeat (first | exact Below.refl _ _ | (refine Below.alloc ?_ (by simp; try omega) _))⟩
  · have e1 : decide (k = 1 ∨ k = 2 ∨ k = 3) = false := by simpa using hk
    clear h hk
    go_enter Tryd.func27, Tryd.ntmps27
    go_wp2_with (first | (go_at_call 22; refine (rkind_any _ _).mono ?_; rintro e w' ⟨rfl, rfl⟩))
    exact bodyPost_ret (v := .agg #[.int .u8 k, .int .u64 m, .bool a]) (by simp [results, Tryd.results27, go_sem]) rfl ⟨rfl, by repeat (first | exact Below.refl _ _ | (refine Below.alloc ?_ (by simp; try omega) _))⟩

set_option maxHeartbeats 400000 in
theorem rnote_1has (m : BitVec 64) (a : Bool) (c : Int) (w : World) (h0 : 0 ≤ c) (h1 : c ≤ 3) (hb : hasB m c = true) :
    Calls Tryd.prog 27 #[.agg #[.int .u8 1, .int .u64 (Bv.U m), .bool a], .int .u8 c] w fun e w' => e = .returned (.agg #[.int .u8 1, .int .u64 (Bv.U m), .bool a]) ∧ Below w.heap.size w w' := by
  go_enter Tryd.func27, Tryd.ntmps27
  go_wp2_with (first | (go_at_call 22; refine (rkind_any _ _).mono ?_; rintro e w' ⟨rfl, rfl⟩) | (go_at_call 26; refine (rhas_any _ _ _).mono ?_; rintro e w' ⟨rfl, rfl⟩) | (go_at_call 35; refine (rbits_any _ _ _).mono ?_; rintro e w' ⟨rfl, rfl⟩))
  exact bodyPost_ret (v := .agg #[.int .u8 1, .int .u64 (Bv.U m), .bool a]) (by simp [results, Tryd.results27, go_sem]) rfl ⟨rfl, by repeat (first | exact Below.refl _ _ | (refine Below.drew ?_) | (refine Below.alloc ?_ (by simp; try omega) _))⟩
set_option maxHeartbeats 400000 in
theorem rnote_1add (m : BitVec 64) (a : Bool) (c : Int) (w : World) (h0 : 0 ≤ c) (h1 : c ≤ 3) (hb : hasB m c = false) :
    Calls Tryd.prog 27 #[.agg #[.int .u8 1, .int .u64 (Bv.U m), .bool a], .int .u8 c] w fun e w' => e = .returned (.agg #[.int .u8 1, .int .u64 (Bv.U (m + Bv.bit c.toNat)), .bool a]) ∧ Below w.heap.size w w' := by
  go_enter Tryd.func27, Tryd.ntmps27
  go_wp2_with (first | (go_at_call 22; refine (rkind_any _ _).mono ?_; rintro e w' ⟨rfl, rfl⟩) | (go_at_call 26; refine (rhas_any _ _ _).mono ?_; rintro e w' ⟨rfl, rfl⟩) | (go_at_call 35; refine (rbits_any _ _ _).mono ?_; rintro e w' ⟨rfl, rfl⟩))
  go_region
  go_wp2
  exact bodyPost_ret (v := .agg #[.int .u8 1, .int .u64 (Bv.U (m + Bv.bit c.toNat)), .bool a]) (by simp [results, Tryd.results27, go_sem]) rfl ⟨rfl, by repeat (first | exact Below.refl _ _ | (refine Below.drew ?_) | (refine Below.alloc ?_ (by simp; try omega) _))⟩
set_option maxHeartbeats 400000 in
theorem rnote_3has (m : BitVec 64) (a : Bool) (c : Int) (w : World) (h0 : 0 ≤ c) (h1 : c ≤ 3) (hb : hasB m (c / 2) = true) :
    Calls Tryd.prog 27 #[.agg #[.int .u8 3, .int .u64 (Bv.U m), .bool a], .int .u8 c] w fun e w' => e = .returned (.agg #[.int .u8 3, .int .u64 (Bv.U m), .bool a]) ∧ Below w.heap.size w w' := by
  go_enter Tryd.func27, Tryd.ntmps27
  go_wp2_with (first | (go_at_call 22; refine (rkind_any _ _).mono ?_; rintro e w' ⟨rfl, rfl⟩) | (go_at_call 26; refine (rhas_any _ _ _).mono ?_; rintro e w' ⟨rfl, rfl⟩) | (go_at_call 35; refine (rbits_any _ _ _).mono ?_; rintro e w' ⟨rfl, rfl⟩))
  exact bodyPost_ret (v := .agg #[.int .u8 3, .int .u64 (Bv.U m), .bool a]) (by simp [results, Tryd.results27, go_sem]) rfl ⟨rfl, by repeat (first | exact Below.refl _ _ | (refine Below.drew ?_) | (refine Below.alloc ?_ (by simp; try omega) _))⟩
set_option maxHeartbeats 400000 in
theorem rnote_3add (m : BitVec 64) (a : Bool) (c : Int) (w : World) (h0 : 0 ≤ c) (h1 : c ≤ 3) (hb : hasB m (c / 2) = false) :
    Calls Tryd.prog 27 #[.agg #[.int .u8 3, .int .u64 (Bv.U m), .bool a], .int .u8 c] w fun e w' => e = .returned (.agg #[.int .u8 3, .int .u64 (Bv.U (m + Bv.bit (c / 2).toNat)), .bool a]) ∧ Below w.heap.size w w' := by
  go_enter Tryd.func27, Tryd.ntmps27
  go_wp2_with (first | (go_at_call 22; refine (rkind_any _ _).mono ?_; rintro e w' ⟨rfl, rfl⟩) | (go_at_call 26; refine (rhas_any _ _ _).mono ?_; rintro e w' ⟨rfl, rfl⟩) | (go_at_call 35; refine (rbits_any _ _ _).mono ?_; rintro e w' ⟨rfl, rfl⟩))
  go_region
  go_wp2
  exact bodyPost_ret (v := .agg #[.int .u8 3, .int .u64 (Bv.U (m + Bv.bit (c / 2).toNat)), .bool a]) (by simp [results, Tryd.results27, go_sem]) rfl ⟨rfl, by repeat (first | exact Below.refl _ _ | (refine Below.drew ?_) | (refine Below.alloc ?_ (by simp; try omega) _))⟩
set_option maxHeartbeats 400000 in
theorem rnote_2has (m : BitVec 64) (a : Bool) (c : Int) (w : World) (h0 : 0 ≤ c) (h1 : c ≤ 3) (hb : hasB m c = true) :
    Calls Tryd.prog 27 #[.agg #[.int .u8 2, .int .u64 (Bv.U m), .bool a], .int .u8 c] w fun e w' => e = .returned (.agg #[.int .u8 2, .int .u64 (Bv.U m), .bool a]) ∧ Below w.heap.size w w' := by
  go_enter Tryd.func27, Tryd.ntmps27
  go_wp2_with (first | (go_at_call 22; refine (rkind_any _ _).mono ?_; rintro e w' ⟨rfl, rfl⟩) | (go_at_call 26; refine (rhas_any _ _ _).mono ?_; rintro e w' ⟨rfl, rfl⟩) | (go_at_call 35; refine (rbits_any _ _ _).mono ?_; rintro e w' ⟨rfl, rfl⟩))
  exact bodyPost_ret (v := .agg #[.int .u8 2, .int .u64 (Bv.U m), .bool a]) (by simp [results, Tryd.results27, go_sem]) rfl ⟨rfl, by repeat (first | exact Below.refl _ _ | (refine Below.drew ?_) | (refine Below.alloc ?_ (by simp; try omega) _))⟩
set_option maxHeartbeats 400000 in
theorem rnote_2all (m : BitVec 64) (c : Int) (w : World) (h0 : 0 ≤ c) (h1 : c ≤ 3) (hb : hasB m c = false) :
    Calls Tryd.prog 27 #[.agg #[.int .u8 2, .int .u64 (Bv.U m), .bool true], .int .u8 c] w fun e w' => e = .returned (.agg #[.int .u8 2, .int .u64 (Bv.U m), .bool true]) ∧ Below w.heap.size w w' := by
  go_enter Tryd.func27, Tryd.ntmps27
  go_wp2_with (first | (go_at_call 22; refine (rkind_any _ _).mono ?_; rintro e w' ⟨rfl, rfl⟩) | (go_at_call 26; refine (rhas_any _ _ _).mono ?_; rintro e w' ⟨rfl, rfl⟩) | (go_at_call 35; refine (rbits_any _ _ _).mono ?_; rintro e w' ⟨rfl, rfl⟩))
  exact bodyPost_ret (v := .agg #[.int .u8 2, .int .u64 (Bv.U m), .bool true]) (by simp [results, Tryd.results27, go_sem]) rfl ⟨rfl, by repeat (first | exact Below.refl _ _ | (refine Below.drew ?_) | (refine Below.alloc ?_ (by simp; try omega) _))⟩
set_option maxHeartbeats 400000 in
theorem rnote_2full (m : BitVec 64) (c : Int) (w : World) (h0 : 0 ≤ c) (h1 : c ≤ 3) (hb : hasB m c = false) (hl : 2 ≤ (Bs.elems m).length) :
    Calls Tryd.prog 27 #[.agg #[.int .u8 2, .int .u64 (Bv.U m), .bool false], .int .u8 c] w fun e w' => e = .returned (.agg #[.int .u8 2, .int .u64 0, .bool true]) ∧ Below w.heap.size w w' := by
  go_enter Tryd.func27, Tryd.ntmps27
  go_wp2_with (first | (go_at_call 22; refine (rkind_any _ _).mono ?_; rintro e w' ⟨rfl, rfl⟩) | (go_at_call 26; refine (rhas_any _ _ _).mono ?_; rintro e w' ⟨rfl, rfl⟩) | (go_at_call 35; refine (rbits_any _ _ _).mono ?_; rintro e w' ⟨rfl, rfl⟩))
  exact bodyPost_ret (v := .agg #[.int .u8 2, .int .u64 0, .bool true]) (by simp [results, Tryd.results27, go_sem]) rfl ⟨rfl, by repeat (first | exact Below.refl _ _ | (refine Below.drew ?_) | (refine Below.alloc ?_ (by simp; try omega) _))⟩
set_option maxHeartbeats 400000 in
theorem rnote_2add (m : BitVec 64) (c : Int) (w : World) (h0 : 0 ≤ c) (h1 : c ≤ 3) (hb : hasB m c = false) (hl : ¬ 2 ≤ (Bs.elems m).length) :
    Calls Tryd.prog 27 #[.agg #[.int .u8 2, .int .u64 (Bv.U m), .bool false], .int .u8 c] w fun e w' => e = .returned (.agg #[.int .u8 2, .int .u64 (Bv.U (m + Bv.bit c.toNat)), .bool false]) ∧ Below w.heap.size w w' := by
  go_enter Tryd.func27, Tryd.ntmps27
  go_wp2_with (first | (go_at_call 22; refine (rkind_any _ _).mono ?_; rintro e w' ⟨rfl, rfl⟩) | (go_at_call 26; refine (rhas_any _ _ _).mono ?_; rintro e w' ⟨rfl, rfl⟩) | (go_at_call 35; refine (rbits_any _ _ _).mono ?_; rintro e w' ⟨rfl, rfl⟩))
  go_region
  go_wp2
  exact bodyPost_ret (v := .agg #[.int .u8 2, .int .u64 (Bv.U (m + Bv.bit c.toNat)), .bool false]) (by simp [results, Tryd.results27, go_sem]) rfl ⟨rfl, by repeat (first | exact Below.refl _ _ | (refine Below.drew ?_) | (refine Below.alloc ?_ (by simp; try omega) _))⟩

/-- the reference's Note -/
def rnoteM (k : Int) (m : BitVec 64) (a : Bool) (c : Int) : BitVec 64 :=
  if (k = 1 ∨ k = 2 ∨ k = 3) ∧ c ≤ 3 then
    (if hasB m (if k = 3 then c / 2 else c) = true ∨ (k = 2 ∧ a = true) then m
     else if k = 2 ∧ 2 ≤ (Bs.elems m).length then 0#64 else m + Bv.bit (if k = 3 then c / 2 else c).toNat)
  else m
def rnoteA (k : Int) (m : BitVec 64) (a : Bool) (c : Int) : Bool :=
  if (k = 1 ∨ k = 2 ∨ k = 3) ∧ c ≤ 3 then
    (if hasB m (if k = 3 then c / 2 else c) = true ∨ (k = 2 ∧ a = true) then a
     else if k = 2 ∧ 2 ≤ (Bs.elems m).length then true else a)
  else a
theorem rnote_any (k : Int) (m : BitVec 64) (a : Bool) (c : Int) (w : World) (h0 : 0 ≤ c) :
    Calls Tryd.prog 27 #[.agg #[.int .u8 k, .int .u64 (Bv.U m), .bool a], .int .u8 c] w fun e w' => e = .returned (.agg #[.int .u8 k, .int .u64 (Bv.U (rnoteM k m a c)), .bool (rnoteA k m a c)]) ∧ Below w.heap.size w w' := by
  by_cases h : (k = 1 ∨ k = 2 ∨ k = 3) ∧ c ≤ 3
  · unfold rnoteM rnoteA
    rw [if_pos h, if_pos h]
    obtain ⟨hk, h1⟩ := h
    rcases hk with rfl | rfl | rfl
    · rw [if_neg (by omega : ¬ (1 : Int) = 3)]
      cases hb : hasB m c
      · simp only [Bool.false_eq_true, false_or]; exact rnote_1add m a c w h0 h1 hb
      · simp only [true_or, if_true]; exact rnote_1has m a c w h0 h1 hb
    · rw [if_neg (by omega : ¬ (2 : Int) = 3)]
      cases hb : hasB m c
      · cases a
        · by_cases hl : 2 ≤ (Bs.elems m).length
          · simp only [Bool.false_eq_true, and_false, or_self, if_false, true_and, hl, if_true]; exact rnote_2full m c w h0 h1 hb hl
          · simp only [Bool.false_eq_true, and_false, or_self, if_false, hl]; exact rnote_2add m c w h0 h1 hb hl
        · simp only [and_self, or_true, if_true]; exact rnote_2all m c w h0 h1 hb
      · simp only [true_or, if_true]; exact rnote_2has m a c w h0 h1 hb
    · rw [if_pos (rfl : (3 : Int) = 3)]
      cases hb : hasB m (c / 2)
      · simp only [Bool.false_eq_true, false_or]; exact rnote_3add m a c w h0 h1 hb
      · simp only [true_or, if_true]; exact rnote_3has m a c w h0 h1 hb
  · have e1 : rnoteM k m a c = m := by unfold rnoteM; rw [if_neg h]
    have e2 : rnoteA k m a c = a := by unfold rnoteA; rw [if_neg h]
    rw [e1, e2]; exact rnote_no k _ a c w h0 h
end Go.Proofs.YtjijgncahonfhaaDoor
