/- package view: how each Kind records; Note. -/
import Derived.Test.YtjijgncahonfhaaDoorVb
namespace Go.Proofs.YtjijgncahonfhaaDoor
open Go.RowKit Go.Shelf

attribute [local go_sem] Bv.and_u Bv.or_u Bv.andNot_u Bv.wrap_sub1 Bv.eq0 Bv.ne0 Bv.wrap_pow Bv.wrap_powmin Bv.wrap_neg

set_option maxHeartbeats 400000 in
theorem full_any (k : Int) (m : BitVec 64) (a : Bool) (c : Int) (w : World) (h0 : 0 ≤ c) (h1 : c ≤ 3) :
    Calls Tryd.prog 36 #[.agg #[.int .u8 k, .int .u64 (Bv.U m), .bool a], .int .u8 c] w fun e w' => e = .returned (.agg #[.int .u8 k, .int .u64 (Bv.U (m ||| Bv.bit c.toNat)), .bool a]) ∧ Below w.heap.size w w' := by
  go_enter Tryd.func36, Tryd.ntmps36
  go_wp2
  exact bodyPost_ret (v := .agg #[.int .u8 k, .int .u64 (Bv.U (m ||| Bv.bit c.toNat)), .bool a]) (by simp [results, Tryd.results36, go_sem]) rfl ⟨rfl, by repeat (first | exact Below.refl _ _ | (refine Below.alloc ?_ (by simp; try omega) _))⟩
set_option maxHeartbeats 400000 in
theorem group_any (k : Int) (m : BitVec 64) (a : Bool) (c : Int) (w : World) (h0 : 0 ≤ c) (h1 : c ≤ 3) :
    Calls Tryd.prog 38 #[.agg #[.int .u8 k, .int .u64 (Bv.U m), .bool a], .int .u8 c] w fun e w' => e = .returned (.agg #[.int .u8 k, .int .u64 (Bv.U (m ||| Bv.bit (c / 2).toNat)), .bool a]) ∧ Below w.heap.size w w' := by
  go_enter Tryd.func38, Tryd.ntmps38
  go_wp2
  exact bodyPost_ret (v := .agg #[.int .u8 k, .int .u64 (Bv.U (m ||| Bv.bit (c / 2).toNat)), .bool a]) (by simp [results, Tryd.results38, go_sem]) rfl ⟨rfl, by repeat (first | exact Below.refl _ _ | (refine Below.alloc ?_ (by simp; try omega) _))⟩

set_option maxHeartbeats 400000 in
theorem two_all (k : Int) (m : BitVec 64) (c : Int) (w : World) (h0 : 0 ≤ c) (h1 : c ≤ 3) :
    Calls Tryd.prog 37 #[.agg #[.int .u8 k, .int .u64 (Bv.U m), .bool true], .int .u8 c] w fun e w' => e = .returned (.agg #[.int .u8 k, .int .u64 (Bv.U m), .bool true]) ∧ Below w.heap.size w w' := by
  go_enter Tryd.func37, Tryd.ntmps37
  go_wp2
  exact bodyPost_ret (v := .agg #[.int .u8 k, .int .u64 (Bv.U m), .bool true]) (by simp [results, Tryd.results37, go_sem]) rfl ⟨rfl, by repeat (first | exact Below.refl _ _ | (refine Below.alloc ?_ (by simp; try omega) _))⟩
set_option maxHeartbeats 400000 in
theorem two_has (k : Int) (m : BitVec 64) (c : Int) (w : World) (h0 : 0 ≤ c) (h1 : c ≤ 3) (hm : (m &&& Bv.bit c.toNat == 0#64) = false) :
    Calls Tryd.prog 37 #[.agg #[.int .u8 k, .int .u64 (Bv.U m), .bool false], .int .u8 c] w fun e w' => e = .returned (.agg #[.int .u8 k, .int .u64 (Bv.U m), .bool false]) ∧ Below w.heap.size w w' := by
  have hm' : (m &&& Bv.bit c.toNat != 0#64) = true := by simp only [bne, hm, Bool.not_false]
  go_enter Tryd.func37, Tryd.ntmps37
  go_wp2
  exact bodyPost_ret (v := .agg #[.int .u8 k, .int .u64 (Bv.U m), .bool false]) (by simp [results, Tryd.results37, go_sem]) rfl ⟨rfl, by repeat (first | exact Below.refl _ _ | (refine Below.alloc ?_ (by simp; try omega) _))⟩
set_option maxHeartbeats 400000 in
theorem two_full (k : Int) (m : BitVec 64) (c : Int) (w : World) (h0 : 0 ≤ c) (h1 : c ≤ 3) (hm : (m &&& Bv.bit c.toNat == 0#64) = true) (hl : 2 ≤ (Bs.elems m).length) :
    Calls Tryd.prog 37 #[.agg #[.int .u8 k, .int .u64 (Bv.U m), .bool false], .int .u8 c] w fun e w' => e = .returned (.agg #[.int .u8 k, .int .u64 0, .bool true]) ∧ Below w.heap.size w w' := by
  have hm' : (m &&& Bv.bit c.toNat != 0#64) = false := by simp only [bne, hm, Bool.not_true]
  go_enter Tryd.func37, Tryd.ntmps37
  go_wp2_with (go_at_call 29; refine (ones_any _ _).mono ?_; rintro e w' ⟨rfl, rfl⟩)
  exact bodyPost_ret (v := .agg #[.int .u8 k, .int .u64 0, .bool true]) (by simp [results, Tryd.results37, go_sem]) rfl ⟨rfl, by repeat (first | exact Below.refl _ _ | (refine Below.alloc ?_ (by simp; try omega) _))⟩
set_option maxHeartbeats 400000 in
theorem two_more (k : Int) (m : BitVec 64) (c : Int) (w : World) (h0 : 0 ≤ c) (h1 : c ≤ 3) (hm : (m &&& Bv.bit c.toNat == 0#64) = true) (hl : ¬ 2 ≤ (Bs.elems m).length) :
    Calls Tryd.prog 37 #[.agg #[.int .u8 k, .int .u64 (Bv.U m), .bool false], .int .u8 c] w fun e w' => e = .returned (.agg #[.int .u8 k, .int .u64 (Bv.U (m ||| Bv.bit c.toNat)), .bool false]) ∧ Below w.heap.size w w' := by
  have hm' : (m &&& Bv.bit c.toNat != 0#64) = false := by simp only [bne, hm, Bool.not_true]
  go_enter Tryd.func37, Tryd.ntmps37
  go_wp2_with (go_at_call 29; refine (ones_any _ _).mono ?_; rintro e w' ⟨rfl, rfl⟩)
  exact bodyPost_ret (v := .agg #[.int .u8 k, .int .u64 (Bv.U (m ||| Bv.bit c.toNat)), .bool false]) (by simp [results, Tryd.results37, go_sem]) rfl ⟨rfl, by repeat (first | exact Below.refl _ _ | (refine Below.alloc ?_ (by simp; try omega) _))⟩

/-- what the method of ViewTwo leaves -/
def twoM (m : BitVec 64) (a : Bool) (c : Int) : BitVec 64 := if a = true ∨ m &&& Bv.bit c.toNat ≠ 0#64 then m else if 2 ≤ (Bs.elems m).length then 0#64 else m ||| Bv.bit c.toNat
def twoA (m : BitVec 64) (a : Bool) (c : Int) : Bool := if a = true ∨ m &&& Bv.bit c.toNat ≠ 0#64 then a else if 2 ≤ (Bs.elems m).length then true else false
theorem two_any (k : Int) (m : BitVec 64) (a : Bool) (c : Int) (w : World) (h0 : 0 ≤ c) (h1 : c ≤ 3) :
    Calls Tryd.prog 37 #[.agg #[.int .u8 k, .int .u64 (Bv.U m), .bool a], .int .u8 c] w fun e w' => e = .returned (.agg #[.int .u8 k, .int .u64 (Bv.U (twoM m a c)), .bool (twoA m a c)]) ∧ Below w.heap.size w w' := by
  unfold twoM twoA
  by_cases ha : a = true
  · subst ha; simp only [true_or, if_true]; exact two_all k m c w h0 h1
  · obtain rfl : a = false := by simpa using ha
    by_cases hm : m &&& Bv.bit c.toNat = 0#64
    · have hm' : (m &&& Bv.bit c.toNat == 0#64) = true := by simpa using hm
      by_cases hl : 2 ≤ (Bs.elems m).length
      · simp only [hm, hl, ne_eq, not_true, or_false, if_true, Bool.false_eq_true, if_false]; exact two_full k m c w h0 h1 hm' hl
      · simp only [hm, hl, ne_eq, not_true, or_false, Bool.false_eq_true, if_false]; exact two_more k m c w h0 h1 hm' hl
    · have hm' : (m &&& Bv.bit c.toNat == 0#64) = false := by simpa using hm
      simp only [ne_eq, hm, not_false_iff, or_true, if_true]
      exact two_has k m c w h0 h1 hm'

theorem recs_at (W : World) (n : Nat) (hn : n = W.heap.size) : (W.alloc recs).drew.heap[n]? = some recs := by
  subst hn; exact World.alloc_heap_new W _
theorem look_hit (W : World) (n : Nat) (hn : n = W.heap.size) (k : Int) (i : Nat) (v : Value) (hf : Instr.findNow (.int .u8) (.int .u8 k) [rec1, rec2, rec3] 0 = some (some (i, v))) :
    (Instr.lookup 50 (.map (some n)) (.int .u8 k) true).run Tryd.prog (W.alloc recs).drew = .ok (.tuple #[v, .bool true]) (W.alloc recs).drew :=
  run_look_u8 (P := Tryd.prog) _ 50 5 48 n #[rec1, rec2, rec3] 3 k i v (recs_at W n hn) (by kernel_rfl) (by kernel_rfl) hf
theorem zero_fn (w : World) : (zeroValue 48).run Tryd.prog w = .ok .nilFunc w := by kernel_rfl
theorem look_miss (W : World) (n : Nat) (hn : n = W.heap.size) (k : Int) (hf : Instr.findNow (.int .u8) (.int .u8 k) [rec1, rec2, rec3] 0 = some none) :
    (Instr.lookup 50 (.map (some n)) (.int .u8 k) true).run Tryd.prog (W.alloc recs).drew = .ok (.tuple #[.nilFunc, .bool false]) (W.alloc recs).drew :=
  run_miss_u8 (P := Tryd.prog) _ 50 5 48 n #[rec1, rec2, rec3] 3 k .nilFunc (recs_at W n hn) (by kernel_rfl) (by kernel_rfl) (zero_fn _) hf

set_option maxHeartbeats 400000 in
theorem note_1 (m : BitVec 64) (a : Bool) (c : Int) (w : World) (h0 : 0 ≤ c) (h1 : c ≤ 3) :
    Calls Tryd.prog 14 #[.agg #[.int .u8 1, .int .u64 (Bv.U m), .bool a], .int .u8 c] w fun e w' => e = .returned (.agg #[.int .u8 1, .int .u64 (Bv.U (m ||| Bv.bit c.toNat)), .bool (a)]) ∧ Below w.heap.size w w' := by
  have hl := look_hit ((w.alloc (.cells #[.int .u8 1, .int .u64 (Bv.U m), .bool a] 25)).alloc (.cells #[.int .u8 0, .int .u64 0, .bool false] 25)) (w.heap.size + 1 + 1) (by simp) 1 0 (.func (.func 36) #[] #[]) rfl
  go_enter Tryd.func14, Tryd.ntmps14
  go_wp2_with fail
  go_region_held3 (fun w' => w'.cell? ⟨w.heap.size, 0, none⟩ = some (.int .u8 1)) (go_keep)
    (first | (go_at_call 28; refine (recorders_any _).mono ?_; rintro e w' ⟨rfl, rfl⟩))
  clear hl
  go_wp2_with fail
  refine (full_any _ _ _ _ _ h0 h1).mono ?_
  rintro e w1 ⟨rfl, hb⟩
  obtain ⟨hc, hf⟩ := bcell hb
  have hz : w.heap.size + 1 < w1.heap.size := by have := hb.size; simp at this; omega
  go_wp2_with fail
  exact bodyPost_ret (v := .agg #[.int .u8 1, .int .u64 (Bv.U (m ||| Bv.bit c.toNat)), .bool a]) (by simp [results, Tryd.results14, go_sem, hc]) rfl ⟨rfl,
    by repeat (first | exact ((((Below.refl _ _).alloc (Nat.le_refl _) _).alloc (by simp) _).alloc (by simp; omega) _).drew.trans (hb.mono (by simp; omega)) | (refine Below.setCell ?_ (by simp) _))⟩

set_option maxHeartbeats 400000 in
theorem note_2 (m : BitVec 64) (a : Bool) (c : Int) (w : World) (h0 : 0 ≤ c) (h1 : c ≤ 3) :
    Calls Tryd.prog 14 #[.agg #[.int .u8 2, .int .u64 (Bv.U m), .bool a], .int .u8 c] w fun e w' => e = .returned (.agg #[.int .u8 2, .int .u64 (Bv.U (twoM m a c)), .bool (twoA m a c)]) ∧ Below w.heap.size w w' := by
  have hl := look_hit ((w.alloc (.cells #[.int .u8 2, .int .u64 (Bv.U m), .bool a] 25)).alloc (.cells #[.int .u8 0, .int .u64 0, .bool false] 25)) (w.heap.size + 1 + 1) (by simp) 2 1 (.func (.func 37) #[] #[]) rfl
  go_enter Tryd.func14, Tryd.ntmps14
  go_wp2_with fail
  go_region_held3 (fun w' => w'.cell? ⟨w.heap.size, 0, none⟩ = some (.int .u8 2)) (go_keep)
    (first | (go_at_call 28; refine (recorders_any _).mono ?_; rintro e w' ⟨rfl, rfl⟩))
  clear hl
  go_wp2_with fail
  refine (two_any _ _ _ _ _ h0 h1).mono ?_
  rintro e w1 ⟨rfl, hb⟩
  obtain ⟨hc, hf⟩ := bcell hb
  have hz : w.heap.size + 1 < w1.heap.size := by have := hb.size; simp at this; omega
  go_wp2_with fail
  exact bodyPost_ret (v := .agg #[.int .u8 2, .int .u64 (Bv.U (twoM m a c)), .bool (twoA m a c)]) (by simp [results, Tryd.results14, go_sem, hc]) rfl ⟨rfl,
    by repeat (first | exact ((((Below.refl _ _).alloc (Nat.le_refl _) _).alloc (by simp) _).alloc (by simp; omega) _).drew.trans (hb.mono (by simp; omega)) | (refine Below.setCell ?_ (by simp) _))⟩

set_option maxHeartbeats 400000 in
theorem note_3 (m : BitVec 64) (a : Bool) (c : Int) (w : World) (h0 : 0 ≤ c) (h1 : c ≤ 3) :
    Calls Tryd.prog 14 #[.agg #[.int .u8 3, .int .u64 (Bv.U m), .bool a], .int .u8 c] w fun e w' => e = .returned (.agg #[.int .u8 3, .int .u64 (Bv.U (m ||| Bv.bit (c / 2).toNat)), .bool (a)]) ∧ Below w.heap.size w w' := by
  have hl := look_hit ((w.alloc (.cells #[.int .u8 3, .int .u64 (Bv.U m), .bool a] 25)).alloc (.cells #[.int .u8 0, .int .u64 0, .bool false] 25)) (w.heap.size + 1 + 1) (by simp) 3 2 (.func (.func 38) #[] #[]) rfl
  go_enter Tryd.func14, Tryd.ntmps14
  go_wp2_with fail
  go_region_held3 (fun w' => w'.cell? ⟨w.heap.size, 0, none⟩ = some (.int .u8 3)) (go_keep)
    (first | (go_at_call 28; refine (recorders_any _).mono ?_; rintro e w' ⟨rfl, rfl⟩))
  clear hl
  go_wp2_with fail
  refine (group_any _ _ _ _ _ h0 h1).mono ?_
  rintro e w1 ⟨rfl, hb⟩
  obtain ⟨hc, hf⟩ := bcell hb
  have hz : w.heap.size + 1 < w1.heap.size := by have := hb.size; simp at this; omega
  go_wp2_with fail
  exact bodyPost_ret (v := .agg #[.int .u8 3, .int .u64 (Bv.U (m ||| Bv.bit (c / 2).toNat)), .bool a]) (by simp [results, Tryd.results14, go_sem, hc]) rfl ⟨rfl,
    by repeat (first | exact ((((Below.refl _ _).alloc (Nat.le_refl _) _).alloc (by simp) _).alloc (by simp; omega) _).drew.trans (hb.mono (by simp; omega)) | (refine Below.setCell ?_ (by simp) _))⟩

set_option maxHeartbeats 400000 in
theorem note_big (k : Int) (m : Int) (a : Bool) (c : Int) (w : World) (_h0 : 0 ≤ c) (h1 : ¬ c ≤ 3) (hk : k = 1 ∨ k = 2 ∨ k = 3) :
    Calls Tryd.prog 14 #[.agg #[.int .u8 k, .int .u64 m, .bool a], .int .u8 c] w fun e w' => e = .returned (.agg #[.int .u8 k, .int .u64 m, .bool a]) ∧ Below w.heap.size w w' := by
  obtain ⟨i, v, hv⟩ : ∃ i v, Instr.findNow (.int .u8) (.int .u8 k) [rec1, rec2, rec3] 0 = some (some (i, v)) := by
    rcases hk with rfl | rfl | rfl
    · exact ⟨_, _, rfl⟩
    · exact ⟨_, _, rfl⟩
    · exact ⟨_, _, rfl⟩
  have hl := look_hit ((w.alloc (.cells #[.int .u8 k, .int .u64 m, .bool a] 25)).alloc (.cells #[.int .u8 0, .int .u64 0, .bool false] 25)) (w.heap.size + 1 + 1) (by simp) k i v hv
  clear hk hv
  go_enter Tryd.func14, Tryd.ntmps14
  go_wp2_with fail
  go_region_held3 (fun w' => w'.cell? ⟨w.heap.size, 0, none⟩ = some (.int .u8 k)) (go_keep)
    (first | (go_at_call 28; refine (recorders_any _).mono ?_; rintro e w' ⟨rfl, rfl⟩))
  clear hl
  go_wp2_with fail
  exact bodyPost_ret (v := .agg #[.int .u8 k, .int .u64 m, .bool a]) (by simp [results, Tryd.results14, go_sem]) rfl ⟨rfl,
    by repeat (first | exact ((((Below.refl _ _).alloc (Nat.le_refl _) _).alloc (by simp) _).alloc (by simp; omega) _).drew | (refine Below.setCell ?_ (by simp) _))⟩
set_option maxHeartbeats 400000 in
theorem note_other (k : Int) (m : Int) (a : Bool) (c : Int) (w : World) (hk : ¬ (k = 1 ∨ k = 2 ∨ k = 3)) :
    Calls Tryd.prog 14 #[.agg #[.int .u8 k, .int .u64 m, .bool a], .int .u8 c] w fun e w' => e = .returned (.agg #[.int .u8 k, .int .u64 m, .bool a]) ∧ Below w.heap.size w w' := by
  have hv : Instr.findNow (.int .u8) (.int .u8 k) [rec1, rec2, rec3] 0 = some none := by
    have e1 : (k == 1) = false := by simp; omega
    have e2 : (k == 2) = false := by simp; omega
    have e3 : (k == 3) = false := by simp; omega
    simp [Instr.findNow, Instr.sameNow, rec1, rec2, rec3, e1, e2, e3]
  have hl := look_miss ((w.alloc (.cells #[.int .u8 k, .int .u64 m, .bool a] 25)).alloc (.cells #[.int .u8 0, .int .u64 0, .bool false] 25)) (w.heap.size + 1 + 1) (by simp) k hv
  clear hk hv
  go_enter Tryd.func14, Tryd.ntmps14
  go_wp2_with fail
  go_region_held3 (fun w' => w'.cell? ⟨w.heap.size, 0, none⟩ = some (.int .u8 k)) (go_keep)
    (first | (go_at_call 28; refine (recorders_any _).mono ?_; rintro e w' ⟨rfl, rfl⟩))
  clear hl
  go_wp2_with fail
  exact bodyPost_ret (v := .agg #[.int .u8 k, .int .u64 m, .bool a]) (by simp [results, Tryd.results14, go_sem]) rfl ⟨rfl,
    by repeat (first | exact ((((Below.refl _ _).alloc (Nat.le_refl _) _).alloc (by simp) _).alloc (by simp; omega) _).drew | (refine Below.setCell ?_ (by simp) _))⟩

/-- what Note leaves -/
def noteM (k : Int) (m : BitVec 64) (a : Bool) (c : Int) : BitVec 64 :=
  if c ≤ 3 then (if k = 1 then m ||| Bv.bit c.toNat else if k = 2 then twoM m a c else if k = 3 then m ||| Bv.bit (c / 2).toNat else m) else m
def noteA (k : Int) (m : BitVec 64) (a : Bool) (c : Int) : Bool := if c ≤ 3 ∧ k = 2 then twoA m a c else a
theorem note_any (k : Int) (m : BitVec 64) (a : Bool) (c : Int) (w : World) (h0 : 0 ≤ c) :
    Calls Tryd.prog 14 #[.agg #[.int .u8 k, .int .u64 (Bv.U m), .bool a], .int .u8 c] w fun e w' => e = .returned (.agg #[.int .u8 k, .int .u64 (Bv.U (noteM k m a c)), .bool (noteA k m a c)]) ∧ Below w.heap.size w w' := by
  by_cases hk : k = 1 ∨ k = 2 ∨ k = 3
  · by_cases h1 : c ≤ 3
    · rcases hk with rfl | rfl | rfl
      · have e1 : noteM 1 m a c = m ||| Bv.bit c.toNat := by simp [noteM, h1]
        have e2 : noteA 1 m a c = a := by simp [noteA]
        rw [e1, e2]; exact note_1 m a c w h0 h1
      · have e1 : noteM 2 m a c = twoM m a c := by simp [noteM, h1]
        have e2 : noteA 2 m a c = twoA m a c := by simp [noteA, h1]
        rw [e1, e2]; exact note_2 m a c w h0 h1
      · have e1 : noteM 3 m a c = m ||| Bv.bit (c / 2).toNat := by simp [noteM, h1]
        have e2 : noteA 3 m a c = a := by simp [noteA]
        rw [e1, e2]; exact note_3 m a c w h0 h1
    · have e1 : noteM k m a c = m := by simp [noteM, h1]
      have e2 : noteA k m a c = a := by simp [noteA, h1]
      rw [e1, e2]; exact note_big k _ a c w h0 h1 hk
  · have e1 : noteM k m a c = m := by unfold noteM; split <;> simp_all
    have e2 : noteA k m a c = a := by unfold noteA; rw [if_neg (by omega)]
    rw [e1, e2]; exact note_other k _ a c w hk
end Go.Proofs.YtjijgncahonfhaaDoor
