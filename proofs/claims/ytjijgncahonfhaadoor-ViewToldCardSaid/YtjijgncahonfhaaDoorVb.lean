/- package view: New, Clear, recorders, Note; math/bits.OnesCount64. -/
import Derived.Test.YtjijgncahonfhaaDoorVa
import Derived.Deep.RegionHeld3
import Derived.Maps.Own
namespace Go.Proofs.YtjijgncahonfhaaDoor
open Go.RowKit Go.Shelf

attribute [local go_sem] Bv.and_u Bv.or_u Bv.andNot_u Bv.wrap_sub1 Bv.eq0 Bv.ne0 Bv.wrap_pow Bv.wrap_powmin Bv.wrap_neg

theorem cnt_elems (s : BitVec 64) : Pop.cnt 64 s.toNat = (Bs.elems s).length := rfl

set_option maxHeartbeats 400000 in
theorem ones_any (s : BitVec 64) (w : World) :
    Calls Tryd.prog 29 #[.int .u64 (Bv.U s)] w fun e w' => e = .returned (.int .i64 ((Bs.elems s).length : Nat)) ∧ w' = w := by
  obtain ⟨A1, B1, X1, A2, B2, X2, C3, X3, X4, X5, X6, h1, h2, h3, h4, h5, h6, h7, h8, h9, h10, h11, l0, l1, hm⟩ := Pop.ones s.toNat s.isLt
  rw [cnt_elems] at hm
  rw [← hm]
  clear hm
  show Calls Tryd.prog 29 #[.int .u64 (s.toNat : Int)] w _
  obtain ⟨x, hx⟩ : ∃ x : Int, x = (s.toNat : Int) := ⟨_, rfl⟩
  rw [← hx] at h1 h2 ⊢
  clear hx
  have h12 := i64_and127 X6
  go_enter Tryd.func29, Tryd.ntmps29
  go_wp2
  go_ret
  exact ⟨rfl, rfl⟩

/-! ### New -/
set_option maxHeartbeats 400000 in
theorem new_yes (k n : Int) (w : World) (hk : k = 1 ∨ k = 2 ∨ k = 3) (h1 : 1 ≤ n) (h2 : n ≤ 4) :
    Calls Tryd.prog 9 #[.int .u8 k, .int .i64 n] w fun e w' => e = .returned (.agg #[.int .u8 k, .int .u64 0, .bool false]) ∧ Below w.heap.size w w' := by
  have e1 : decide (k = 1 ∨ k = 2 ∨ k = 3) = true := by simpa using hk
  have e2 : decide (1 ≤ n ∧ n ≤ 4) = true := by simpa using ⟨h1, h2⟩
  clear hk
  go_enter Tryd.func9, Tryd.ntmps9
  go_wp2_with (first | (go_at_call 20; refine (known_any _ _).mono ?_; rintro e w' ⟨rfl, rfl⟩) | (go_at_call 21; refine (counts_any _ _).mono ?_; rintro e w' ⟨rfl, rfl⟩))
  exact bodyPost_ret (v := .agg #[.int .u8 k, .int .u64 0, .bool false]) (by simp [results, Tryd.results9, go_sem]) rfl ⟨rfl, (Below.refl _ _).alloc (Nat.le_refl _) _⟩
set_option maxHeartbeats 400000 in
theorem new_no1 (k n : Int) (w : World) (hk : ¬ (k = 1 ∨ k = 2 ∨ k = 3)) :
    Calls Tryd.prog 9 #[.int .u8 k, .int .i64 n] w fun e w' => e = .returned (.agg #[.int .u8 0, .int .u64 0, .bool false]) ∧ Below w.heap.size w w' := by
  have e1 : decide (k = 1 ∨ k = 2 ∨ k = 3) = false := by simpa using hk
  clear hk
  go_enter Tryd.func9, Tryd.ntmps9
  go_wp2_with (first | (go_at_call 20; refine (known_any _ _).mono ?_; rintro e w' ⟨rfl, rfl⟩) | (go_at_call 21; refine (counts_any _ _).mono ?_; rintro e w' ⟨rfl, rfl⟩))
  exact bodyPost_ret (v := .agg #[.int .u8 0, .int .u64 0, .bool false]) (by simp [results, Tryd.results9, go_sem]) rfl ⟨rfl, (Below.refl _ _).alloc (Nat.le_refl _) _⟩
set_option maxHeartbeats 400000 in
theorem new_no2 (k n : Int) (w : World) (hk : k = 1 ∨ k = 2 ∨ k = 3) (h1 : ¬ (1 ≤ n ∧ n ≤ 4)) :
    Calls Tryd.prog 9 #[.int .u8 k, .int .i64 n] w fun e w' => e = .returned (.agg #[.int .u8 0, .int .u64 0, .bool false]) ∧ Below w.heap.size w w' := by
  have e1 : decide (k = 1 ∨ k = 2 ∨ k = 3) = true := by simpa using hk
  have e2 : decide (1 ≤ n ∧ n ≤ 4) = false := by simpa using h1
  clear hk h1
  go_enter Tryd.func9, Tryd.ntmps9
  go_wp2_with (first | (go_at_call 20; refine (known_any _ _).mono ?_; rintro e w' ⟨rfl, rfl⟩) | (go_at_call 21; refine (counts_any _ _).mono ?_; rintro e w' ⟨rfl, rfl⟩))
  exact bodyPost_ret (v := .agg #[.int .u8 0, .int .u64 0, .bool false]) (by simp [results, Tryd.results9, go_sem]) rfl ⟨rfl, (Below.refl _ _).alloc (Nat.le_refl _) _⟩

/-- the Kind of New's view -/
def newK (k n : Int) : Int := if (k = 1 ∨ k = 2 ∨ k = 3) ∧ 1 ≤ n ∧ n ≤ 4 then k else 0
theorem new_any (k n : Int) (w : World) :
    Calls Tryd.prog 9 #[.int .u8 k, .int .i64 n] w fun e w' => e = .returned (.agg #[.int .u8 (newK k n), .int .u64 0, .bool false]) ∧ Below w.heap.size w w' := by
  unfold newK
  by_cases hk : k = 1 ∨ k = 2 ∨ k = 3
  · by_cases hn : 1 ≤ n ∧ n ≤ 4
    · rw [if_pos ⟨hk, hn⟩]; exact new_yes k n w hk hn.1 hn.2
    · rw [if_neg (fun h => hn h.2)]; exact new_no2 k n w hk hn
  · rw [if_neg (fun h => hk h.1)]; exact new_no1 k n w hk

/-! ### Clear -/
set_option maxHeartbeats 400000 in
theorem clear_any (k m : Int) (a : Bool) (w : World) :
    Calls Tryd.prog 19 #[.agg #[.int .u8 k, .int .u64 m, .bool a]] w fun e w' => e = .returned (.agg #[.int .u8 k, .int .u64 0, .bool false]) ∧ Below w.heap.size w w' := by
  go_enter Tryd.func19, Tryd.ntmps19
  go_wp2
  exact bodyPost_ret (v := .agg #[.int .u8 k, .int .u64 0, .bool false]) (by simp [results, Tryd.results19, go_sem]) rfl ⟨rfl, by repeat (first | exact Below.refl _ _ | (refine Below.alloc ?_ (by simp; try omega) _))⟩

/-! ### the map of recorders -/
section
variable {P : Program}
theorem alloc_set (w : World) (o o' : Obj) : ({ w.alloc o with heap := (w.alloc o).heap.setIfInBounds w.heap.size o' } : World) = w.alloc o' := by
  have h : (w.heap.push o).setIfInBounds w.heap.size o' = w.heap.push o' := by
    apply Array.toList_inj.1
    simp
  show ({ w with heap := (w.heap.push o).setIfInBounds w.heap.size o' } : World) = { w with heap := w.heap.push o' }
  rw [h]
theorem run_upd_u8 (w : World) (T K E : TypeId) (es : Array MapEntry) (clock : Nat) (k : Int) (val : Value) (hm : P.underlying T = some (.map K E)) (hk : P.underlying K = some (.int .u8))
    (hf : Instr.findNow (.int .u8) (.int .u8 k) es.toList 0 = some none) :
    (Instr.mapUpdate T (.map (some w.heap.size)) (.int .u8 k) val).run P (w.alloc (.map es clock)) = .ok () (w.alloc (.map (es.push { key := .int .u8 k, val := val, born := clock }) (clock + 1))) := by
  have hb : (w.alloc (.map es clock)).heap[w.heap.size]? = some (.map es clock) := World.alloc_heap_new w _
  have hc : (Instr.checkKey false 10000 K (.int .u8 k)).run P (w.alloc (.map es clock)) = .ok () (w.alloc (.map es clock)) := MapKept.run_checkKey (k := .int .u8 k) hk (by simp [MapKept.IsKey]) false 9999
  simp only [Instr.mapUpdate, run_underlying hm, MapKept.run_getObj_map hb, hc, MapKept.run_findKey hk hf, MapKept.run_setObj_map _ hb, Result.andThen, Sem.run_bind, alloc_set]
theorem run_look_u8 (w : World) (T K E : TypeId) (r : Nat) (es : Array MapEntry) (clock : Nat) (k : Int) (i : Nat) (v : Value) (hb : w.heap[r]? = some (.map es clock)) (hm : P.underlying T = some (.map K E)) (hk : P.underlying K = some (.int .u8))
    (hf : Instr.findNow (.int .u8) (.int .u8 k) es.toList 0 = some (some (i, v))) :
    (Instr.lookup T (.map (some r)) (.int .u8 k) true).run P w = .ok (.tuple #[v, .bool true]) w := by
  have hc : ∀ b, (Instr.checkKey b 10000 K (.int .u8 k)).run P w = .ok () w := fun b => MapKept.run_checkKey (k := .int .u8 k) hk (by simp [MapKept.IsKey]) b 9999
  simp [Instr.lookup, run_underlying hm, MapKept.run_getObj_map hb, hc, MapKept.run_findKey hk hf, Result.andThen]
theorem run_miss_u8 (w : World) (T K E : TypeId) (r : Nat) (es : Array MapEntry) (clock : Nat) (k : Int) (z : Value) (hb : w.heap[r]? = some (.map es clock)) (hm : P.underlying T = some (.map K E)) (hk : P.underlying K = some (.int .u8))
    (hz : (zeroValue E).run P w = .ok z w) (hf : Instr.findNow (.int .u8) (.int .u8 k) es.toList 0 = some none) :
    (Instr.lookup T (.map (some r)) (.int .u8 k) true).run P w = .ok (.tuple #[z, .bool false]) w := by
  have hc : ∀ b, (Instr.checkKey b 10000 K (.int .u8 k)).run P w = .ok () w := fun b => MapKept.run_checkKey (k := .int .u8 k) hk (by simp [MapKept.IsKey]) b 9999
  simp [Instr.lookup, run_underlying hm, MapKept.run_getObj_map hb, hc, MapKept.run_findKey hk hf, hz, Result.andThen]
end

def rec1 : MapEntry := { key := .int .u8 1, val := .func (.func 36) #[] #[], born := 0 }
def rec2 : MapEntry := { key := .int .u8 2, val := .func (.func 37) #[] #[], born := 1 }
def rec3 : MapEntry := { key := .int .u8 3, val := .func (.func 38) #[] #[], born := 2 }

def recs : Obj := .map #[rec1, rec2, rec3] 3

set_option maxHeartbeats 400000 in
theorem recorders_any (w : World) :
    Calls Tryd.prog 28 #[] w fun e w' => e = .returned (.map (some w.heap.size)) ∧ w' = w.alloc recs := by
  have hmm := @run_makeMap Tryd.prog
  have u1 := run_upd_u8 (P := Tryd.prog) w 50 5 48 #[] 0 1 (.func (.func 36) #[] #[]) (by kernel_rfl) (by kernel_rfl) rfl
  have u2 := run_upd_u8 (P := Tryd.prog) w 50 5 48 #[rec1] 1 2 (.func (.func 37) #[] #[]) (by kernel_rfl) (by kernel_rfl) rfl
  have u3 := run_upd_u8 (P := Tryd.prog) w 50 5 48 #[rec1, rec2] 2 3 (.func (.func 38) #[] #[]) (by kernel_rfl) (by kernel_rfl) rfl
  obtain ⟨o1, h1⟩ : ∃ o1 : Obj, o1 = .map #[rec1] 1 := ⟨_, rfl⟩
  obtain ⟨o2, h2⟩ : ∃ o2 : Obj, o2 = .map #[rec1, rec2] 2 := ⟨_, rfl⟩
  have u1' : (Instr.mapUpdate 50 (.map (some w.heap.size)) (.int .u8 1) (.func (.func 36) #[] #[])).run Tryd.prog (w.alloc (.map #[] 0)) = .ok () (w.alloc o1) := by rw [h1]; exact u1
  have u2' : (Instr.mapUpdate 50 (.map (some w.heap.size)) (.int .u8 2) (.func (.func 37) #[] #[])).run Tryd.prog (w.alloc o1) = .ok () (w.alloc o2) := by rw [h1, h2]; exact u2
  have u3' : (Instr.mapUpdate 50 (.map (some w.heap.size)) (.int .u8 3) (.func (.func 38) #[] #[])).run Tryd.prog (w.alloc o2) = .ok () (w.alloc recs) := by rw [h2]; exact u3
  clear u1 u2 u3 h1 h2
  go_enter Tryd.func28, Tryd.ntmps28
  go_wp2
  go_ret
  exact ⟨rfl, rfl⟩
end Go.Proofs.YtjijgncahonfhaaDoor
