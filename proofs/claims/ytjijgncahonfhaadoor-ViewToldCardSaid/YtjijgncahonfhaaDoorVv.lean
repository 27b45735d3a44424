/- layer 19: what ViewTold asks of a view, plain; the walk of count. -/
import Derived.Test.YtjijgncahonfhaaDoorVu
namespace Go.Proofs.YtjijgncahonfhaaDoor
open Go.RowKit Go.Shelf

attribute [local go_sem] Bv.shr_min Bv.shr_pow Bv.and1

set_option maxRecDepth 100000 in
theorem count_any (s : BitVec 64) (w : World) :
    Calls Tryd.prog 17 #[.int .u64 (Bv.U s)] w fun e w' => e = .returned (.int .i64 ((Bs.elems s).length : Nat)) ∧ w' = w := by
  go_enter Tryd.func17, Tryd.ntmps17
  go_wp2_with fail
  go_loopw [3, 4] (fun c i wr => ∃ j : Nat, j ≤ 64 ∧ i = .int .i64 j ∧ c = .int .i64 ((Bs.upto s j).length : Nat) ∧ wr = w) (fun _ i _ => 64 - (intOf i).toNat)
  case atStart => exact ⟨0, by omega, rfl, rfl, rfl⟩
  case round =>
    obtain ⟨j, hj, rfl, rfl, rfl⟩ := hrel
    by_cases hlt : j < 64
    · have l1 : decide ((j : Int) < 64) = true := by simp; omega
      have hle := Bs.upto_le s j
      have HJ := Lib.hid (And.intro hlt hle)
      have x0 : IntKind.i64.wrap ((j : Int) + 1) = ((j + 1 : Nat) : Int) := by rw [IntWalk.i64_in _ (by omega)]; omega
      cases hg : s.getLsbD j
      · have hG : Bv.B1 (Bv.G s j) = 0 := by unfold Bv.G; rw [hg]; rfl
        have hu := Bs.upto_miss s j hg
        have x1 : IntKind.i64.wrap ((Bs.upto s j).length : Int) = ((Bs.upto s j).length : Int) := IntWalk.i64_in _ (by omega)
        have HU := Lib.hid hu
        clear hu hg hlt hle
        go_wp2_with fail
        exact ⟨⟨j + 1, by have := HJ.out; omega, rfl, by rw [HU.out], trivial⟩, by have := HJ.out; simp [intOf]; omega⟩
      · have hG : Bv.B1 (Bv.G s j) = 1 := by unfold Bv.G; rw [hg]; rfl
        have hu := Bs.upto_hit s j hg
        have x1 : IntKind.i64.wrap (((Bs.upto s j).length : Int) + 1) = ((Bs.upto s j).length : Int) + 1 := by rw [IntWalk.i64_in _ (by omega)]
        have HU := Lib.hid hu
        clear hu hg hlt hle
        go_wp2_with fail
        exact ⟨⟨j + 1, by have := HJ.out; omega, rfl, by rw [HU.out]; simp, trivial⟩, by have := HJ.out; simp [intOf]; omega⟩
    · have hj4 : j = 64 := by omega
      subst hj4
      have hu := Bs.upto_all s
      go_wp2_with fail
      go_ret
      rw [hu]; exact ⟨rfl, rfl⟩

/-- what is asked of the view in which a set has been recorded, as a test -/
def toldOk (k n : Int) (S : BitVec 64) : Bool :=
  !(S &&& (Bv.bit n.toNat - 1#64) == S) ||
    (rightB k (canon k S).1 (canon k S).2 n && (toldS k (canon k S).1 (canon k S).2 n &&& S == S) && (toldS k (canon k S).1 (canon k S).2 n &&& ~~~ (Bv.bit n.toNat - 1#64) == 0#64) &&
      (k != 1 || toldS k (canon k S).1 (canon k S).2 n == S) && (k != 2 || decide (2 < (Bs.elems S).length) || toldS k (canon k S).1 (canon k S).2 n == S) &&
      (k != 3 || (List.range n.toNat).all fun q => !(((S >>> (q / 2 * 2)) &&& 3#64) == 0#64) || !(Bv.G (toldS k (canon k S).1 (canon k S).2 n) q)))
theorem toldOk_all : ∀ k < 4, 0 < k → ∀ n < 5, 0 < n → ∀ s < 16, toldOk (k : Nat) (n : Nat) (BitVec.ofNat 64 s) = true := by decide +kernel
theorem told_ok {k n : Int} (h : (k = 1 ∨ k = 2 ∨ k = 3) ∧ 1 ≤ n ∧ n ≤ 4) (f : Nat → Nat) (hf : ∀ j, f j < n.toNat) (i : Nat) {S : BitVec 64} (hS : S = orTo f i) {M : BitVec 64 × Bool} (hM : M = canon k S) {T : BitVec 64} (hT : T = toldS k M.1 M.2 n) :
    rightB k M.1 M.2 n = true ∧ T &&& S = S ∧ T &&& ~~~ (Bv.bit n.toNat - 1#64) = 0#64 ∧ (k = 1 → T = S) ∧ (k = 2 → (Bs.elems S).length ≤ 2 → T = S) ∧
      (k = 3 → ∀ q, q < n.toNat → (S >>> (q / 2 * 2)) &&& 3#64 = 0#64 → Bv.G T q = false) := by
  obtain ⟨s, hs, e⟩ := orTo_small f n.toNat (by omega) hf i
  have h1 := toldOk_all k.toNat (by omega) (by omega) n.toNat (by omega) (by omega) s hs
  rw [show ((k.toNat : Nat) : Int) = k by omega, show ((n.toNat : Nat) : Int) = n by omega, ← e, ← hS] at h1
  have h2 : S &&& (Bv.bit n.toNat - 1#64) = S := by rw [hS]; exact orTo_below f n.toNat (by omega) hf i
  unfold toldOk at h1
  rw [← hM, ← hT, h2] at h1
  simp only [beq_self_eq_true, Bool.not_true, Bool.false_or, Bool.and_eq_true, Bool.or_eq_true, bne_iff_ne, beq_iff_eq, decide_eq_true_eq, List.all_eq_true, List.mem_range, Bool.not_eq_true', beq_eq_false_iff_ne] at h1
  obtain ⟨⟨⟨⟨⟨a1, a2⟩, a3⟩, a4⟩, a5⟩, a6⟩ := h1
  refine ⟨a1, a2, a3, fun hk => ?_, fun hk hl => ?_, fun hk q hq hz => ?_⟩
  · rcases a4 with a4 | a4
    · exact absurd hk a4
    · exact a4
  · rcases a5 with (a5 | a5) | a5
    · exact absurd hk a5
    · omega
    · exact a5
  · rcases a6 with a6 | a6
    · exact absurd hk a6
    · rcases a6 q hq with a | a
      · exact absurd hz a
      · exact a
end Go.Proofs.YtjijgncahonfhaaDoor
