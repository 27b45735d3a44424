/- layer 19, plain: a view depends on the set of the recorded caches alone. -/
import Derived.Test.YtjijgncahonfhaaDoorVr
namespace Go.Proofs.YtjijgncahonfhaaDoor

/-- the set of the first i numbers -/
def orTo (f : Nat → Nat) : Nat → BitVec 64
  | 0 => 0#64
  | i + 1 => orTo f i ||| Bv.bit (f i)
theorem orTo_get (f : Nat → Nat) (hf : ∀ j, f j < 64) : ∀ i k, k < 64 → ((orTo f i).getLsbD k = true ↔ ∃ j, j < i ∧ f j = k)
  | 0, k, _ => by simp [orTo]
  | i + 1, k, hk => by
    unfold orTo
    rw [BitVec.getLsbD_or, Bool.or_eq_true, orTo_get f hf i k hk, Bv.bit_get _ _ (hf i), decide_eq_true_eq]
    constructor
    · rintro (⟨j, hj, e⟩ | e)
      · exact ⟨j, by omega, e⟩
      · exact ⟨i, by omega, e.symm⟩
    · rintro ⟨j, hj, e⟩
      by_cases h : j = i
      · subst h; exact .inr e.symm
      · exact .inl ⟨j, by omega, e⟩
theorem orTo_turn (f : Nat → Nat) (hf : ∀ j, f j < 64) (len turn : Nat) (_h : 0 < len) : orTo (fun j => f ((j + turn) % len)) len = orTo f len := by
  apply Bv.ext_get
  intro k hk
  rw [Bool.eq_iff_iff, orTo_get _ (fun j => hf _) _ _ hk, orTo_get _ hf _ _ hk]
  constructor
  · rintro ⟨j, _, e⟩; exact ⟨(j + turn) % len, Nat.mod_lt _ (by omega), e⟩
  · rintro ⟨j, hj, e⟩
    refine ⟨(j + (len - turn % len)) % len, Nat.mod_lt _ (by omega), ?_⟩
    have h1 : ((j + (len - turn % len)) % len + turn) % len = j := by
      have h2 : turn % len < len := Nat.mod_lt _ (by omega)
      have h3 : turn = len * (turn / len) + turn % len := (Nat.div_add_mod turn len).symm
      rw [Nat.mod_add_mod]
      have h4 : j + (len - turn % len) + turn = j + len * (turn / len + 1) := by
        rw [Nat.mul_add, Nat.mul_one]; omega
      rw [h4, Nat.add_mul_mod_self_left, Nat.mod_eq_of_lt hj]
    rw [h1]; exact e
theorem orTo_small (f : Nat → Nat) (n : Nat) (hn : n ≤ 4) (hf : ∀ j, f j < n) (i : Nat) : ∃ s, s < 16 ∧ orTo f i = BitVec.ofNat 64 s := by
  apply small_of
  intro k hk h64
  have := orTo_get f (fun j => by have := hf j; omega) i k h64
  by_cases h : (orTo f i).getLsbD k = true
  · obtain ⟨j, _, e⟩ := this.1 h
    have := hf j; omega
  · simpa using h
theorem orTo_below (f : Nat → Nat) (n : Nat) (hn : n ≤ 4) (hf : ∀ j, f j < n) (i : Nat) : orTo f i &&& (Bv.bit n - 1#64) = orTo f i := by
  apply Bv.ext_get
  intro k hk
  rw [BitVec.getLsbD_and, Bv.ones_get n k (by omega) hk]
  by_cases h : (orTo f i).getLsbD k = true
  · obtain ⟨j, _, e⟩ := (orTo_get f (fun j => by have := hf j; omega) i k hk).1 h
    have := hf j
    rw [h, decide_eq_true (by omega)]; rfl
  · have h' : (orTo f i).getLsbD k = false := by simpa using h
    rw [h']; rfl

/-- the view in which a set has been recorded -/
def canon (k : Int) (s : BitVec 64) : BitVec 64 × Bool := (Bs.elems s).foldl (noteStep k) (0#64, false)
theorem canon_all : ∀ k < 4, ∀ s < 16, ∀ c < 4, 0 < k → noteStep (k : Nat) (canon (k : Nat) (BitVec.ofNat 64 s)) c = canon (k : Nat) (BitVec.ofNat 64 s ||| Bv.bit c) := by decide +kernel
theorem canon_step {k : Int} (hk : k = 1 ∨ k = 2 ∨ k = 3) {s : Nat} (hs : s < 16) {c : Nat} (hc : c < 4) :
    (noteM k (canon k (BitVec.ofNat 64 s)).1 (canon k (BitVec.ofNat 64 s)).2 c, noteA k (canon k (BitVec.ofNat 64 s)).1 (canon k (BitVec.ofNat 64 s)).2 c) = canon k (BitVec.ofNat 64 s ||| Bv.bit c) := by
  have h := canon_all k.toNat (by omega) s hs c hc (by omega)
  have e : ((k.toNat : Nat) : Int) = k := by omega
  rw [e] at h; exact h
theorem canon_orTo {k : Int} (hk : k = 1 ∨ k = 2 ∨ k = 3) (f : Nat → Nat) {n : Nat} (hn : n ≤ 4) (hf : ∀ j, f j < n) (i : Nat) :
    noteM k (canon k (orTo f i)).1 (canon k (orTo f i)).2 (f i : Nat) = (canon k (orTo f (i + 1))).1 ∧ noteA k (canon k (orTo f i)).1 (canon k (orTo f i)).2 (f i : Nat) = (canon k (orTo f (i + 1))).2 := by
  obtain ⟨s, hs, e⟩ := orTo_small f n hn hf i
  have h := canon_step hk hs (c := f i) (by have := hf i; omega)
  rw [← e] at h
  exact ⟨congrArg (·.1) h, congrArg (·.2) h⟩
/-- recording once more changes nothing -/
theorem canon_again {k : Int} (hk : k = 1 ∨ k = 2 ∨ k = 3) (f : Nat → Nat) {n : Nat} (hn : n ≤ 4) (hf : ∀ j, f j < n) (i : Nat) :
    noteM k (canon k (orTo f (i + 1))).1 (canon k (orTo f (i + 1))).2 (f i : Nat) = (canon k (orTo f (i + 1))).1 ∧ noteA k (canon k (orTo f (i + 1))).1 (canon k (orTo f (i + 1))).2 (f i : Nat) = (canon k (orTo f (i + 1))).2 := by
  obtain ⟨s, hs, e⟩ := orTo_small f n hn hf (i + 1)
  have h := canon_step hk hs (c := f i) (by have := hf i; omega)
  rw [← e] at h
  have e2 : orTo f (i + 1) ||| Bv.bit (f i) = orTo f (i + 1) := by
    apply Bv.or_bit_same
    have := hf i
    exact (orTo_get f (fun j => by have := hf j; omega) (i + 1) (f i) (by omega)).2 ⟨i, by omega, rfl⟩
  rw [e2] at h
  exact ⟨congrArg (·.1) h, congrArg (·.2) h⟩
theorem canon_least {k n : Int} (h : (k = 1 ∨ k = 2 ∨ k = 3) ∧ 1 ≤ n ∧ n ≤ 4) (f : Nat → Nat) (hf : ∀ j, f j < n.toNat) (i : Nat) : leastSt k n (orTo f i) = canon k (orTo f i) := by
  have hk : newK k n = k := if_pos h
  unfold leastSt
  rw [hk, if_neg (by omega), orTo_below f n.toNat (by omega) hf i]; rfl
theorem canon_nil (k : Int) : canon k 0#64 = (0#64, false) := by
  unfold canon
  have e : Bs.elems 0#64 = [] := Bs.elems_zero
  rw [e]; rfl
end Go.Proofs.YtjijgncahonfhaaDoor
