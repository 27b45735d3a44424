/- Relations, plain: paths, the transitive closure by squaring. -/
import Derived.Test.YtknjdfgmejobfaaDoorRl
namespace Go.Rl

/-- a walk of one step or more -/
inductive Path (f : Rows) : Nat → Nat → Prop
  | one {a b : Nat} (h : bit f a b = true) : Path f a b
  | step {a b c : Nat} (h : bit f a b = true) (p : Path f b c) : Path f a c
theorem Path.trans {f : Rows} {a b c : Nat} (p : Path f a b) (q : Path f b c) : Path f a c := by
  induction p with
  | one h => exact .step h q
  | step h _ ih => exact .step h (ih q)
theorem Path.mono {f g : Rows} (h : ∀ a b, bit f a b = true → Path g a b) {a b : Nat} (p : Path f a b) : Path g a b := by
  induction p with
  | one h1 => exact h _ _ h1
  | step h1 _ ih => exact (h _ _ h1).trans ih
theorem Path.fst {f : Rows} {a b : Nat} (p : Path f a b) : ∃ c, bit f a c = true := by
  cases p with
  | one h => exact ⟨_, h⟩
  | step h _ => exact ⟨_, h⟩
theorem Path.lst {f : Rows} {a b : Nat} (p : Path f a b) : ∃ c, bit f c b = true := by
  induction p with
  | one h => exact ⟨_, h⟩
  | step _ _ ih => exact ih
theorem Path.lt {n : Nat} {f : Rows} (hf : Ok n f) {a b : Nat} (p : Path f a b) : a < n ∧ b < n := by
  induction p with
  | one h => exact hf.in_ _ _ h
  | step h _ ih => exact ⟨(hf.in_ _ _ h).1, ih.2⟩
/-- a path that is closed under a transitive relation -/
theorem Path.closed {f : Rows} {T : Nat → Nat → Prop} (h1 : ∀ a b, bit f a b = true → T a b) (ht : ∀ a b c, T a b → T b c → T a c) {a b : Nat} (p : Path f a b) : T a b := by
  induction p with
  | one h => exact h1 _ _ h
  | step h _ ih => exact ht _ _ _ (h1 _ _ h) ih

/-- one squaring -/
def sqF (n : Nat) (f : Rows) : Rows := cut n fun x => f x ||| image f (f x)
theorem sq_bit (n : Nat) (f : Rows) (a c : Nat) (ha : a < n) : bit (sqF n f) a c = true ↔ bit f a c = true ∨ ∃ b, bit f a b = true ∧ bit f b c = true := by
  unfold sqF; rw [cut_bit, decide_eq_true ha, Bool.true_and]
  show (f a ||| image f (f a)).getLsbD c = true ↔ _
  rw [BitVec.getLsbD_or, Bool.or_eq_true, image_iff]; rfl
theorem ok_sq {n : Nat} {f : Rows} (hf : Ok n f) : Ok n (sqF n f) := ⟨hf.le, fun a c h => by
  have ha : a < n := by
    unfold sqF at h; rw [cut_bit, Bool.and_eq_true] at h
    exact of_decide_eq_true h.1
  rcases (sq_bit n f a c ha).1 h with h | ⟨b, h1, h2⟩
  · exact hf.in_ a c h
  · exact ⟨ha, (hf.in_ b c h2).2⟩⟩
theorem sq_sup {n : Nat} {f : Rows} (hf : Ok n f) {a b : Nat} (h : bit f a b = true) : bit (sqF n f) a b = true := (sq_bit n f a b (hf.in_ a b h).1).2 (.inl h)
theorem sq_one {n : Nat} {f : Rows} (hf : Ok n f) {a b : Nat} (h : bit (sqF n f) a b = true) : Path f a b := by
  have h1 := (ok_sq hf).in_ a b h
  rcases (sq_bit n f a b h1.1).1 h with h | ⟨c, h2, h3⟩
  · exact .one h
  · exact .step h2 (.one h3)
theorem sq_path {n : Nat} {f : Rows} (hf : Ok n f) {a b : Nat} : Path (sqF n f) a b ↔ Path f a b :=
  ⟨Path.mono fun _ _ h => sq_one hf h, Path.mono fun _ _ h => .one (sq_sup hf h)⟩
/-- a relation that squaring leaves is its own closure -/
theorem sq_fix {n : Nat} {f : Rows} (hf : Ok n f) (hs : sqF n f = f) {a b : Nat} : Path f a b ↔ bit f a b = true := by
  constructor
  · intro p
    induction p with
    | one h => exact h
    | @step a b c h _ ih =>
      have h3 := (sq_bit n f a c (hf.in_ a b h).1).2 (.inr ⟨b, h, ih⟩)
      rw [hs] at h3; exact h3
  · exact .one

/-- how many pairs are missing -/
def gap (f : Rows) : Nat → Nat
  | 0 => 0
  | k + 1 => gap f k + (64 - Bx.card (f k))
theorem rank_sub {s t : BitVec 64} (h : ∀ i, s.getLsbD i = true → t.getLsbD i = true) (k : Nat) : Bx.rank s k ≤ Bx.rank t k := by
  induction k with
  | zero => exact Nat.le_refl _
  | succ k ih =>
    cases hs : s.getLsbD k
    · rw [Bx.rank_miss _ _ hs]; exact Nat.le_trans ih (Bx.rank_le_succ t k)
    · rw [Bx.rank_hit _ _ hs, Bx.rank_hit _ _ (h k hs)]; omega
theorem card_sub {s t : BitVec 64} (h : ∀ i, s.getLsbD i = true → t.getLsbD i = true) : Bx.card s ≤ Bx.card t := rank_sub h 64
theorem card_ssub {s t : BitVec 64} (h : ∀ i, s.getLsbD i = true → t.getLsbD i = true) (hne : s ≠ t) : Bx.card s < Bx.card t := by
  obtain ⟨i, hi, hs, ht⟩ : ∃ i, i < 64 ∧ s.getLsbD i = false ∧ t.getLsbD i = true := by
    apply Classical.byContradiction
    intro hno
    apply hne
    apply Bv.ext_get
    intro i hi
    cases hs : s.getLsbD i
    · cases ht : t.getLsbD i
      · rfl
      · exact absurd ⟨i, hi, hs, ht⟩ hno
    · rw [h i hs]
  have h1 := rank_sub h i
  have key : ∀ k, i < k → Bx.rank s k < Bx.rank t k := by
    intro k
    induction k with
    | zero => intro h; omega
    | succ k ih =>
      intro hk
      by_cases e : k = i
      · subst e; rw [Bx.rank_miss _ _ hs, Bx.rank_hit _ _ ht]; omega
      · have := ih (by omega)
        cases hk2 : s.getLsbD k
        · rw [Bx.rank_miss _ _ hk2]; exact Nat.lt_of_lt_of_le this (Bx.rank_le_succ t k)
        · rw [Bx.rank_hit _ _ hk2, Bx.rank_hit _ _ (h k hk2)]; omega
  exact key 64 hi
theorem gap_sub {f g : Rows} (k : Nat) (h : ∀ a, a < k → ∀ b, bit f a b = true → bit g a b = true) : gap g k ≤ gap f k := by
  induction k with
  | zero => exact Nat.le_refl _
  | succ k ih =>
    have h1 := ih (fun a ha => h a (by omega))
    have h2 := card_sub (h k (by omega))
    unfold gap; omega
theorem gap_ssub {f g : Rows} (k : Nat) (h : ∀ a, a < k → ∀ b, bit f a b = true → bit g a b = true) (hne : ¬ ∀ a, a < k → f a = g a) : gap g k < gap f k := by
  induction k with
  | zero => exact absurd (fun a ha => by omega) hne
  | succ k ih =>
    have hs := gap_sub k (fun a ha => h a (by omega))
    by_cases e : f k = g k
    · have := ih (fun a ha => h a (by omega)) (fun h2 => hne fun a ha => by
        by_cases e2 : a = k
        · subst e2; exact e
        · exact h2 a (by omega))
      unfold gap; rw [e]; omega
    · have h1 := card_ssub (h k (by omega)) e
      have h2 := Bx.card_le (g k)
      unfold gap; omega
theorem gap_sq {n : Nat} {f : Rows} (hf : Ok n f) (h : sqF n f ≠ f) : gap (sqF n f) 48 < gap f 48 :=
  gap_ssub 48 (fun _ _ _ hb => sq_sup hf hb) (fun h2 => h (funext fun a => by
    by_cases ha : a < 48
    · exact (h2 a ha).symm
    · rw [(ok_sq hf).z a (by omega), hf.z a (by omega)]))

/-- the transitive closure -/
noncomputable def plusF (n : Nat) (f : Rows) : Rows := open Classical in fun a => Bx.mk fun b => decide (a < n) && decide (Path f a b)
open Classical in
theorem plus_bit {n : Nat} {f : Rows} (hf : Ok n f) {a b : Nat} : bit (plusF n f) a b = true ↔ Path f a b := by
  have hn := hf.le
  constructor
  · intro h
    have hb := bit64 h
    unfold bit plusF at h
    rw [Bx.mk_get _ b hb, Bool.and_eq_true] at h
    exact of_decide_eq_true h.2
  · intro p
    have h1 := p.lt hf
    unfold bit plusF
    rw [Bx.mk_get _ b (by omega), Bool.and_eq_true]
    exact ⟨decide_eq_true h1.1, decide_eq_true p⟩
theorem ok_plus {n : Nat} {f : Rows} (hf : Ok n f) : Ok n (plusF n f) := ⟨hf.le, fun _ _ h => ((plus_bit hf).1 h).lt hf⟩
/-- what squaring ends in -/
theorem plus_eq {n : Nat} {f g : Rows} (hf : Ok n f) (hg : Ok n g) (hp : ∀ a b, Path g a b ↔ Path f a b) (hs : sqF n g = g) : g = plusF n f :=
  ok_iff_ext hg (ok_plus hf) fun a b _ _ => by rw [plus_bit hf, ← hp a b, sq_fix hg hs]
/-- squaring k times -/
def sqK (n : Nat) : Nat → Rows → Rows
  | 0, f => f
  | k + 1, f => sqK n k (sqF n f)
theorem ok_sqK {n : Nat} (k : Nat) : ∀ {f : Rows}, Ok n f → Ok n (sqK n k f) ∧ ∀ a b, Path (sqK n k f) a b ↔ Path f a b := by
  induction k with
  | zero => exact fun hf => ⟨hf, fun _ _ => Iff.rfl⟩
  | succ k ih => exact fun hf => ⟨(ih (ok_sq hf)).1, fun a b => ((ih (ok_sq hf)).2 a b).trans (sq_path hf)⟩
theorem plus_sqK {n : Nat} (k : Nat) {f : Rows} (hf : Ok n f) (h : sqF n (sqK n k f) = sqK n k f) : sqK n k f = plusF n f :=
  plus_eq hf (ok_sqK k hf).1 (ok_sqK k hf).2 h
theorem plus_sup {n : Nat} {f : Rows} (hf : Ok n f) {a b : Nat} (h : bit f a b = true) : bit (plusF n f) a b = true := (plus_bit hf).2 (.one h)
theorem plus_trans {n : Nat} {f : Rows} (hf : Ok n f) {a b c : Nat} (h1 : bit (plusF n f) a b = true) (h2 : bit (plusF n f) b c = true) : bit (plusF n f) a c = true :=
  (plus_bit hf).2 (((plus_bit hf).1 h1).trans ((plus_bit hf).1 h2))
theorem plus_plus {n : Nat} {f : Rows} (hf : Ok n f) : plusF n (plusF n f) = plusF n f :=
  ok_iff_ext (ok_plus (ok_plus hf)) (ok_plus hf) fun a b _ _ => by
    rw [plus_bit (ok_plus hf)]
    constructor
    · intro p
      induction p with
      | one h => exact h
      | step h _ ih => exact plus_trans hf h (ih (((ok_plus hf).in_ _ _ h).2) (by assumption))
    · exact .one
end Go.Rl
