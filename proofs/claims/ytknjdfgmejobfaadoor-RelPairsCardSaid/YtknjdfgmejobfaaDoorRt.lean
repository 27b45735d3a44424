/- Relations, plain: the topological order that takes the least free item each time. -/
import Derived.Test.YtknjdfgmejobfaaDoorRp
namespace Go.Rl

/-- the least item of left none of whose predecessors is in left -/
def freeN (before : Rows) (left : BitVec 64) : Option Nat := (Bs.elems left).find? fun a => before a &&& left == 0#64
def topGo (before : Rows) : Nat → BitVec 64 → Option (List Nat)
  | 0, _ => some []
  | k + 1, left => if left = 0#64 then some [] else
    match freeN before left with
    | none => none
    | some a => (topGo before k (left &&& ~~~ Bv.bit a)).map (a :: ·)
def topL (n : Nat) (f : Rows) : Option (List Nat) := topGo (backF n f) 64 (below (n : Int))

theorem free_some {before : Rows} {left : BitVec 64} {a : Nat} (h : freeN before left = some a) : left.getLsbD a = true ∧ before a &&& left = 0#64 := by
  unfold freeN at h
  have h1 := List.find?_some h
  have h2 := List.mem_of_find?_eq_some h
  exact ⟨Bs.mem_elems.1 h2, by simpa using h1⟩
theorem free_none {before : Rows} {left : BitVec 64} (h : freeN before left = none) {a : Nat} (ha : left.getLsbD a = true) : before a &&& left ≠ 0#64 := by
  unfold freeN at h
  rw [List.find?_eq_none] at h
  have := h a (Bs.mem_elems.2 ha)
  simpa using this
theorem free_least {before : Rows} {left : BitVec 64} {a : Nat} (h : freeN before left = some a) {c : Nat} (hc : left.getLsbD c = true) (hca : c < a) : before c &&& left ≠ 0#64 := by
  unfold freeN at h
  obtain ⟨_, as, bs, h2, h3⟩ := List.find?_eq_some_iff_append.1 h
  have hs := Bs.elems_sorted left
  have hm : c ∈ Bs.elems left := Bs.mem_elems.2 hc
  rw [h2] at hs hm
  rw [List.pairwise_append] at hs
  have hcas : c ∈ as := by
    rcases List.mem_append.1 hm with h4 | h4
    · exact h4
    · rcases List.mem_cons.1 h4 with h5 | h5
      · omega
      · have h6 := (List.pairwise_cons.1 hs.2.1).1 c h5; omega
  have := h3 c hcas
  simpa using this
theorem minus_bit (s : BitVec 64) (a i : Nat) (ha : a < 64) (hi : i < 64) : (s &&& ~~~ Bv.bit a).getLsbD i = (s.getLsbD i && decide (i ≠ a)) := by
  rw [BitVec.getLsbD_and, Bv.not_get _ _ hi, Bv.bit_get a i ha]; simp
theorem minus_iff (s : BitVec 64) (a i : Nat) (ha : a < 64) : (s &&& ~~~ Bv.bit a).getLsbD i = true ↔ s.getLsbD i = true ∧ i ≠ a := by
  by_cases hi : i < 64
  · rw [minus_bit s a i ha hi, Bool.and_eq_true, decide_eq_true_eq]
  · constructor
    · intro h; exact absurd (Bx.lt64 h) hi
    · intro h; exact absurd (Bx.lt64 h.1) hi
theorem card_minus (s : BitVec 64) (a : Nat) (h : s.getLsbD a = true) : Bx.card (s &&& ~~~ Bv.bit a) + 1 = Bx.card s := by
  have ha := Bx.lt64 h
  have h1 := Bx.card_less s (Bv.bit a)
  have h2 : s &&& Bv.bit a = Bv.bit a := by
    apply Bv.ext_get; intro i hi
    rw [BitVec.getLsbD_and, Bv.bit_get a i ha]
    by_cases e : i = a
    · subst e; simp [h]
    · simp [e]
  have h3 : Bx.card (Bv.bit a) = 1 := by
    have e : Bs.elems (Bv.bit a) = [a] := by
      apply Bs.sorted_ext (Bs.elems_sorted _) (by simp)
      intro i
      rw [Bs.mem_elems]
      constructor
      · intro h; rw [Bv.bit_get a i ha] at h; simpa using h
      · intro h; simp at h; subst h; rw [Bv.bit_get i i ha]; simp
    unfold Bx.card; rw [e]; rfl
  rw [h2, h3] at h1
  exact h1
theorem card_zero {s : BitVec 64} (h : Bx.card s = 0) : s = 0#64 := by
  apply Bv.ext_get; intro i hi
  rw [Bv.zero_get]
  cases hb : s.getLsbD i
  · rfl
  · have := Bx.rank_lt s hi hb
    have : Bx.rank s 64 = 0 := h
    omega

/-- what a run of topGo gives: every item of left once; none ahead of one of its predecessors in left -/
theorem topGo_some {before : Rows} : ∀ (k : Nat) (left : BitVec 64) (l : List Nat), Bx.card left ≤ k → topGo before k left = some l →
    l.Nodup ∧ (∀ a, a ∈ l ↔ left.getLsbD a = true) ∧ (∀ p a q, l = p ++ a :: q → ∀ c, bit before a c = true → left.getLsbD c = true → c ∈ p)
  | 0, left, l, hc, h => by
    have h0 := card_zero (Nat.le_zero.1 hc)
    simp only [topGo, Option.some.injEq] at h
    subst h h0
    refine ⟨List.nodup_nil, fun a => by simp, fun p a q h => ?_⟩
    simp at h
  | k + 1, left, l, hc, h => by
    unfold topGo at h
    split at h
    · rename_i h0
      simp only [Option.some.injEq] at h
      subst h h0
      refine ⟨List.nodup_nil, fun a => by simp, fun p a q h => ?_⟩
      simp at h
    · split at h
      · cases h
      · rename_i a ha
        obtain ⟨h1, h2⟩ := free_some ha
        have ha64 := Bx.lt64 h1
        have hcm := card_minus left a h1
        rw [Option.map_eq_some_iff] at h
        obtain ⟨m, hm, rfl⟩ := h
        obtain ⟨r1, r2, r3⟩ := topGo_some k _ m (by omega) hm
        refine ⟨?_, fun c => ?_, fun p b q hl c hbc hcl => ?_⟩
        · rw [List.nodup_cons]
          refine ⟨fun hin => ?_, r1⟩
          exact ((minus_iff left a a ha64).1 ((r2 a).1 hin)).2 rfl
        · rw [List.mem_cons, r2, minus_iff left a c ha64]
          constructor
          · rintro (rfl | h)
            · exact h1
            · exact h.1
          · intro h
            by_cases e : c = a
            · exact .inl e
            · exact .inr ⟨h, e⟩
        · cases p with
          | nil =>
            simp at hl
            obtain ⟨rfl, rfl⟩ := hl
            exfalso
            have := congrArg (fun x => BitVec.getLsbD x c) h2
            simp only [BitVec.getLsbD_and, Bv.zero_get] at this
            unfold bit at hbc
            rw [hbc, hcl] at this
            cases this
          | cons x p =>
            simp at hl
            obtain ⟨rfl, rfl⟩ := hl
            by_cases e : c = a
            · subst e; simp
            · exact List.mem_cons_of_mem _ (r3 p b q rfl c hbc ((minus_iff left a c ha64).2 ⟨hcl, e⟩))
/-- no order: some set of items has no first one -/
theorem topGo_none {before : Rows} : ∀ (k : Nat) (left : BitVec 64), topGo before k left = none → ∃ s : BitVec 64, s ≠ 0#64 ∧ (∀ a, s.getLsbD a = true → left.getLsbD a = true) ∧ ∀ a, s.getLsbD a = true → ∃ c, bit before a c = true ∧ s.getLsbD c = true
  | 0, left, h => by simp [topGo] at h
  | k + 1, left, h => by
    unfold topGo at h
    split at h
    · cases h
    · rename_i h0
      split at h
      · rename_i hn
        refine ⟨left, h0, fun _ h => h, fun a ha => ?_⟩
        have h1 := free_none hn ha
        apply Classical.byContradiction
        intro hno
        apply h1
        apply Bv.ext_get; intro i hi
        rw [BitVec.getLsbD_and, Bv.zero_get]
        cases h2 : (before a).getLsbD i
        · rfl
        · cases h3 : left.getLsbD i
          · rfl
          · exact absurd ⟨i, h2, h3⟩ hno
      · rename_i a ha
        rw [Option.map_eq_none_iff] at h
        obtain ⟨s, h1, h2, h3⟩ := topGo_none k _ h
        refine ⟨s, h1, fun c hc => ?_, h3⟩
        exact ((minus_iff left a c (Bx.lt64 (free_some ha).1)).1 (h2 c hc)).1

/-- a set in which everybody has a predecessor holds a cycle -/
theorem cycle_of {f : Rows} {s : BitVec 64} (h0 : s ≠ 0#64) (h : ∀ a, s.getLsbD a = true → ∃ c, bit f c a = true ∧ s.getLsbD c = true) : ∃ a, s.getLsbD a = true ∧ Path f a a := by
  obtain ⟨a0, ha0⟩ : ∃ a, s.getLsbD a = true := ⟨_, Bs.low_bit h0⟩
  -- chains backwards of any length; two of 65 places are the same
  have chain : ∀ k : Nat, ∃ l : List Nat, l.length = k + 1 ∧ (∀ x ∈ l, s.getLsbD x = true) ∧ l.Pairwise (fun x y => Path f x y) ∧ ∃ x, l.head? = some x := by
    intro k
    induction k with
    | zero => exact ⟨[a0], rfl, by simp [ha0], by simp, a0, rfl⟩
    | succ k ih =>
      obtain ⟨l, h1, h2, h3, x, h4⟩ := ih
      cases l with
      | nil => simp at h4
      | cons y l =>
        simp at h4; subst h4
        obtain ⟨c, hc1, hc2⟩ := h y (h2 y (by simp))
        refine ⟨c :: y :: l, by simp at h1 ⊢; omega, ?_, ?_, c, rfl⟩
        · intro x hx
          rcases List.mem_cons.1 hx with rfl | hx
          · exact hc2
          · exact h2 x hx
        · rw [List.pairwise_cons]
          refine ⟨fun z hz => ?_, h3⟩
          rcases List.mem_cons.1 hz with rfl | hz
          · exact .one hc1
          · exact .step hc1 ((List.pairwise_cons.1 h3).1 z hz)
  obtain ⟨l, h1, h2, h3, _⟩ := chain 64
  apply Classical.byContradiction
  intro hno
  have hno' : ∀ x y, Path f x y → s.getLsbD x = true → x ≠ y := fun x y p hx e => hno ⟨x, hx, by subst e; exact p⟩
  have hnd : l.Nodup := by
    have key : ∀ m : List Nat, (∀ x ∈ m, s.getLsbD x = true) → m.Pairwise (fun x y => Path f x y) → m.Nodup := by
      intro m
      induction m with
      | nil => intro _ _; exact List.nodup_nil
      | cons y m ih =>
        intro hm hp
        rw [List.pairwise_cons] at hp
        rw [List.nodup_cons]
        exact ⟨fun hin => hno' y y (hp.1 y hin) (hm y (by simp)) rfl, ih (fun x hx => hm x (by simp [hx])) hp.2⟩
    exact key l h2 h3
  have hle : l.length ≤ (List.range 64).length := by
    apply List.Nodup.length_le_of_subset hnd
    intro x hx
    rw [List.mem_range]; exact Bx.lt64 (h2 x hx)
  simp at hle
  omega

/-- acyclic exactly where there is an order -/
theorem top_some {n : Nat} {f : Rows} (hf : Ok n f) {l : List Nat} (h : topL n f = some l) : l.Nodup ∧ (∀ a, a ∈ l ↔ a < n) ∧ (∀ p a q, l = p ++ a :: q → ∀ c, bit f c a = true → c ∈ p) := by
  have hn := hf.le
  obtain ⟨h1, h2, h3⟩ := topGo_some 64 _ l (Bx.card_le _) h
  refine ⟨h1, fun a => ?_, fun p a q hl c hb => ?_⟩
  · rw [h2]
    constructor
    · intro hb
      rw [below_getN _ _ (Bx.lt64 hb)] at hb
      exact of_decide_eq_true hb
    · intro ha
      rw [below_getN _ _ (by omega)]; exact decide_eq_true ha
  · have hin := hf.in_ c a hb
    exact h3 p a q hl c ((back_ok hf a c).trans hb) (by rw [below_getN _ _ (by omega)]; exact decide_eq_true hin.1)
theorem top_none {n : Nat} {f : Rows} (hf : Ok n f) (h : topL n f = none) : ∃ a, a < n ∧ Path f a a := by
  obtain ⟨s, h1, h2, h3⟩ := topGo_none 64 _ h
  have hlt : ∀ a, s.getLsbD a = true → a < n := fun a ha => by
    have := h2 a ha
    rw [below_getN _ _ (Bx.lt64 ha)] at this
    exact of_decide_eq_true this
  obtain ⟨a, ha, p⟩ := cycle_of (f := f) h1 (fun a ha => by
    obtain ⟨c, hc, hs⟩ := h3 a ha
    exact ⟨c, (back_ok hf a c).symm.trans hc, hs⟩)
  exact ⟨a, hlt a ha, p⟩
theorem top_acyclic {n : Nat} {f : Rows} (hf : Ok n f) {l : List Nat} (h : topL n f = some l) {a : Nat} : ¬ Path f a a := by
  obtain ⟨h1, h2, h3⟩ := top_some hf h
  have key : ∀ a b, Path f a b → l.idxOf a < l.idxOf b := by
    intro a b p
    have step : ∀ a b, bit f a b = true → l.idxOf a < l.idxOf b := by
      intro a b hb
      have hin := hf.in_ a b hb
      have hm : b ∈ l := (h2 b).2 hin.2
      obtain ⟨p, q, rfl⟩ := List.append_of_mem hm
      have hap := h3 p b q rfl a hb
      have hbp : b ∉ p := fun hbp => by
        rw [List.nodup_append] at h1
        exact h1.2.2 b hbp b (by simp) rfl
      rw [List.idxOf_append, List.idxOf_append, if_pos hap, if_neg hbp]
      have := List.idxOf_lt_length_of_mem hap
      omega
    induction p with
    | one h => exact step _ _ h
    | step h _ ih => exact Nat.lt_trans (step _ _ h) ih
  intro p
  exact Nat.lt_irrefl _ (key a a p)
theorem top_iff {n : Nat} {f : Rows} (hf : Ok n f) : (topL n f).isSome = true ↔ ∀ a, ¬ Path f a a := by
  cases h : topL n f with
  | none =>
    obtain ⟨a, ha, p⟩ := top_none hf h
    simp only [Option.isSome_none, Bool.false_eq_true, false_iff]
    intro hno; exact hno a p
  | some l => simp only [Option.isSome_some, true_iff]; exact fun a => top_acyclic hf h
end Go.Rl
