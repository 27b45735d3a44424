/- Texts that stand together: Rl, Rp, Rt, Rr, Ro, Rq, Rs, Ru. -/
import Derived.Test.YtknjdfgmejobfaaDoorLa
/- Relations on at most 48 items by their rows, plain: validity, images, composition, inverse, closure. -/
namespace Go.Rl

abbrev Rows := Nat → BitVec 64
/-- is (a, b) a pair? -/
def bit (f : Rows) (a b : Nat) : Bool := (f a).getLsbD b
/-- the integers below n -/
def below (n : Int) : BitVec 64 := Bv.bit (min n.toNat 64) - 1#64
theorem below_get (n : Int) (i : Nat) (hi : i < 64) : (below n).getLsbD i = decide ((i : Int) < n) := by
  unfold below
  rw [Bv.ones_get _ _ (by omega) hi, Bool.eq_iff_iff]
  simp
  omega
theorem below_getN (n i : Nat) (hi : i < 64) : (below (n : Int)).getLsbD i = decide (i < n) := by
  rw [below_get _ _ hi, Bool.eq_iff_iff]; simp

/-- is row a of a relation on n items right? -/
def rowB (n : Int) (a : Nat) (s : BitVec 64) : Bool := (s &&& ~~~ (below n) == 0#64) && (decide ((a : Int) < n) || s == 0#64)
/-- are the first k rows right? -/
def rowsB (n : Int) (f : Rows) (k : Nat) : Bool := (List.range k).all (fun a => rowB n a (f a))
theorem rowsB_succ (n : Int) (f : Rows) (k : Nat) : rowsB n f (k + 1) = (rowsB n f k && rowB n k (f k)) := by simp [rowsB, List.range_succ]
def rightB (n : Int) (f : Rows) : Bool := decide (0 ≤ n ∧ n ≤ 48) && rowsB n f 48

theorem sub_zero (s t : BitVec 64) : (s &&& ~~~ t == 0#64) = true ↔ ∀ i, i < 64 → s.getLsbD i = true → t.getLsbD i = true := by
  rw [beq_iff_eq]
  constructor
  · intro h i hi hb
    have := congrArg (fun x => BitVec.getLsbD x i) h
    simp only [BitVec.getLsbD_and, Bv.not_get t i hi, Bv.zero_get, hb, Bool.true_and] at this
    simpa using this
  · intro h
    apply Bv.ext_get
    intro i hi
    rw [BitVec.getLsbD_and, Bv.not_get t i hi, Bv.zero_get]
    cases hb : s.getLsbD i
    · rfl
    · rw [h i hi hb]; rfl
theorem zero_iff (s : BitVec 64) : (s == 0#64) = true ↔ ∀ i, i < 64 → s.getLsbD i = false := by
  rw [beq_iff_eq]
  constructor
  · rintro rfl i _; exact Bv.zero_get i
  · intro h; apply Bv.ext_get; intro i hi; rw [h i hi, Bv.zero_get]

/-- a valid relation: no row beyond the items -/
structure Ok (n : Nat) (f : Rows) : Prop where
  le : n ≤ 48
  in_ : ∀ a b, bit f a b = true → a < n ∧ b < n
/-- nothing beyond the 48 rows -/
def Z (f : Rows) : Prop := ∀ a, 48 ≤ a → f a = 0#64
theorem Ok.z {n : Nat} {f : Rows} (h : Ok n f) : Z f := fun a ha => by
  apply Bv.ext_get; intro b hb
  rw [Bv.zero_get]
  cases hc : (f a).getLsbD b
  · rfl
  · have := h.in_ a b hc; have := h.le; omega
theorem right_iff (n : Nat) (f : Rows) (hz : Z f) : rightB (n : Int) f = true ↔ Ok n f := by
  unfold rightB rowsB rowB
  simp only [Bool.and_eq_true, decide_eq_true_eq, List.all_eq_true, List.mem_range, Bool.or_eq_true]
  constructor
  · rintro ⟨⟨_, h1⟩, h2⟩
    refine ⟨by omega, fun a b hb => ?_⟩
    have hb64 := Bx.lt64 hb
    have ha : a < 48 := by
      apply Classical.byContradiction; intro ha
      unfold bit at hb; rw [hz a (by omega), Bv.zero_get] at hb; cases hb
    obtain ⟨h3, h4⟩ := h2 a ha
    have h5 := (sub_zero _ _).1 h3 b hb64 hb
    rw [below_getN _ _ hb64] at h5
    have h5 := of_decide_eq_true h5
    rcases h4 with h4 | h4
    · exact ⟨by omega, h5⟩
    · have := (zero_iff _).1 h4 b hb64
      unfold bit at hb; rw [this] at hb; cases hb
  · rintro ⟨h1, h2⟩
    refine ⟨⟨by omega, by omega⟩, fun a ha => ⟨(sub_zero _ _).2 fun i hi hb => ?_, ?_⟩⟩
    · rw [below_getN _ _ hi]; exact decide_eq_true (h2 a i hb).2
    · by_cases han : a < n
      · exact .inl (by omega)
      · refine .inr ((zero_iff _).2 fun i hi => ?_)
        cases hb : (f a).getLsbD i
        · rfl
        · exact absurd (h2 a i hb).1 han
theorem right_nat {n : Int} {f : Rows} (hz : Z f) (h : rightB n f = true) : ∃ m : Nat, n = (m : Int) ∧ Ok m f := by
  have h1 : 0 ≤ n := by
    unfold rightB at h
    rw [Bool.and_eq_true] at h
    exact (of_decide_eq_true h.1).1
  obtain ⟨m, rfl⟩ : ∃ m : Nat, n = (m : Int) := ⟨n.toNat, by omega⟩
  exact ⟨m, rfl, (right_iff m f hz).1 h⟩

/-! ### rows -/
/-- the relation on n items with the rows g -/
def cut (n : Nat) (g : Rows) : Rows := fun a => if a < n then g a else 0#64
theorem cut_lt {n : Nat} {g : Rows} {a : Nat} (h : a < n) : cut n g a = g a := if_pos h
theorem cut_ge {n : Nat} {g : Rows} {a : Nat} (h : ¬ a < n) : cut n g a = 0#64 := if_neg h
theorem cut_bit (n : Nat) (g : Rows) (a b : Nat) : bit (cut n g) a b = (decide (a < n) && bit g a b) := by
  unfold bit cut
  split
  · rename_i h; simp [h]
  · rename_i h; rw [Bv.zero_get]; simp [h]
theorem rows_ext {f g : Rows} (h : ∀ a b, b < 64 → bit f a b = bit g a b) : f = g := funext fun a => Bv.ext_get fun b hb => h a b hb
/-- two valid relations on n items with the same pairs -/
theorem ok_ext {n : Nat} {f g : Rows} (hf : Ok n f) (hg : Ok n g) (h : ∀ a b, a < n → b < n → bit f a b = bit g a b) : f = g := by
  apply rows_ext
  intro a b _
  have key : ∀ {x y : Rows}, Ok n x → (∀ a b, a < n → b < n → bit x a b = bit y a b) → bit x a b = true → bit y a b = true := by
    intro x y hx h hb
    obtain ⟨h1, h2⟩ := hx.in_ a b hb
    rw [← h a b h1 h2]; exact hb
  rw [Bool.eq_iff_iff]
  exact ⟨key hf h, key hg fun a b h1 h2 => (h a b h1 h2).symm⟩
theorem ok_iff_ext {n : Nat} {f g : Rows} (hf : Ok n f) (hg : Ok n g) (h : ∀ a b, a < n → b < n → (bit f a b = true ↔ bit g a b = true)) : f = g :=
  ok_ext hf hg fun a b ha hb => by rw [Bool.eq_iff_iff]; exact h a b ha hb
theorem ok_cut {n : Nat} (hn : n ≤ 48) {g : Rows} (h : ∀ a b, a < n → bit g a b = true → b < n) : Ok n (cut n g) :=
  ⟨hn, fun a b hb => by
    rw [cut_bit, Bool.and_eq_true] at hb
    have ha := of_decide_eq_true hb.1
    exact ⟨ha, h a b ha hb.2⟩⟩
theorem ok_zero (n : Nat) (hn : n ≤ 48) : Ok n (fun _ => 0#64) := ⟨hn, fun a b hb => by unfold bit at hb; rw [Bv.zero_get] at hb; cases hb⟩
theorem right_of {n : Nat} {f : Rows} (h : Ok n f) : rightB (n : Int) f = true := (right_iff n f h.z).2 h

/-! ### the image of a set -/
def imageL (g : Rows) (l : List Nat) : BitVec 64 := l.foldl (fun t b => t ||| g b) 0#64
theorem imageL_get (g : Rows) (l : List Nat) (c : Nat) : (imageL g l).getLsbD c = l.any (fun b => bit g b c) := by
  have key : ∀ (l : List Nat) (t : BitVec 64), (l.foldl (fun t b => t ||| g b) t).getLsbD c = (t.getLsbD c || l.any (fun b => bit g b c)) := by
    intro l
    induction l with
    | nil => intro t; simp
    | cons b l ih => intro t; rw [List.foldl_cons, ih, BitVec.getLsbD_or, List.any_cons, Bool.or_assoc]; rfl
  unfold imageL
  rw [key, Bv.zero_get, Bool.false_or]
theorem imageL_cons (g : Rows) (t : BitVec 64) (b : Nat) (l : List Nat) : t ||| imageL g (b :: l) = (t ||| g b) ||| imageL g l := by
  apply Bv.ext_get; intro c hc
  rw [BitVec.getLsbD_or, BitVec.getLsbD_or, BitVec.getLsbD_or, imageL_get, imageL_get, List.any_cons, Bool.or_assoc]; rfl
def image (g : Rows) (s : BitVec 64) : BitVec 64 := imageL g (Bs.elems s)
theorem image_iff (g : Rows) (s : BitVec 64) (c : Nat) : (image g s).getLsbD c = true ↔ ∃ b, s.getLsbD b = true ∧ bit g b c = true := by
  unfold image
  rw [imageL_get, List.any_eq_true]
  constructor
  · rintro ⟨b, hb, h⟩; exact ⟨b, Bs.mem_elems.1 hb, h⟩
  · rintro ⟨b, hb, h⟩; exact ⟨b, Bs.mem_elems.2 hb, h⟩

/-! ### the operations -/
def unionF (n : Nat) (f g : Rows) : Rows := cut n fun a => f a ||| g a
def bothF (n : Nat) (f g : Rows) : Rows := cut n fun a => f a &&& g a
def lessF (n : Nat) (f g : Rows) : Rows := cut n fun a => f a &&& ~~~ (g a)
def thenF (n : Nat) (f g : Rows) : Rows := cut n fun a => image g (f a)
def idF (n : Nat) (s : BitVec 64) : Rows := cut n fun a => s &&& Bv.bit a
def crossF (n : Nat) (s t : BitVec 64) : Rows := cut n fun a => if s.getLsbD a then t &&& below (n : Int) else 0#64
def backF (n : Nat) (f : Rows) : Rows := fun b => Bx.mk fun a => decide (a < n) && bit f a b

theorem bit64 {f : Rows} {a b : Nat} (h : bit f a b = true) : b < 64 := Bx.lt64 h
theorem union_bit (n : Nat) (f g : Rows) (a b : Nat) (ha : a < n) : bit (unionF n f g) a b = (bit f a b || bit g a b) := by
  unfold unionF; rw [cut_bit]; unfold bit; rw [BitVec.getLsbD_or]; simp [ha]
theorem both_bit (n : Nat) (f g : Rows) (a b : Nat) (ha : a < n) : bit (bothF n f g) a b = (bit f a b && bit g a b) := by
  unfold bothF; rw [cut_bit]; unfold bit; rw [BitVec.getLsbD_and]; simp [ha]
theorem less_bit (n : Nat) (f g : Rows) (a b : Nat) (ha : a < n) (hb : b < 64) : bit (lessF n f g) a b = (bit f a b && !bit g a b) := by
  unfold lessF; rw [cut_bit]; unfold bit; rw [BitVec.getLsbD_and, Bv.not_get _ _ hb]; simp [ha]
theorem then_bit (n : Nat) (f g : Rows) (a c : Nat) (ha : a < n) : bit (thenF n f g) a c = true ↔ ∃ b, bit f a b = true ∧ bit g b c = true := by
  unfold thenF; rw [cut_bit, decide_eq_true ha, Bool.true_and]
  exact image_iff g (f a) c
theorem id_bit (n : Nat) (s : BitVec 64) (a b : Nat) (ha : a < n) (hn : n ≤ 48) : bit (idF n s) a b = (decide (b = a) && s.getLsbD b) := by
  unfold idF; rw [cut_bit, decide_eq_true ha, Bool.true_and]
  unfold bit
  rw [BitVec.getLsbD_and, Bv.bit_get a b (by omega), Bool.and_comm]
theorem cross_bit (n : Nat) (s t : BitVec 64) (a b : Nat) (ha : a < n) (_hn : n ≤ 48) : bit (crossF n s t) a b = (s.getLsbD a && t.getLsbD b && decide (b < n)) := by
  unfold crossF; rw [cut_bit, decide_eq_true ha, Bool.true_and]
  show (if s.getLsbD a = true then t &&& below (n : Int) else 0#64).getLsbD b = _
  split
  · rename_i h
    rw [h, Bool.true_and, BitVec.getLsbD_and]
    by_cases hb : b < 64
    · rw [below_getN _ _ hb]
    · rw [BitVec.getLsbD_of_ge _ _ (by omega), BitVec.getLsbD_of_ge _ _ (by omega)]; simp
  · rename_i h
    rw [Bv.zero_get]
    simp at h; simp [h]
theorem back_bit (n : Nat) (f : Rows) (a b : Nat) (hb : b < 64) : bit (backF n f) a b = (decide (b < n) && bit f b a) := by
  unfold bit backF; rw [Bx.mk_get _ b hb]; rfl

theorem ok_union {n : Nat} {f g : Rows} (hf : Ok n f) (hg : Ok n g) : Ok n (unionF n f g) := ok_cut hf.le fun a b ha h => by
  unfold bit at h; rw [BitVec.getLsbD_or, Bool.or_eq_true] at h
  rcases h with h | h
  · exact (hf.in_ a b h).2
  · exact (hg.in_ a b h).2
theorem ok_both {n : Nat} {f g : Rows} (hf : Ok n f) : Ok n (bothF n f g) := ok_cut hf.le fun a b ha h => by
  unfold bit at h; rw [BitVec.getLsbD_and, Bool.and_eq_true] at h
  exact (hf.in_ a b h.1).2
theorem ok_less {n : Nat} {f g : Rows} (hf : Ok n f) : Ok n (lessF n f g) := ok_cut hf.le fun a b ha h => by
  unfold bit at h; rw [BitVec.getLsbD_and, Bool.and_eq_true] at h
  exact (hf.in_ a b h.1).2
theorem ok_then {n : Nat} {f g : Rows} (hf : Ok n f) (hg : Ok n g) : Ok n (thenF n f g) := ok_cut hf.le fun a c ha h => by
  obtain ⟨b, h1, h2⟩ := (image_iff g (f a) c).1 h
  have hb := (hf.in_ a b h1).2
  exact (hg.in_ b c h2).2
theorem ok_id {n : Nat} (hn : n ≤ 48) (s : BitVec 64) : Ok n (idF n s) := ⟨hn, fun a b h => by
  unfold idF at h; rw [cut_bit, Bool.and_eq_true] at h
  have ha := of_decide_eq_true h.1
  have h2 := h.2
  unfold bit at h2
  rw [BitVec.getLsbD_and, Bv.bit_get a b (by omega), Bool.and_eq_true] at h2
  have := of_decide_eq_true h2.2
  exact ⟨ha, by omega⟩⟩
theorem ok_cross {n : Nat} (hn : n ≤ 48) (s t : BitVec 64) : Ok n (crossF n s t) := ⟨hn, fun a b h => by
  have ha : a < n := by
    unfold crossF at h; rw [cut_bit, Bool.and_eq_true] at h
    exact of_decide_eq_true h.1
  rw [cross_bit n s t a b ha hn, Bool.and_eq_true] at h
  exact ⟨ha, of_decide_eq_true h.2⟩⟩
theorem ok_back {n : Nat} {f : Rows} (hf : Ok n f) : Ok n (backF n f) := ⟨hf.le, fun a b h => by
  rw [back_bit n f a b (bit64 h), Bool.and_eq_true] at h
  have hb := of_decide_eq_true h.1
  exact ⟨(hf.in_ b a h.2).2, hb⟩⟩
theorem back_ok {n : Nat} {f : Rows} (hf : Ok n f) (a b : Nat) : bit (backF n f) a b = bit f b a := by
  have hn := hf.le
  by_cases hb : b < 64
  · rw [back_bit n f a b hb]
    cases h : bit f b a
    · simp
    · simp [(hf.in_ b a h).1]
  · cases h : bit f b a
    · cases h2 : bit (backF n f) a b
      · rfl
      · exact absurd (bit64 h2) hb
    · have := (hf.in_ b a h).1; omega
end Go.Rl

/- Relations, plain: paths, the transitive closure by squaring. -/
namespace Go.Rl

/-- a walk of one step or more -/
inductive Path (f : Rows) : Nat → Nat → Prop
  | one {a b : Nat} (h : bit f a b = true) : Path f a b
  | step {a b c : Nat} (h : bit f a b = true) (p : Path f b c) : Path f a c
theorem Path.trans {f : Rows} {a b c : Nat} (p : Path f a b) (q : Path f b c) : Path f a c := by
  induction p with
  | one h => exact .step h q
  | step h _ ih => exact .step h (ih q)
theorem Path.mono {f g : Rows} (h : ∀ a b, bit f a b = true → Path g a b) {a b : Nat} (p : Path f a b) : Path g a b := by
  induction p with
  | one h1 => exact h _ _ h1
  | step h1 _ ih => exact (h _ _ h1).trans ih
theorem Path.fst {f : Rows} {a b : Nat} (p : Path f a b) : ∃ c, bit f a c = true := by
  cases p with
  | one h => exact ⟨_, h⟩
  | step h _ => exact ⟨_, h⟩
theorem Path.lst {f : Rows} {a b : Nat} (p : Path f a b) : ∃ c, bit f c b = true := by
  induction p with
  | one h => exact ⟨_, h⟩
  | step _ _ ih => exact ih
theorem Path.lt {n : Nat} {f : Rows} (hf : Ok n f) {a b : Nat} (p : Path f a b) : a < n ∧ b < n := by
  induction p with
  | one h => exact hf.in_ _ _ h
  | step h _ ih => exact ⟨(hf.in_ _ _ h).1, ih.2⟩
/-- a path that is closed under a transitive relation -/
theorem Path.closed {f : Rows} {T : Nat → Nat → Prop} (h1 : ∀ a b, bit f a b = true → T a b) (ht : ∀ a b c, T a b → T b c → T a c) {a b : Nat} (p : Path f a b) : T a b := by
  induction p with
  | one h => exact h1 _ _ h
  | step h _ ih => exact ht _ _ _ (h1 _ _ h) ih

/-- one squaring -/
def sqF (n : Nat) (f : Rows) : Rows := cut n fun x => f x ||| image f (f x)
theorem sq_bit (n : Nat) (f : Rows) (a c : Nat) (ha : a < n) : bit (sqF n f) a c = true ↔ bit f a c = true ∨ ∃ b, bit f a b = true ∧ bit f b c = true := by
  unfold sqF; rw [cut_bit, decide_eq_true ha, Bool.true_and]
  show (f a ||| image f (f a)).getLsbD c = true ↔ _
  rw [BitVec.getLsbD_or, Bool.or_eq_true, image_iff]; rfl
theorem ok_sq {n : Nat} {f : Rows} (hf : Ok n f) : Ok n (sqF n f) := ⟨hf.le, fun a c h => by
  have ha : a < n := by
    unfold sqF at h; rw [cut_bit, Bool.and_eq_true] at h
    exact of_decide_eq_true h.1
  rcases (sq_bit n f a c ha).1 h with h | ⟨b, h1, h2⟩
  · exact hf.in_ a c h
  · exact ⟨ha, (hf.in_ b c h2).2⟩⟩
theorem sq_sup {n : Nat} {f : Rows} (hf : Ok n f) {a b : Nat} (h : bit f a b = true) : bit (sqF n f) a b = true := (sq_bit n f a b (hf.in_ a b h).1).2 (.inl h)
theorem sq_one {n : Nat} {f : Rows} (hf : Ok n f) {a b : Nat} (h : bit (sqF n f) a b = true) : Path f a b := by
  have h1 := (ok_sq hf).in_ a b h
  rcases (sq_bit n f a b h1.1).1 h with h | ⟨c, h2, h3⟩
  · exact .one h
  · exact .step h2 (.one h3)
theorem sq_path {n : Nat} {f : Rows} (hf : Ok n f) {a b : Nat} : Path (sqF n f) a b ↔ Path f a b :=
  ⟨Path.mono fun _ _ h => sq_one hf h, Path.mono fun _ _ h => .one (sq_sup hf h)⟩
/-- a relation that squaring leaves is its own closure -/
theorem sq_fix {n : Nat} {f : Rows} (hf : Ok n f) (hs : sqF n f = f) {a b : Nat} : Path f a b ↔ bit f a b = true := by
  constructor
  · intro p
    induction p with
    | one h => exact h
    | @step a b c h _ ih =>
      have h3 := (sq_bit n f a c (hf.in_ a b h).1).2 (.inr ⟨b, h, ih⟩)
      rw [hs] at h3; exact h3
  · exact .one

/-- how many pairs are missing -/
def gap (f : Rows) : Nat → Nat
  | 0 => 0
  | k + 1 => gap f k + (64 - Bx.card (f k))
theorem rank_sub {s t : BitVec 64} (h : ∀ i, s.getLsbD i = true → t.getLsbD i = true) (k : Nat) : Bx.rank s k ≤ Bx.rank t k := by
  induction k with
  | zero => exact Nat.le_refl _
  | succ k ih =>
    cases hs : s.getLsbD k
    · rw [Bx.rank_miss _ _ hs]; exact Nat.le_trans ih (Bx.rank_le_succ t k)
    · rw [Bx.rank_hit _ _ hs, Bx.rank_hit _ _ (h k hs)]; omega
theorem card_sub {s t : BitVec 64} (h : ∀ i, s.getLsbD i = true → t.getLsbD i = true) : Bx.card s ≤ Bx.card t := rank_sub h 64
theorem card_ssub {s t : BitVec 64} (h : ∀ i, s.getLsbD i = true → t.getLsbD i = true) (hne : s ≠ t) : Bx.card s < Bx.card t := by
  obtain ⟨i, hi, hs, ht⟩ : ∃ i, i < 64 ∧ s.getLsbD i = false ∧ t.getLsbD i = true := by
    apply Classical.byContradiction
    intro hno
    apply hne
    apply Bv.ext_get
    intro i hi
    cases hs : s.getLsbD i
    · cases ht : t.getLsbD i
      · rfl
      · exact absurd ⟨i, hi, hs, ht⟩ hno
    · rw [h i hs]
  have h1 := rank_sub h i
  have key : ∀ k, i < k → Bx.rank s k < Bx.rank t k := by
    intro k
    induction k with
    | zero => intro h; omega
    | succ k ih =>
      intro hk
      by_cases e : k = i
      · subst e; rw [Bx.rank_miss _ _ hs, Bx.rank_hit _ _ ht]; omega
      · have := ih (by omega)
        cases hk2 : s.getLsbD k
        · rw [Bx.rank_miss _ _ hk2]; exact Nat.lt_of_lt_of_le this (Bx.rank_le_succ t k)
        · rw [Bx.rank_hit _ _ hk2, Bx.rank_hit _ _ (h k hk2)]; omega
  exact key 64 hi
theorem gap_sub {f g : Rows} (k : Nat) (h : ∀ a, a < k → ∀ b, bit f a b = true → bit g a b = true) : gap g k ≤ gap f k := by
  induction k with
  | zero => exact Nat.le_refl _
  | succ k ih =>
    have h1 := ih (fun a ha => h a (by omega))
    have h2 := card_sub (h k (by omega))
    unfold gap; omega
theorem gap_ssub {f g : Rows} (k : Nat) (h : ∀ a, a < k → ∀ b, bit f a b = true → bit g a b = true) (hne : ¬ ∀ a, a < k → f a = g a) : gap g k < gap f k := by
  induction k with
  | zero => exact absurd (fun a ha => by omega) hne
  | succ k ih =>
    have hs := gap_sub k (fun a ha => h a (by omega))
    by_cases e : f k = g k
    · have := ih (fun a ha => h a (by omega)) (fun h2 => hne fun a ha => by
        by_cases e2 : a = k
        · subst e2; exact e
        · exact h2 a (by omega))
      unfold gap; rw [e]; omega
    · have h1 := card_ssub (h k (by omega)) e
      have h2 := Bx.card_le (g k)
      unfold gap; omega
theorem gap_sq {n : Nat} {f : Rows} (hf : Ok n f) (h : sqF n f ≠ f) : gap (sqF n f) 48 < gap f 48 :=
  gap_ssub 48 (fun _ _ _ hb => sq_sup hf hb) (fun h2 => h (funext fun a => by
    by_cases ha : a < 48
    · exact (h2 a ha).symm
    · rw [(ok_sq hf).z a (by omega), hf.z a (by omega)]))

/-- the transitive closure -/
noncomputable def plusF (n : Nat) (f : Rows) : Rows := open Classical in fun a => Bx.mk fun b => decide (a < n) && decide (Path f a b)
open Classical in
theorem plus_bit {n : Nat} {f : Rows} (hf : Ok n f) {a b : Nat} : bit (plusF n f) a b = true ↔ Path f a b := by
  have hn := hf.le
  constructor
  · intro h
    have hb := bit64 h
    unfold bit plusF at h
    rw [Bx.mk_get _ b hb, Bool.and_eq_true] at h
    exact of_decide_eq_true h.2
  · intro p
    have h1 := p.lt hf
    unfold bit plusF
    rw [Bx.mk_get _ b (by omega), Bool.and_eq_true]
    exact ⟨decide_eq_true h1.1, decide_eq_true p⟩
theorem ok_plus {n : Nat} {f : Rows} (hf : Ok n f) : Ok n (plusF n f) := ⟨hf.le, fun _ _ h => ((plus_bit hf).1 h).lt hf⟩
/-- what squaring ends in -/
theorem plus_eq {n : Nat} {f g : Rows} (hf : Ok n f) (hg : Ok n g) (hp : ∀ a b, Path g a b ↔ Path f a b) (hs : sqF n g = g) : g = plusF n f :=
  ok_iff_ext hg (ok_plus hf) fun a b _ _ => by rw [plus_bit hf, ← hp a b, sq_fix hg hs]
/-- squaring k times -/
def sqK (n : Nat) : Nat → Rows → Rows
  | 0, f => f
  | k + 1, f => sqK n k (sqF n f)
theorem ok_sqK {n : Nat} (k : Nat) : ∀ {f : Rows}, Ok n f → Ok n (sqK n k f) ∧ ∀ a b, Path (sqK n k f) a b ↔ Path f a b := by
  induction k with
  | zero => exact fun hf => ⟨hf, fun _ _ => Iff.rfl⟩
  | succ k ih => exact fun hf => ⟨(ih (ok_sq hf)).1, fun a b => ((ih (ok_sq hf)).2 a b).trans (sq_path hf)⟩
theorem plus_sqK {n : Nat} (k : Nat) {f : Rows} (hf : Ok n f) (h : sqF n (sqK n k f) = sqK n k f) : sqK n k f = plusF n f :=
  plus_eq hf (ok_sqK k hf).1 (ok_sqK k hf).2 h
theorem plus_sup {n : Nat} {f : Rows} (hf : Ok n f) {a b : Nat} (h : bit f a b = true) : bit (plusF n f) a b = true := (plus_bit hf).2 (.one h)
theorem plus_trans {n : Nat} {f : Rows} (hf : Ok n f) {a b c : Nat} (h1 : bit (plusF n f) a b = true) (h2 : bit (plusF n f) b c = true) : bit (plusF n f) a c = true :=
  (plus_bit hf).2 (((plus_bit hf).1 h1).trans ((plus_bit hf).1 h2))
theorem plus_plus {n : Nat} {f : Rows} (hf : Ok n f) : plusF n (plusF n f) = plusF n f :=
  ok_iff_ext (ok_plus (ok_plus hf)) (ok_plus hf) fun a b _ _ => by
    rw [plus_bit (ok_plus hf)]
    constructor
    · intro p
      induction p with
      | one h => exact h
      | step h _ ih => exact plus_trans hf h (ih (((ok_plus hf).in_ _ _ h).2) (by assumption))
    · exact .one
end Go.Rl

/- Relations, plain: the topological order that takes the least free item each time. -/
namespace Go.Rl

/-- the least item of left none of whose predecessors is in left -/
def freeN (before : Rows) (left : BitVec 64) : Option Nat := (Bs.elems left).find? fun a => before a &&& left == 0#64
def topGo (before : Rows) : Nat → BitVec 64 → Option (List Nat)
  | 0, _ => some []
  | k + 1, left => if left = 0#64 then some [] else
    match freeN before left with
    | none => none
    | some a => (topGo before k (left &&& ~~~ Bv.bit a)).map (a :: ·)
def topL (n : Nat) (f : Rows) : Option (List Nat) := topGo (backF n f) 64 (below (n : Int))

theorem free_some {before : Rows} {left : BitVec 64} {a : Nat} (h : freeN before left = some a) : left.getLsbD a = true ∧ before a &&& left = 0#64 := by
  unfold freeN at h
  have h1 := List.find?_some h
  have h2 := List.mem_of_find?_eq_some h
  exact ⟨Bs.mem_elems.1 h2, by simpa using h1⟩
theorem free_none {before : Rows} {left : BitVec 64} (h : freeN before left = none) {a : Nat} (ha : left.getLsbD a = true) : before a &&& left ≠ 0#64 := by
  unfold freeN at h
  rw [List.find?_eq_none] at h
  have := h a (Bs.mem_elems.2 ha)
  simpa using this
theorem free_least {before : Rows} {left : BitVec 64} {a : Nat} (h : freeN before left = some a) {c : Nat} (hc : left.getLsbD c = true) (hca : c < a) : before c &&& left ≠ 0#64 := by
  unfold freeN at h
  obtain ⟨_, xs, bs, h2, h3⟩ := List.find?_eq_some_iff_append.1 h
  have hs := Bs.elems_sorted left
  have hm : c ∈ Bs.elems left := Bs.mem_elems.2 hc
  rw [h2] at hs hm
  rw [List.pairwise_append] at hs
  have hcas : c ∈ xs := by
    rcases List.mem_append.1 hm with h4 | h4
    · exact h4
    · rcases List.mem_cons.1 h4 with h5 | h5
      · omega
      · have h6 := (List.pairwise_cons.1 hs.2.1).1 c h5; omega
  have := h3 c hcas
  simpa using this
theorem minus_bit (s : BitVec 64) (a i : Nat) (ha : a < 64) (hi : i < 64) : (s &&& ~~~ Bv.bit a).getLsbD i = (s.getLsbD i && decide (i ≠ a)) := by
  rw [BitVec.getLsbD_and, Bv.not_get _ _ hi, Bv.bit_get a i ha]; simp
theorem minus_iff (s : BitVec 64) (a i : Nat) (ha : a < 64) : (s &&& ~~~ Bv.bit a).getLsbD i = true ↔ s.getLsbD i = true ∧ i ≠ a := by
  by_cases hi : i < 64
  · rw [minus_bit s a i ha hi, Bool.and_eq_true, decide_eq_true_eq]
  · constructor
    · intro h; exact absurd (Bx.lt64 h) hi
    · intro h; exact absurd (Bx.lt64 h.1) hi
theorem card_minus (s : BitVec 64) (a : Nat) (h : s.getLsbD a = true) : Bx.card (s &&& ~~~ Bv.bit a) + 1 = Bx.card s := by
  have ha := Bx.lt64 h
  have h1 := Bx.card_less s (Bv.bit a)
  have h2 : s &&& Bv.bit a = Bv.bit a := by
    apply Bv.ext_get; intro i hi
    rw [BitVec.getLsbD_and, Bv.bit_get a i ha]
    by_cases e : i = a
    · subst e; simp [h]
    · simp [e]
  have h3 : Bx.card (Bv.bit a) = 1 := by
    have e : Bs.elems (Bv.bit a) = [a] := by
      apply Bs.sorted_ext (Bs.elems_sorted _) (by simp)
      intro i
      rw [Bs.mem_elems]
      constructor
      · intro h; rw [Bv.bit_get a i ha] at h; simpa using h
      · intro h; simp at h; subst h; rw [Bv.bit_get i i ha]; simp
    unfold Bx.card; rw [e]; rfl
  rw [h2, h3] at h1
  exact h1
theorem card_zero {s : BitVec 64} (h : Bx.card s = 0) : s = 0#64 := by
  apply Bv.ext_get; intro i hi
  rw [Bv.zero_get]
  cases hb : s.getLsbD i
  · rfl
  · have := Bx.rank_lt s hi hb
    have : Bx.rank s 64 = 0 := h
    omega

/-- what a run of topGo gives: every item of left once; none ahead of one of its predecessors in left -/
theorem topGo_some {before : Rows} : ∀ (k : Nat) (left : BitVec 64) (l : List Nat), Bx.card left ≤ k → topGo before k left = some l →
    l.Nodup ∧ (∀ a, a ∈ l ↔ left.getLsbD a = true) ∧ (∀ p a q, l = p ++ a :: q → ∀ c, bit before a c = true → left.getLsbD c = true → c ∈ p)
  | 0, left, l, hc, h => by
    have h0 := card_zero (Nat.le_zero.1 hc)
    simp only [topGo, Option.some.injEq] at h
    subst h h0
    refine ⟨List.nodup_nil, fun a => by simp, fun p a q h => ?_⟩
    simp at h
  | k + 1, left, l, hc, h => by
    unfold topGo at h
    split at h
    · rename_i h0
      simp only [Option.some.injEq] at h
      subst h h0
      refine ⟨List.nodup_nil, fun a => by simp, fun p a q h => ?_⟩
      simp at h
    · split at h
      · cases h
      · rename_i a ha
        obtain ⟨h1, h2⟩ := free_some ha
        have ha64 := Bx.lt64 h1
        have hcm := card_minus left a h1
        rw [Option.map_eq_some_iff] at h
        obtain ⟨m, hm, rfl⟩ := h
        obtain ⟨r1, r2, r3⟩ := topGo_some k _ m (by omega) hm
        refine ⟨?_, fun c => ?_, fun p b q hl c hbc hcl => ?_⟩
        · rw [List.nodup_cons]
          refine ⟨fun hin => ?_, r1⟩
          exact ((minus_iff left a a ha64).1 ((r2 a).1 hin)).2 rfl
        · rw [List.mem_cons, r2, minus_iff left a c ha64]
          constructor
          · rintro (rfl | h)
            · exact h1
            · exact h.1
          · intro h
            by_cases e : c = a
            · exact .inl e
            · exact .inr ⟨h, e⟩
        · cases p with
          | nil =>
            simp at hl
            obtain ⟨rfl, rfl⟩ := hl
            exfalso
            have := congrArg (fun x => BitVec.getLsbD x c) h2
            simp only [BitVec.getLsbD_and, Bv.zero_get] at this
            unfold bit at hbc
            rw [hbc, hcl] at this
            cases this
          | cons x p =>
            simp at hl
            obtain ⟨rfl, rfl⟩ := hl
            by_cases e : c = a
            · subst e; simp
            · exact List.mem_cons_of_mem _ (r3 p b q rfl c hbc ((minus_iff left a c ha64).2 ⟨hcl, e⟩))
/-- no order: some set of items has no first one -/
theorem topGo_none {before : Rows} : ∀ (k : Nat) (left : BitVec 64), topGo before k left = none → ∃ s : BitVec 64, s ≠ 0#64 ∧ (∀ a, s.getLsbD a = true → left.getLsbD a = true) ∧ ∀ a, s.getLsbD a = true → ∃ c, bit before a c = true ∧ s.getLsbD c = true
  | 0, left, h => by simp [topGo] at h
  | k + 1, left, h => by
    unfold topGo at h
    split at h
    · cases h
    · rename_i h0
      split at h
      · rename_i hn
        refine ⟨left, h0, fun _ h => h, fun a ha => ?_⟩
        have h1 := free_none hn ha
        apply Classical.byContradiction
        intro hno
        apply h1
        apply Bv.ext_get; intro i hi
        rw [BitVec.getLsbD_and, Bv.zero_get]
        cases h2 : (before a).getLsbD i
        · rfl
        · cases h3 : left.getLsbD i
          · rfl
          · exact absurd ⟨i, h2, h3⟩ hno
      · rename_i a ha
        rw [Option.map_eq_none_iff] at h
        obtain ⟨s, h1, h2, h3⟩ := topGo_none k _ h
        refine ⟨s, h1, fun c hc => ?_, h3⟩
        exact ((minus_iff left a c (Bx.lt64 (free_some ha).1)).1 (h2 c hc)).1

/-- a set in which everybody has a predecessor holds a cycle -/
theorem cycle_of {f : Rows} {s : BitVec 64} (h0 : s ≠ 0#64) (h : ∀ a, s.getLsbD a = true → ∃ c, bit f c a = true ∧ s.getLsbD c = true) : ∃ a, s.getLsbD a = true ∧ Path f a a := by
  obtain ⟨a0, ha0⟩ : ∃ a, s.getLsbD a = true := ⟨_, Bs.low_bit h0⟩
  -- chains backwards of any length; two of 65 places are the same
  have chain : ∀ k : Nat, ∃ l : List Nat, l.length = k + 1 ∧ (∀ x ∈ l, s.getLsbD x = true) ∧ l.Pairwise (fun x y => Path f x y) ∧ ∃ x, l.head? = some x := by
    intro k
    induction k with
    | zero => exact ⟨[a0], rfl, by simp [ha0], by simp, a0, rfl⟩
    | succ k ih =>
      obtain ⟨l, h1, h2, h3, x, h4⟩ := ih
      cases l with
      | nil => simp at h4
      | cons y l =>
        simp at h4; subst h4
        obtain ⟨c, hc1, hc2⟩ := h y (h2 y (by simp))
        refine ⟨c :: y :: l, by simp at h1 ⊢; omega, ?_, ?_, c, rfl⟩
        · intro x hx
          rcases List.mem_cons.1 hx with rfl | hx
          · exact hc2
          · exact h2 x hx
        · rw [List.pairwise_cons]
          refine ⟨fun z hz => ?_, h3⟩
          rcases List.mem_cons.1 hz with rfl | hz
          · exact .one hc1
          · exact .step hc1 ((List.pairwise_cons.1 h3).1 z hz)
  obtain ⟨l, h1, h2, h3, _⟩ := chain 64
  apply Classical.byContradiction
  intro hno
  have hno' : ∀ x y, Path f x y → s.getLsbD x = true → x ≠ y := fun x y p hx e => hno ⟨x, hx, by subst e; exact p⟩
  have hnd : l.Nodup := by
    have key : ∀ m : List Nat, (∀ x ∈ m, s.getLsbD x = true) → m.Pairwise (fun x y => Path f x y) → m.Nodup := by
      intro m
      induction m with
      | nil => intro _ _; exact List.nodup_nil
      | cons y m ih =>
        intro hm hp
        rw [List.pairwise_cons] at hp
        rw [List.nodup_cons]
        exact ⟨fun hin => hno' y y (hp.1 y hin) (hm y (by simp)) rfl, ih (fun x hx => hm x (by simp [hx])) hp.2⟩
    exact key l h2 h3
  have hle : l.length ≤ (List.range 64).length := by
    apply List.Nodup.length_le_of_subset hnd
    intro x hx
    rw [List.mem_range]; exact Bx.lt64 (h2 x hx)
  simp at hle
  omega

/-- acyclic exactly where there is an order -/
theorem top_some {n : Nat} {f : Rows} (hf : Ok n f) {l : List Nat} (h : topL n f = some l) : l.Nodup ∧ (∀ a, a ∈ l ↔ a < n) ∧ (∀ p a q, l = p ++ a :: q → ∀ c, bit f c a = true → c ∈ p) := by
  have hn := hf.le
  obtain ⟨h1, h2, h3⟩ := topGo_some 64 _ l (Bx.card_le _) h
  refine ⟨h1, fun a => ?_, fun p a q hl c hb => ?_⟩
  · rw [h2]
    constructor
    · intro hb
      rw [below_getN _ _ (Bx.lt64 hb)] at hb
      exact of_decide_eq_true hb
    · intro ha
      rw [below_getN _ _ (by omega)]; exact decide_eq_true ha
  · have hin := hf.in_ c a hb
    exact h3 p a q hl c ((back_ok hf a c).trans hb) (by rw [below_getN _ _ (by omega)]; exact decide_eq_true hin.1)
theorem top_none {n : Nat} {f : Rows} (hf : Ok n f) (h : topL n f = none) : ∃ a, a < n ∧ Path f a a := by
  obtain ⟨s, h1, h2, h3⟩ := topGo_none 64 _ h
  have hlt : ∀ a, s.getLsbD a = true → a < n := fun a ha => by
    have := h2 a ha
    rw [below_getN _ _ (Bx.lt64 ha)] at this
    exact of_decide_eq_true this
  obtain ⟨a, ha, p⟩ := cycle_of (f := f) h1 (fun a ha => by
    obtain ⟨c, hc, hs⟩ := h3 a ha
    exact ⟨c, (back_ok hf a c).symm.trans hc, hs⟩)
  exact ⟨a, hlt a ha, p⟩
theorem top_acyclic {n : Nat} {f : Rows} (hf : Ok n f) {l : List Nat} (h : topL n f = some l) {a : Nat} : ¬ Path f a a := by
  obtain ⟨h1, h2, h3⟩ := top_some hf h
  have key : ∀ a b, Path f a b → l.idxOf a < l.idxOf b := by
    intro a b p
    have step : ∀ a b, bit f a b = true → l.idxOf a < l.idxOf b := by
      intro a b hb
      have hin := hf.in_ a b hb
      have hm : b ∈ l := (h2 b).2 hin.2
      obtain ⟨p, q, rfl⟩ := List.append_of_mem hm
      have hap := h3 p b q rfl a hb
      have hbp : b ∉ p := fun hbp => by
        rw [List.nodup_append] at h1
        exact h1.2.2 b hbp b (by simp) rfl
      rw [List.idxOf_append, List.idxOf_append, if_pos hap, if_neg hbp]
      have := List.idxOf_lt_length_of_mem hap
      omega
    induction p with
    | one h => exact step _ _ h
    | step h _ ih => exact Nat.lt_trans (step _ _ h) ih
  intro p
  exact Nat.lt_irrefl _ (key a a p)
theorem top_iff {n : Nat} {f : Rows} (hf : Ok n f) : (topL n f).isSome = true ↔ ∀ a, ¬ Path f a a := by
  cases h : topL n f with
  | none =>
    obtain ⟨a, ha, p⟩ := top_none hf h
    simp only [Option.isSome_none, Bool.false_eq_true, false_iff]
    intro hno; exact hno a p
  | some l => simp only [Option.isSome_some, true_iff]; exact fun a => top_acyclic hf h
end Go.Rl

/- Relations, plain: the layers of items from which a walk of a given length leads to an item; a shortest cycle. -/
namespace Go.Rl

/-- a walk of k steps -/
inductive Walk (f : Rows) : Nat → Nat → Nat → Prop
  | one {a b : Nat} (h : bit f a b = true) : Walk f 1 a b
  | step {k a b c : Nat} (h : bit f a b = true) (p : Walk f k b c) : Walk f (k + 1) a c
theorem Walk.pos {f : Rows} {k a b : Nat} (p : Walk f k a b) : 1 ≤ k := by cases p <;> omega
theorem Walk.path {f : Rows} {k a b : Nat} (p : Walk f k a b) : Path f a b := by
  induction p with
  | one h => exact .one h
  | step h _ ih => exact .step h ih
theorem Path.walk {f : Rows} {a b : Nat} (p : Path f a b) : ∃ k, Walk f k a b := by
  induction p with
  | one h => exact ⟨1, .one h⟩
  | step h _ ih => obtain ⟨k, q⟩ := ih; exact ⟨k + 1, .step h q⟩
theorem Walk.inv {f : Rows} {k a b : Nat} (p : Walk f k a b) : (k = 1 ∧ bit f a b = true) ∨ ∃ j c, k = j + 1 ∧ bit f a c = true ∧ Walk f j c b := by
  cases p with
  | one h => exact .inl ⟨rfl, h⟩
  | step h q => exact .inr ⟨_, _, rfl, h, q⟩
theorem Walk.snoc {f : Rows} {k a b c : Nat} (p : Walk f k a b) (h : bit f b c = true) : Walk f (k + 1) a c := by
  induction p with
  | one h1 => exact .step h1 (.one h)
  | step h1 _ ih => exact .step h1 (ih h)

/-- the layers towards a -/
def layGo (before : Rows) (a : Nat) : Nat → BitVec 64 → BitVec 64 → Option (List (BitVec 64))
  | 0, _, _ => none
  | k + 1, layer, seen => if layer = 0#64 then none else if layer.getLsbD a then some [layer] else
    (layGo before a k (image before layer &&& ~~~ (seen ||| layer)) (seen ||| layer)).map (layer :: ·)
def layL (before : Rows) (a : Nat) : Option (List (BitVec 64)) := layGo before a 65 (before a) 0#64

/-- the shortest walk from x to a has k steps -/
def Dist (f : Rows) (a k x : Nat) : Prop := Walk f k x a ∧ ∀ j, j < k → ¬ Walk f j x a
theorem Dist.unique {f : Rows} {a j k x : Nat} (h : Dist f a j x) (h2 : Dist f a k x) : j = k := by
  apply Classical.byContradiction
  intro hne
  by_cases hlt : j < k
  · exact h2.2 j hlt h.1
  · exact h.2 k (by omega) h2.1
theorem walk_dist {f : Rows} {a x : Nat} : ∀ k, Walk f k x a → ∃ j, j ≤ k ∧ Dist f a j x := by
  intro k
  induction k using Nat.strongRecOn with
  | _ k ih =>
    intro p
    by_cases h : ∃ j, j < k ∧ Walk f j x a
    · obtain ⟨j, hj, q⟩ := h
      obtain ⟨i, hi, hd⟩ := ih j hj q
      exact ⟨i, by omega, hd⟩
    · exact ⟨k, Nat.le_refl _, p, fun j hj q => h ⟨j, hj, q⟩⟩
/-- one step back -/
theorem dist_succ {f : Rows} {a k x : Nat} (hk : 1 ≤ k) : Dist f a (k + 1) x ↔ (∃ y, bit f x y = true ∧ Dist f a k y) ∧ ∀ j, j ≤ k → ¬ Walk f j x a := by
  constructor
  · rintro ⟨p, h⟩
    refine ⟨?_, fun j hj => h j (by omega)⟩
    rcases p.inv with ⟨h1, _⟩ | ⟨j, c, h1, h2, q⟩
    · omega
    · obtain rfl : j = k := by omega
      obtain ⟨i, hi, hd⟩ := walk_dist j q
      by_cases e : i = j
      · subst e; exact ⟨c, h2, hd⟩
      · exact absurd (.step h2 hd.1) (h (i + 1) (by omega))
  · rintro ⟨⟨y, h1, h2⟩, h3⟩
    exact ⟨.step h1 h2.1, fun j hj => h3 j (by omega)⟩
/-- if some item has distance k + 1, some item has distance k -/
theorem dist_none {f : Rows} {a k : Nat} (hk : 1 ≤ k) (h : ∀ x, ¬ Dist f a k x) : ∀ j, k ≤ j → ∀ x, ¬ Dist f a j x := by
  intro j hj
  induction j with
  | zero => omega
  | succ j ih =>
    intro x hd
    by_cases e : j + 1 = k
    · rw [e] at hd; exact h x hd
    · obtain ⟨⟨y, _, h2⟩, _⟩ := (dist_succ (by omega)).1 hd
      exact ih (by omega) y h2

/-- what stands at the head of round k: the layer of distance k + 1, what lies nearer -/
structure LayInv (f : Rows) (n a k : Nat) (layer seen : BitVec 64) : Prop where
  lay : ∀ x, x < n → (layer.getLsbD x = true ↔ Dist f a (k + 1) x)
  seen_ : ∀ x, x < n → (seen.getLsbD x = true ↔ ∃ j, j ≤ k ∧ Dist f a j x)
  layn : ∀ x, layer.getLsbD x = true → x < n
theorem lay_start {n : Nat} {f : Rows} (hf : Ok n f) {a : Nat} (_ha : a < n) : LayInv f n a 0 (backF n f a) 0#64 := by
  have hn := hf.le
  refine ⟨fun x hx => ?_, fun x hx => ?_, fun x h => ?_⟩
  · have h1 := back_ok hf a x
    unfold bit at h1
    rw [h1]
    constructor
    · intro h
      exact ⟨.one h, fun j hj p => by have := p.pos; omega⟩
    · rintro ⟨p, _⟩
      rcases p.inv with ⟨_, h⟩ | ⟨j, c, h1, h2, q⟩
      · exact h
      · have := q.pos; omega
  · rw [Bv.zero_get]
    constructor
    · intro h; cases h
    · rintro ⟨j, hj, hd⟩; have := hd.1.pos; omega
  · exact ((ok_back hf).in_ a x h).2
theorem or_get (s t : BitVec 64) (i : Nat) : (s ||| t).getLsbD i = true ↔ s.getLsbD i = true ∨ t.getLsbD i = true := by rw [BitVec.getLsbD_or, Bool.or_eq_true]
theorem andNot_get (s t : BitVec 64) (i : Nat) : (s &&& ~~~ t).getLsbD i = true ↔ s.getLsbD i = true ∧ t.getLsbD i ≠ true := by
  by_cases hi : i < 64
  · rw [BitVec.getLsbD_and, Bv.not_get t i hi, Bool.and_eq_true]; simp
  · constructor
    · intro h; exact absurd (Bx.lt64 h) hi
    · intro h; exact absurd (Bx.lt64 h.1) hi
theorem lay_step {n : Nat} {f : Rows} (hf : Ok n f) {a k : Nat} {layer seen : BitVec 64} (h : LayInv f n a k layer seen) :
    LayInv f n a (k + 1) (image (backF n f) layer &&& ~~~ (seen ||| layer)) (seen ||| layer) := by
  have hn := hf.le
  have hseen : ∀ x, x < n → ((seen ||| layer).getLsbD x = true ↔ ∃ j, j ≤ k + 1 ∧ Dist f a j x) := by
    intro x hx
    rw [or_get, h.seen_ x hx, h.lay x hx]
    constructor
    · rintro (⟨j, hj, hd⟩ | hd)
      · exact ⟨j, by omega, hd⟩
      · exact ⟨k + 1, Nat.le_refl _, hd⟩
    · rintro ⟨j, hj, hd⟩
      by_cases e : j = k + 1
      · subst e; exact .inr hd
      · exact .inl ⟨j, by omega, hd⟩
  have himg : ∀ x, x < n → ((image (backF n f) layer).getLsbD x = true ↔ ∃ y, bit f x y = true ∧ Dist f a (k + 1) y) := by
    intro x hx
    rw [image_iff]
    constructor
    · rintro ⟨y, h1, h2⟩
      have hy := h.layn y h1
      rw [back_ok hf] at h2
      exact ⟨y, h2, (h.lay y hy).1 h1⟩
    · rintro ⟨y, h1, h2⟩
      have hy := (hf.in_ x y h1).2
      exact ⟨y, (h.lay y hy).2 h2, (back_ok hf y x).trans h1⟩
  refine ⟨fun x hx => ?_, hseen, fun x hb => ?_⟩
  · rw [andNot_get, himg x hx, dist_succ (by omega), Ne, hseen x hx]
    constructor
    · rintro ⟨h1, h2⟩
      refine ⟨h1, fun j hj p => h2 ?_⟩
      obtain ⟨i, hi, hd⟩ := walk_dist j p
      exact ⟨i, by omega, hd⟩
    · rintro ⟨h1, h2⟩
      refine ⟨h1, ?_⟩
      rintro ⟨j, hj, hd⟩
      exact h2 j hj hd.1
  · rw [andNot_get, image_iff] at hb
    obtain ⟨⟨y, h1, h2⟩, _⟩ := hb
    exact ((ok_back hf).in_ y x h2).2
/-- a run of layGo from round k on -/
theorem layGo_spec {n : Nat} {f : Rows} (hf : Ok n f) {a : Nat} (ha : a < n) : ∀ (m k : Nat) (layer seen : BitVec 64), LayInv f n a k layer seen → 65 ≤ m + Bx.card seen →
    (∀ j, j ≤ k → ¬ Dist f a j a) →
    (∀ l, layGo (backF n f) a m layer seen = some l → Dist f a (k + l.length) a ∧ ∀ i s, l[i]? = some s → ∀ x, x < n → (s.getLsbD x = true ↔ Dist f a (k + i + 1) x)) ∧
    (layGo (backF n f) a m layer seen = none → ¬ ∃ j, Walk f j a a)
  | 0, k, layer, seen, h, hm, _ => by have := Bx.card_le seen; omega
  | m + 1, k, layer, seen, h, hm, hno => by
    have hn := hf.le
    unfold layGo
    by_cases h0 : layer = 0#64
    · rw [if_pos h0]
      refine ⟨fun l hl => (by cases hl), fun _ => ?_⟩
      rintro ⟨j, p⟩
      have hnone : ∀ x, ¬ Dist f a (k + 1) x := by
        intro x hd
        have hx : x < n := (hd.1.path.lt hf).1
        have := (h.lay x hx).2 hd
        rw [h0, Bv.zero_get] at this; cases this
      obtain ⟨i, hi, hd⟩ := walk_dist j p
      by_cases hik : i ≤ k
      · exact hno i hik hd
      · exact dist_none (by omega) hnone i (by omega) a hd
    · rw [if_neg h0]
      by_cases hb : layer.getLsbD a = true
      · rw [if_pos hb]
        refine ⟨fun l hl => ?_, fun hl => by cases hl⟩
        simp only [Option.some.injEq] at hl
        subst hl
        refine ⟨(h.lay a ha).1 hb, fun i s hs x hx => ?_⟩
        cases i with
        | zero => simp at hs; subst hs; exact h.lay x hx
        | succ i => simp at hs
      · rw [if_neg hb]
        have hstep := lay_step hf h
        obtain ⟨x, hx⟩ : ∃ x, layer.getLsbD x = true := ⟨_, Bs.low_bit h0⟩
        have hcard : Bx.card seen < Bx.card (seen ||| layer) := by
          apply card_ssub (fun i hi => (or_get _ _ _).2 (.inl hi))
          intro e
          have hxs : seen.getLsbD x = true := by rw [e]; exact (or_get _ _ _).2 (.inr hx)
          have hxn := h.layn x hx
          obtain ⟨j, hj, hd⟩ := (h.seen_ x hxn).1 hxs
          have := hd.unique ((h.lay x hxn).1 hx)
          omega
        have hno' : ∀ j, j ≤ k + 1 → ¬ Dist f a j a := by
          intro j hj hd
          by_cases e : j = k + 1
          · subst e; exact hb ((h.lay a ha).2 hd)
          · exact hno j (by omega) hd
        obtain ⟨r1, r2⟩ := layGo_spec hf ha m (k + 1) _ _ hstep (by omega) hno'
        constructor
        · intro l hl
          rw [Option.map_eq_some_iff] at hl
          obtain ⟨l2, hl2, rfl⟩ := hl
          obtain ⟨q1, q2⟩ := r1 l2 hl2
          refine ⟨by rw [List.length_cons]; rw [show k + (l2.length + 1) = k + 1 + l2.length by omega]; exact q1, fun i s hs y hy => ?_⟩
          cases i with
          | zero => simp at hs; subst hs; exact h.lay y hy
          | succ i =>
            simp at hs
            rw [show k + (i + 1) + 1 = k + 1 + i + 1 by omega]
            exact q2 i s hs y hy
        · intro hl
          rw [Option.map_eq_none_iff] at hl
          exact r2 hl
theorem lay_some {n : Nat} {f : Rows} (hf : Ok n f) {a : Nat} (ha : a < n) {l : List (BitVec 64)} (h : layL (backF n f) a = some l) :
    Dist f a l.length a ∧ ∀ i s, l[i]? = some s → ∀ x, x < n → (s.getLsbD x = true ↔ Dist f a (i + 1) x) := by
  obtain ⟨h1, h2⟩ := (layGo_spec hf ha 65 0 _ _ (lay_start hf ha) (by omega) (fun j hj hd => by have := hd.1.pos; omega)).1 l h
  refine ⟨by rw [Nat.zero_add] at h1; exact h1, fun i s hs x hx => ?_⟩
  have := h2 i s hs x hx
  rwa [Nat.zero_add] at this
theorem lay_none {n : Nat} {f : Rows} (hf : Ok n f) {a : Nat} (ha : a < n) (h : layL (backF n f) a = none) : ¬ Path f a a := by
  have h1 := (layGo_spec hf ha 65 0 _ _ (lay_start hf ha) (by omega) (fun j hj hd => by have := hd.1.pos; omega)).2 h
  intro p
  exact h1 p.walk

/-! ### the ring -/
/-- start and layers of a shortest cycle among the first k items -/
def bestGo (before : Rows) : Nat → Option (Nat × List (BitVec 64))
  | 0 => none
  | k + 1 => match layL before k, bestGo before k with
    | none, b => b
    | some l, none => some (k, l)
    | some l, some (s, m) => if l.length < m.length then some (k, l) else some (s, m)
/-- the way through the layers, from the last on -/
def wayGo (f : Rows) (best : List (BitVec 64)) : Nat → Nat → List Nat
  | 0, _ => []
  | k + 1, x => let y := Bs.low (f x &&& (best[k]?.getD 0#64)); y :: wayGo f best k y
def ringL (n : Nat) (f : Rows) : List Nat := match bestGo (backF n f) n with
  | none => []
  | some (s, best) => s :: wayGo f best (best.length - 1) s

theorem best_spec {n : Nat} {f : Rows} (hf : Ok n f) : ∀ k, k ≤ n →
    (bestGo (backF n f) k = none → ∀ a, a < k → ¬ Path f a a) ∧
    (∀ s l, bestGo (backF n f) k = some (s, l) → s < k ∧ layL (backF n f) s = some l ∧ (∀ a, a < k → ∀ j, Walk f j a a → l.length ≤ j) ∧ (∀ a, a < s → ∀ j, Walk f j a a → l.length < j))
  | 0, _ => ⟨fun _ a ha => by omega, fun s l h => by simp [bestGo] at h⟩
  | k + 1, hk => by
    obtain ⟨r1, r2⟩ := best_spec hf k (by omega)
    have hlen : ∀ l, layL (backF n f) k = some l → ∀ j, Walk f j k k → l.length ≤ j := by
      intro l hl j p
      have h1 := (lay_some hf (by omega) hl).1
      apply Nat.le_of_not_lt
      intro hlt
      exact h1.2 j hlt p
    unfold bestGo
    cases hl : layL (backF n f) k with
    | none =>
      have hno := lay_none hf (by omega) hl
      constructor
      · intro h a ha p
        by_cases e : a = k
        · subst e; exact hno p
        · exact r1 h a (by omega) p
      · intro s l h
        obtain ⟨q1, q2, q3, q4⟩ := r2 s l h
        refine ⟨by omega, q2, fun a ha j p => ?_, q4⟩
        by_cases e : a = k
        · subst e; exact absurd p.path hno
        · exact q3 a (by omega) j p
    | some l0 =>
      cases hb : bestGo (backF n f) k with
      | none =>
        refine ⟨fun h => (by cases h), fun s l h => ?_⟩
        simp only [Option.some.injEq, Prod.mk.injEq] at h
        obtain ⟨rfl, rfl⟩ := h
        refine ⟨by omega, hl, fun a ha j p => ?_, fun a ha j p => absurd p.path (r1 hb a ha)⟩
        by_cases e : a = k
        · subst e; exact hlen l0 hl j p
        · exact absurd p.path (r1 hb a (by omega))
      | some sm =>
        obtain ⟨s0, m⟩ := sm
        obtain ⟨q1, q2, q3, q4⟩ := r2 s0 m hb
        refine ⟨fun h => (by dsimp only at h; split at h <;> cases h), fun s l h => ?_⟩
        dsimp only at h
        split at h
        · rename_i hlt
          simp only [Option.some.injEq, Prod.mk.injEq] at h
          obtain ⟨rfl, rfl⟩ := h
          refine ⟨by omega, hl, fun a ha j p => ?_, fun a ha j p => ?_⟩
          · by_cases e : a = k
            · subst e; exact hlen l0 hl j p
            · have := q3 a (by omega) j p; omega
          · have := q3 a ha j p; omega
        · rename_i hlt
          simp only [Option.some.injEq, Prod.mk.injEq] at h
          obtain ⟨rfl, rfl⟩ := h
          refine ⟨by omega, q2, fun a ha j p => ?_, q4⟩
          by_cases e : a = k
          · subst e; have := hlen l0 hl j p; omega
          · exact q3 a (by omega) j p
/-- each step of the way is the least item of the next layer -/
theorem way_step {n : Nat} {f : Rows} (hf : Ok n f) {a : Nat} {best : List (BitVec 64)} (hb : ∀ i s, best[i]? = some s → ∀ x, x < n → (s.getLsbD x = true ↔ Dist f a (i + 1) x)) {k x : Nat} (hk : k < best.length) (hx : Dist f a (k + 2) x) :
    bit f x (Bs.low (f x &&& (best[k]?.getD 0#64))) = true ∧ Dist f a (k + 1) (Bs.low (f x &&& (best[k]?.getD 0#64))) := by
  obtain ⟨⟨y, h1, h2⟩, _⟩ := (dist_succ (by omega)).1 hx
  have hy := (hf.in_ x y h1).2
  obtain ⟨s, hs⟩ : ∃ s, best[k]? = some s := ⟨_, List.getElem?_eq_getElem hk⟩
  rw [hs]
  show bit f x (Bs.low (f x &&& s)) = true ∧ Dist f a (k + 1) (Bs.low (f x &&& s))
  have hne : f x &&& s ≠ 0#64 := Bx.ne_of_bit (i := y) (by
    rw [BitVec.getLsbD_and, Bool.and_eq_true]
    exact ⟨h1, (hb k s hs y hy).2 h2⟩)
  have hlow := Bs.low_bit hne
  rw [BitVec.getLsbD_and, Bool.and_eq_true] at hlow
  have hl := (hf.in_ x _ hlow.1).2
  exact ⟨hlow.1, (hb k s hs _ hl).1 hlow.2⟩
/-- the way from x: its items' distances go down by one, each is a successor of the one before, the last leads to a -/
theorem way_spec {n : Nat} {f : Rows} (hf : Ok n f) {a : Nat} {best : List (BitVec 64)} (hb : ∀ i s, best[i]? = some s → ∀ x, x < n → (s.getLsbD x = true ↔ Dist f a (i + 1) x)) :
    ∀ (k x : Nat), k < best.length → Dist f a (k + 1) x →
      (wayGo f best k x).length = k ∧ (∀ i y, (wayGo f best k x)[i]? = some y → Dist f a (k - i) y) ∧ (∀ i y z, (x :: wayGo f best k x)[i]? = some y → (x :: wayGo f best k x)[i + 1]? = some z → bit f y z = true) ∧
      (∀ y, (x :: wayGo f best k x)[k]? = some y → bit f y a = true)
  | 0, x, _, hx => by
    refine ⟨rfl, fun i y h => by simp [wayGo] at h, fun i y z _ h => by simp [wayGo] at h, fun y h => ?_⟩
    simp [wayGo] at h
    subst h
    rcases hx.1.inv with ⟨_, h⟩ | ⟨j, c, h1, _, q⟩
    · exact h
    · have := q.pos; omega
  | k + 1, x, hk, hx => by
    obtain ⟨h1, h2⟩ := way_step hf hb (k := k) (by omega) hx
    obtain ⟨r1, r2, r3, r4⟩ := way_spec hf hb k _ (by omega) h2
    have e : wayGo f best (k + 1) x = Bs.low (f x &&& (best[k]?.getD 0#64)) :: wayGo f best k (Bs.low (f x &&& (best[k]?.getD 0#64))) := rfl
    rw [e]
    generalize Bs.low (f x &&& (best[k]?.getD 0#64)) = y at *
    refine ⟨by simp [r1], fun i z h => ?_, fun i z u hz hu => ?_, fun z h => ?_⟩
    · cases i with
      | zero => simp at h; subst h; exact h2
      | succ i =>
        simp at h
        have := r2 i z h
        rwa [show k + 1 - (i + 1) = k - i by omega]
    · cases i with
      | zero => simp at hz hu; subst hz hu; exact h1
      | succ i => exact r3 i z u (by simpa using hz) (by simpa using hu)
    · exact r4 z (by simpa using h)
end Go.Rl

/- Relations, plain: domain, range, irreflexivity; the laws of composition, of cross products and of the closure. -/
namespace Go.Rl

/-! ### single relations -/
def fromF (n : Nat) (f : Rows) : BitVec 64 := Bx.mk fun a => decide (a < n) && !(f a == 0#64)
def intoF (n : Nat) (f : Rows) : BitVec 64 := image f (below (n : Int))
def irrF (n : Nat) (f : Rows) : Bool := (List.range n).all fun a => !bit f a a
theorem row_ne {s : BitVec 64} : (!(s == 0#64)) = true ↔ ∃ b, s.getLsbD b = true := by
  constructor
  · intro h
    have h0 : s ≠ 0#64 := by simpa using h
    exact ⟨_, Bs.low_bit h0⟩
  · rintro ⟨b, hb⟩
    simpa using Bx.ne_of_bit hb
theorem from_bit {n : Nat} {f : Rows} (hf : Ok n f) (a : Nat) : (fromF n f).getLsbD a = true ↔ ∃ b, bit f a b = true := by
  have hn := hf.le
  constructor
  · intro h
    have ha := Bx.lt64 h
    unfold fromF at h
    rw [Bx.mk_get _ a ha, Bool.and_eq_true] at h
    exact row_ne.1 h.2
  · rintro ⟨b, hb⟩
    have h1 := (hf.in_ a b hb).1
    unfold fromF
    rw [Bx.mk_get _ a (by omega), Bool.and_eq_true]
    exact ⟨decide_eq_true h1, row_ne.2 ⟨b, hb⟩⟩
theorem into_bit {n : Nat} {f : Rows} (hf : Ok n f) (b : Nat) : (intoF n f).getLsbD b = true ↔ ∃ a, bit f a b = true := by
  have hn := hf.le
  unfold intoF
  rw [image_iff]
  constructor
  · rintro ⟨a, _, h⟩; exact ⟨a, h⟩
  · rintro ⟨a, h⟩
    have h1 := (hf.in_ a b h).1
    exact ⟨a, by rw [below_getN _ _ (by omega)]; exact decide_eq_true h1, h⟩
theorem from_zero {n : Nat} {f : Rows} (hf : Ok n f) : fromF n f = 0#64 ↔ ∀ a b, bit f a b = false := by
  constructor
  · intro h a b
    cases hb : bit f a b
    · rfl
    · have := (from_bit hf a).2 ⟨b, hb⟩
      rw [h, Bv.zero_get] at this; cases this
  · intro h
    apply Bv.ext_get; intro a ha
    rw [Bv.zero_get]
    cases hb : (fromF n f).getLsbD a
    · rfl
    · obtain ⟨b, h1⟩ := (from_bit hf a).1 hb
      rw [h a b] at h1; cases h1
theorem irr_iff {n : Nat} {f : Rows} (hf : Ok n f) : irrF n f = true ↔ ∀ a, bit f a a = false := by
  unfold irrF
  rw [List.all_eq_true]
  constructor
  · intro h a
    cases hb : bit f a a
    · rfl
    · have := h a (List.mem_range.2 (hf.in_ a a hb).1)
      rw [hb] at this; cases this
  · intro h a _; rw [h a]; rfl

/-! ### in -/
theorem less_zero {n : Nat} {f g : Rows} (hf : Ok n f) : fromF n (lessF n f g) = 0#64 ↔ ∀ a b, bit f a b = true → bit g a b = true := by
  have hn := hf.le
  rw [from_zero (ok_less (g := g) hf)]
  constructor
  · intro h a b hb
    have h1 := hf.in_ a b hb
    have h2 := h a b
    rw [less_bit n f g a b h1.1 (by omega), hb, Bool.true_and] at h2
    simpa using h2
  · intro h a b
    cases hb : bit (lessF n f g) a b
    · rfl
    · have h1 := (ok_less (g := g) hf).in_ a b hb
      rw [less_bit n f g a b h1.1 (by omega), Bool.and_eq_true] at hb
      rw [h a b hb.1] at hb
      simp at hb

/-! ### RelThen -/
theorem then_iff {n : Nat} {f g : Rows} (hf : Ok n f) (a c : Nat) : bit (thenF n f g) a c = true ↔ ∃ b, bit f a b = true ∧ bit g b c = true := by
  by_cases ha : a < n
  · exact then_bit n f g a c ha
  · constructor
    · intro h
      unfold thenF at h; rw [cut_bit, Bool.and_eq_true] at h
      exact absurd (of_decide_eq_true h.1) ha
    · rintro ⟨b, h, _⟩; exact absurd (hf.in_ a b h).1 ha
theorem union_iff {n : Nat} {f g : Rows} (hf : Ok n f) (hg : Ok n g) (a b : Nat) : bit (unionF n f g) a b = true ↔ bit f a b = true ∨ bit g a b = true := by
  by_cases ha : a < n
  · rw [union_bit n f g a b ha, Bool.or_eq_true]
  · constructor
    · intro h
      unfold unionF at h; rw [cut_bit, Bool.and_eq_true] at h
      exact absurd (of_decide_eq_true h.1) ha
    · rintro (h | h)
      · exact absurd (hf.in_ a b h).1 ha
      · exact absurd (hg.in_ a b h).1 ha
theorem both_iff {n : Nat} {f g : Rows} (hf : Ok n f) (a b : Nat) : bit (bothF n f g) a b = true ↔ bit f a b = true ∧ bit g a b = true := by
  by_cases ha : a < n
  · rw [both_bit n f g a b ha, Bool.and_eq_true]
  · constructor
    · intro h
      unfold bothF at h; rw [cut_bit, Bool.and_eq_true] at h
      exact absurd (of_decide_eq_true h.1) ha
    · rintro ⟨h, _⟩; exact absurd (hf.in_ a b h).1 ha
theorem less_iff {n : Nat} {f g : Rows} (hf : Ok n f) (a b : Nat) : bit (lessF n f g) a b = true ↔ bit f a b = true ∧ bit g a b = false := by
  have hn := hf.le
  by_cases ha : a < n
  · by_cases hb : b < 64
    · rw [less_bit n f g a b ha hb, Bool.and_eq_true]; simp
    · constructor
      · intro h; exact absurd (Bx.lt64 h) hb
      · intro h; exact absurd (Bx.lt64 h.1) hb
  · constructor
    · intro h
      unfold lessF at h; rw [cut_bit, Bool.and_eq_true] at h
      exact absurd (of_decide_eq_true h.1) ha
    · rintro ⟨h, _⟩; exact absurd (hf.in_ a b h).1 ha
theorem back_iff {n : Nat} {f : Rows} (hf : Ok n f) (a b : Nat) : bit (backF n f) a b = true ↔ bit f b a = true := by rw [back_ok hf]
theorem then_assoc {n : Nat} {f g h : Rows} (hf : Ok n f) (hg : Ok n g) (hh : Ok n h) : thenF n (thenF n f g) h = thenF n f (thenF n g h) :=
  ok_iff_ext (ok_then (ok_then hf hg) hh) (ok_then hf (ok_then hg hh)) fun a d _ _ => by
    rw [then_iff (ok_then hf hg), then_iff hf]
    constructor
    · rintro ⟨c, h1, h2⟩
      obtain ⟨b, h3, h4⟩ := (then_iff hf a c).1 h1
      exact ⟨b, h3, (then_iff hg b d).2 ⟨c, h4, h2⟩⟩
    · rintro ⟨b, h1, h2⟩
      obtain ⟨c, h3, h4⟩ := (then_iff hg b d).1 h2
      exact ⟨c, (then_iff hf a c).2 ⟨b, h1, h3⟩, h4⟩
theorem then_union {n : Nat} {f g h : Rows} (hf : Ok n f) (hg : Ok n g) (hh : Ok n h) : thenF n f (unionF n g h) = unionF n (thenF n f g) (thenF n f h) :=
  ok_iff_ext (ok_then hf (ok_union hg hh)) (ok_union (ok_then hf hg) (ok_then hf hh)) fun a c _ _ => by
    rw [then_iff hf, union_iff (ok_then hf hg) (ok_then hf hh), then_iff hf, then_iff hf]
    constructor
    · rintro ⟨b, h1, h2⟩
      rcases (union_iff hg hh b c).1 h2 with h2 | h2
      · exact .inl ⟨b, h1, h2⟩
      · exact .inr ⟨b, h1, h2⟩
    · rintro (⟨b, h1, h2⟩ | ⟨b, h1, h2⟩)
      · exact ⟨b, h1, (union_iff hg hh b c).2 (.inl h2)⟩
      · exact ⟨b, h1, (union_iff hg hh b c).2 (.inr h2)⟩
theorem then_back {n : Nat} {f g : Rows} (hf : Ok n f) (hg : Ok n g) : backF n (thenF n f g) = thenF n (backF n g) (backF n f) :=
  ok_iff_ext (ok_back (ok_then hf hg)) (ok_then (ok_back hg) (ok_back hf)) fun a c _ _ => by
    rw [back_iff (ok_then hf hg), then_iff hf, then_iff (ok_back hg)]
    constructor
    · rintro ⟨b, h1, h2⟩; exact ⟨b, (back_iff hg a b).2 h2, (back_iff hf b c).2 h1⟩
    · rintro ⟨b, h1, h2⟩; exact ⟨b, (back_iff hf b c).1 h2, (back_iff hg a b).1 h1⟩
theorem back_back {n : Nat} {f : Rows} (hf : Ok n f) : backF n (backF n f) = f :=
  ok_iff_ext (ok_back (ok_back hf)) hf fun a b _ _ => by rw [back_iff (ok_back hf), back_iff hf]
theorem ones_get64 (i : Nat) (hi : i < 64) : (18446744073709551615#64).getLsbD i = true := by
  have e : 18446744073709551615#64 = BitVec.allOnes 64 := by decide +kernel
  rw [e, BitVec.getLsbD_allOnes]; exact decide_eq_true hi
theorem then_id {n : Nat} {f : Rows} (hf : Ok n f) : thenF n f (idF n 18446744073709551615#64) = f :=
  ok_iff_ext (ok_then hf (ok_id hf.le _)) hf fun a c ha hc => by
    have hn := hf.le
    rw [then_iff hf]
    constructor
    · rintro ⟨b, h1, h2⟩
      have hb := (hf.in_ a b h1).2
      rw [id_bit n _ b c hb hn, Bool.and_eq_true] at h2
      have := of_decide_eq_true h2.1
      subst this; exact h1
    · intro h
      refine ⟨c, h, ?_⟩
      rw [id_bit n _ c c hc hn, ones_get64 c (by omega)]; simp

/-! ### RelCross -/
theorem cross_iff {n : Nat} (hn : n ≤ 48) (s t : BitVec 64) (a b : Nat) : bit (crossF n s t) a b = true ↔ a < n ∧ b < n ∧ s.getLsbD a = true ∧ t.getLsbD b = true := by
  by_cases ha : a < n
  · rw [cross_bit n s t a b ha hn, Bool.and_eq_true, Bool.and_eq_true, decide_eq_true_eq]
    constructor
    · rintro ⟨⟨h1, h2⟩, h3⟩; exact ⟨ha, h3, h1, h2⟩
    · rintro ⟨_, h3, h1, h2⟩; exact ⟨⟨h1, h2⟩, h3⟩
  · constructor
    · intro h; exact absurd ((ok_cross hn s t).in_ a b h).1 ha
    · rintro ⟨h, _⟩; exact absurd h ha
theorem cross_union {n : Nat} (hn : n ≤ 48) (a b c : BitVec 64) : unionF n (crossF n a b) (crossF n a c) = crossF n a (b ||| c) :=
  ok_iff_ext (ok_union (ok_cross hn _ _) (ok_cross hn _ _)) (ok_cross hn _ _) fun x y hx hy => by
    rw [union_iff (ok_cross hn _ _) (ok_cross hn _ _), cross_iff hn, cross_iff hn, cross_iff hn, or_get]
    constructor
    · rintro (⟨h1, h2, h3, h4⟩ | ⟨h1, h2, h3, h4⟩)
      · exact ⟨h1, h2, h3, .inl h4⟩
      · exact ⟨h1, h2, h3, .inr h4⟩
    · rintro ⟨h1, h2, h3, h4 | h4⟩
      · exact .inl ⟨h1, h2, h3, h4⟩
      · exact .inr ⟨h1, h2, h3, h4⟩
theorem cross_less {n : Nat} (hn : n ≤ 48) (a b c : BitVec 64) : lessF n (crossF n a b) (crossF n a c) = crossF n a (b &&& ~~~ c) :=
  ok_iff_ext (ok_less (ok_cross hn _ _)) (ok_cross hn _ _) fun x y hx hy => by
    rw [less_iff (ok_cross hn _ _), cross_iff hn, cross_iff hn, andNot_get]
    constructor
    · rintro ⟨⟨h1, h2, h3, h4⟩, h5⟩
      refine ⟨h1, h2, h3, h4, fun hc => ?_⟩
      rw [(cross_iff hn a c x y).2 ⟨h1, h2, h3, hc⟩] at h5; cases h5
    · rintro ⟨h1, h2, h3, h4, h5⟩
      refine ⟨⟨h1, h2, h3, h4⟩, ?_⟩
      cases hb : bit (crossF n a c) x y
      · rfl
      · exact absurd ((cross_iff hn a c x y).1 hb).2.2.2 h5
theorem and_below {n : Nat} (hn : n ≤ 48) (s : BitVec 64) : s &&& below (n : Int) = 0#64 ↔ ∀ i, i < n → s.getLsbD i = false := by
  constructor
  · intro h i hi
    have := congrArg (fun x => BitVec.getLsbD x i) h
    simp only [BitVec.getLsbD_and, below_getN n i (by omega), Bv.zero_get, decide_eq_true hi, Bool.and_true] at this
    exact this
  · intro h
    apply Bv.ext_get; intro i hi
    rw [BitVec.getLsbD_and, below_getN n i hi, Bv.zero_get]
    by_cases hin : i < n
    · rw [h i hin]; rfl
    · rw [decide_eq_false hin, Bool.and_false]
theorem cross_then {n : Nat} (hn : n ≤ 48) (a b c : BitVec 64) : thenF n (crossF n a b) (crossF n b c) = if b &&& below (n : Int) = 0#64 then crossF n 0#64 0#64 else crossF n a c := by
  apply ok_iff_ext (ok_then (ok_cross hn _ _) (ok_cross hn _ _)) (by split <;> exact ok_cross hn _ _)
  intro x z hx hz
  rw [then_iff (ok_cross hn _ _)]
  split
  · rename_i h
    rw [and_below hn] at h
    rw [cross_iff hn]
    constructor
    · rintro ⟨y, h1, h2⟩
      rw [cross_iff hn] at h1
      rw [h y h1.2.1] at h1; cases h1.2.2.2
    · rintro ⟨_, _, h1, _⟩; rw [Bv.zero_get] at h1; cases h1
  · rename_i h
    rw [cross_iff hn]
    constructor
    · rintro ⟨y, h1, h2⟩
      rw [cross_iff hn] at h1 h2
      exact ⟨hx, hz, h1.2.2.1, h2.2.2.2⟩
    · rintro ⟨_, _, h1, h2⟩
      have hl := Bs.low_bit h
      rw [BitVec.getLsbD_and, Bool.and_eq_true] at hl
      have hlt := hl.2
      rw [below_getN _ _ (Bx.lt64 hl.1)] at hlt
      have hlt := of_decide_eq_true hlt
      exact ⟨_, (cross_iff hn _ _ _ _).2 ⟨hx, hlt, h1, hl.1⟩, (cross_iff hn _ _ _ _).2 ⟨hlt, hz, hl.1, h2⟩⟩
theorem cross_irr {n : Nat} (hn : n ≤ 48) (a b : BitVec 64) : irrF n (crossF n a b) = (a &&& b &&& below (n : Int) == 0#64) := by
  rw [Bool.eq_iff_iff, irr_iff (ok_cross hn a b), beq_iff_eq, and_below hn]
  constructor
  · intro h i hi
    have h1 := h i
    cases hc : (a &&& b).getLsbD i
    · rfl
    · rw [BitVec.getLsbD_and, Bool.and_eq_true] at hc
      rw [(cross_iff hn a b i i).2 ⟨hi, hi, hc.1, hc.2⟩] at h1; cases h1
  · intro h i
    cases hc : bit (crossF n a b) i i
    · rfl
    · rw [cross_iff hn] at hc
      have := h i hc.1
      rw [BitVec.getLsbD_and, hc.2.2.1, hc.2.2.2] at this; cases this
theorem cross_back {n : Nat} (hn : n ≤ 48) (a b : BitVec 64) : backF n (crossF n a b) = crossF n b a :=
  ok_iff_ext (ok_back (ok_cross hn _ _)) (ok_cross hn _ _) fun x y hx hy => by
    rw [back_iff (ok_cross hn _ _), cross_iff hn, cross_iff hn]
    constructor
    · rintro ⟨h1, h2, h3, h4⟩; exact ⟨h2, h1, h4, h3⟩
    · rintro ⟨h1, h2, h3, h4⟩; exact ⟨h2, h1, h4, h3⟩

/-! ### RelPlus -/
theorem plus_sup_then {n : Nat} {f : Rows} (hf : Ok n f) {a c : Nat} (h : bit (thenF n (plusF n f) (plusF n f)) a c = true) : bit (plusF n f) a c = true := by
  obtain ⟨b, h1, h2⟩ := (then_iff (ok_plus hf) a c).1 h
  exact plus_trans hf h1 h2
/-- the closure of a relation lies in that of a greater one -/
theorem plus_mono {n : Nat} {f g : Rows} (hf : Ok n f) (hg : Ok n g) (h : ∀ a b, bit f a b = true → bit g a b = true) {a b : Nat} (hb : bit (plusF n f) a b = true) : bit (plusF n g) a b = true :=
  (plus_bit hg).2 (((plus_bit hf).1 hb).mono fun x y hxy => .one (h x y hxy))
end Go.Rl

/- Relations, plain: the list of pairs. -/
namespace Go.Rl

def rowP (f : Rows) (a : Nat) : List (Nat × Nat) := (Bs.elems (f a)).map fun b => (a, b)
/-- the pairs of the first k rows, in order -/
def pairsF (f : Rows) (k : Nat) : List (Nat × Nat) := (List.range k).flatMap (rowP f)
theorem pairsF_succ (f : Rows) (k : Nat) : pairsF f (k + 1) = pairsF f k ++ rowP f k := by simp [pairsF, List.range_succ]
theorem pairsF_zero (f : Rows) : pairsF f 0 = [] := rfl
theorem rowP_len (f : Rows) (a : Nat) : (rowP f a).length = Bx.card (f a) := by simp [rowP, Bx.card]
theorem pairs_le (f : Rows) : ∀ k, (pairsF f k).length ≤ 64 * k
  | 0 => by simp [pairsF_zero]
  | k + 1 => by
    have := pairs_le f k
    have := Bx.card_le (f k)
    rw [pairsF_succ, List.length_append, rowP_len]; omega
theorem mem_rowP (f : Rows) (x a b : Nat) : (a, b) ∈ rowP f x ↔ a = x ∧ bit f x b = true := by
  unfold rowP
  rw [List.mem_map]
  constructor
  · rintro ⟨c, h, e⟩
    injection e with e1 e2
    subst e1 e2
    exact ⟨rfl, Bs.mem_elems.1 h⟩
  · rintro ⟨rfl, h⟩
    exact ⟨b, Bs.mem_elems.2 h, rfl⟩
theorem mem_pairsF (f : Rows) (k a b : Nat) : (a, b) ∈ pairsF f k ↔ a < k ∧ bit f a b = true := by
  unfold pairsF
  rw [List.mem_flatMap]
  constructor
  · rintro ⟨x, h, e⟩
    obtain ⟨rfl, h2⟩ := (mem_rowP f x a b).1 e
    exact ⟨List.mem_range.1 h, h2⟩
  · rintro ⟨h, h2⟩
    exact ⟨a, List.mem_range.2 h, (mem_rowP f a a b).2 ⟨rfl, h2⟩⟩
theorem mem_pairs {n : Nat} {f : Rows} (hf : Ok n f) (p : Nat × Nat) : p ∈ pairsF f n ↔ bit f p.1 p.2 = true := by
  obtain ⟨a, b⟩ := p
  rw [mem_pairsF]
  exact ⟨fun h => h.2, fun h => ⟨(hf.in_ a b h).1, h⟩⟩
/-- sizes -/
theorem pairs_union {n : Nat} (f g : Rows) : ∀ k, k ≤ n → (pairsF (unionF n f g) k).length + (pairsF (bothF n f g) k).length = (pairsF f k).length + (pairsF g k).length
  | 0, _ => rfl
  | k + 1, hk => by
    have ih := pairs_union (n := n) f g k (by omega)
    simp only [pairsF_succ, List.length_append, rowP_len]
    have e1 : unionF n f g k = f k ||| g k := by unfold unionF; rw [cut_lt (by omega)]
    have e2 : bothF n f g k = f k &&& g k := by unfold bothF; rw [cut_lt (by omega)]
    have := Bx.card_union (f k) (g k)
    rw [e1, e2]; omega
theorem pairs_less {n : Nat} (f g : Rows) : ∀ k, k ≤ n → (pairsF (lessF n f g) k).length + (pairsF (bothF n f g) k).length = (pairsF f k).length
  | 0, _ => rfl
  | k + 1, hk => by
    have ih := pairs_less (n := n) f g k (by omega)
    simp only [pairsF_succ, List.length_append, rowP_len]
    have e1 : lessF n f g k = f k &&& ~~~ (g k) := by unfold lessF; rw [cut_lt (by omega)]
    have e2 : bothF n f g k = f k &&& g k := by unfold bothF; rw [cut_lt (by omega)]
    have := Bx.card_less (f k) (g k)
    rw [e1, e2]; omega
theorem pairs_nil {n : Nat} {f : Rows} (hf : Ok n f) : pairsF f n = [] ↔ ∀ a b, bit f a b = false := by
  constructor
  · intro h a b
    cases hb : bit f a b
    · rfl
    · have := (mem_pairs hf (a, b)).2 hb
      rw [h] at this; cases this
  · intro h
    apply List.eq_nil_iff_forall_not_mem.2
    rintro ⟨a, b⟩ hm
    have := (mem_pairs hf (a, b)).1 hm
    rw [h a b] at this; cases this
end Go.Rl

/- Relations, plain: what a shortest cycle is; walks by composition. -/
namespace Go.Rl

/-! ### walks -/
theorem Walk.add {f : Rows} {j k a b c : Nat} (p : Walk f j a b) (q : Walk f k b c) : Walk f (j + k) a c := by
  induction p with
  | one h => rw [Nat.add_comm]; exact .step h q
  | @step j a x b h _ ih => rw [show j + 1 + k = (j + k) + 1 by omega]; exact .step h (ih q)
/-- the walks of j + 1 steps as a relation -/
def powF (n : Nat) (f : Rows) : Nat → Rows
  | 0 => f
  | j + 1 => thenF n (powF n f j) f
theorem ok_pow {n : Nat} {f : Rows} (hf : Ok n f) : ∀ j, Ok n (powF n f j)
  | 0 => hf
  | j + 1 => ok_then (ok_pow hf j) hf
theorem pow_bit {n : Nat} {f : Rows} (hf : Ok n f) : ∀ (j a b : Nat), bit (powF n f j) a b = true ↔ Walk f (j + 1) a b
  | 0, a, b => ⟨.one, fun p => by
    rcases p.inv with ⟨_, h⟩ | ⟨j, c, h, _, q⟩
    · exact h
    · have := q.pos; omega⟩
  | j + 1, a, b => by
    show bit (thenF n (powF n f j) f) a b = true ↔ _
    rw [then_iff (ok_pow hf j)]
    constructor
    · rintro ⟨c, h1, h2⟩; exact ((pow_bit hf j a c).1 h1).snoc h2
    · intro p
      have key : ∀ {k x y : Nat}, Walk f k x y → ∀ m, k = m + 1 → (m = 0 ∧ bit f x y = true) ∨ ∃ c, (∃ i, m = i + 1 ∧ Walk f (i + 1) x c) ∧ bit f c y = true := by
        intro k x y p
        induction p with
        | one h => intro m hm; exact .inl ⟨by omega, h⟩
        | @step k x c y h q ih =>
          intro m hm
          have hk := q.pos
          obtain ⟨m', rfl⟩ : ∃ m', k = m' + 1 := ⟨k - 1, by omega⟩
          rcases ih m' rfl with ⟨h0, h1⟩ | ⟨d, ⟨i, h0, h1⟩, h2⟩
          · exact .inr ⟨c, ⟨0, by omega, .one h⟩, h1⟩
          · exact .inr ⟨d, ⟨i + 1, by omega, .step h h1⟩, h2⟩
      rcases key p (j + 1) rfl with ⟨h0, _⟩ | ⟨c, ⟨i, h0, h1⟩, h2⟩
      · omega
      · obtain rfl : i = j := by omega
        exact ⟨c, (pow_bit hf i a c).2 h1, h2⟩

/-! ### the closure and cycles -/
theorem plus_irr {n : Nat} {f : Rows} (hf : Ok n f) : irrF n (plusF n f) = true ↔ ∀ a, ¬ Path f a a := by
  rw [irr_iff (ok_plus hf)]
  constructor
  · intro h a p
    have := (plus_bit hf).2 p
    rw [h a] at this; cases this
  · intro h a
    cases hb : bit (plusF n f) a a
    · rfl
    · exact absurd ((plus_bit hf).1 hb) (h a)
theorem top_round {n : Nat} {f : Rows} (hf : Ok n f) : (topL n f).isSome = irrF n (plusF n f) := by
  rw [Bool.eq_iff_iff, top_iff hf, plus_irr hf]
/-- what Ring gives where there is a cycle -/
structure Cyc (n : Nat) (f : Rows) (R : List Nat) : Prop where
  pos : 0 < R.length
  len : R.length ≤ 65
  lt : ∀ x ∈ R, x < n
  next : ∀ i x y, R[i]? = some x → R[(i + 1) % R.length]? = some y → bit f x y = true
  nodup : R.Nodup
  least : ∀ x ∈ R, R.getD 0 0 ≤ x
  short : ∀ j a, j < R.length → ¬ Walk f j a a
  round : ∃ a, Walk f R.length a a
theorem dist_lt {n : Nat} {f : Rows} (hf : Ok n f) {a k x : Nat} (h : Dist f a k x) : x < n := (h.1.path.lt hf).1
theorem ring_cyc {n : Nat} {f : Rows} (hf : Ok n f) : (ringL n f = [] ∧ ∀ a, ¬ Path f a a) ∨ Cyc n f (ringL n f) := by
  have hb := best_spec hf n (Nat.le_refl _)
  unfold ringL
  cases ho : bestGo (backF n f) n with
  | none =>
    refine .inl ⟨rfl, fun a p => ?_⟩
    exact hb.1 ho a (p.lt hf).1 p
  | some sm =>
    obtain ⟨s, best⟩ := sm
    obtain ⟨h1, h2, h3, h4⟩ := hb.2 s best ho
    obtain ⟨l1, l2⟩ := lay_some hf h1 h2
    have hpos : 0 < best.length := l1.1.pos
    obtain ⟨m, hm⟩ : ∃ m, best.length = m + 1 := ⟨best.length - 1, by omega⟩
    have hs : Dist f s (m + 1) s := by rw [← hm]; exact l1
    obtain ⟨r1, r2, r3, r4⟩ := way_spec hf l2 m s (by omega) hs
    right
    show Cyc n f (s :: wayGo f best (best.length - 1) s)
    rw [show best.length - 1 = m by omega]
    generalize hW : wayGo f best m s = way at *
    have hlen : (s :: way).length = m + 1 := by simp [r1]
    -- the item at place i has distance m + 1 - i
    have hdist : ∀ i x, (s :: way)[i]? = some x → Dist f s (m + 1 - i) x := by
      intro i x hx
      cases i with
      | zero => simp at hx; subst hx; exact hs
      | succ i => simp at hx; rw [show m + 1 - (i + 1) = m - i by omega]; exact r2 i x hx
    have hwalk : ∀ i x, (s :: way)[i]? = some x → i = 0 ∨ Walk f i s x := by
      intro i
      induction i with
      | zero => intro x _; exact .inl rfl
      | succ i ih =>
        intro x hx
        have hi : i < (s :: way).length := by have := (List.getElem?_eq_some_iff.1 hx).1; omega
        have hy : (s :: way)[i]? = some (s :: way)[i] := List.getElem?_eq_getElem hi
        have hb := r3 i _ x hy hx
        right
        rcases ih _ hy with h0 | h0
        · subst h0; simp at hb; exact .one hb
        · exact h0.snoc hb
    have hnd : (s :: way).Nodup := by
      unfold List.Nodup
      rw [List.pairwise_iff_getElem]
      intro i j hi hj hij e
      have hi' : (s :: way)[i]? = some (s :: way)[j] := by rw [← e]; exact List.getElem?_eq_getElem hi
      have hj' : (s :: way)[j]? = some (s :: way)[j] := List.getElem?_eq_getElem hj
      have := (hdist i _ hi').unique (hdist j _ hj')
      omega
    have hall : ∀ x ∈ s :: way, x < n := fun x hx => by
      obtain ⟨i, hi, he⟩ := List.getElem_of_mem hx
      exact dist_lt hf (hdist i x (by rw [List.getElem?_eq_getElem hi, he]))
    have h48 : (s :: way).length ≤ 48 := by
      have hn := hf.le
      have hle : (s :: way).length ≤ (List.range 48).length := by
        apply List.Nodup.length_le_of_subset hnd
        intro x hx
        have := hall x hx
        rw [List.mem_range]; omega
      simpa using hle
    refine ⟨by simp, by omega, hall, fun i x y hx hy => ?_, hnd, fun x hx => ?_, fun j a hj p => ?_, ⟨s, by rw [hlen]; exact hs.1⟩⟩
    · rw [hlen] at hy
      have hi : i < m + 1 := by have := (List.getElem?_eq_some_iff.1 hx).1; omega
      by_cases hlast : i = m
      · subst hlast
        rw [Nat.mod_self] at hy
        simp at hy; subst hy
        exact r4 x hx
      · rw [Nat.mod_eq_of_lt (by omega)] at hy
        exact r3 i x y hx hy
    · show s ≤ x
      apply Nat.le_of_not_lt
      intro hlt
      obtain ⟨i, hi, he⟩ := List.getElem_of_mem hx
      have hg : (s :: way)[i]? = some x := by rw [List.getElem?_eq_getElem hi, he]
      have hd := hdist i x hg
      have hi' : i < m + 1 := by omega
      rcases hwalk i x hg with h0 | h0
      · subst h0; simp at hg; omega
      · have p := hd.1.add h0
        have := h4 x hlt _ p
        omega
    · have := h3 a ((p.path.lt hf).1) j p
      omega
end Go.Rl

/- Relations, plain: walks above a bound, the fewest steps; the shortest ring by them, as the reference counts it. -/
namespace Go.Rl

/-- a walk of k steps whose inner items lie above b -/
inductive BW (f : Rows) (b : Nat) : Nat → Nat → Nat → Prop
  | one {x y : Nat} (h : bit f x y = true) : BW f b 1 x y
  | step {k x y z : Nat} (h : bit f x y = true) (hb : b < y) (p : BW f b k y z) : BW f b (k + 1) x z
theorem BW.walk {f : Rows} {b k x y : Nat} (p : BW f b k x y) : Walk f k x y := by
  induction p with
  | one h => exact .one h
  | step h _ _ ih => exact .step h ih
theorem BW.pos {f : Rows} {b k x y : Nat} (p : BW f b k x y) : 1 ≤ k := p.walk.pos
theorem BW.inv {f : Rows} {b k x y : Nat} (p : BW f b k x y) : (k = 1 ∧ bit f x y = true) ∨ ∃ j c, k = j + 1 ∧ bit f x c = true ∧ b < c ∧ BW f b j c y := by
  cases p with
  | one h => exact .inl ⟨rfl, h⟩
  | step h hb q => exact .inr ⟨_, _, rfl, h, hb, q⟩
/-- some item of s has a walk of k steps -/
def Hit (f : Rows) (b : Nat) (s : BitVec 64) (k to : Nat) : Prop := ∃ x, s.getLsbD x = true ∧ BW f b k x to
/-- where one comes from s in one step, above b -/
def nextS (f : Rows) (b : Nat) (s : BitVec 64) : BitVec 64 := Bx.mk fun y => decide (b < y) && (image f s).getLsbD y
theorem nextS_iff (f : Rows) (b : Nat) (s : BitVec 64) (y : Nat) : (nextS f b s).getLsbD y = true ↔ b < y ∧ ∃ x, s.getLsbD x = true ∧ bit f x y = true := by
  by_cases hy : y < 64
  · unfold nextS; rw [Bx.mk_get _ y hy, Bool.and_eq_true, image_iff, decide_eq_true_eq]
  · constructor
    · intro h; exact absurd (Bx.lt64 h) hy
    · rintro ⟨_, x, _, h⟩; exact absurd (bit64 h) hy
def hitB (f : Rows) (s : BitVec 64) (to : Nat) : Bool := (image f s).getLsbD to
theorem hitB_iff (f : Rows) (s : BitVec 64) (to : Nat) : hitB f s to = true ↔ ∃ x, s.getLsbD x = true ∧ bit f x to = true := image_iff f s to
theorem hit_one (f : Rows) (b : Nat) (s : BitVec 64) (to : Nat) : Hit f b s 1 to ↔ hitB f s to = true := by
  rw [hitB_iff]
  constructor
  · rintro ⟨x, h, p⟩
    rcases p.inv with ⟨_, h2⟩ | ⟨j, c, h1, _, _, q⟩
    · exact ⟨x, h, h2⟩
    · have := q.pos; omega
  · rintro ⟨x, h, h2⟩; exact ⟨x, h, .one h2⟩
theorem hit_next (f : Rows) (b : Nat) (s : BitVec 64) (k to : Nat) (hk : 1 ≤ k) : Hit f b s (k + 1) to ↔ Hit f b (nextS f b s) k to := by
  constructor
  · rintro ⟨x, h, p⟩
    rcases p.inv with ⟨h1, _⟩ | ⟨j, c, h1, h2, h3, q⟩
    · omega
    · obtain rfl : j = k := by omega
      exact ⟨c, (nextS_iff f b s c).2 ⟨h3, x, h, h2⟩, q⟩
  · rintro ⟨c, h, q⟩
    obtain ⟨h1, x, h2, h3⟩ := (nextS_iff f b s c).1 h
    exact ⟨x, h2, .step h3 h1 q⟩
/-- the count from round m on, k rounds -/
def stGo (f : Rows) (b to : Nat) : Nat → Nat → BitVec 64 → Nat
  | 0, _, _ => 100
  | k + 1, m, s => if hitB f s to then m else stGo f b to k (m + 1) (nextS f b s)
def stepsN (f : Rows) (a to b : Nat) : Nat := stGo f b to 48 1 (Bv.bit a)
theorem stGo_spec (f : Rows) (b to : Nat) : ∀ (k m : Nat) (s : BitVec 64),
    (∃ j, j < k ∧ Hit f b s (j + 1) to ∧ (∀ i, i < j → ¬ Hit f b s (i + 1) to) ∧ stGo f b to k m s = m + j) ∨ ((∀ j, j < k → ¬ Hit f b s (j + 1) to) ∧ stGo f b to k m s = 100)
  | 0, m, s => .inr ⟨fun j hj => by omega, rfl⟩
  | k + 1, m, s => by
    unfold stGo
    by_cases h : hitB f s to = true
    · rw [if_pos h]
      exact .inl ⟨0, by omega, (hit_one f b s to).2 h, fun i hi => by omega, rfl⟩
    · rw [if_neg h]
      have h0 : ¬ Hit f b s (0 + 1) to := fun h2 => h ((hit_one f b s to).1 h2)
      rcases stGo_spec f b to k (m + 1) (nextS f b s) with ⟨j, h1, h2, h3, h4⟩ | ⟨h1, h2⟩
      · refine .inl ⟨j + 1, by omega, (hit_next f b s (j + 1) to (by omega)).2 h2, fun i hi => ?_, by omega⟩
        cases i with
        | zero => exact h0
        | succ i => rw [hit_next f b s (i + 1) to (by omega)]; exact h3 i (by omega)
      · refine .inr ⟨fun j hj => ?_, h2⟩
        cases j with
        | zero => exact h0
        | succ j => rw [hit_next f b s (j + 1) to (by omega)]; exact h1 j (by omega)
theorem hit_bit {f : Rows} {b a k to : Nat} (ha : a < 64) : Hit f b (Bv.bit a) k to ↔ BW f b k a to := by
  constructor
  · rintro ⟨x, h, p⟩
    rw [Bv.bit_get a x ha] at h
    have := of_decide_eq_true h
    subst this; exact p
  · intro p; exact ⟨a, by rw [Bv.bit_get a a ha]; exact decide_eq_true rfl, p⟩
/-- steps: the length of the shortest walk whose inner items lie above b -/
theorem steps_spec (f : Rows) (a to b : Nat) (ha : a < 64) :
    (BW f b (stepsN f a to b) a to ∧ stepsN f a to b ≤ 48 ∧ ∀ i, i < stepsN f a to b → ¬ BW f b i a to) ∨ ((∀ j, j ≤ 48 → ¬ BW f b j a to) ∧ stepsN f a to b = 100) := by
  unfold stepsN
  rcases stGo_spec f b to 48 1 (Bv.bit a) with ⟨j, h1, h2, h3, h4⟩ | ⟨h1, h2⟩
  · rw [h4]
    refine .inl ⟨by rw [Nat.add_comm]; exact (hit_bit ha).1 h2, by omega, fun i hi p => ?_⟩
    have hp := p.pos
    obtain ⟨i', rfl⟩ : ∃ i', i = i' + 1 := ⟨i - 1, by omega⟩
    exact h3 i' (by omega) ((hit_bit ha).2 p)
  · refine .inr ⟨fun j hj p => ?_, h2⟩
    have hp := p.pos
    obtain ⟨j', rfl⟩ : ∃ j', j = j' + 1 := ⟨j - 1, by omega⟩
    exact h1 j' (by omega) ((hit_bit ha).2 p)
theorem steps_eq {f : Rows} {a to b k : Nat} (ha : a < 64) (hk : k ≤ 48) (p : BW f b k a to) (h : ∀ i, i < k → ¬ BW f b i a to) : stepsN f a to b = k := by
  rcases steps_spec f a to b ha with ⟨h1, h2, h3⟩ | ⟨h1, h2⟩
  · apply Classical.byContradiction
    intro hne
    by_cases hlt : stepsN f a to b < k
    · exact h _ hlt h1
    · exact h3 k (by omega) p
  · exact absurd p (h1 k hk)
theorem steps_walk {f : Rows} {a to b : Nat} (ha : a < 64) : Walk f (stepsN f a to b) a to ∨ stepsN f a to b = 100 := by
  rcases steps_spec f a to b ha with ⟨h1, _, _⟩ | ⟨_, h2⟩
  · exact .inl h1.walk
  · exact .inr h2

/-! ### the ring as the reference finds it -/
/-- a shortest cycle has L steps, s is the least start of one -/
structure Sho (n : Nat) (f : Rows) (L s : Nat) : Prop where
  pos : 0 < L
  le : L ≤ 48
  sn : s < n
  walk : Walk f L s s
  short : ∀ j a, j < L → ¬ Walk f j a a
  least : ∀ a, a < s → ¬ Walk f L a a
/-- a walk of i steps from s, or none -/
def Way (f : Rows) (s i y : Nat) : Prop := (i = 0 ∧ y = s) ∨ Walk f i s y
theorem Way.snoc {f : Rows} {s i y c : Nat} (h : Way f s i y) (hb : bit f y c = true) : Walk f (i + 1) s c := by
  rcases h with ⟨rfl, rfl⟩ | h
  · exact .one hb
  · exact h.snoc hb
theorem Way.round {f : Rows} {s i y k : Nat} (h : Way f s i y) (p : Walk f k y s) : Walk f (i + k) s s ∧ Walk f (i + k) y y := by
  rcases h with ⟨rfl, rfl⟩ | h
  · rw [Nat.zero_add]; exact ⟨p, p⟩
  · exact ⟨h.add p, by rw [Nat.add_comm]; exact p.add h⟩
theorem sho_above {n : Nat} {f : Rows} {L s : Nat} (h : Sho n f L s) {i k c : Nat} (hi : 0 < i) (hk : i + k = L) (hw : Way f s i c) (p : Walk f k c s) : s < c := by
  have hr := (hw.round p).2
  rw [hk] at hr
  have h1 : ¬ c < s := fun hlt => h.least c hlt hr
  have h2 : c ≠ s := by
    intro e; subst e
    exact h.short k c (by omega) p
  omega
/-- on a shortest cycle all inner items lie above its least start -/
theorem sho_bw {n : Nat} {f : Rows} {L s : Nat} (h : Sho n f L s) : ∀ (k i y : Nat), i + k = L → Way f s i y → Walk f k y s → BW f s k y s
  | 0, i, y, _, _, p => by have := p.pos; omega
  | k + 1, i, y, hk, hw, p => by
    rcases p.inv with ⟨h1, h2⟩ | ⟨j, c, h1, h2, q⟩
    · rw [h1]; exact .one h2
    · obtain rfl : j = k := by omega
      have hw2 := hw.snoc h2
      exact .step h2 (sho_above h (i := i + 1) (by omega) (by omega) (.inr hw2) q) (sho_bw h j (i + 1) c (by omega) (.inr hw2) q)
theorem sho_start {n : Nat} {f : Rows} {L s : Nat} (hn : n ≤ 48) (h : Sho n f L s) : stepsN f s s s = L :=
  steps_eq (by have := h.sn; omega) h.le (sho_bw h L 0 s (by omega) (.inl ⟨rfl, rfl⟩) h.walk) (fun i hi p => h.short i s hi p.walk)
theorem sho_other {n : Nat} {f : Rows} {L s : Nat} (h : Sho n f L s) {a : Nat} (ha : a < 64) : L ≤ stepsN f a a a := by
  rcases steps_walk (f := f) (to := a) (b := a) ha with h1 | h1
  · apply Nat.le_of_not_lt
    intro hlt; exact h.short _ a hlt h1
  · have := h.le; omega
theorem sho_before {n : Nat} {f : Rows} {L s : Nat} (h : Sho n f L s) {a : Nat} (ha : a < 64) (hs : a < s) : L < stepsN f a a a := by
  have h0 := sho_other h ha
  rcases steps_walk (f := f) (to := a) (b := a) ha with h1 | h1
  · apply Nat.lt_of_le_of_ne h0
    intro e; rw [← e] at h1; exact h.least a hs h1
  · have := h.le; omega
/-- the least count and its item among the first k -/
def bestN (f : Rows) : Nat → Nat × Int
  | 0 => (100, -1)
  | k + 1 => if stepsN f k k k < (bestN f k).1 then (stepsN f k k k, (k : Int)) else bestN f k
theorem best_ref {n : Nat} {f : Rows} {L s : Nat} (hn : n ≤ 48) (h : Sho n f L s) : ∀ k, k ≤ n → (k ≤ s → L < (bestN f k).1) ∧ (s < k → bestN f k = (L, (s : Int)))
  | 0, _ => ⟨fun _ => by have := h.le; show L < 100; omega, fun hs => by omega⟩
  | k + 1, hk => by
    obtain ⟨h1, h2⟩ := best_ref hn h k (by omega)
    unfold bestN
    constructor
    · intro hks
      have h3 := sho_before h (a := k) (by omega) (by omega)
      have h4 := h1 (by omega)
      split
      · exact h3
      · exact h4
    · intro hs
      by_cases e : k = s
      · subst e
        have h4 := h1 (Nat.le_refl _)
        rw [sho_start hn h, if_pos h4]
      · rw [h2 (by omega), if_neg (by have := sho_other h (a := k) (by omega); omega)]
/-- the test of Ring's loop -/
def tstN (f : Rows) (s x l b : Nat) : Bool := bit f x b && decide (stepsN f b s s = l)
/-- what the walk of the reference's Ring needs to know of the ring -/
structure Rng (n : Nat) (f : Rows) (s : Nat) (R : List Nat) : Prop where
  pos : 0 < R.length
  le : R.length ≤ 48
  sn : s < n
  fst : R[0]? = some s
  best : bestN f n = (R.length, (s : Int))
  lt : ∀ i x : Nat, R[i]? = some x → x < n
  next : ∀ i x y : Nat, R[i]? = some x → R[i + 1]? = some y → s < y ∧ tstN f s x (R.length - (i + 1)) y = true ∧ ∀ c, s < c → c < y → tstN f s x (R.length - (i + 1)) c = false
theorem way_least {n : Nat} {f : Rows} (hf : Ok n f) {a : Nat} {best : List (BitVec 64)} (hb : ∀ i s, best[i]? = some s → ∀ x, x < n → (s.getLsbD x = true ↔ Dist f a (i + 1) x)) :
    ∀ (k x : Nat), k < best.length → Dist f a (k + 1) x → ∀ i y z, (x :: wayGo f best k x)[i]? = some y → (x :: wayGo f best k x)[i + 1]? = some z → ∀ c, bit f y c = true → Dist f a (k - i) c → z ≤ c
  | 0, x, _, hx, i, y, z, _, hz, _, _, _ => by simp [wayGo] at hz
  | k + 1, x, hk, hx, i, y, z, hy, hz, c, hc, hd => by
    obtain ⟨h1, h2⟩ := way_step hf hb (k := k) (by omega) hx
    have ih := way_least hf hb k _ (by omega) h2
    have e : wayGo f best (k + 1) x = Bs.low (f x &&& (best[k]?.getD 0#64)) :: wayGo f best k (Bs.low (f x &&& (best[k]?.getD 0#64))) := rfl
    rw [e] at hy hz
    cases i with
    | zero =>
      simp at hy hz
      subst hy hz
      obtain ⟨s, hs⟩ : ∃ s, best[k]? = some s := ⟨_, List.getElem?_eq_getElem (by omega)⟩
      rw [hs]
      show Bs.low (f x &&& s) ≤ c
      have hcn := (hf.in_ x c hc).2
      have hcb : (f x &&& s).getLsbD c = true := by
        rw [BitVec.getLsbD_and, Bool.and_eq_true]
        exact ⟨hc, (hb k s hs c hcn).2 hd⟩
      apply Nat.le_of_not_lt
      intro hlt
      have := Bs.low_least (Bx.ne_of_bit hcb) hlt
      rw [hcb] at this; cases this
    | succ i =>
      simp only [List.getElem?_cons_succ] at hy hz
      exact ih i y z hy (by simpa using hz) c hc (by rwa [show k + 1 - (i + 1) = k - i by omega] at hd)
theorem ring_ref {n : Nat} {f : Rows} (hf : Ok n f) : (ringL n f = [] ∧ ∀ a, ¬ Path f a a) ∨ ∃ s, Rng n f s (ringL n f) := by
  have hn := hf.le
  have hb := best_spec hf n (Nat.le_refl _)
  have hcyc := ring_cyc hf
  unfold ringL at hcyc ⊢
  cases ho : bestGo (backF n f) n with
  | none => exact .inl ⟨rfl, fun a p => hb.1 ho a (p.lt hf).1 p⟩
  | some sm =>
    obtain ⟨s, best⟩ := sm
    obtain ⟨h1, h2, h3, h4⟩ := hb.2 s best ho
    obtain ⟨l1, l2⟩ := lay_some hf h1 h2
    have hpos : 0 < best.length := l1.1.pos
    obtain ⟨m, hm⟩ : ∃ m, best.length = m + 1 := ⟨best.length - 1, by omega⟩
    have hs : Dist f s (m + 1) s := by rw [← hm]; exact l1
    obtain ⟨r1, r2, r3, r4⟩ := way_spec hf l2 m s (by omega) hs
    have hle := way_least hf l2 m s (by omega) hs
    rw [ho] at hcyc
    have hc : Cyc n f (s :: wayGo f best (best.length - 1) s) := by
      rcases hcyc with ⟨h, _⟩ | h
      · cases h
      · exact h
    right
    refine ⟨s, ?_⟩
    show Rng n f s (s :: wayGo f best (best.length - 1) s)
    rw [show best.length - 1 = m by omega] at hc ⊢
    generalize hW : wayGo f best m s = way at *
    have hlen : (s :: way).length = m + 1 := by simp [r1]
    have h48 : (s :: way).length ≤ 48 := by
      have hle : (s :: way).length ≤ (List.range 48).length := by
        apply List.Nodup.length_le_of_subset hc.nodup
        intro x hx
        have := hc.lt x hx
        rw [List.mem_range]; omega
      simpa using hle
    have hsho : Sho n f (m + 1) s := ⟨by omega, by omega, h1, hs.1, fun j a hj p => hc.short j a (by omega) p, fun a ha p => by
      have := h4 a ha _ p; omega⟩
    have hdist : ∀ i x, (s :: way)[i]? = some x → Dist f s (m + 1 - i) x := by
      intro i x hx
      cases i with
      | zero => simp at hx; subst hx; exact hs
      | succ i => simp at hx; rw [show m + 1 - (i + 1) = m - i by omega]; exact r2 i x hx
    have hway : ∀ i x, (s :: way)[i]? = some x → Way f s i x := by
      intro i
      induction i with
      | zero => intro x hx; simp at hx; exact .inl ⟨rfl, hx.symm⟩
      | succ i ih =>
        intro x hx
        have hi : i < (s :: way).length := by have := (List.getElem?_eq_some_iff.1 hx).1; omega
        have hy : (s :: way)[i]? = some (s :: way)[i] := List.getElem?_eq_getElem hi
        exact .inr ((ih _ hy).snoc (r3 i _ x hy hx))
    refine ⟨by omega, h48, h1, by simp, by rw [hlen]; exact (best_ref hn hsho n (Nat.le_refl _)).2 h1, fun i x hx => hc.lt x (List.mem_of_getElem? hx), fun i x y hx hy => ?_⟩
    rw [hlen, show m + 1 - (i + 1) = m - i by omega]
    have him : i + 1 < m + 1 := by have := (List.getElem?_eq_some_iff.1 hy).1; omega
    have hbit := r3 i x y hx hy
    have hdy := hdist (i + 1) y hy
    rw [show m + 1 - (i + 1) = m - i by omega] at hdy
    have hwy := hway (i + 1) y hy
    have hwx := hway i x hx
    have hyn := (hf.in_ x y hbit).2
    refine ⟨sho_above hsho (i := i + 1) (k := m - i) (by omega) (by omega) hwy hdy.1, ?_, fun c hsc hcy => ?_⟩
    · unfold tstN
      rw [hbit, Bool.true_and]
      exact decide_eq_true (steps_eq (by omega) (by omega) (sho_bw hsho (m - i) (i + 1) y (by omega) hwy hdy.1) (fun j hj p => hdy.2 j hj p.walk))
    · unfold tstN
      rw [Bool.eq_false_iff]
      intro ht
      rw [Bool.and_eq_true, decide_eq_true_eq] at ht
      obtain ⟨hb1, hb2⟩ := ht
      have hcn := (hf.in_ x c hb1).2
      have hwc := hwx.snoc hb1
      have hwalk : Walk f (m - i) c s := by
        rcases steps_walk (f := f) (a := c) (to := s) (b := s) (by omega) with h | h
        · rw [hb2] at h; exact h
        · omega
      have hd : Dist f s (m - i) c := ⟨hwalk, fun j hj p => hsho.short _ s (by omega) (hwc.add p)⟩
      have := hle i x y hx hy c hb1 hd
      omega
end Go.Rl
