/- Relations on at most 48 items by their rows, plain: validity, images, composition, inverse, closure. -/
import Derived.Test.YtknjdfgmejobfaaDoorBz
namespace Go.Rl

abbrev Rows := Nat → BitVec 64
/-- is (a, b) a pair? -/
def bit (f : Rows) (a b : Nat) : Bool := (f a).getLsbD b
/-- the integers below n -/
def below (n : Int) : BitVec 64 := Bv.bit (min n.toNat 64) - 1#64
theorem below_get (n : Int) (i : Nat) (hi : i < 64) : (below n).getLsbD i = decide ((i : Int) < n) := by
  unfold below
  rw [Bv.ones_get _ _ (by omega) hi, Bool.eq_iff_iff]
  simp
  omega
theorem below_getN (n i : Nat) (hi : i < 64) : (below (n : Int)).getLsbD i = decide (i < n) := by
  rw [below_get _ _ hi, Bool.eq_iff_iff]; simp

/-- is row a of a relation on n items right? -/
def rowB (n : Int) (a : Nat) (s : BitVec 64) : Bool := (s &&& ~~~ (below n) == 0#64) && (decide ((a : Int) < n) || s == 0#64)
/-- are the first k rows right? -/
def rowsB (n : Int) (f : Rows) (k : Nat) : Bool := (List.range k).all (fun a => rowB n a (f a))
theorem rowsB_succ (n : Int) (f : Rows) (k : Nat) : rowsB n f (k + 1) = (rowsB n f k && rowB n k (f k)) := by simp [rowsB, List.range_succ]
def rightB (n : Int) (f : Rows) : Bool := decide (0 ≤ n ∧ n ≤ 48) && rowsB n f 48

theorem sub_zero (s t : BitVec 64) : (s &&& ~~~ t == 0#64) = true ↔ ∀ i, i < 64 → s.getLsbD i = true → t.getLsbD i = true := by
  rw [beq_iff_eq]
  constructor
  · intro h i hi hb
    have := congrArg (fun x => BitVec.getLsbD x i) h
    simp only [BitVec.getLsbD_and, Bv.not_get t i hi, Bv.zero_get, hb, Bool.true_and] at this
    simpa using this
  · intro h
    apply Bv.ext_get
    intro i hi
    rw [BitVec.getLsbD_and, Bv.not_get t i hi, Bv.zero_get]
    cases hb : s.getLsbD i
    · rfl
    · rw [h i hi hb]; rfl
theorem zero_iff (s : BitVec 64) : (s == 0#64) = true ↔ ∀ i, i < 64 → s.getLsbD i = false := by
  rw [beq_iff_eq]
  constructor
  · rintro rfl i _; exact Bv.zero_get i
  · intro h; apply Bv.ext_get; intro i hi; rw [h i hi, Bv.zero_get]

/-- a valid relation: no row beyond the items -/
structure Ok (n : Nat) (f : Rows) : Prop where
  le : n ≤ 48
  in_ : ∀ a b, bit f a b = true → a < n ∧ b < n
/-- nothing beyond the 48 rows -/
def Z (f : Rows) : Prop := ∀ a, 48 ≤ a → f a = 0#64
theorem Ok.z {n : Nat} {f : Rows} (h : Ok n f) : Z f := fun a ha => by
  apply Bv.ext_get; intro b hb
  rw [Bv.zero_get]
  cases hc : (f a).getLsbD b
  · rfl
  · have := h.in_ a b hc; have := h.le; omega
theorem right_iff (n : Nat) (f : Rows) (hz : Z f) : rightB (n : Int) f = true ↔ Ok n f := by
  unfold rightB rowsB rowB
  simp only [Bool.and_eq_true, decide_eq_true_eq, List.all_eq_true, List.mem_range, Bool.or_eq_true]
  constructor
  · rintro ⟨⟨_, h1⟩, h2⟩
    refine ⟨by omega, fun a b hb => ?_⟩
    have hb64 := Bx.lt64 hb
    have ha : a < 48 := by
      apply Classical.byContradiction; intro ha
      unfold bit at hb; rw [hz a (by omega), Bv.zero_get] at hb; cases hb
    obtain ⟨h3, h4⟩ := h2 a ha
    have h5 := (sub_zero _ _).1 h3 b hb64 hb
    rw [below_getN _ _ hb64] at h5
    have h5 := of_decide_eq_true h5
    rcases h4 with h4 | h4
    · exact ⟨by omega, h5⟩
    · have := (zero_iff _).1 h4 b hb64
      unfold bit at hb; rw [this] at hb; cases hb
  · rintro ⟨h1, h2⟩
    refine ⟨⟨by omega, by omega⟩, fun a ha => ⟨(sub_zero _ _).2 fun i hi hb => ?_, ?_⟩⟩
    · rw [below_getN _ _ hi]; exact decide_eq_true (h2 a i hb).2
    · by_cases han : a < n
      · exact .inl (by omega)
      · refine .inr ((zero_iff _).2 fun i hi => ?_)
        cases hb : (f a).getLsbD i
        · rfl
        · exact absurd (h2 a i hb).1 han
theorem right_nat {n : Int} {f : Rows} (hz : Z f) (h : rightB n f = true) : ∃ m : Nat, n = (m : Int) ∧ Ok m f := by
  have h1 : 0 ≤ n := by
    unfold rightB at h
    rw [Bool.and_eq_true] at h
    exact (of_decide_eq_true h.1).1
  obtain ⟨m, rfl⟩ : ∃ m : Nat, n = (m : Int) := ⟨n.toNat, by omega⟩
  exact ⟨m, rfl, (right_iff m f hz).1 h⟩

/-! ### rows -/
/-- the relation on n items with the rows g -/
def cut (n : Nat) (g : Rows) : Rows := fun a => if a < n then g a else 0#64
theorem cut_lt {n : Nat} {g : Rows} {a : Nat} (h : a < n) : cut n g a = g a := if_pos h
theorem cut_ge {n : Nat} {g : Rows} {a : Nat} (h : ¬ a < n) : cut n g a = 0#64 := if_neg h
theorem cut_bit (n : Nat) (g : Rows) (a b : Nat) : bit (cut n g) a b = (decide (a < n) && bit g a b) := by
  unfold bit cut
  split
  · rename_i h; simp [h]
  · rename_i h; rw [Bv.zero_get]; simp [h]
theorem rows_ext {f g : Rows} (h : ∀ a b, b < 64 → bit f a b = bit g a b) : f = g := funext fun a => Bv.ext_get fun b hb => h a b hb
/-- two valid relations on n items with the same pairs -/
theorem ok_ext {n : Nat} {f g : Rows} (hf : Ok n f) (hg : Ok n g) (h : ∀ a b, a < n → b < n → bit f a b = bit g a b) : f = g := by
  apply rows_ext
  intro a b _
  have key : ∀ {x y : Rows}, Ok n x → (∀ a b, a < n → b < n → bit x a b = bit y a b) → bit x a b = true → bit y a b = true := by
    intro x y hx h hb
    obtain ⟨h1, h2⟩ := hx.in_ a b hb
    rw [← h a b h1 h2]; exact hb
  rw [Bool.eq_iff_iff]
  exact ⟨key hf h, key hg fun a b h1 h2 => (h a b h1 h2).symm⟩
theorem ok_iff_ext {n : Nat} {f g : Rows} (hf : Ok n f) (hg : Ok n g) (h : ∀ a b, a < n → b < n → (bit f a b = true ↔ bit g a b = true)) : f = g :=
  ok_ext hf hg fun a b ha hb => by rw [Bool.eq_iff_iff]; exact h a b ha hb
theorem ok_cut {n : Nat} (hn : n ≤ 48) {g : Rows} (h : ∀ a b, a < n → bit g a b = true → b < n) : Ok n (cut n g) :=
  ⟨hn, fun a b hb => by
    rw [cut_bit, Bool.and_eq_true] at hb
    have ha := of_decide_eq_true hb.1
    exact ⟨ha, h a b ha hb.2⟩⟩
theorem ok_zero (n : Nat) (hn : n ≤ 48) : Ok n (fun _ => 0#64) := ⟨hn, fun a b hb => by unfold bit at hb; rw [Bv.zero_get] at hb; cases hb⟩
theorem right_of {n : Nat} {f : Rows} (h : Ok n f) : rightB (n : Int) f = true := (right_iff n f h.z).2 h

/-! ### the image of a set -/
def imageL (g : Rows) (l : List Nat) : BitVec 64 := l.foldl (fun t b => t ||| g b) 0#64
theorem imageL_get (g : Rows) (l : List Nat) (c : Nat) : (imageL g l).getLsbD c = l.any (fun b => bit g b c) := by
  have key : ∀ (l : List Nat) (t : BitVec 64), (l.foldl (fun t b => t ||| g b) t).getLsbD c = (t.getLsbD c || l.any (fun b => bit g b c)) := by
    intro l
    induction l with
    | nil => intro t; simp
    | cons b l ih => intro t; rw [List.foldl_cons, ih, BitVec.getLsbD_or, List.any_cons, Bool.or_assoc]; rfl
  unfold imageL
  rw [key, Bv.zero_get, Bool.false_or]
theorem imageL_cons (g : Rows) (t : BitVec 64) (b : Nat) (l : List Nat) : t ||| imageL g (b :: l) = (t ||| g b) ||| imageL g l := by
  apply Bv.ext_get; intro c hc
  rw [BitVec.getLsbD_or, BitVec.getLsbD_or, BitVec.getLsbD_or, imageL_get, imageL_get, List.any_cons, Bool.or_assoc]; rfl
def image (g : Rows) (s : BitVec 64) : BitVec 64 := imageL g (Bs.elems s)
theorem image_iff (g : Rows) (s : BitVec 64) (c : Nat) : (image g s).getLsbD c = true ↔ ∃ b, s.getLsbD b = true ∧ bit g b c = true := by
  unfold image
  rw [imageL_get, List.any_eq_true]
  constructor
  · rintro ⟨b, hb, h⟩; exact ⟨b, Bs.mem_elems.1 hb, h⟩
  · rintro ⟨b, hb, h⟩; exact ⟨b, Bs.mem_elems.2 hb, h⟩

/-! ### the operations -/
def unionF (n : Nat) (f g : Rows) : Rows := cut n fun a => f a ||| g a
def bothF (n : Nat) (f g : Rows) : Rows := cut n fun a => f a &&& g a
def lessF (n : Nat) (f g : Rows) : Rows := cut n fun a => f a &&& ~~~ (g a)
def thenF (n : Nat) (f g : Rows) : Rows := cut n fun a => image g (f a)
def idF (n : Nat) (s : BitVec 64) : Rows := cut n fun a => s &&& Bv.bit a
def crossF (n : Nat) (s t : BitVec 64) : Rows := cut n fun a => if s.getLsbD a then t &&& below (n : Int) else 0#64
def backF (n : Nat) (f : Rows) : Rows := fun b => Bx.mk fun a => decide (a < n) && bit f a b

theorem bit64 {f : Rows} {a b : Nat} (h : bit f a b = true) : b < 64 := Bx.lt64 h
theorem union_bit (n : Nat) (f g : Rows) (a b : Nat) (ha : a < n) : bit (unionF n f g) a b = (bit f a b || bit g a b) := by
  unfold unionF; rw [cut_bit]; unfold bit; rw [BitVec.getLsbD_or]; simp [ha]
theorem both_bit (n : Nat) (f g : Rows) (a b : Nat) (ha : a < n) : bit (bothF n f g) a b = (bit f a b && bit g a b) := by
  unfold bothF; rw [cut_bit]; unfold bit; rw [BitVec.getLsbD_and]; simp [ha]
theorem less_bit (n : Nat) (f g : Rows) (a b : Nat) (ha : a < n) (hb : b < 64) : bit (lessF n f g) a b = (bit f a b && !bit g a b) := by
  unfold lessF; rw [cut_bit]; unfold bit; rw [BitVec.getLsbD_and, Bv.not_get _ _ hb]; simp [ha]
theorem then_bit (n : Nat) (f g : Rows) (a c : Nat) (ha : a < n) : bit (thenF n f g) a c = true ↔ ∃ b, bit f a b = true ∧ bit g b c = true := by
  unfold thenF; rw [cut_bit, decide_eq_true ha, Bool.true_and]
  exact image_iff g (f a) c
theorem id_bit (n : Nat) (s : BitVec 64) (a b : Nat) (ha : a < n) (hn : n ≤ 48) : bit (idF n s) a b = (decide (b = a) && s.getLsbD b) := by
  unfold idF; rw [cut_bit, decide_eq_true ha, Bool.true_and]
  unfold bit
  rw [BitVec.getLsbD_and, Bv.bit_get a b (by omega), Bool.and_comm]
theorem cross_bit (n : Nat) (s t : BitVec 64) (a b : Nat) (ha : a < n) (_hn : n ≤ 48) : bit (crossF n s t) a b = (s.getLsbD a && t.getLsbD b && decide (b < n)) := by
  unfold crossF; rw [cut_bit, decide_eq_true ha, Bool.true_and]
  show (if s.getLsbD a = true then t &&& below (n : Int) else 0#64).getLsbD b = _
  split
  · rename_i h
    rw [h, Bool.true_and, BitVec.getLsbD_and]
    by_cases hb : b < 64
    · rw [below_getN _ _ hb]
    · rw [BitVec.getLsbD_of_ge _ _ (by omega), BitVec.getLsbD_of_ge _ _ (by omega)]; simp
  · rename_i h
    rw [Bv.zero_get]
    simp at h; simp [h]
theorem back_bit (n : Nat) (f : Rows) (a b : Nat) (hb : b < 64) : bit (backF n f) a b = (decide (b < n) && bit f b a) := by
  unfold bit backF; rw [Bx.mk_get _ b hb]; rfl

theorem ok_union {n : Nat} {f g : Rows} (hf : Ok n f) (hg : Ok n g) : Ok n (unionF n f g) := ok_cut hf.le fun a b ha h => by
  unfold bit at h; rw [BitVec.getLsbD_or, Bool.or_eq_true] at h
  rcases h with h | h
  · exact (hf.in_ a b h).2
  · exact (hg.in_ a b h).2
theorem ok_both {n : Nat} {f g : Rows} (hf : Ok n f) : Ok n (bothF n f g) := ok_cut hf.le fun a b ha h => by
  unfold bit at h; rw [BitVec.getLsbD_and, Bool.and_eq_true] at h
  exact (hf.in_ a b h.1).2
theorem ok_less {n : Nat} {f g : Rows} (hf : Ok n f) : Ok n (lessF n f g) := ok_cut hf.le fun a b ha h => by
  unfold bit at h; rw [BitVec.getLsbD_and, Bool.and_eq_true] at h
  exact (hf.in_ a b h.1).2
theorem ok_then {n : Nat} {f g : Rows} (hf : Ok n f) (hg : Ok n g) : Ok n (thenF n f g) := ok_cut hf.le fun a c ha h => by
  obtain ⟨b, h1, h2⟩ := (image_iff g (f a) c).1 h
  have hb := (hf.in_ a b h1).2
  exact (hg.in_ b c h2).2
theorem ok_id {n : Nat} (hn : n ≤ 48) (s : BitVec 64) : Ok n (idF n s) := ⟨hn, fun a b h => by
  unfold idF at h; rw [cut_bit, Bool.and_eq_true] at h
  have ha := of_decide_eq_true h.1
  have h2 := h.2
  unfold bit at h2
  rw [BitVec.getLsbD_and, Bv.bit_get a b (by omega), Bool.and_eq_true] at h2
  have := of_decide_eq_true h2.2
  exact ⟨ha, by omega⟩⟩
theorem ok_cross {n : Nat} (hn : n ≤ 48) (s t : BitVec 64) : Ok n (crossF n s t) := ⟨hn, fun a b h => by
  have ha : a < n := by
    unfold crossF at h; rw [cut_bit, Bool.and_eq_true] at h
    exact of_decide_eq_true h.1
  rw [cross_bit n s t a b ha hn, Bool.and_eq_true] at h
  exact ⟨ha, of_decide_eq_true h.2⟩⟩
theorem ok_back {n : Nat} {f : Rows} (hf : Ok n f) : Ok n (backF n f) := ⟨hf.le, fun a b h => by
  rw [back_bit n f a b (bit64 h), Bool.and_eq_true] at h
  have hb := of_decide_eq_true h.1
  exact ⟨(hf.in_ b a h.2).2, hb⟩⟩
theorem back_ok {n : Nat} {f : Rows} (hf : Ok n f) (a b : Nat) : bit (backF n f) a b = bit f b a := by
  have hn := hf.le
  by_cases hb : b < 64
  · rw [back_bit n f a b hb]
    cases h : bit f b a
    · simp
    · simp [(hf.in_ b a h).1]
  · cases h : bit f b a
    · cases h2 : bit (backF n f) a b
      · rfl
      · exact absurd (bit64 h2) hb
    · have := (hf.in_ b a h).1; omega
end Go.Rl
