/- Relations, plain: domain, range, irreflexivity; the laws of composition, of cross products and of the closure. -/
import Derived.Test.YtknjdfgmejobfaaDoorRr
namespace Go.Rl

/-! ### single relations -/
def fromF (n : Nat) (f : Rows) : BitVec 64 := Bx.mk fun a => decide (a < n) && !(f a == 0#64)
def intoF (n : Nat) (f : Rows) : BitVec 64 := image f (below (n : Int))
def irrF (n : Nat) (f : Rows) : Bool := (List.range n).all fun a => !bit f a a
theorem row_ne {s : BitVec 64} : (!(s == 0#64)) = true ↔ ∃ b, s.getLsbD b = true := by
  constructor
  · intro h
    have h0 : s ≠ 0#64 := by simpa using h
    exact ⟨_, Bs.low_bit h0⟩
  · rintro ⟨b, hb⟩
    simpa using Bx.ne_of_bit hb
theorem from_bit {n : Nat} {f : Rows} (hf : Ok n f) (a : Nat) : (fromF n f).getLsbD a = true ↔ ∃ b, bit f a b = true := by
  have hn := hf.le
  constructor
  · intro h
    have ha := Bx.lt64 h
    unfold fromF at h
    rw [Bx.mk_get _ a ha, Bool.and_eq_true] at h
    exact row_ne.1 h.2
  · rintro ⟨b, hb⟩
    have h1 := (hf.in_ a b hb).1
    unfold fromF
    rw [Bx.mk_get _ a (by omega), Bool.and_eq_true]
    exact ⟨decide_eq_true h1, row_ne.2 ⟨b, hb⟩⟩
theorem into_bit {n : Nat} {f : Rows} (hf : Ok n f) (b : Nat) : (intoF n f).getLsbD b = true ↔ ∃ a, bit f a b = true := by
  have hn := hf.le
  unfold intoF
  rw [image_iff]
  constructor
  · rintro ⟨a, _, h⟩; exact ⟨a, h⟩
  · rintro ⟨a, h⟩
    have h1 := (hf.in_ a b h).1
    exact ⟨a, by rw [below_getN _ _ (by omega)]; exact decide_eq_true h1, h⟩
theorem from_zero {n : Nat} {f : Rows} (hf : Ok n f) : fromF n f = 0#64 ↔ ∀ a b, bit f a b = false := by
  constructor
  · intro h a b
    cases hb : bit f a b
    · rfl
    · have := (from_bit hf a).2 ⟨b, hb⟩
      rw [h, Bv.zero_get] at this; cases this
  · intro h
    apply Bv.ext_get; intro a ha
    rw [Bv.zero_get]
    cases hb : (fromF n f).getLsbD a
    · rfl
    · obtain ⟨b, h1⟩ := (from_bit hf a).1 hb
      rw [h a b] at h1; cases h1
theorem irr_iff {n : Nat} {f : Rows} (hf : Ok n f) : irrF n f = true ↔ ∀ a, bit f a a = false := by
  unfold irrF
  rw [List.all_eq_true]
  constructor
  · intro h a
    cases hb : bit f a a
    · rfl
    · have := h a (List.mem_range.2 (hf.in_ a a hb).1)
      rw [hb] at this; cases this
  · intro h a _; rw [h a]; rfl

/-! ### in -/
theorem less_zero {n : Nat} {f g : Rows} (hf : Ok n f) : fromF n (lessF n f g) = 0#64 ↔ ∀ a b, bit f a b = true → bit g a b = true := by
  have hn := hf.le
  rw [from_zero (ok_less (g := g) hf)]
  constructor
  · intro h a b hb
    have h1 := hf.in_ a b hb
    have h2 := h a b
    rw [less_bit n f g a b h1.1 (by omega), hb, Bool.true_and] at h2
    simpa using h2
  · intro h a b
    cases hb : bit (lessF n f g) a b
    · rfl
    · have h1 := (ok_less (g := g) hf).in_ a b hb
      rw [less_bit n f g a b h1.1 (by omega), Bool.and_eq_true] at hb
      rw [h a b hb.1] at hb
      simp at hb

/-! ### RelThen -/
theorem then_iff {n : Nat} {f g : Rows} (hf : Ok n f) (a c : Nat) : bit (thenF n f g) a c = true ↔ ∃ b, bit f a b = true ∧ bit g b c = true := by
  by_cases ha : a < n
  · exact then_bit n f g a c ha
  · constructor
    · intro h
      unfold thenF at h; rw [cut_bit, Bool.and_eq_true] at h
      exact absurd (of_decide_eq_true h.1) ha
    · rintro ⟨b, h, _⟩; exact absurd (hf.in_ a b h).1 ha
theorem union_iff {n : Nat} {f g : Rows} (hf : Ok n f) (hg : Ok n g) (a b : Nat) : bit (unionF n f g) a b = true ↔ bit f a b = true ∨ bit g a b = true := by
  by_cases ha : a < n
  · rw [union_bit n f g a b ha, Bool.or_eq_true]
  · constructor
    · intro h
      unfold unionF at h; rw [cut_bit, Bool.and_eq_true] at h
      exact absurd (of_decide_eq_true h.1) ha
    · rintro (h | h)
      · exact absurd (hf.in_ a b h).1 ha
      · exact absurd (hg.in_ a b h).1 ha
theorem both_iff {n : Nat} {f g : Rows} (hf : Ok n f) (a b : Nat) : bit (bothF n f g) a b = true ↔ bit f a b = true ∧ bit g a b = true := by
  by_cases ha : a < n
  · rw [both_bit n f g a b ha, Bool.and_eq_true]
  · constructor
    · intro h
      unfold bothF at h; rw [cut_bit, Bool.and_eq_true] at h
      exact absurd (of_decide_eq_true h.1) ha
    · rintro ⟨h, _⟩; exact absurd (hf.in_ a b h).1 ha
theorem less_iff {n : Nat} {f g : Rows} (hf : Ok n f) (a b : Nat) : bit (lessF n f g) a b = true ↔ bit f a b = true ∧ bit g a b = false := by
  have hn := hf.le
  by_cases ha : a < n
  · by_cases hb : b < 64
    · rw [less_bit n f g a b ha hb, Bool.and_eq_true]; simp
    · constructor
      · intro h; exact absurd (Bx.lt64 h) hb
      · intro h; exact absurd (Bx.lt64 h.1) hb
  · constructor
    · intro h
      unfold lessF at h; rw [cut_bit, Bool.and_eq_true] at h
      exact absurd (of_decide_eq_true h.1) ha
    · rintro ⟨h, _⟩; exact absurd (hf.in_ a b h).1 ha
theorem back_iff {n : Nat} {f : Rows} (hf : Ok n f) (a b : Nat) : bit (backF n f) a b = true ↔ bit f b a = true := by rw [back_ok hf]
theorem then_assoc {n : Nat} {f g h : Rows} (hf : Ok n f) (hg : Ok n g) (hh : Ok n h) : thenF n (thenF n f g) h = thenF n f (thenF n g h) :=
  ok_iff_ext (ok_then (ok_then hf hg) hh) (ok_then hf (ok_then hg hh)) fun a d _ _ => by
    rw [then_iff (ok_then hf hg), then_iff hf]
    constructor
    · rintro ⟨c, h1, h2⟩
      obtain ⟨b, h3, h4⟩ := (then_iff hf a c).1 h1
      exact ⟨b, h3, (then_iff hg b d).2 ⟨c, h4, h2⟩⟩
    · rintro ⟨b, h1, h2⟩
      obtain ⟨c, h3, h4⟩ := (then_iff hg b d).1 h2
      exact ⟨c, (then_iff hf a c).2 ⟨b, h1, h3⟩, h4⟩
theorem then_union {n : Nat} {f g h : Rows} (hf : Ok n f) (hg : Ok n g) (hh : Ok n h) : thenF n f (unionF n g h) = unionF n (thenF n f g) (thenF n f h) :=
  ok_iff_ext (ok_then hf (ok_union hg hh)) (ok_union (ok_then hf hg) (ok_then hf hh)) fun a c _ _ => by
    rw [then_iff hf, union_iff (ok_then hf hg) (ok_then hf hh), then_iff hf, then_iff hf]
    constructor
    · rintro ⟨b, h1, h2⟩
      rcases (union_iff hg hh b c).1 h2 with h2 | h2
      · exact .inl ⟨b, h1, h2⟩
      · exact .inr ⟨b, h1, h2⟩
    · rintro (⟨b, h1, h2⟩ | ⟨b, h1, h2⟩)
      · exact ⟨b, h1, (union_iff hg hh b c).2 (.inl h2)⟩
      · exact ⟨b, h1, (union_iff hg hh b c).2 (.inr h2)⟩
theorem then_back {n : Nat} {f g : Rows} (hf : Ok n f) (hg : Ok n g) : backF n (thenF n f g) = thenF n (backF n g) (backF n f) :=
  ok_iff_ext (ok_back (ok_then hf hg)) (ok_then (ok_back hg) (ok_back hf)) fun a c _ _ => by
    rw [back_iff (ok_then hf hg), then_iff hf, then_iff (ok_back hg)]
    constructor
    · rintro ⟨b, h1, h2⟩; exact ⟨b, (back_iff hg a b).2 h2, (back_iff hf b c).2 h1⟩
    · rintro ⟨b, h1, h2⟩; exact ⟨b, (back_iff hf b c).1 h2, (back_iff hg a b).1 h1⟩
theorem back_back {n : Nat} {f : Rows} (hf : Ok n f) : backF n (backF n f) = f :=
  ok_iff_ext (ok_back (ok_back hf)) hf fun a b _ _ => by rw [back_iff (ok_back hf), back_iff hf]
theorem ones_get64 (i : Nat) (hi : i < 64) : (18446744073709551615#64).getLsbD i = true := by
  have e : 18446744073709551615#64 = BitVec.allOnes 64 := by decide +kernel
  rw [e, BitVec.getLsbD_allOnes]; exact decide_eq_true hi
theorem then_id {n : Nat} {f : Rows} (hf : Ok n f) : thenF n f (idF n 18446744073709551615#64) = f :=
  ok_iff_ext (ok_then hf (ok_id hf.le _)) hf fun a c ha hc => by
    have hn := hf.le
    rw [then_iff hf]
    constructor
    · rintro ⟨b, h1, h2⟩
      have hb := (hf.in_ a b h1).2
      rw [id_bit n _ b c hb hn, Bool.and_eq_true] at h2
      have := of_decide_eq_true h2.1
      subst this; exact h1
    · intro h
      refine ⟨c, h, ?_⟩
      rw [id_bit n _ c c hc hn, ones_get64 c (by omega)]; simp

/-! ### RelCross -/
theorem cross_iff {n : Nat} (hn : n ≤ 48) (s t : BitVec 64) (a b : Nat) : bit (crossF n s t) a b = true ↔ a < n ∧ b < n ∧ s.getLsbD a = true ∧ t.getLsbD b = true := by
  by_cases ha : a < n
  · rw [cross_bit n s t a b ha hn, Bool.and_eq_true, Bool.and_eq_true, decide_eq_true_eq]
    constructor
    · rintro ⟨⟨h1, h2⟩, h3⟩; exact ⟨ha, h3, h1, h2⟩
    · rintro ⟨_, h3, h1, h2⟩; exact ⟨⟨h1, h2⟩, h3⟩
  · constructor
    · intro h; exact absurd ((ok_cross hn s t).in_ a b h).1 ha
    · rintro ⟨h, _⟩; exact absurd h ha
theorem cross_union {n : Nat} (hn : n ≤ 48) (a b c : BitVec 64) : unionF n (crossF n a b) (crossF n a c) = crossF n a (b ||| c) :=
  ok_iff_ext (ok_union (ok_cross hn _ _) (ok_cross hn _ _)) (ok_cross hn _ _) fun x y hx hy => by
    rw [union_iff (ok_cross hn _ _) (ok_cross hn _ _), cross_iff hn, cross_iff hn, cross_iff hn, or_get]
    constructor
    · rintro (⟨h1, h2, h3, h4⟩ | ⟨h1, h2, h3, h4⟩)
      · exact ⟨h1, h2, h3, .inl h4⟩
      · exact ⟨h1, h2, h3, .inr h4⟩
    · rintro ⟨h1, h2, h3, h4 | h4⟩
      · exact .inl ⟨h1, h2, h3, h4⟩
      · exact .inr ⟨h1, h2, h3, h4⟩
theorem cross_less {n : Nat} (hn : n ≤ 48) (a b c : BitVec 64) : lessF n (crossF n a b) (crossF n a c) = crossF n a (b &&& ~~~ c) :=
  ok_iff_ext (ok_less (ok_cross hn _ _)) (ok_cross hn _ _) fun x y hx hy => by
    rw [less_iff (ok_cross hn _ _), cross_iff hn, cross_iff hn, andNot_get]
    constructor
    · rintro ⟨⟨h1, h2, h3, h4⟩, h5⟩
      refine ⟨h1, h2, h3, h4, fun hc => ?_⟩
      rw [(cross_iff hn a c x y).2 ⟨h1, h2, h3, hc⟩] at h5; cases h5
    · rintro ⟨h1, h2, h3, h4, h5⟩
      refine ⟨⟨h1, h2, h3, h4⟩, ?_⟩
      cases hb : bit (crossF n a c) x y
      · rfl
      · exact absurd ((cross_iff hn a c x y).1 hb).2.2.2 h5
theorem and_below {n : Nat} (hn : n ≤ 48) (s : BitVec 64) : s &&& below (n : Int) = 0#64 ↔ ∀ i, i < n → s.getLsbD i = false := by
  constructor
  · intro h i hi
    have := congrArg (fun x => BitVec.getLsbD x i) h
    simp only [BitVec.getLsbD_and, below_getN n i (by omega), Bv.zero_get, decide_eq_true hi, Bool.and_true] at this
    exact this
  · intro h
    apply Bv.ext_get; intro i hi
    rw [BitVec.getLsbD_and, below_getN n i hi, Bv.zero_get]
    by_cases hin : i < n
    · rw [h i hin]; rfl
    · rw [decide_eq_false hin, Bool.and_false]
theorem cross_then {n : Nat} (hn : n ≤ 48) (a b c : BitVec 64) : thenF n (crossF n a b) (crossF n b c) = if b &&& below (n : Int) = 0#64 then crossF n 0#64 0#64 else crossF n a c := by
  apply ok_iff_ext (ok_then (ok_cross hn _ _) (ok_cross hn _ _)) (by split <;> exact ok_cross hn _ _)
  intro x z hx hz
  rw [then_iff (ok_cross hn _ _)]
  split
  · rename_i h
    rw [and_below hn] at h
    rw [cross_iff hn]
    constructor
    · rintro ⟨y, h1, h2⟩
      rw [cross_iff hn] at h1
      rw [h y h1.2.1] at h1; cases h1.2.2.2
    · rintro ⟨_, _, h1, _⟩; rw [Bv.zero_get] at h1; cases h1
  · rename_i h
    rw [cross_iff hn]
    constructor
    · rintro ⟨y, h1, h2⟩
      rw [cross_iff hn] at h1 h2
      exact ⟨hx, hz, h1.2.2.1, h2.2.2.2⟩
    · rintro ⟨_, _, h1, h2⟩
      have hl := Bs.low_bit h
      rw [BitVec.getLsbD_and, Bool.and_eq_true] at hl
      have hlt := hl.2
      rw [below_getN _ _ (Bx.lt64 hl.1)] at hlt
      have hlt := of_decide_eq_true hlt
      exact ⟨_, (cross_iff hn _ _ _ _).2 ⟨hx, hlt, h1, hl.1⟩, (cross_iff hn _ _ _ _).2 ⟨hlt, hz, hl.1, h2⟩⟩
theorem cross_irr {n : Nat} (hn : n ≤ 48) (a b : BitVec 64) : irrF n (crossF n a b) = (a &&& b &&& below (n : Int) == 0#64) := by
  rw [Bool.eq_iff_iff, irr_iff (ok_cross hn a b), beq_iff_eq, and_below hn]
  constructor
  · intro h i hi
    have h1 := h i
    cases hc : (a &&& b).getLsbD i
    · rfl
    · rw [BitVec.getLsbD_and, Bool.and_eq_true] at hc
      rw [(cross_iff hn a b i i).2 ⟨hi, hi, hc.1, hc.2⟩] at h1; cases h1
  · intro h i
    cases hc : bit (crossF n a b) i i
    · rfl
    · rw [cross_iff hn] at hc
      have := h i hc.1
      rw [BitVec.getLsbD_and, hc.2.2.1, hc.2.2.2] at this; cases this
theorem cross_back {n : Nat} (hn : n ≤ 48) (a b : BitVec 64) : backF n (crossF n a b) = crossF n b a :=
  ok_iff_ext (ok_back (ok_cross hn _ _)) (ok_cross hn _ _) fun x y hx hy => by
    rw [back_iff (ok_cross hn _ _), cross_iff hn, cross_iff hn]
    constructor
    · rintro ⟨h1, h2, h3, h4⟩; exact ⟨h2, h1, h4, h3⟩
    · rintro ⟨h1, h2, h3, h4⟩; exact ⟨h2, h1, h4, h3⟩

/-! ### RelPlus -/
theorem plus_sup_then {n : Nat} {f : Rows} (hf : Ok n f) {a c : Nat} (h : bit (thenF n (plusF n f) (plusF n f)) a c = true) : bit (plusF n f) a c = true := by
  obtain ⟨b, h1, h2⟩ := (then_iff (ok_plus hf) a c).1 h
  exact plus_trans hf h1 h2
/-- the closure of a relation lies in that of a greater one -/
theorem plus_mono {n : Nat} {f g : Rows} (hf : Ok n f) (hg : Ok n g) (h : ∀ a b, bit f a b = true → bit g a b = true) {a b : Nat} (hb : bit (plusF n f) a b = true) : bit (plusF n g) a b = true :=
  (plus_bit hg).2 (((plus_bit hf).1 hb).mono fun x y hxy => .one (h x y hxy))
end Go.Rl
