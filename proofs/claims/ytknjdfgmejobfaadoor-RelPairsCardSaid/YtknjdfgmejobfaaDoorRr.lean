/- Relations, plain: the layers of items from which a walk of a given length leads to an item; a shortest cycle. -/
import Derived.Test.YtknjdfgmejobfaaDoorRt
namespace Go.Rl

/-- a walk of k steps -/
inductive Walk (f : Rows) : Nat → Nat → Nat → Prop
  | one {a b : Nat} (h : bit f a b = true) : Walk f 1 a b
  | step {k a b c : Nat} (h : bit f a b = true) (p : Walk f k b c) : Walk f (k + 1) a c
theorem Walk.pos {f : Rows} {k a b : Nat} (p : Walk f k a b) : 1 ≤ k := by cases p <;> omega
theorem Walk.path {f : Rows} {k a b : Nat} (p : Walk f k a b) : Path f a b := by
  induction p with
  | one h => exact .one h
  | step h _ ih => exact .step h ih
theorem Path.walk {f : Rows} {a b : Nat} (p : Path f a b) : ∃ k, Walk f k a b := by
  induction p with
  | one h => exact ⟨1, .one h⟩
  | step h _ ih => obtain ⟨k, q⟩ := ih; exact ⟨k + 1, .step h q⟩
theorem Walk.inv {f : Rows} {k a b : Nat} (p : Walk f k a b) : (k = 1 ∧ bit f a b = true) ∨ ∃ j c, k = j + 1 ∧ bit f a c = true ∧ Walk f j c b := by
  cases p with
  | one h => exact .inl ⟨rfl, h⟩
  | step h q => exact .inr ⟨_, _, rfl, h, q⟩
theorem Walk.snoc {f : Rows} {k a b c : Nat} (p : Walk f k a b) (h : bit f b c = true) : Walk f (k + 1) a c := by
  induction p with
  | one h1 => exact .step h1 (.one h)
  | step h1 _ ih => exact .step h1 (ih h)

/-- the layers towards a -/
def layGo (before : Rows) (a : Nat) : Nat → BitVec 64 → BitVec 64 → Option (List (BitVec 64))
  | 0, _, _ => none
  | k + 1, layer, seen => if layer = 0#64 then none else if layer.getLsbD a then some [layer] else
    (layGo before a k (image before layer &&& ~~~ (seen ||| layer)) (seen ||| layer)).map (layer :: ·)
def layL (before : Rows) (a : Nat) : Option (List (BitVec 64)) := layGo before a 65 (before a) 0#64

/-- the shortest walk from x to a has k steps -/
def Dist (f : Rows) (a k x : Nat) : Prop := Walk f k x a ∧ ∀ j, j < k → ¬ Walk f j x a
theorem Dist.unique {f : Rows} {a j k x : Nat} (h : Dist f a j x) (h2 : Dist f a k x) : j = k := by
  apply Classical.byContradiction
  intro hne
  by_cases hlt : j < k
  · exact h2.2 j hlt h.1
  · exact h.2 k (by omega) h2.1
theorem walk_dist {f : Rows} {a x : Nat} : ∀ k, Walk f k x a → ∃ j, j ≤ k ∧ Dist f a j x := by
  intro k
  induction k using Nat.strongRecOn with
  | _ k ih =>
    intro p
    by_cases h : ∃ j, j < k ∧ Walk f j x a
    · obtain ⟨j, hj, q⟩ := h
      obtain ⟨i, hi, hd⟩ := ih j hj q
      exact ⟨i, by omega, hd⟩
    · exact ⟨k, Nat.le_refl _, p, fun j hj q => h ⟨j, hj, q⟩⟩
/-- one step back -/
theorem dist_succ {f : Rows} {a k x : Nat} (hk : 1 ≤ k) : Dist f a (k + 1) x ↔ (∃ y, bit f x y = true ∧ Dist f a k y) ∧ ∀ j, j ≤ k → ¬ Walk f j x a := by
  constructor
  · rintro ⟨p, h⟩
    refine ⟨?_, fun j hj => h j (by omega)⟩
    rcases p.inv with ⟨h1, _⟩ | ⟨j, c, h1, h2, q⟩
    · omega
    · obtain rfl : j = k := by omega
      obtain ⟨i, hi, hd⟩ := walk_dist j q
      by_cases e : i = j
      · subst e; exact ⟨c, h2, hd⟩
      · exact absurd (.step h2 hd.1) (h (i + 1) (by omega))
  · rintro ⟨⟨y, h1, h2⟩, h3⟩
    exact ⟨.step h1 h2.1, fun j hj => h3 j (by omega)⟩
/-- if some item has distance k + 1, some item has distance k -/
theorem dist_none {f : Rows} {a k : Nat} (hk : 1 ≤ k) (h : ∀ x, ¬ Dist f a k x) : ∀ j, k ≤ j → ∀ x, ¬ Dist f a j x := by
  intro j hj
  induction j with
  | zero => omega
  | succ j ih =>
    intro x hd
    by_cases e : j + 1 = k
    · rw [e] at hd; exact h x hd
    · obtain ⟨⟨y, _, h2⟩, _⟩ := (dist_succ (by omega)).1 hd
      exact ih (by omega) y h2

/-- what stands at the head of round k: the layer of distance k + 1, what lies nearer -/
structure LayInv (f : Rows) (n a k : Nat) (layer seen : BitVec 64) : Prop where
  lay : ∀ x, x < n → (layer.getLsbD x = true ↔ Dist f a (k + 1) x)
  seen_ : ∀ x, x < n → (seen.getLsbD x = true ↔ ∃ j, j ≤ k ∧ Dist f a j x)
  layn : ∀ x, layer.getLsbD x = true → x < n
theorem lay_start {n : Nat} {f : Rows} (hf : Ok n f) {a : Nat} (_ha : a < n) : LayInv f n a 0 (backF n f a) 0#64 := by
  have hn := hf.le
  refine ⟨fun x hx => ?_, fun x hx => ?_, fun x h => ?_⟩
  · have h1 := back_ok hf a x
    unfold bit at h1
    rw [h1]
    constructor
    · intro h
      exact ⟨.one h, fun j hj p => by have := p.pos; omega⟩
    · rintro ⟨p, _⟩
      rcases p.inv with ⟨_, h⟩ | ⟨j, c, h1, h2, q⟩
      · exact h
      · have := q.pos; omega
  · rw [Bv.zero_get]
    constructor
    · intro h; cases h
    · rintro ⟨j, hj, hd⟩; have := hd.1.pos; omega
  · exact ((ok_back hf).in_ a x h).2
theorem or_get (s t : BitVec 64) (i : Nat) : (s ||| t).getLsbD i = true ↔ s.getLsbD i = true ∨ t.getLsbD i = true := by rw [BitVec.getLsbD_or, Bool.or_eq_true]
theorem andNot_get (s t : BitVec 64) (i : Nat) : (s &&& ~~~ t).getLsbD i = true ↔ s.getLsbD i = true ∧ t.getLsbD i ≠ true := by
  by_cases hi : i < 64
  · rw [BitVec.getLsbD_and, Bv.not_get t i hi, Bool.and_eq_true]; simp
  · constructor
    · intro h; exact absurd (Bx.lt64 h) hi
    · intro h; exact absurd (Bx.lt64 h.1) hi
theorem lay_step {n : Nat} {f : Rows} (hf : Ok n f) {a k : Nat} {layer seen : BitVec 64} (h : LayInv f n a k layer seen) :
    LayInv f n a (k + 1) (image (backF n f) layer &&& ~~~ (seen ||| layer)) (seen ||| layer) := by
  have hn := hf.le
  have hseen : ∀ x, x < n → ((seen ||| layer).getLsbD x = true ↔ ∃ j, j ≤ k + 1 ∧ Dist f a j x) := by
    intro x hx
    rw [or_get, h.seen_ x hx, h.lay x hx]
    constructor
    · rintro (⟨j, hj, hd⟩ | hd)
      · exact ⟨j, by omega, hd⟩
      · exact ⟨k + 1, Nat.le_refl _, hd⟩
    · rintro ⟨j, hj, hd⟩
      by_cases e : j = k + 1
      · subst e; exact .inr hd
      · exact .inl ⟨j, by omega, hd⟩
  have himg : ∀ x, x < n → ((image (backF n f) layer).getLsbD x = true ↔ ∃ y, bit f x y = true ∧ Dist f a (k + 1) y) := by
    intro x hx
    rw [image_iff]
    constructor
    · rintro ⟨y, h1, h2⟩
      have hy := h.layn y h1
      rw [back_ok hf] at h2
      exact ⟨y, h2, (h.lay y hy).1 h1⟩
    · rintro ⟨y, h1, h2⟩
      have hy := (hf.in_ x y h1).2
      exact ⟨y, (h.lay y hy).2 h2, (back_ok hf y x).trans h1⟩
  refine ⟨fun x hx => ?_, hseen, fun x hb => ?_⟩
  · rw [andNot_get, himg x hx, dist_succ (by omega), Ne, hseen x hx]
    constructor
    · rintro ⟨h1, h2⟩
      refine ⟨h1, fun j hj p => h2 ?_⟩
      obtain ⟨i, hi, hd⟩ := walk_dist j p
      exact ⟨i, by omega, hd⟩
    · rintro ⟨h1, h2⟩
      refine ⟨h1, ?_⟩
      rintro ⟨j, hj, hd⟩
      exact h2 j hj hd.1
  · rw [andNot_get, image_iff] at hb
    obtain ⟨⟨y, h1, h2⟩, _⟩ := hb
    exact ((ok_back hf).in_ y x h2).2
/-- a run of layGo from round k on -/
theorem layGo_spec {n : Nat} {f : Rows} (hf : Ok n f) {a : Nat} (ha : a < n) : ∀ (m k : Nat) (layer seen : BitVec 64), LayInv f n a k layer seen → 65 ≤ m + Bx.card seen →
    (∀ j, j ≤ k → ¬ Dist f a j a) →
    (∀ l, layGo (backF n f) a m layer seen = some l → Dist f a (k + l.length) a ∧ ∀ i s, l[i]? = some s → ∀ x, x < n → (s.getLsbD x = true ↔ Dist f a (k + i + 1) x)) ∧
    (layGo (backF n f) a m layer seen = none → ¬ ∃ j, Walk f j a a)
  | 0, k, layer, seen, h, hm, _ => by have := Bx.card_le seen; omega
  | m + 1, k, layer, seen, h, hm, hno => by
    have hn := hf.le
    unfold layGo
    by_cases h0 : layer = 0#64
    · rw [if_pos h0]
      refine ⟨fun l hl => (by cases hl), fun _ => ?_⟩
      rintro ⟨j, p⟩
      have hnone : ∀ x, ¬ Dist f a (k + 1) x := by
        intro x hd
        have hx : x < n := (hd.1.path.lt hf).1
        have := (h.lay x hx).2 hd
        rw [h0, Bv.zero_get] at this; cases this
      obtain ⟨i, hi, hd⟩ := walk_dist j p
      by_cases hik : i ≤ k
      · exact hno i hik hd
      · exact dist_none (by omega) hnone i (by omega) a hd
    · rw [if_neg h0]
      by_cases hb : layer.getLsbD a = true
      · rw [if_pos hb]
        refine ⟨fun l hl => ?_, fun hl => by cases hl⟩
        simp only [Option.some.injEq] at hl
        subst hl
        refine ⟨(h.lay a ha).1 hb, fun i s hs x hx => ?_⟩
        cases i with
        | zero => simp at hs; subst hs; exact h.lay x hx
        | succ i => simp at hs
      · rw [if_neg hb]
        have hstep := lay_step hf h
        obtain ⟨x, hx⟩ : ∃ x, layer.getLsbD x = true := ⟨_, Bs.low_bit h0⟩
        have hcard : Bx.card seen < Bx.card (seen ||| layer) := by
          apply card_ssub (fun i hi => (or_get _ _ _).2 (.inl hi))
          intro e
          have hxs : seen.getLsbD x = true := by rw [e]; exact (or_get _ _ _).2 (.inr hx)
          have hxn := h.layn x hx
          obtain ⟨j, hj, hd⟩ := (h.seen_ x hxn).1 hxs
          have := hd.unique ((h.lay x hxn).1 hx)
          omega
        have hno' : ∀ j, j ≤ k + 1 → ¬ Dist f a j a := by
          intro j hj hd
          by_cases e : j = k + 1
          · subst e; exact hb ((h.lay a ha).2 hd)
          · exact hno j (by omega) hd
        obtain ⟨r1, r2⟩ := layGo_spec hf ha m (k + 1) _ _ hstep (by omega) hno'
        constructor
        · intro l hl
          rw [Option.map_eq_some_iff] at hl
          obtain ⟨l2, hl2, rfl⟩ := hl
          obtain ⟨q1, q2⟩ := r1 l2 hl2
          refine ⟨by rw [List.length_cons]; rw [show k + (l2.length + 1) = k + 1 + l2.length by omega]; exact q1, fun i s hs y hy => ?_⟩
          cases i with
          | zero => simp at hs; subst hs; exact h.lay y hy
          | succ i =>
            simp at hs
            rw [show k + (i + 1) + 1 = k + 1 + i + 1 by omega]
            exact q2 i s hs y hy
        · intro hl
          rw [Option.map_eq_none_iff] at hl
          exact r2 hl
theorem lay_some {n : Nat} {f : Rows} (hf : Ok n f) {a : Nat} (ha : a < n) {l : List (BitVec 64)} (h : layL (backF n f) a = some l) :
    Dist f a l.length a ∧ ∀ i s, l[i]? = some s → ∀ x, x < n → (s.getLsbD x = true ↔ Dist f a (i + 1) x) := by
  obtain ⟨h1, h2⟩ := (layGo_spec hf ha 65 0 _ _ (lay_start hf ha) (by omega) (fun j hj hd => by have := hd.1.pos; omega)).1 l h
  refine ⟨by rw [Nat.zero_add] at h1; exact h1, fun i s hs x hx => ?_⟩
  have := h2 i s hs x hx
  rwa [Nat.zero_add] at this
theorem lay_none {n : Nat} {f : Rows} (hf : Ok n f) {a : Nat} (ha : a < n) (h : layL (backF n f) a = none) : ¬ Path f a a := by
  have h1 := (layGo_spec hf ha 65 0 _ _ (lay_start hf ha) (by omega) (fun j hj hd => by have := hd.1.pos; omega)).2 h
  intro p
  exact h1 p.walk

/-! ### the ring -/
/-- start and layers of a shortest cycle among the first k items -/
def bestGo (before : Rows) : Nat → Option (Nat × List (BitVec 64))
  | 0 => none
  | k + 1 => match layL before k, bestGo before k with
    | none, b => b
    | some l, none => some (k, l)
    | some l, some (s, m) => if l.length < m.length then some (k, l) else some (s, m)
/-- the way through the layers, from the last on -/
def wayGo (f : Rows) (best : List (BitVec 64)) : Nat → Nat → List Nat
  | 0, _ => []
  | k + 1, x => let y := Bs.low (f x &&& (best[k]?.getD 0#64)); y :: wayGo f best k y
def ringL (n : Nat) (f : Rows) : List Nat := match bestGo (backF n f) n with
  | none => []
  | some (s, best) => s :: wayGo f best (best.length - 1) s

theorem best_spec {n : Nat} {f : Rows} (hf : Ok n f) : ∀ k, k ≤ n →
    (bestGo (backF n f) k = none → ∀ a, a < k → ¬ Path f a a) ∧
    (∀ s l, bestGo (backF n f) k = some (s, l) → s < k ∧ layL (backF n f) s = some l ∧ (∀ a, a < k → ∀ j, Walk f j a a → l.length ≤ j) ∧ (∀ a, a < s → ∀ j, Walk f j a a → l.length < j))
  | 0, _ => ⟨fun _ a ha => by omega, fun s l h => by simp [bestGo] at h⟩
  | k + 1, hk => by
    obtain ⟨r1, r2⟩ := best_spec hf k (by omega)
    have hlen : ∀ l, layL (backF n f) k = some l → ∀ j, Walk f j k k → l.length ≤ j := by
      intro l hl j p
      have h1 := (lay_some hf (by omega) hl).1
      apply Nat.le_of_not_lt
      intro hlt
      exact h1.2 j hlt p
    unfold bestGo
    cases hl : layL (backF n f) k with
    | none =>
      have hno := lay_none hf (by omega) hl
      constructor
      · intro h a ha p
        by_cases e : a = k
        · subst e; exact hno p
        · exact r1 h a (by omega) p
      · intro s l h
        obtain ⟨q1, q2, q3, q4⟩ := r2 s l h
        refine ⟨by omega, q2, fun a ha j p => ?_, q4⟩
        by_cases e : a = k
        · subst e; exact absurd p.path hno
        · exact q3 a (by omega) j p
    | some l0 =>
      cases hb : bestGo (backF n f) k with
      | none =>
        refine ⟨fun h => (by cases h), fun s l h => ?_⟩
        simp only [Option.some.injEq, Prod.mk.injEq] at h
        obtain ⟨rfl, rfl⟩ := h
        refine ⟨by omega, hl, fun a ha j p => ?_, fun a ha j p => absurd p.path (r1 hb a ha)⟩
        by_cases e : a = k
        · subst e; exact hlen l0 hl j p
        · exact absurd p.path (r1 hb a (by omega))
      | some sm =>
        obtain ⟨s0, m⟩ := sm
        obtain ⟨q1, q2, q3, q4⟩ := r2 s0 m hb
        refine ⟨fun h => (by dsimp only at h; split at h <;> cases h), fun s l h => ?_⟩
        dsimp only at h
        split at h
        · rename_i hlt
          simp only [Option.some.injEq, Prod.mk.injEq] at h
          obtain ⟨rfl, rfl⟩ := h
          refine ⟨by omega, hl, fun a ha j p => ?_, fun a ha j p => ?_⟩
          · by_cases e : a = k
            · subst e; exact hlen l0 hl j p
            · have := q3 a (by omega) j p; omega
          · have := q3 a ha j p; omega
        · rename_i hlt
          simp only [Option.some.injEq, Prod.mk.injEq] at h
          obtain ⟨rfl, rfl⟩ := h
          refine ⟨by omega, q2, fun a ha j p => ?_, q4⟩
          by_cases e : a = k
          · subst e; have := hlen l0 hl j p; omega
          · exact q3 a (by omega) j p
/-- each step of the way is the least item of the next layer -/
theorem way_step {n : Nat} {f : Rows} (hf : Ok n f) {a : Nat} {best : List (BitVec 64)} (hb : ∀ i s, best[i]? = some s → ∀ x, x < n → (s.getLsbD x = true ↔ Dist f a (i + 1) x)) {k x : Nat} (hk : k < best.length) (hx : Dist f a (k + 2) x) :
    bit f x (Bs.low (f x &&& (best[k]?.getD 0#64))) = true ∧ Dist f a (k + 1) (Bs.low (f x &&& (best[k]?.getD 0#64))) := by
  obtain ⟨⟨y, h1, h2⟩, _⟩ := (dist_succ (by omega)).1 hx
  have hy := (hf.in_ x y h1).2
  obtain ⟨s, hs⟩ : ∃ s, best[k]? = some s := ⟨_, List.getElem?_eq_getElem hk⟩
  rw [hs]
  show bit f x (Bs.low (f x &&& s)) = true ∧ Dist f a (k + 1) (Bs.low (f x &&& s))
  have hne : f x &&& s ≠ 0#64 := Bx.ne_of_bit (i := y) (by
    rw [BitVec.getLsbD_and, Bool.and_eq_true]
    exact ⟨h1, (hb k s hs y hy).2 h2⟩)
  have hlow := Bs.low_bit hne
  rw [BitVec.getLsbD_and, Bool.and_eq_true] at hlow
  have hl := (hf.in_ x _ hlow.1).2
  exact ⟨hlow.1, (hb k s hs _ hl).1 hlow.2⟩
/-- the way from x: its items' distances go down by one, each is a successor of the one before, the last leads to a -/
theorem way_spec {n : Nat} {f : Rows} (hf : Ok n f) {a : Nat} {best : List (BitVec 64)} (hb : ∀ i s, best[i]? = some s → ∀ x, x < n → (s.getLsbD x = true ↔ Dist f a (i + 1) x)) :
    ∀ (k x : Nat), k < best.length → Dist f a (k + 1) x →
      (wayGo f best k x).length = k ∧ (∀ i y, (wayGo f best k x)[i]? = some y → Dist f a (k - i) y) ∧ (∀ i y z, (x :: wayGo f best k x)[i]? = some y → (x :: wayGo f best k x)[i + 1]? = some z → bit f y z = true) ∧
      (∀ y, (x :: wayGo f best k x)[k]? = some y → bit f y a = true)
  | 0, x, _, hx => by
    refine ⟨rfl, fun i y h => by simp [wayGo] at h, fun i y z _ h => by simp [wayGo] at h, fun y h => ?_⟩
    simp [wayGo] at h
    subst h
    rcases hx.1.inv with ⟨_, h⟩ | ⟨j, c, h1, _, q⟩
    · exact h
    · have := q.pos; omega
  | k + 1, x, hk, hx => by
    obtain ⟨h1, h2⟩ := way_step hf hb (k := k) (by omega) hx
    obtain ⟨r1, r2, r3, r4⟩ := way_spec hf hb k _ (by omega) h2
    have e : wayGo f best (k + 1) x = Bs.low (f x &&& (best[k]?.getD 0#64)) :: wayGo f best k (Bs.low (f x &&& (best[k]?.getD 0#64))) := rfl
    rw [e]
    generalize Bs.low (f x &&& (best[k]?.getD 0#64)) = y at *
    refine ⟨by simp [r1], fun i z h => ?_, fun i z u hz hu => ?_, fun z h => ?_⟩
    · cases i with
      | zero => simp at h; subst h; exact h2
      | succ i =>
        simp at h
        have := r2 i z h
        rwa [show k + 1 - (i + 1) = k - i by omega]
    · cases i with
      | zero => simp at hz hu; subst hz hu; exact h1
      | succ i => exact r3 i z u (by simpa using hz) (by simpa using hu)
    · exact r4 z (by simpa using h)
end Go.Rl
