/- Orders of a relation, plain: the first is the topological order; their number; the classes that a pair makes. -/
import Derived.Test.YtknjdfgmejobfaaDoorTd
namespace Go.Rl

theorem flatMap_nil {α β : Type} {l : List α} {g : α → List β} (h : ∀ a ∈ l, g a = []) : l.flatMap g = [] := by
  induction l with
  | nil => rfl
  | cons a l ih => rw [List.flatMap_cons, h a (by simp), ih (fun b hb => h b (by simp [hb]))]; rfl
/-- the run that takes the least free item each time gives the first order -/
theorem topGo_first {before : Rows} : ∀ (k : Nat) (left : BitVec 64) (l t : List Nat), topGo before k left = some t → ∃ r, ext before k left l = (l ++ t) :: r
  | 0, left, l, t, h => by
    simp only [topGo, Option.some.injEq] at h
    subst h
    exact ⟨[], by simp [ext]⟩
  | k + 1, left, l, t, h => by
    unfold topGo at h
    split at h
    · rename_i h0
      simp only [Option.some.injEq] at h
      subst h h0
      exact ⟨[], by rw [ext_nil]; simp⟩
    · rename_i h0
      split at h
      · cases h
      · rename_i a ha
        rw [Option.map_eq_some_iff] at h
        obtain ⟨m, hm, rfl⟩ := h
        obtain ⟨r, hr⟩ := topGo_first k _ (l ++ [a]) m hm
        have ha2 := ha
        unfold freeN at ha2
        obtain ⟨h1, xs, bs, h2, h3⟩ := List.find?_eq_some_iff_append.1 ha2
        rw [ext_step h0]
        unfold extR
        rw [h2, List.flatMap_append, flatMap_nil (fun x hx => by
          rw [if_neg]
          have := h3 x hx
          unfold mayB
          simpa using this), List.nil_append, List.flatMap_cons, if_pos (by unfold mayB; exact h1), hr]
        generalize List.flatMap _ bs = tl
        exact ⟨r ++ tl, by simp⟩
theorem ordL_first {n : Nat} {f : Rows} {L : List Nat} (h : topL n f = some L) : ∃ r, ordL n f = L :: r := by
  unfold ordL
  rw [h]
  simp only [Option.isSome_some, if_true]
  obtain ⟨r, hr⟩ := topGo_first 64 _ [] L h
  exact ⟨r, by rw [hr]; rfl⟩

/-! ### how many -/
def fac : Nat → Nat
  | 0 => 1
  | n + 1 => (n + 1) * fac n
theorem fac_pos (n : Nat) : 0 < fac n := by
  induction n with
  | zero => exact Nat.one_pos
  | succ n ih => unfold fac; exact Nat.mul_pos (by omega) ih
theorem flatMap_le {α β : Type} {l : List α} {g : α → List β} {m : Nat} (h : ∀ a ∈ l, (g a).length ≤ m) : (l.flatMap g).length ≤ l.length * m := by
  induction l with
  | nil => simp
  | cons a l ih =>
    rw [List.flatMap_cons, List.length_append, List.length_cons, Nat.succ_mul]
    have h1 := h a (by simp)
    have h2 := ih (fun b hb => h b (by simp [hb]))
    omega
theorem ext_fac (before : Rows) : ∀ (k : Nat) (left : BitVec 64) (l : List Nat), (ext before k left l).length ≤ fac (Bx.card left)
  | 0, left, l => by simp only [ext, List.length_singleton]; exact fac_pos _
  | k + 1, left, l => by
    unfold ext
    split
    · exact fac_pos _
    · rename_i h0
      have hne : Bx.card left ≠ 0 := fun h => h0 (card_zero h)
      obtain ⟨c, hc⟩ : ∃ c, Bx.card left = c + 1 := ⟨Bx.card left - 1, by omega⟩
      rw [hc]
      have hl : (Bs.elems left).length = c + 1 := hc
      have := flatMap_le (l := Bs.elems left) (g := fun a => if mayB before left a = true then ext before k (left &&& ~~~ Bv.bit a) (l ++ [a]) else []) (m := fac c) (fun a ha => by
        split
        · have h1 := ext_fac before k (left &&& ~~~ Bv.bit a) (l ++ [a])
          have h2 := card_minus left a (Bs.mem_elems.1 ha)
          rw [hc] at h2
          rw [show Bx.card (left &&& ~~~ Bv.bit a) = c by omega] at h1
          exact h1
        · simp)
      rw [hl] at this
      exact this
theorem elems_below (n : Nat) (hn : n ≤ 48) : Bs.elems (below (n : Int)) = List.range n := by
  apply Bs.sorted_ext (Bs.elems_sorted _) List.pairwise_lt_range
  intro i
  rw [Bs.mem_elems, List.mem_range]
  by_cases hi : i < 64
  · rw [below_getN n i hi, decide_eq_true_eq]
  · constructor
    · intro h; exact absurd (Bx.lt64 h) hi
    · intro h; omega
theorem ordL_fac {n : Nat} {f : Rows} (hn : n ≤ 48) : (ordL n f).length ≤ fac n := by
  unfold ordL
  split
  · have := ext_fac (backF n f) 64 (below (n : Int)) []
    unfold Bx.card at this
    rw [elems_below n hn, List.length_range] at this
    exact this
  · exact Nat.zero_le _
theorem fac_mono {a b : Nat} (h : a ≤ b) : fac a ≤ fac b := by
  induction h with
  | refl => exact Nat.le_refl _
  | @step m _ ih =>
    have h1 : fac (m + 1) = (m + 1) * fac m := rfl
    exact Nat.le_trans ih (by rw [h1]; exact Nat.le_mul_of_pos_left _ (by omega))
theorem ordL_720 {n : Nat} {f : Rows} (hn : n ≤ 6) : (ordL n f).length ≤ 720 := Nat.le_trans (ordL_fac (by omega)) (fac_mono (b := 6) hn)

/-! ### one pair more -/
def addF (f : Rows) (a b : Nat) : Rows := fun x => if x = a then f x ||| Bv.bit b else f x
theorem add_bit (f : Rows) (a b x y : Nat) (hb : b < 64) : bit (addF f a b) x y = true ↔ bit f x y = true ∨ (x = a ∧ y = b) := by
  unfold bit addF
  split
  · rename_i h
    rw [BitVec.getLsbD_or, Bool.or_eq_true]
    constructor
    · rintro (h2 | h2)
      · exact .inl h2
      · have hy := Bx.lt64 h2
        rw [Bv.bit_get b y hb, decide_eq_true_eq] at h2
        exact .inr ⟨h, h2⟩
    · rintro (h2 | ⟨_, rfl⟩)
      · exact .inl h2
      · exact .inr (by rw [Bv.bit_get y y hb]; simp)
  · rename_i h
    constructor
    · exact .inl
    · rintro (h2 | ⟨h3, _⟩)
      · exact h2
      · exact absurd h3 h
theorem ok_add {n : Nat} {f : Rows} (hf : Ok n f) {a b : Nat} (ha : a < n) (hb : b < n) : Ok n (addF f a b) := ⟨hf.le, fun x y h => by
  have hn := hf.le
  rcases (add_bit f a b x y (by omega)).1 h with h | ⟨rfl, rfl⟩
  · exact hf.in_ x y h
  · exact ⟨ha, hb⟩⟩
theorem add_path {f : Rows} {a b : Nat} (hb : b < 64) {x y : Nat} (p : Path (addF f a b) x y) : Path f x y ∨ ((x = a ∨ Path f x a) ∧ (y = b ∨ Path f b y)) := by
  induction p with
  | one h =>
    rcases (add_bit f a b _ _ hb).1 h with h | ⟨rfl, rfl⟩
    · exact .inl (.one h)
    · exact .inr ⟨.inl rfl, .inl rfl⟩
  | step h0 _ ih =>
    rcases (add_bit f a b _ _ hb).1 h0 with hs | ⟨rfl, rfl⟩
    · rcases ih with ih | ⟨h1, h2⟩
      · exact .inl (.step hs ih)
      · refine .inr ⟨.inr ?_, h2⟩
        rcases h1 with h1 | h1
        · rw [← h1]; exact .one hs
        · exact .step hs h1
    · refine .inr ⟨.inl rfl, ?_⟩
      rcases ih with ih | ⟨_, h2⟩
      · exact .inr ih
      · exact h2
/-- an order stays possible unless the pair closes a cycle -/
theorem add_acyclic {f : Rows} {a b : Nat} (hb : b < 64) (hac : ∀ x, ¬ Path f x x) (hne : a ≠ b) (hno : ¬ Path f b a) : ∀ x, ¬ Path (addF f a b) x x := by
  intro x p
  rcases add_path hb p with p | ⟨h1, h2⟩
  · exact hac x p
  · rcases h1 with rfl | h1
    · rcases h2 with h2 | h2
      · exact hne h2
      · exact hno h2
    · rcases h2 with rfl | h2
      · exact hno h1
      · exact hno (h2.trans h1)
theorem ordL_pos {n : Nat} {f : Rows} (hf : Ok n f) : 0 < (ordL n f).length ↔ ∀ a, ¬ Path f a a := by
  rw [← top_iff hf]
  cases h : topL n f with
  | none => rw [(ordL_nil hf).2 h]; simp
  | some L => obtain ⟨r, hr⟩ := ordL_first h; rw [hr]; simp
theorem mem_add {n : Nat} {f : Rows} (hf : Ok n f) {a b : Nat} (ha : a < n) (hb : b < n) (x : List Nat) : x ∈ ordL n (addF f a b) ↔ x ∈ ordL n f ∧ x.idxOf a < x.idxOf b := by
  have hn := hf.le
  rw [mem_ordL hf, mem_ordL (ok_add hf ha hb)]
  constructor
  · rintro ⟨h1, h2, h3⟩
    exact ⟨⟨h1, h2, fun c d h => h3 c d ((add_bit f a b c d (by omega)).2 (.inl h))⟩, h3 a b ((add_bit f a b a b (by omega)).2 (.inr ⟨rfl, rfl⟩))⟩
  · rintro ⟨⟨h1, h2, h3⟩, h4⟩
    refine ⟨h1, h2, fun c d h => ?_⟩
    rcases (add_bit f a b c d (by omega)).1 h with h | ⟨rfl, rfl⟩
    · exact h3 c d h
    · exact h4
/-- the relation's closure is what all its orders share -/
theorem common_iff {n : Nat} {f : Rows} (hf : Ok n f) (hac : ∀ a, ¬ Path f a a) {a b : Nat} (ha : a < n) (hb : b < n) : (∀ x ∈ ordL n f, x.idxOf a < x.idxOf b) ↔ Path f a b := by
  have hn := hf.le
  constructor
  · intro h
    apply Classical.byContradiction
    intro hno
    by_cases e : a = b
    · subst e
      have hp := (ordL_pos hf).2 hac
      obtain ⟨x, hx⟩ := List.exists_mem_of_length_pos hp
      exact Nat.lt_irrefl _ (h x hx)
    · have hp := (ordL_pos (ok_add hf hb ha)).2 (add_acyclic (by omega) hac (fun e2 => e e2.symm) hno)
      obtain ⟨x, hx⟩ := List.exists_mem_of_length_pos hp
      have h1 := (mem_add hf hb ha x).1 hx
      have := h x h1.1
      omega
  · intro p x hx
    exact path_idx ((mem_ordL hf x).1 hx).2.2 p
theorem idx_inj {x : List Nat} {a b : Nat} (ha : a ∈ x) (hb : b ∈ x) (h : x.idxOf a = x.idxOf b) : a = b := by
  have h1 := List.getElem_idxOf (List.idxOf_lt_length_of_mem ha)
  have h2 := List.getElem_idxOf (List.idxOf_lt_length_of_mem hb)
  rw [← h1, ← h2]
  congr 1
theorem filter_two {α : Type} (p : α → Bool) : ∀ l : List α, (l.filter p).length + (l.filter fun x => !p x).length = l.length
  | [] => rfl
  | a :: l => by
    have ih := filter_two p l
    cases h : p a
    · rw [List.filter_cons_of_neg (by simp [h]), List.filter_cons_of_pos (by simp [h]), List.length_cons, List.length_cons]; omega
    · rw [List.filter_cons_of_pos h, List.filter_cons_of_neg (by simp [h]), List.length_cons, List.length_cons]; omega
/-- the pair and its inverse split the orders -/
theorem ordL_split {n : Nat} {f : Rows} (hf : Ok n f) {a b : Nat} (ha : a < n) (hb : b < n) (hne : a ≠ b) : (ordL n (addF f a b)).length + (ordL n (addF f b a)).length = (ordL n f).length := by
  have key : ∀ c d, c < n → d < n → (ordL n (addF f c d)).length = ((ordL n f).filter fun x => decide (x.idxOf c < x.idxOf d)).length := fun c d hc hd =>
    List.Perm.length_eq ((List.perm_ext_iff_of_nodup (ordL_nodup n _) ((ordL_nodup n f).filter _)).2 fun x => by rw [mem_add hf hc hd, List.mem_filter, decide_eq_true_eq])
  rw [key a b ha hb, key b a hb ha]
  have h2 : ((ordL n f).filter fun x => decide (x.idxOf b < x.idxOf a)) = (ordL n f).filter fun x => !decide (x.idxOf a < x.idxOf b) := by
    apply List.filter_congr
    intro x hx
    have hm := ((mem_ordL hf x).1 hx).2.1
    have : x.idxOf a ≠ x.idxOf b := fun e => hne (idx_inj ((hm a).2 ha) ((hm b).2 hb) e)
    rw [← decide_not, decide_eq_decide]
    omega
  rw [h2]
  exact filter_two _ _
theorem free_iff {n : Nat} {f : Rows} (hf : Ok n f) {a b : Nat} (ha : a < n) (hb : b < n) (hne : a ≠ b) :
    (0 < (ordL n (addF f a b)).length ∧ 0 < (ordL n (addF f b a)).length) ↔ (¬ Path f a b ∧ ¬ Path f b a ∧ 0 < (ordL n f).length) := by
  have hn := hf.le
  have ab : Path (addF f a b) a b := .one ((add_bit f a b a b (by omega)).2 (.inr ⟨rfl, rfl⟩))
  have ba : Path (addF f b a) b a := .one ((add_bit f b a b a (by omega)).2 (.inr ⟨rfl, rfl⟩))
  have up : ∀ c d x y, d < 64 → Path f x y → Path (addF f c d) x y := fun c d x y hd p => p.mono fun u v h => .one ((add_bit f c d u v hd).2 (.inl h))
  rw [ordL_pos (ok_add hf ha hb), ordL_pos (ok_add hf hb ha), ordL_pos hf]
  constructor
  · rintro ⟨h1, h2⟩
    exact ⟨fun p => h2 a ((up b a a b (by omega) p).trans ba), fun p => h1 b ((up a b b a (by omega) p).trans ab), fun x p => h1 x (up a b x x (by omega) p)⟩
  · rintro ⟨h1, h2, h3⟩
    exact ⟨add_acyclic (by omega) h3 hne h2, add_acyclic (by omega) h3 (fun e => hne e.symm) h1⟩
end Go.Rl
