/- reference of layer 3: the orders that go on from some items; rows of lists that an append makes longer. -/
import Derived.Test.YtknjdfgmejobfaaDoorWf
import Derived.Test.YtknjdfgmejobfaaDoorSl
import Derived.Test.YtknjdfgmejobfaaDoorTd
namespace Go.Proofs.YtknjdfgmejobfaaDoor
open Go.RowKit Go.Shelf

/-- may a come next, as far as the items below j go? -/
def mayJ (f : Rl.Rows) (B : List Nat) (a j : Nat) : Bool := decide (a ∉ B) && (List.range j).all fun b => !(Rl.bit f b a && decide (b ∉ B))
theorem mayJ_zero (f : Rl.Rows) (B : List Nat) (a : Nat) : mayJ f B a 0 = decide (a ∉ B) := by unfold mayJ; simp
theorem mayJ_succ (f : Rl.Rows) (B : List Nat) (a j : Nat) : mayJ f B a (j + 1) = (mayJ f B a j && !(Rl.bit f j a && decide (j ∉ B))) := by
  unfold mayJ; rw [List.range_succ, List.all_append, Bool.and_assoc]; simp
/-- all orders that go on from B -/
def allE (n : Nat) (f : Rl.Rows) : Nat → List Nat → List (List Nat)
  | 0, B => [B]
  | m + 1, B => (List.range n).flatMap fun a => if mayJ f B a n then allE n f m (B ++ [a]) else []
def allR (n : Nat) (f : Rl.Rows) (m : Nat) (B : List Nat) (k : Nat) : List (List Nat) := (List.range k).flatMap fun a => if mayJ f B a n then allE n f m (B ++ [a]) else []
theorem allR_succ (n : Nat) (f : Rl.Rows) (m : Nat) (B : List Nat) (k : Nat) : allR n f m B (k + 1) = allR n f m B k ++ (if mayJ f B k n then allE n f m (B ++ [k]) else []) := by
  unfold allR; rw [List.range_succ, List.flatMap_append]; simp
/-- what more answers -/
def moreF (most : Nat) (O E : List (List Nat)) : List (List Nat) := O ++ E.take (most + 1 - O.length)
theorem more_nil (most : Nat) (O : List (List Nat)) : moreF most O [] = O := by unfold moreF; simp
theorem more_one (most : Nat) (O : List (List Nat)) (x : List Nat) (h : O.length ≤ most) : moreF most O [x] = O ++ [x] := by
  unfold moreF
  rw [show most + 1 - O.length = (most - O.length) + 1 by omega, List.take_succ_cons, List.take_nil]
theorem more_le (most : Nat) (O E : List (List Nat)) (h : O.length ≤ most + 1) : (moreF most O E).length ≤ most + 1 := by unfold moreF; rw [List.length_append, List.length_take]; omega
theorem more_more (most : Nat) (O E F : List (List Nat)) (h : (moreF most O E).length ≤ most) (hO : O.length ≤ most) : moreF most (moreF most O E) F = moreF most O (E ++ F) := by
  have h2 := h
  unfold moreF at h2
  rw [List.length_append, List.length_take] at h2
  have hE : E.length ≤ most - O.length := by omega
  have e : E.take (most + 1 - O.length) = E := List.take_of_length_le (by omega)
  unfold moreF
  rw [e, List.length_append, List.take_append, e, List.append_assoc, show most + 1 - O.length - E.length = most + 1 - (O.length + E.length) by omega]
theorem more_full (most : Nat) (O E F : List (List Nat)) (h : ¬ (moreF most O E).length ≤ most) (hO : O.length ≤ most) : moreF most O (E ++ F) = moreF most O E := by
  unfold moreF at h ⊢
  rw [List.length_append, List.length_take] at h
  rw [List.take_append_of_le_length (by omega)]
theorem allR_split (n : Nat) (f : Rl.Rows) (m : Nat) (B : List Nat) (k : Nat) (hk : k ≤ n) : ∃ F, allE n f (m + 1) B = allR n f m B k ++ F := by
  refine ⟨(List.range' k (n - k)).flatMap fun a => if mayJ f B a n then allE n f m (B ++ [a]) else [], ?_⟩
  show (List.range n).flatMap _ = _
  have e : List.range n = List.range k ++ List.range' k (n - k) := by
    have h1 := List.range'_append_1 (s := 0) (m := k) (n := n - k)
    rw [Nat.zero_add, show k + (n - k) = n by omega] at h1
    rw [List.range_eq_range', List.range_eq_range', h1]
  rw [e, List.flatMap_append]; rfl

theorem place_neg (B : List Nat) (a : Nat) : decide (placeI (ints B) (a : Int) < 0) = decide (a ∉ B) := by
  have hm : (a : Int) ∈ ints B ↔ a ∈ B := by
    unfold ints
    rw [List.mem_map]
    constructor
    · rintro ⟨b, hb, e⟩; rw [show a = b by omega]; exact hb
    · intro h; exact ⟨a, h, rfl⟩
  apply decide_eq_decide.2
  unfold placeI
  by_cases h : a ∈ B
  · rw [if_pos (List.idxOf_lt_length_of_mem (hm.2 h))]
    constructor
    · intro h2; omega
    · intro h2; exact absurd h h2
  · rw [if_neg (fun h2 => h (hm.1 (List.idxOf_lt_length_iff.1 h2)))]
    constructor
    · intro _; exact h
    · intro _; omega

/-! ### rows of lists -/
theorem ListsV.below {base : Nat} {l : List (List Nat)} {v : Value} {W W' : World} (h : ListsV base l v W) (hb : Below W.heap.size W W') : ListsV base l v W' := by
  obtain ⟨vs, hr, hel⟩ := h
  exact ⟨vs, ownsRow_below hr hb, fun i x hx => by
    obtain ⟨u, hu, g, c, e, hg, hi⟩ := hel i x hx
    exact ⟨u, hu, g, c, e, hg, ownsRow_below hi hb⟩⟩
theorem ListsV.snoc {base : Nat} {l : List (List Nat)} {v v' u : Value} {vs : List Value} {x : List Nat} {g c : Nat} {V W : World}
    (hr : V.ownsRow base 35 1 v l.length vs) (hel : ∀ (i : Nat) (x : List Nat), l[i]? = some x → ∃ u, vs[i]? = some u ∧ ∃ g c, u = .slice (some ⟨g, 0, none⟩) x.length c ∧ base ≤ g ∧ V.ownsRow 0 3 1 u x.length (nums x))
    (hu : u = .slice (some ⟨g, 0, none⟩) x.length c) (hg : base ≤ g) (hx : V.ownsRow 0 3 1 u x.length (nums x))
    (hr2 : W.ownsRow base 35 1 v' (l.length + 1) (vs ++ [u])) (hgr : V.grownBy W v.ownBlock) : ListsV base (l ++ [x]) v' W := by
  have hvs : vs.length = l.length := by have := hr.1; omega
  have keep : ∀ {u : Value} {x : List Nat}, V.ownsRow 0 3 1 u x.length (nums x) → W.ownsRow 0 3 1 u x.length (nums x) := fun h =>
    ownsRow_same h fun b hb hlt => hgr.block b hlt (fun e => rows_types h hr (by decide) b hb e.symm)
  refine ⟨vs ++ [u], by rw [List.length_append]; exact hr2, fun i y hy => ?_⟩
  by_cases hi : i < l.length
  · rw [List.getElem?_append_left hi] at hy
    obtain ⟨u2, h1, g2, c2, e, h2, h3⟩ := hel i y hy
    exact ⟨u2, by rw [List.getElem?_append_left (by omega)]; exact h1, g2, c2, e, h2, keep h3⟩
  · rw [List.getElem?_append_right (by omega)] at hy
    have h0 : i - l.length = 0 := by
      have := (List.getElem?_eq_some_iff.1 hy).1; simp at this; omega
    rw [h0] at hy
    simp at hy
    subst hy
    exact ⟨u, by rw [List.getElem?_append_right (by omega), hvs, h0]; rfl, g, c, hu, hg, keep hx⟩
theorem wpList_append_blk {P : Program} (w : World) {ops : Array Oper} {rest : List Oper} {o : Oper} {a : Act} {Q : Exit → Act → World → Prop} (hgd : o.guard = none) (s x : Operand) (t : TypeId)
    (hop : o.op = Op.call { callee := Callee.builtin Builtin.append, args := #[s, x], argTypes := #[t, t] })
    (base : Nat) (e : TypeId) (i : TypeInfo) (z : Value) (size bytes : Nat) (h1 : P.underlying t = some (.slice e)) (h2 : P.info? e = some i) (h3 : i.zero = some z) (h4 : i.size = size) (h5 : i.bytes = bytes) (h6 : z.cells.size = size) (h7 : 0 < size)
    (v : Value) (k : Nat) (xs : List Value) (hs : a.eval s = v) (hown : w.ownsRow base e size v k xs) (ad : Addr) (m c : Nat) (news : List Value) (hx : a.eval x = .slice (some ad) m c) (hn : news.length = m * size)
    (hc : ∀ j u, news[j]? = some u → w.cell? (ad.add j) = some u) (h1c : ∀ u ∈ news, u.oneCell' = true) (b0 : 0 < k + m) (b1 : k + m ≤ maxLen) (b2 : (k + m) * bytes ≤ 140737488355328) (b3 : base ≤ w.heap.size)
    (hK : ∀ v' w', w'.ownsRow base e size v' (k + m) (xs ++ news) → w.grownBy w' v.ownBlock → (∀ b, v'.ownBlock = some b → v.ownBlock = some b ∨ w.heap.size ≤ b) → wpList P ops Q rest (a.put o.dst v') w') :
    wpList P ops Q (o :: rest) a w := by
  refine wpList_plain hgd fun K hK' => ?_
  obtain ⟨v', w', hrun, r1, r2, r3⟩ := run_append_blk (P := P) w t o.type base e i z size bytes h1 h2 h3 h4 h5 h6 h7 v k xs hown ad m c news hn hc h1c b0 b1 b2 b3
  unfold Oper.wp
  simp [execOp, hop, resolve, invoke, builtin, hs, hx, hrun, Result.andThen]
  exact hK' _ _ (hK v' w' r1 r2 r3)
end Go.Proofs.YtknjdfgmejobfaaDoor
