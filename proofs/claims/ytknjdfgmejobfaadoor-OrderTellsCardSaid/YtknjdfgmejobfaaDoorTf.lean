/- Orders of a relation, plain: the relation of an order; orders by numbers. -/
import Derived.Test.YtknjdfgmejobfaaDoorTe
namespace Go.Proofs.YtknjdfgmejobfaaDoor

theorem nodup_rev {L : List Nat} (h : L.Nodup) : L.reverse.Nodup := List.pairwise_reverse.2 (h.imp fun h e => h e.symm)
/-- an order of n items -/
structure Full (n : Nat) (L : List Nat) : Prop where
  nodup : L.Nodup
  mem : ∀ a, a ∈ L ↔ a < n
theorem Full.lt {n : Nat} {L : List Nat} (h : Full n L) : ∀ a ∈ L, a < n := fun a ha => (h.mem a).1 ha
theorem Full.len {n : Nat} {L : List Nat} (h : Full n L) : L.length = n := by
  have h1 : L.length ≤ (List.range n).length := List.Nodup.length_le_of_subset h.nodup fun x hx => List.mem_range.2 (h.lt x hx)
  have h2 : (List.range n).length ≤ L.length := List.Nodup.length_le_of_subset List.nodup_range fun x hx => (h.mem x).2 (List.mem_range.1 hx)
  rw [List.length_range] at h1 h2
  omega
theorem full_of {n : Nat} {L : List Nat} (hl : L.length = n) (hr : ∀ a ∈ L, a < n) (hd : L.Nodup) : Full n L := ⟨hd, fun a => ⟨hr a, full_list hd hr hl a⟩⟩
theorem Full.rev {n : Nat} {L : List Nat} (h : Full n L) : Full n L.reverse := ⟨nodup_rev h.nodup, fun a => by rw [List.mem_reverse]; exact h.mem a⟩
theorem Full.okL {n : Nat} {L : List Nat} (h : Full n L) (hn : n ≤ 48) : okL n (ints L) = true := (okL_nat n L).2 ⟨n, rfl, hn, h.len, h.lt, h.nodup⟩
theorem full_ordL {n : Nat} {f : Rl.Rows} (hf : Rl.Ok n f) {x : List Nat} (h : x ∈ Rl.ordL n f) : Full n x := by
  have := (Rl.mem_ordL hf x).1 h
  exact ⟨this.1, this.2.1⟩

theorem mem_drop_iff {L : List Nat} (hd : L.Nodup) {k b : Nat} : b ∈ L.drop k ↔ b ∈ L ∧ k ≤ L.idxOf b := by
  rw [List.mem_iff_getElem?]
  constructor
  · rintro ⟨i, hi⟩
    rw [List.getElem?_drop] at hi
    have := idxOf_at hd hi
    exact ⟨List.mem_of_getElem? hi, by omega⟩
  · rintro ⟨hb, hk⟩
    have hlt := List.idxOf_lt_length_of_mem hb
    refine ⟨L.idxOf b - k, ?_⟩
    rw [List.getElem?_drop, show k + (L.idxOf b - k) = L.idxOf b by omega, List.getElem?_eq_getElem hlt, List.getElem_idxOf hlt]
theorem tot_bit {n : Nat} {L : List Nat} (hn : n ≤ 48) (h : Full n L) (a b : Nat) : Rl.bit (totL L) a b = true ↔ b < n ∧ L.idxOf a < L.idxOf b := by
  unfold Rl.bit totL
  rw [setOf_bit (fun x hx => by have := h.lt x (List.mem_of_mem_drop hx); omega), mem_drop_iff h.nodup, h.mem]
  exact Iff.rfl
theorem tot_ok {n : Nat} {L : List Nat} (hn : n ≤ 48) (h : Full n L) : Rl.Ok n (totL L) := ⟨hn, fun a b hb => by
  have := (tot_bit hn h a b).1 hb
  refine ⟨?_, this.1⟩
  have h2 := List.idxOf_lt_length_of_mem ((h.mem b).2 this.1)
  exact (h.mem a).1 (List.idxOf_lt_length_iff.1 (by omega))⟩
theorem pair_idx {L : List Nat} (hd : L.Nodup) : L.Pairwise (fun a b => L.idxOf a < L.idxOf b) := by
  rw [List.pairwise_iff_getElem]
  intro i j hi hj hij
  rw [hd.idxOf_getElem i hi, hd.idxOf_getElem j hj]
  exact hij
theorem map_inj_on {g : Nat → Nat} : ∀ {x y : List Nat}, (∀ a ∈ x, ∀ b ∈ y, g a = g b → a = b) → x.map g = y.map g → x = y
  | [], [], _, _ => rfl
  | [], _ :: _, _, h => by simp at h
  | _ :: _, [], _, h => by simp at h
  | a :: x, b :: y, h, e => by
    simp only [List.map_cons, List.cons.injEq] at e
    rw [h a (by simp) b (by simp) e.1, map_inj_on (fun c hc d hd => h c (by simp [hc]) d (by simp [hd])) e.2]
/-- an order that keeps all pairs of another one is that one -/
theorem sole {n : Nat} {L x : List Nat} (hL : Full n L) (hx : Full n x) (h : ∀ a b, a < n → b < n → L.idxOf a < L.idxOf b → x.idxOf a < x.idxOf b) : x = L := by
  have h1 : (L.map x.idxOf).Pairwise (· < ·) := List.pairwise_map.2 ((List.pairwise_iff_forall_sublist.2 fun {a b} hs => by
    have ha : a ∈ L := hs.subset (by simp)
    have hb : b ∈ L := hs.subset (by simp)
    exact h a b (hL.lt a ha) (hL.lt b hb) (List.pairwise_iff_forall_sublist.1 (pair_idx hL.nodup) hs)))
  have h2 : (x.map x.idxOf).Pairwise (· < ·) := List.pairwise_map.2 (pair_idx hx.nodup)
  have e : x.map x.idxOf = L.map x.idxOf := by
    apply Bs.sorted_ext h2 h1
    intro i
    rw [List.mem_map, List.mem_map]
    constructor
    · rintro ⟨a, ha, e⟩; exact ⟨a, (hL.mem a).2 (hx.lt a ha), e⟩
    · rintro ⟨a, ha, e⟩; exact ⟨a, (hx.mem a).2 (hL.lt a ha), e⟩
  exact map_inj_on (fun a ha b hb e2 => Rl.idx_inj ha ((hx.mem b).2 (hL.lt b hb)) e2) e
theorem tot_sole {n : Nat} {L : List Nat} (hn : n ≤ 48) (h : Full n L) (x : List Nat) : x ∈ Rl.ordL n (totL L) ↔ x = L := by
  rw [Rl.mem_ordL (tot_ok hn h)]
  constructor
  · rintro ⟨h1, h2, h3⟩
    exact sole h ⟨h1, h2⟩ fun a b _ hb hi => h3 a b ((tot_bit hn h a b).2 ⟨hb, hi⟩)
  · rintro rfl
    exact ⟨h.nodup, h.mem, fun a b hb => ((tot_bit hn h a b).1 hb).2⟩
theorem tot_top {n : Nat} {L : List Nat} (hn : n ≤ 48) (h : Full n L) : Rl.topL n (totL L) = some L := by
  have hm := (tot_sole hn h L).2 rfl
  cases ht : Rl.topL n (totL L) with
  | none => rw [(Rl.ordL_nil (tot_ok hn h)).2 ht] at hm; cases hm
  | some M => rw [(tot_sole hn h M).1 (Rl.top_in (tot_ok hn h) ht)]
theorem tot_of {n : Nat} {L : List Nat} (hn : n ≤ 48) (h : Full n L) : ofO n (totL L) = some L := by
  unfold ofO topR
  rw [Rl.right_of (tot_ok hn h), if_pos rfl, Int.toNat_natCast, tot_top hn h]
  simp [Option.filter, relEq_self]
theorem keeps_iff {n : Nat} {f : Rl.Rows} (hf : Rl.Ok n f) (L : List Nat) : keepsN f n L = true ↔ ∀ a b, Rl.bit f a b = true → L.idxOf a < L.idxOf b := by
  unfold keepsN
  rw [List.all_eq_true]
  constructor
  · intro h a b hb
    have := h (a, b) ((Rl.mem_pairs hf (a, b)).2 hb)
    simpa using this
  · intro h p hp
    rw [decide_eq_true_eq]
    exact h _ _ ((Rl.mem_pairs hf p).1 hp)
theorem natL_ints (L : List Nat) : natL (ints L) = L := by
  unfold natL ints
  rw [List.map_map]
  exact (List.map_congr_left (fun a _ => by simp)).trans (List.map_id' L)
/-- which orders Keeps accepts -/
theorem keeps_ord {n : Nat} {f : Rl.Rows} (hf : Rl.Ok n f) (L : List Nat) : keepsB n f (ints L) = true ↔ L ∈ Rl.ordL n f := by
  unfold keepsB
  rw [Rl.right_of hf, Bool.true_and, Bool.and_eq_true, Int.toNat_natCast, natL_ints, keeps_iff hf, okL_nat, Rl.mem_ordL hf]
  constructor
  · rintro ⟨⟨m, e, h1, h2, h3, h4⟩, h5⟩
    obtain rfl : n = m := by omega
    exact ⟨h4, fun a => ⟨h3 a, full_list h4 h3 h2 a⟩, h5⟩
  · rintro ⟨h1, h2, h3⟩
    have hF : Full n L := ⟨h1, h2⟩
    exact ⟨⟨n, rfl, hf.le, hF.len, hF.lt, h1⟩, h3⟩
theorem keeps_tot {n : Nat} {L M : List Nat} (hn : n ≤ 48) (h : Full n L) : keepsB n (totL L) (ints M) = decide (L = M) := by
  rw [Bool.eq_iff_iff, keeps_ord (tot_ok hn h), tot_sole hn h, decide_eq_true_eq]
  exact eq_comm
theorem tot_plus {n : Nat} {L : List Nat} (hn : n ≤ 48) (h : Full n L) : Rl.plusF n (totL L) = totL L :=
  Rl.ok_iff_ext (Rl.ok_plus (tot_ok hn h)) (tot_ok hn h) fun a b _ hb => by
    rw [Rl.plus_bit (tot_ok hn h)]
    constructor
    · intro p
      exact (tot_bit hn h a b).2 ⟨hb, Rl.path_idx (fun a b hb => ((tot_bit hn h a b).1 hb).2) p⟩
    · exact .one
theorem idx_rev {L : List Nat} (hd : L.Nodup) {a : Nat} (ha : a ∈ L) : L.reverse.idxOf a = L.length - 1 - L.idxOf a := by
  have hlt := List.idxOf_lt_length_of_mem ha
  apply idxOf_at (nodup_rev hd)
  rw [List.getElem?_reverse (by omega), show L.length - 1 - (L.length - 1 - L.idxOf a) = L.idxOf a by omega, List.getElem?_eq_getElem hlt, List.getElem_idxOf hlt]
theorem tot_back {n : Nat} {L : List Nat} (hn : n ≤ 48) (h : Full n L) : Rl.backF n (totL L) = totL L.reverse :=
  Rl.ok_iff_ext (Rl.ok_back (tot_ok hn h)) (tot_ok hn h.rev) fun a b ha hb => by
    rw [Rl.back_ok (tot_ok hn h), tot_bit hn h, tot_bit hn h.rev, idx_rev h.nodup ((h.mem a).2 ha), idx_rev h.nodup ((h.mem b).2 hb)]
    have h1 := List.idxOf_lt_length_of_mem ((h.mem a).2 ha)
    have h2 := List.idxOf_lt_length_of_mem ((h.mem b).2 hb)
    omega

/-! ### what all orders share -/
def commonF (n : Nat) (c : Rl.Rows) (l : List (List Nat)) : Rl.Rows := l.foldl (fun c x => Rl.bothF n c (totL x)) c
theorem common_ok {n : Nat} : ∀ (l : List (List Nat)) {c : Rl.Rows}, Rl.Ok n c → Rl.Ok n (commonF n c l)
  | [], _, h => h
  | x :: l, _, h => common_ok l (Rl.ok_both (g := totL x) h)
theorem common_bit {n : Nat} : ∀ (l : List (List Nat)) (c : Rl.Rows) (a b : Nat), a < n → (Rl.bit (commonF n c l) a b = true ↔ Rl.bit c a b = true ∧ ∀ x ∈ l, Rl.bit (totL x) a b = true)
  | [], c, a, b, _ => by simp [commonF]
  | x :: l, c, a, b, ha => by
    have := common_bit l (Rl.bothF n c (totL x)) a b ha
    rw [show commonF n c (x :: l) = commonF n (Rl.bothF n c (totL x)) l from rfl, this, Rl.both_bit n c _ a b ha, Bool.and_eq_true, List.forall_mem_cons, and_assoc]
theorem common_plus {n : Nat} {f : Rl.Rows} (hf : Rl.Ok n f) (hac : ∀ a, ¬ Rl.Path f a a) (s t : BitVec 64) (hs : ∀ i, i < n → s.getLsbD i = true) (ht : ∀ i, i < n → t.getLsbD i = true) :
    commonF n (Rl.crossF n s t) (Rl.ordL n f) = Rl.plusF n f := by
  have hn := hf.le
  refine Rl.ok_iff_ext (common_ok _ (Rl.ok_cross hn s t)) (Rl.ok_plus hf) fun a b ha hb => ?_
  rw [common_bit _ _ a b ha, Rl.cross_bit n s t a b ha hn, hs a ha, ht b hb, decide_eq_true hb, Rl.plus_bit hf, ← Rl.common_iff hf hac ha hb]
  constructor
  · rintro ⟨_, h⟩ x hx
    exact ((tot_bit hn (full_ordL hf hx) a b).1 (h x hx)).2
  · intro h
    exact ⟨rfl, fun x hx => (tot_bit hn (full_ordL hf hx) a b).2 ⟨hb, h x hx⟩⟩

/-! ### orders by numbers -/
def mixL (p : Nat → Nat) : Nat → List Nat
  | 0 => []
  | n + 1 => (mixL p n).take (p n) ++ n :: (mixL p n).drop (p n)
theorem mix_len (p : Nat → Nat) (n : Nat) : (mixL p n).length = n := by
  induction n with
  | zero => rfl
  | succ n ih =>
    unfold mixL
    rw [List.length_append, List.length_cons, List.length_take, List.length_drop, ih]
    omega
theorem mix_full (p : Nat → Nat) (n : Nat) : Full n (mixL p n) := by
  induction n with
  | zero => exact ⟨List.nodup_nil, fun a => by simp [mixL]⟩
  | succ n ih =>
    have hp : (mixL p (n + 1)).Perm (n :: mixL p n) := by
      show ((mixL p n).take (p n) ++ n :: (mixL p n).drop (p n)).Perm (n :: mixL p n)
      refine List.perm_middle.trans ?_
      rw [List.take_append_drop]
    refine ⟨hp.nodup_iff.2 (List.nodup_cons.2 ⟨fun h => Nat.lt_irrefl _ (ih.lt n h), ih.nodup⟩), fun a => ?_⟩
    rw [hp.mem_iff, List.mem_cons, ih.mem]
    omega

/-! ### ahead -/
def aheadB : List Nat → List Nat → Bool
  | a :: x, b :: y => if a = b then aheadB x y else decide (a < b)
  | _, _ => false
theorem ahead_true {x y : List Nat} (h : Rl.Ahead x y) : aheadB x y = true := by
  obtain ⟨p, a, b, q, r, rfl, rfl, hab⟩ := h
  induction p with
  | nil =>
    show (if a = b then aheadB q r else decide (a < b)) = true
    rw [if_neg (by omega), decide_eq_true hab]
  | cons c p ih =>
    show (if c = c then aheadB (p ++ a :: q) (p ++ b :: r) else decide (c < c)) = true
    rw [if_pos rfl, ih]
theorem ahead_next {l : List (List Nat)} (hs : l.Pairwise Rl.Ahead) {i : Nat} {x y : List Nat} (hx : l[i]? = some x) (hy : l[i + 1]? = some y) : aheadB x y = true := by
  obtain ⟨h1, rfl⟩ := List.getElem?_eq_some_iff.1 hx
  obtain ⟨h2, rfl⟩ := List.getElem?_eq_some_iff.1 hy
  exact ahead_true (List.pairwise_iff_getElem.1 hs i (i + 1) h1 h2 (by omega))
end Go.Proofs.YtknjdfgmejobfaaDoor
