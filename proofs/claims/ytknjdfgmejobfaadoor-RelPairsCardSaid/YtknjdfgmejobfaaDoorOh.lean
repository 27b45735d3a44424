/- What RelPairs' walk asks: lists with the same pairs, sets of firsts and seconds, contracts with lengths. -/
import Derived.Test.YtknjdfgmejobfaaDoorOe
import Derived.Test.YtknjdfgmejobfaaDoorBq
namespace Go.Rl
/-- the set of the items of a list -/
def setL (l : List Nat) : BitVec 64 := l.foldl (fun s a => s ||| Bv.bit a) 0#64
theorem setL_any : ∀ (l : List Nat) (s : BitVec 64) (i : Nat), (∀ a ∈ l, a < 64) → ((l.foldl (fun s a => s ||| Bv.bit a) s).getLsbD i = true ↔ s.getLsbD i = true ∨ i ∈ l)
  | [], s, i, _ => by simp
  | a :: l, s, i, h => by
    rw [List.foldl_cons, setL_any l _ i (fun b hb => h b (by simp [hb])), BitVec.getLsbD_or, Bool.or_eq_true, Bv.bit_get a i (h a (by simp)), decide_eq_true_eq, List.mem_cons, or_assoc]
theorem setL_bit {l : List Nat} (h : ∀ a ∈ l, a < 64) (i : Nat) : (setL l).getLsbD i = true ↔ i ∈ l := by
  unfold setL; rw [setL_any l _ i h, Bv.zero_get]; simp
theorem setL_snoc (l : List Nat) (a : Nat) : setL (l ++ [a]) = setL l ||| Bv.bit a := by unfold setL; rw [List.foldl_append]; rfl
def firsts (l : List (Nat × Nat)) : BitVec 64 := setL (l.map (·.1))
def seconds (l : List (Nat × Nat)) : BitVec 64 := setL (l.map (·.2))
theorem firsts_next {l : List (Nat × Nat)} {j : Nat} {p : Nat × Nat} (h : l[j]? = some p) : firsts (l.take (j + 1)) = firsts (l.take j) ||| Bv.bit p.1 := by
  unfold firsts; rw [List.take_add_one, h]; simp only [Option.toList_some, List.map_append, List.map_cons, List.map_nil]; exact setL_snoc _ _
theorem seconds_next {l : List (Nat × Nat)} {j : Nat} {p : Nat × Nat} (h : l[j]? = some p) : seconds (l.take (j + 1)) = seconds (l.take j) ||| Bv.bit p.2 := by
  unfold seconds; rw [List.take_add_one, h]; simp only [Option.toList_some, List.map_append, List.map_cons, List.map_nil]; exact setL_snoc _ _
theorem firsts_from {n : Nat} {f : Rows} (hf : Ok n f) {l : List (Nat × Nat)} (h : ∀ p, p ∈ l ↔ bit f p.1 p.2 = true) : firsts l = fromF n f := by
  have hn := hf.le
  apply Bv.ext_get; intro i hi
  rw [Bool.eq_iff_iff, from_bit hf]
  unfold firsts
  rw [setL_bit (fun a ha => by obtain ⟨p, hp, rfl⟩ := List.mem_map.1 ha; have := hf.in_ _ _ ((h p).1 hp); omega)]
  constructor
  · intro hm; obtain ⟨p, hp, rfl⟩ := List.mem_map.1 hm; exact ⟨p.2, (h p).1 hp⟩
  · rintro ⟨b, hb⟩; exact List.mem_map.2 ⟨(i, b), (h (i, b)).2 hb, rfl⟩
theorem seconds_into {n : Nat} {f : Rows} (hf : Ok n f) {l : List (Nat × Nat)} (h : ∀ p, p ∈ l ↔ bit f p.1 p.2 = true) : seconds l = intoF n f := by
  have hn := hf.le
  apply Bv.ext_get; intro i hi
  rw [Bool.eq_iff_iff, into_bit hf]
  unfold seconds
  rw [setL_bit (fun a ha => by obtain ⟨p, hp, rfl⟩ := List.mem_map.1 ha; have := hf.in_ _ _ ((h p).1 hp); omega)]
  constructor
  · intro hm; obtain ⟨p, hp, rfl⟩ := List.mem_map.1 hm; exact ⟨p.1, (h p).1 hp⟩
  · rintro ⟨b, hb⟩; exact List.mem_map.2 ⟨(b, i), (h (b, i)).2 hb, rfl⟩
end Go.Rl
namespace Go.Proofs.YtknjdfgmejobfaaDoor
open Go.RowKit Go.Shelf
theorem of_same {n : Nat} {f : Rl.Rows} (hf : Rl.Ok n f) {l : List (Nat × Nat)} (h : ∀ p, p ∈ l ↔ Rl.bit f p.1 p.2 = true) : ofB n (pI l) = true ∧ ofR (pI l) = f := by
  have hn := hf.le
  have hb : ofB n (pI l) = true := by
    unfold ofB
    rw [Bool.and_eq_true, decide_eq_true_eq, List.all_eq_true]
    refine ⟨by omega, fun p hp => ?_⟩
    obtain ⟨q, hq, rfl⟩ := List.mem_map.1 hp
    have := hf.in_ _ _ ((h q).1 hq)
    unfold inB; simp; omega
  refine ⟨hb, Rl.rows_ext fun a b _ => ?_⟩
  rw [Bool.eq_iff_iff, ofR_bit hb]
  constructor
  · intro hm
    obtain ⟨q, hq, e⟩ := List.mem_map.1 hm
    injection e with e1 e2
    have := (h q).1 hq
    rwa [show q.1 = a by omega, show q.2 = b by omega] at this
  · intro hb2; exact List.mem_map.2 ⟨(a, b), (h (a, b)).2 hb2, rfl⟩
/-- Of, of a slice that lies in the world -/
theorem of_row {n : Nat} {f : Rl.Rows} (hf : Rl.Ok n f) {l : List (Nat × Nat)} (h : ∀ p, p ∈ l ↔ Rl.bit f p.1 p.2 = true) (N : Nat) (hN : N ≤ 100000) {base : Nat} {v : Value} {W : World} (hrow : W.ownsRow base 42 2 v N (pairV l)) :
    Calls Tryd.prog 41 #[.int .i64 n, v] W fun e w' => e = .returned (.tuple #[.agg (relC n f), .int .i64 0]) ∧ Below W.heap.size W w' := by
  obtain ⟨A, cap, rfl, hl, _, hA⟩ := row_pairs hrow
  obtain ⟨h1, h2⟩ := of_same hf h
  have hc := of_any n A (pI l) cap W (by unfold maxLen; omega) hA
  obtain ⟨e1, e2, e3⟩ := of_true h1
  rw [e1, e2, e3, h2] at hc
  exact hc
/-- Pairs, its length -/
def IsPairs (N : Nat) (v : Value) : Prop := ∃ (A : Option Addr) (c : Nat), v = .slice A N c
theorem pairs_len (n : Nat) (f : Rl.Rows) (N : Nat) (hN : (Rl.pairsF f n).length = N) (w : World) (hf : Rl.Ok n f) (hT : Tab w ∧ 0 < w.heap.size) :
    Calls Tryd.prog 28 #[.agg (relC n f)] w fun e w' => ∃ v, e = .returned v ∧ IsPairs N v ∧ Below w.heap.size w w' :=
  (pairs_yes n f w hf hT.1 hT.2).mono fun e w' ⟨v, he, hrow, hb⟩ => by
    obtain ⟨A, c, e1, e2, _⟩ := row_pairs hrow
    exact ⟨v, he, ⟨A, c, by rw [e1, e2, hN]⟩, hb⟩
theorem Held.grown {w W W' : World} {L : List (Nat × Int × Rl.Rows)} (h : Held w L W) {b : Nat} (hg : W.grownBy W' (some b)) (hw : w.heap.size ≤ b) (hne : ∀ x ∈ L, x.1 ≠ b) : Held w L W' :=
  ⟨fun i x hi => (h.rel i x hi).kept hg (fun e => by injection e with e; exact hne x (List.mem_of_getElem? hi) e), h.apart, h.new, h.bel.grown hg h.bel.size (fun k e => by injection e with e; omega)⟩
theorem ownsRow_below {w W : World} {base n : Nat} {e : TypeId} {size : Nat} {v : Value} {xs : List Value} (h : w.ownsRow base e size v n xs) (hb : Below w.heap.size w W) : W.ownsRow base e size v n xs := by
  refine ⟨h.1, ?_⟩
  rcases h.2 with hn | ⟨g, cap, cur, rfl, hb', hg, rest⟩
  · exact .inl hn
  · exact .inr ⟨g, cap, cur, rfl, hb', (hb.block g (Array.getElem?_eq_some_iff.1 hg).1).trans hg, rest⟩
theorem Held.grownRow {w W W' : World} {L : List (Nat × Int × Rl.Rows)} (h : Held w L W) {v : Value} {n : Nat} {xs : List Value} (hr : W.ownsRow w.heap.size 42 2 v n xs) (hg : W.grownBy W' v.ownBlock) : Held w L W' :=
  ⟨fun i x hi => (h.rel i x hi).kept hg (fun e => by
    obtain ⟨c, fz, hc⟩ := Go.Lib.ownsRow_kind hr x.1 e.symm
    have h2 : W.heap[x.1]? = some (.cells (relC x.2.1 x.2.2) 26) := h.rel i x hi
    rw [hc] at h2
    injection h2 with h2
    injection h2 with h3 h4
    exact absurd h4 (by decide)), h.apart, h.new, h.bel.grown hg h.bel.size (fun k e => (hr.lt k e).1)⟩
theorem pairV_one (l : List (Nat × Nat)) : ∀ u ∈ pairV l, u.oneCell' = true := by
  intro u hu
  obtain ⟨p, _, hp⟩ := List.mem_flatMap.1 hu
  simp [pairC] at hp
  rcases hp with rfl | rfl <;> rfl
theorem pairV_app (l m : List (Nat × Nat)) : pairV (l ++ m) = pairV l ++ pairV m := by simp [pairV]
theorem pairV_drop : ∀ (l : List (Nat × Nat)) (k : Nat), pairV (l.drop k) = (pairV l).drop (k * 2)
  | l, 0 => by simp
  | [], k + 1 => by simp [pairV]
  | p :: l, k + 1 => by
    rw [List.drop_succ_cons, pairV_drop l k, show pairV (p :: l) = pairC p ++ pairV l by simp [pairV], show (k + 1) * 2 = (pairC p).length + k * 2 by simp [pairC]; omega, List.drop_append]
    simp
theorem pairV_take (l : List (Nat × Nat)) (k : Nat) (hk : k ≤ l.length) : pairV (l.take k) = (pairV l).take (k * 2) := by
  have h1 : pairV l = pairV (l.take k) ++ pairV (l.drop k) := by rw [← pairV_app, List.take_append_drop]
  have h2 : (pairV (l.take k)).length = k * 2 := by rw [pairV_len, List.length_take, Nat.min_eq_left hk]
  rw [h1, ← h2, List.take_left]
theorem tail_pairs {W : World} {base : Nat} {e : TypeId} {g cap N k : Nat} {l : List (Nat × Nat)} (h : W.ownsRow base e 2 (.slice (some ⟨g, 0, none⟩) N cap) N (pairV l)) :
    ∀ j u, (pairV (l.drop k))[j]? = some u → W.cell? ((⟨g, k * 2, none⟩ : Addr).add j) = some u := by
  intro j u hu
  have hadd : (⟨g, k * 2, none⟩ : Addr).add j = ⟨g, k * 2 + j, none⟩ := by unfold Addr.add; split <;> simp_all
  rw [pairV_drop, List.getElem?_drop] at hu
  have hlt := (List.getElem?_eq_some_iff.1 hu).1
  rw [h.1] at hlt
  rw [hadd, h.cellAt _ (by omega)]; exact hu
theorem head_pairs {W : World} {base : Nat} {e : TypeId} {g cap N k : Nat} {l : List (Nat × Nat)} (hk : k ≤ l.length) (h : W.ownsRow base e 2 (.slice (some ⟨g, 0, none⟩) N cap) N (pairV l)) :
    ∀ j u, (pairV (l.take k))[j]? = some u → W.cell? ((⟨g, 0, none⟩ : Addr).add j) = some u := by
  intro j u hu
  have hadd : (⟨g, 0, none⟩ : Addr).add j = ⟨g, 0 + j, none⟩ := by unfold Addr.add; split <;> simp_all
  rw [pairV_take l k hk, List.getElem?_take] at hu
  split at hu
  · have hlt := (List.getElem?_eq_some_iff.1 hu).1
    rw [h.1] at hlt
    rw [hadd, Nat.zero_add, h.cellAt _ hlt]; exact hu
  · cases hu
theorem turned_mem {l : List (Nat × Nat)} {k : Nat} (p : Nat × Nat) : p ∈ l.drop k ++ l.take k ↔ p ∈ l := by
  rw [List.mem_append, Or.comm, ← List.mem_append, List.take_append_drop]
/-- a region's load of a relation -/
theorem bo_load_rel {ops : Array Oper} {I : World → Prop} {n0 : Option Nat} {Q : Act → (World → Prop) → Prop} {R : World → Prop} {a : Act} {rest : List Oper} {o : Oper} (hc : Bo.isOpen o = false) (hw : Region.wanted o (yielded ops a.tmps) = true) (x : Operand) (hop : o.op = .load 26 x)
    (b : Nat) (n : Int) (f : Rl.Rows) (hx : a.eval x = .pointer (some ⟨b, 0, none⟩)) (hR : ∀ W, I W → RelAt W b n f) (h : Bo.walk Tryd.prog ops I n0 Q rest R (a.put o.dst (.agg (relC n f)))) : Bo.walk Tryd.prog ops I n0 Q (o :: rest) R a :=
  Bo.walk_step hc hw (fun W hW => by
    unfold execOp
    simp only [hop, hx, Instr.loadAt, Instr.sureAddr, Sem.run_bind, Sem.run_pure, Result.andThen_ok, run_loadVar_row (P := Tryd.prog) _ b 26 26 (relC n f) (0, 0) _ (hR W hW) uRel rfl (sRelC n f)]) h
end Go.Proofs.YtknjdfgmejobfaaDoor
