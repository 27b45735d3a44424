/- package order: Orders. -/
import Derived.Test.YtknjdfgmejobfaaDoorSd
import Derived.Test.YtknjdfgmejobfaaDoorLg
namespace Go.Proofs.YtknjdfgmejobfaaDoor
open Go.RowKit Go.Shelf

attribute [local go_sem] Oper.semAt_some
attribute [local go_sem] Bv.and_u Bv.or_u Bv.andNot_u Bv.wrap_sub1 Bv.eq0 Bv.ne0 Bv.wrap_pow Bv.wrap_powmin Bv.wrap_neg Bv.eq_u Bv.ne_u

/-- an append, and where the new row lies -/
theorem run_append_blk {P : Program} (w : World) (t ty : TypeId) (base : Nat) (e : TypeId) (i : TypeInfo) (z : Value) (size bytes : Nat) (ht : P.underlying t = some (.slice e)) (hi : P.info? e = some i) (hz : i.zero = some z)
    (hsize : i.size = size) (hby : i.bytes = bytes) (hzs : z.cells.size = size) (hsz : 0 < size)
    (v : Value) (n : Nat) (xs : List Value) (hown : w.ownsRow base e size v n xs) (ad : Addr) (m c : Nat) (news : List Value) (hl : news.length = m * size) (hnews : ∀ j u, news[j]? = some u → w.cell? (ad.add j) = some u) (h1 : ∀ u ∈ news, u.oneCell' = true)
    (hn0 : 0 < n + m) (h63 : n + m ≤ maxLen) (hbytes : (n + m) * bytes ≤ 140737488355328) (hbase : base ≤ w.heap.size) :
    ∃ v' w', (Builtin.append_ #[t, t] ty #[v, .slice (some ad) m c]).run P w = .ok v' w' ∧ w'.ownsRow base e size v' (n + m) (xs ++ news) ∧ w.grownBy w' v.ownBlock ∧ (∀ b, v'.ownBlock = some b → v.ownBlock = some b ∨ w.heap.size ≤ b) := by
  rcases hown.2 with ⟨rfl, rfl⟩ | ⟨g, cap, cur, rfl, hb, hg, hnc, _⟩
  · have hxs : xs = [] := List.eq_nil_of_length_eq_zero (by have := hown.1; simpa using this)
    subst hxs
    obtain ⟨v', w', h2, h3, h4, _⟩ := run_append_own (P := P) w w.heap.size t ty e i z size bytes ht hi hz hsize hby hzs hsz (.slice none 0 0) 0 [] (World.ownsRow_nil _ _ _ _) ad m c news hl hnews h1 h63 hbytes (Nat.le_refl _)
    exact ⟨v', w', h2, Bo.ownsRow_mono h3 hbase, h4, fun b hb => .inr (h3.lt b hb).1⟩
  · have hc := hown.cells (g := g) rfl
    by_cases hroom : n + m ≤ cap
    · obtain ⟨w', h2, h3, h4⟩ := run_append_own_spare (P := P) w base t ty e i size ht hi hsize g n cap xs hown ad m c news hl hnews h1 hroom
      exact ⟨_, w', h2, h3, h4, fun b hb => .inl hb⟩
    · obtain ⟨v', w', h2, h3, h4⟩ := run_append_arg_grows (P := P) w t ty e i z size bytes ht hi hz hsize hby hzs hsz ⟨g, 0, none⟩ n cap xs hown.1 hc ad m c news hl hnews (by omega) h63 hbytes
      exact ⟨v', w', h2, Bo.ownsRow_mono h3 hbase, Bo.grownBy_wide h4, fun b hb => .inr (h3.lt b hb).1⟩
theorem opIn_append_blk {F : Fence} (hF : ∀ f, F.fn f) {n : Nat} {P : Program} (w : World) {o : Oper} {a : Act} {K : Act → World → Prop} {Q : Exit → Act → World → Prop}
    (s x : Operand) (t : TypeId) (hop : o.op = Op.call { callee := Callee.builtin Builtin.append, args := #[s, x], argTypes := #[t, t] })
    (base : Nat) (e : TypeId) (i : TypeInfo) (z : Value) (size bytes : Nat) (h1 : P.underlying t = some (.slice e)) (h2 : P.info? e = some i) (h3 : i.zero = some z) (h4 : i.size = size) (h5 : i.bytes = bytes) (h6 : z.cells.size = size) (h7 : 0 < size)
    (v : Value) (k : Nat) (xs : List Value) (hs : a.eval s = v) (hown : w.ownsRow base e size v k xs) (ad : Addr) (m c : Nat) (news : List Value) (hx : a.eval x = .slice (some ad) m c) (hn : news.length = m * size)
    (hc : ∀ j u, news[j]? = some u → w.cell? (ad.add j) = some u) (h1c : ∀ u ∈ news, u.oneCell' = true) (b0 : 0 < k + m) (b1 : k + m ≤ maxLen) (b2 : (k + m) * bytes ≤ 140737488355328) (b3 : base ≤ w.heap.size)
    (hK : ∀ v' w', w'.ownsRow base e size v' (k + m) (xs ++ news) → w.grownBy w' v.ownBlock → (∀ b, v'.ownBlock = some b → v.ownBlock = some b ∨ w.heap.size ≤ b) → K (a.put o.dst v') w') :
    Oper.wpIn F n P o a w K Q := by
  obtain ⟨v', w', hrun, r1, r2, r3⟩ := run_append_blk (P := P) w t o.type base e i z size bytes h1 h2 h3 h4 h5 h6 h7 v k xs hown ad m c news hn hc h1c b0 b1 b2 b3
  unfold Oper.wpIn
  refine ⟨fun _ _ => hF _, ?_⟩
  rw [Oper.semAt_plain F _ _ (by rw [hop]; intro c hc'; cases hc')]
  simp [execOp, hop, resolve, invoke, builtin, hs, hx, hrun, Result.andThen]
  exact hK v' w' r1 r2 r3
theorem infoInts : (Tryd.prog.info? 35).map (fun i => (i.zero, i.size, i.bytes)) = some (some (.slice none 0 0), 1, 24) := by kernel_rfl

theorem ownsRow_same {w w' : World} {base n : Nat} {e : TypeId} {size : Nat} {v : Value} {xs : List Value} (h : w.ownsRow base e size v n xs) (hk : ∀ b, v.ownBlock = some b → b < w.heap.size → w'.heap[b]? = w.heap[b]?) : w'.ownsRow base e size v n xs := by
  refine ⟨h.1, ?_⟩
  rcases h.2 with hn | ⟨g, cap, cur, rfl, hbg, hg, rest⟩
  · exact .inl hn
  · exact .inr ⟨g, cap, cur, rfl, hbg, (hk g rfl (Array.getElem?_eq_some_iff.1 hg).1).trans hg, rest⟩
/-- rows of cells of two types lie apart -/
theorem rows_types {w : World} {b1 b2 n1 n2 s1 s2 : Nat} {e1 e2 : TypeId} {v1 v2 : Value} {x1 x2 : List Value} (h1 : w.ownsRow b1 e1 s1 v1 n1 x1) (h2 : w.ownsRow b2 e2 s2 v2 n2 x2) (hne : e1 ≠ e2) (b : Nat) (k1 : v1.ownBlock = some b) : v2.ownBlock ≠ some b := by
  intro k2
  rcases rows_apart h1 h2 hne with h | h
  · rw [h] at k1; cases k1
  · exact h (k1.trans k2.symm)
/-- a list that lies in a caller's own memory -/
def ElemV (fp : List Nat) (W : World) (x : List Nat) (u : Value) : Prop := ∃ g c, u = .slice (some ⟨g, 0, none⟩) x.length c ∧ g ∈ fp ∧ W.ownsRow 0 3 1 u x.length (nums x)
theorem ElemV.same {fp fp' : List Nat} {W W' : World} {x : List Nat} {u : Value} (h : ElemV fp W x u) (hf : ∀ b ∈ fp, b ∈ fp') (hk : ∀ b ∈ fp, u.ownBlock = some b → b < W.heap.size → W'.heap[b]? = W.heap[b]?) : ElemV fp' W' x u := by
  obtain ⟨g, c, rfl, hg, hr⟩ := h
  exact ⟨g, c, rfl, hf g hg, ownsRow_same hr fun b e hb => hk b (by injection e with e; rw [← e]; exact hg) e hb⟩
/-- what the loop has gathered: in variable b4, in memory that is the caller's -/
structure Gath (base b4 : Nat) (pre : List (List Nat)) (fp : List Nat) (v : Value) (vs : List Value) (W : World) : Prop where
  box : Boxed W b4 52 v
  row : W.ownsRow base 35 1 v pre.length vs
  blk : ∀ b, v.ownBlock = some b → b ∈ fp
  els : ∀ (i : Nat) (x : List Nat), pre[i]? = some x → ∃ u, vs[i]? = some u ∧ ElemV fp W x u
theorem Gath.steps {base b4 B : Nat} {pre : List (List Nat)} {fp : List Nat} {v : Value} {vs : List Value} {W W' : World} (h : Gath base b4 pre fp v vs W) (hb : b4 < B) (hst : Rg.Steps B fp W W') : Gath base b4 pre fp v vs W' :=
  ⟨(hst.block b4 h.box.lt (.inl hb)).trans h.box, ownsRow_same h.row fun b e hl => hst.block b hl (.inr (h.blk b e)), h.blk, fun i x hi => by
    obtain ⟨u, hu, he⟩ := h.els i x hi
    exact ⟨u, hu, he.same (fun _ h => h) (fun b hb _ hl => hst.block b hl (.inr hb))⟩⟩
/-- one more list is gathered -/
theorem Gath.next {base b4 B : Nat} {pre : List (List Nat)} {fp : List Nat} {v v' : Value} {vs : List Value} {W W2 W3 : World} {x : List Nat} {g c : Nat} (h : Gath base b4 pre fp v vs W) (hb4 : b4 < B) (hcl : Below W.heap.size W W2)
    (hu : W2.ownsRow W.heap.size 3 1 (.slice (some ⟨g, 0, none⟩) x.length c) x.length (nums x))
    (hown : W3.ownsRow base 35 1 v' (pre.length + 1) (vs ++ [.slice (some ⟨g, 0, none⟩) x.length c])) (hgr : (W2.alloc (.cells #[.slice (some ⟨g, 0, none⟩) x.length c] 35)).grownBy W3 v.ownBlock)
    (hblk : ∀ b, v'.ownBlock = some b → v.ownBlock = some b ∨ (W2.alloc (.cells #[.slice (some ⟨g, 0, none⟩) x.length c] 35)).heap.size ≤ b) :
    ∃ fp', Gath base b4 (pre ++ [x]) fp' v' (vs ++ [.slice (some ⟨g, 0, none⟩) x.length c]) (W3.setCell ⟨b4, 0, none⟩ v') ∧ Rg.Grew B fp fp' W (W3.setCell ⟨b4, 0, none⟩ v') := by
  have hgl := hu.lt g rfl
  have hba : Below W.heap.size W (W2.alloc (.cells #[.slice (some ⟨g, 0, none⟩) x.length c] 35)) := hcl.alloc hcl.size _
  have hbx : ∀ b, v.ownBlock = some b → b ≠ b4 := fun b e e2 => (h.box.not_row (by decide) h.row) (by rw [e, e2])
  have hnb4 : v.ownBlock ≠ some b4 := fun e => hbx b4 e rfl
  have hw3 : ∀ b, b < W.heap.size → v.ownBlock ≠ some b → W3.heap[b]? = W.heap[b]? := fun b hb hne => (hgr.block b (Nat.lt_of_lt_of_le hb hba.size) (fun e => hne e.symm)).trans (hba.block b hb)
  have hw4 : ∀ b, b ≠ b4 → (W3.setCell ⟨b4, 0, none⟩ v').heap[b]? = W3.heap[b]? := fun b hne => Below.heap_setCell _ _ _ _ hne
  have hbox3 : Boxed W3 b4 52 v := (hw3 b4 h.box.lt hnb4).trans h.box
  obtain ⟨fv, hfv⟩ : ∃ fv : List Nat, ∀ b, b ∈ fv ↔ v'.ownBlock = some b := by
    cases v'.ownBlock with
    | none => exact ⟨[], fun b => by simp⟩
    | some k => exact ⟨[k], fun b => by simp [eq_comm]⟩
  have hv4 : ∀ b, v'.ownBlock = some b → b ≠ b4 := fun b e e2 => (hbox3.not_row (by decide) hown) (by rw [e, e2])
  refine ⟨g :: (fv ++ fp), ⟨hbox3.set v', ownsRow_same (by rw [List.length_append]; exact hown) (fun b e hb => hw4 b (hv4 b e)), fun b e => by simp [(hfv b).2 e], fun i y hi => ?_⟩, ⟨?_, fun b hb => ?_, fun b h1 h2 h3 => ?_⟩⟩
  · have hlen : vs.length = pre.length := by have := h.row.1; simpa using this
    by_cases hlt : i < pre.length
    · rw [List.getElem?_append_left hlt] at hi
      obtain ⟨u, hu', he⟩ := h.els i y hi
      refine ⟨u, by rw [List.getElem?_append_left (by omega)]; exact hu', he.same (fun b hb => by simp [hb]) (fun b hb e hl => ?_)⟩
      obtain ⟨g', c', _, _, hr'⟩ := he
      have hne1 : v.ownBlock ≠ some b := rows_types hr' h.row (by decide) b e
      have hne2 : b ≠ b4 := fun e2 => (h.box.not_row (by decide) hr') (by rw [e, e2])
      exact (hw4 b hne2).trans (hw3 b hl hne1)
    · have hi' : i = pre.length := by
        have := (List.getElem?_eq_some_iff.1 hi).1
        simp at this; omega
      subst hi'
      simp at hi
      subst hi
      refine ⟨.slice (some ⟨g, 0, none⟩) x.length c, by rw [← hlen]; simp, g, c, rfl, by simp, ?_⟩
      have hr2 := (hu.alloc (.cells #[.slice (some ⟨g, 0, none⟩) x.length c] 35))
      have hne1 : v.ownBlock ≠ some g := fun e => by have := (h.row.lt g e).2; omega
      have hne2 : g ≠ b4 := by have := h.box.lt; omega
      refine Bo.ownsRow_mono (ownsRow_same hr2 fun b e hb => ?_) (Nat.zero_le _)
      injection e with e
      subst e
      exact (hw4 g hne2).trans (hgr.block g hb (fun e => hne1 e.symm))
  · have := hgr.size
    have := hba.size
    simp [World.setCell] at *; omega
  · simp only [List.mem_cons, List.mem_append] at hb
    rcases hb with rfl | hb | hb
    · exact .inr hgl.1
    · rcases hblk b ((hfv b).1 hb) with e | e
      · exact .inl (h.blk b e)
      · exact .inr (Nat.le_trans hba.size e)
    · exact .inl hb
  · have hne1 : v.ownBlock ≠ some b := fun e => h3 (h.blk b e)
    exact (hw4 b (by omega)).trans (hw3 b h2 hne1)
end Go.Proofs.YtknjdfgmejobfaaDoor
