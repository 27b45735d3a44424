/- Texts that stand together: Bl, Bm, Bo. -/
import Derived.StillTail
import Derived.Deep.Quiet
import Derived.Below
import Derived.RangeFuncRecord
/- A region that draws its order: at its head loads, reckoning and calls that leave what was there alone (and one allocation that may come up at any time), at its end a forced sequence (a store and what follows): one walk of the head in the order of the text serves every order. -/
namespace Go.Bl
open Go.RowKit

section
variable {P : Program} {ops : Array Oper} {md : Region.Mode} {w0 : World}

/-- what an operation of the head does: the value v, in a world in which nothing of the old has turned -/
def belUpon (P : Program) (w : World) (v : Value) : Result Next → Prop
  | .ok (.value u) w' => w' = w ∧ u = v
  | .ok .skip w' => w' = w ∧ v = undef
  | .ok (.enter f args) w' => w' = w ∧ Calls P f args w (fun e w'' => e = .returned v ∧ Below w.heap.size w w'')
  | _ => False
/-- in frame a operation o leaves v in its slot, in every world behind w0 -/
def Bel (P : Program) (ops : Array Oper) (w0 : World) (o : Oper) (v : Value) (a : Act) : Prop :=
  (Region.wanted o (yielded ops a.tmps) = true ∧ ∀ W, Below w0.heap.size w0 W → belUpon P W v ((execOp a.eval o).run P W)) ∨ (Region.wanted o (yielded ops a.tmps) = false ∧ v = undef)
theorem Bel.of_same {o : Oper} {v : Value} {a a' : Act} (hy : Bel P ops w0 o v a) (he : execOp a'.eval o = execOp a.eval o) (hw : Region.wanted o (yielded ops a'.tmps) = Region.wanted o (yielded ops a.tmps)) : Bel P ops w0 o v a' := by
  unfold Bel at *
  rw [he, hw]
  exact hy
/-- the state: nothing made yet, a block made, the block written -/
inductive St
  | fresh
  | made (b : Nat)
  | stored (b : Nat)
/-- the worlds of a state -/
def S (w0 : World) (z z2 : Obj) : St → World → Prop
  | .fresh, W => Below w0.heap.size w0 W
  | .made b, W => Below w0.heap.size w0 W ∧ w0.heap.size ≤ b ∧ W.heap[b]? = some z
  | .stored b, W => Below w0.heap.size w0 W ∧ w0.heap.size ≤ b ∧ W.heap[b]? = some z2
theorem S.below {z z2 : Obj} {s : St} {W : World} (h : S w0 z z2 s W) : Below w0.heap.size w0 W := by
  cases s with
  | fresh => exact h
  | made b => exact h.1
  | stored b => exact h.1
theorem S.step {z z2 : Obj} {s : St} {W W' : World} (h : S w0 z z2 s W) (hb : Below W.heap.size W W') : S w0 z z2 s W' := by
  cases s with
  | fresh => exact Below.trans h (hb.mono (Below.size h))
  | made b => exact ⟨h.1.trans (hb.mono h.1.size), h.2.1, (hb.block b (Array.getElem?_eq_some_iff.1 h.2.2).1).trans h.2.2⟩
  | stored b => exact ⟨h.1.trans (hb.mono h.1.size), h.2.1, (hb.block b (Array.getElem?_eq_some_iff.1 h.2.2).1).trans h.2.2⟩
theorem wpOp_of_bel {z z2 : Obj} {i : Nat} {o : Oper} {v : Value} {a : Act} {s : St} {W : World} {K' : Act → World → Prop} {Q' : Exit → Act → World → Prop} (hi : ops[i]? = some o) (hy : Bel P ops w0 o v a) (hS : S w0 z z2 s W)
    (h : ∀ W', S w0 z z2 s W' → K' (a.put o.dst v) W') : wpOp P ops Q' i K' a W := by
  unfold wpOp
  simp only [hi]
  rcases hy with ⟨hw, hv⟩ | ⟨hw, rfl⟩
  · simp only [hw, if_true]
    have h3 := hv W hS.below
    refine .inl ?_
    unfold Oper.wp
    generalize (execOp a.eval o).run P W = r at *
    cases r with
    | ok n w' =>
      cases n <;> simp only [belUpon] at h3 <;> simp only [Oper.upon]
      case value u =>
        obtain ⟨e1, e2⟩ := h3
        rw [e1, e2]
        exact h _ hS
      case skip =>
        obtain ⟨e1, e2⟩ := h3
        rw [e1, ← e2]
        exact h _ hS
      case enter f args =>
        obtain ⟨e1, hc⟩ := h3
        rw [e1]
        exact hc.mono fun e w'' ⟨he, hw''⟩ => by subst he; exact h _ (hS.step hw'')
    | halt x w' => simp only [belUpon] at h3
  · simp only [hw]
    exact h _ hS

/-- the store writes block b: z becomes z2 -/
def Writes (P : Program) (o : Oper) (a : Act) (z z2 : Obj) (b : Nat) : Prop :=
  ∀ W : World, W.heap[b]? = some z → ∃ W', (execOp a.eval o).run P W = .ok .skip W' ∧ W.grownBy W' (some b) ∧ W'.heap[b]? = some z2
/-- the allocation's number, its slot; the store's number, the store; what the block holds before and behind -/
structure Sp where
  p : Nat
  dp : Option Tmp
  q : Nat
  oq : Oper
  z : Obj
  z2 : Obj
/-- operation i of the head comes up -/
def aOp (P : Program) (ops : Array Oper) (w0 : World) (sp : Option Sp) (i : Nat) (K : Act → St → Prop) (a : Act) (s : St) : Prop :=
  (∃ x, sp = some x ∧ x.p = i ∧ ∀ b, K (a.put x.dp (.pointer (some ⟨b, 0, none⟩))) (.made b)) ∨
  (∃ x b, sp = some x ∧ x.p ≠ i ∧ x.q = i ∧ s = .made b ∧ Writes P x.oq a x.z x.z2 b ∧ K (a.put x.oq.dst undef) (.stored b)) ∨
  ((∀ x, sp = some x → x.p ≠ i ∧ x.q ≠ i) ∧ ∃ oi v, ops[i]? = some oi ∧ Bel P ops w0 oi v a ∧ K (a.put oi.dst v) s)
variable {sp : Option Sp}
theorem aOp_mono {i : Nat} {a : Act} {s : St} {K K' : Act → St → Prop} (h : ∀ a s, K a s → K' a s) (hh : aOp P ops w0 sp i K a s) : aOp P ops w0 sp i K' a s := by
  rcases hh with ⟨x, h1, h2, h3⟩ | ⟨x, b, h1, h2, h3, h4, h5, h6⟩ | ⟨h1, oi, v, h2, h3, h4⟩
  · exact .inl ⟨x, h1, h2, fun b => h _ _ (h3 b)⟩
  · exact .inr (.inl ⟨x, b, h1, h2, h3, h4, h5, h _ _ h6⟩)
  · exact .inr (.inr ⟨h1, oi, v, h2, h3, h _ _ h4⟩)
/-- what is asked of the special operations -/
structure SpOk (P : Program) (ops : Array Oper) (x : Sp) : Prop where
  op : ∃ o, ops[x.p]? = some o ∧ o.dst = x.dp ∧ o.guard = none ∧ ∀ (a : Act) (W : World), (execOp a.eval o).run P W = .ok (.value (.pointer (some ⟨W.heap.size, 0, none⟩))) (W.alloc x.z)
  oq : ops[x.q]? = some x.oq
  gq : x.oq.guard = none
theorem aOp_put {j : Nat} {oi oj : Oper} {v : Value} (hj : ops[j]? = some oj) (hsp : ∀ x, sp = some x → SpOk P ops x) (hap : oi.apart ops oj = true)
    (hsi : ∀ cs b, oi.op ≠ .select cs b) (hsj : ∀ cs b, oj.op ≠ .select cs b) {K : Act → St → Prop} {a : Act} {s : St}
    (hy : Bel P ops w0 oi v a) (h : aOp P ops w0 sp j K (a.put oi.dst v) s) :
    aOp P ops w0 sp j (fun a' s' => Bel P ops w0 oi v a' ∧ K (a'.put oi.dst v) s') a s := by
  obtain ⟨h1, h2, h3⟩ := Oper.apart_spec hap
  have keep : ∀ (a : Act), Bel P ops w0 oi v a → ∀ u, Bel P ops w0 oi v (a.put oj.dst u) := fun a hy u =>
    hy.of_same (execOp_put oi hsi a oj.dst u h3) (wanted_put oi a oj.dst u h3)
  rcases h with ⟨x, e1, e2, e3⟩ | ⟨x, b, e1, e2, e3, e4, e5, e6⟩ | ⟨e1, ok, u, hk, hb, hn⟩
  · obtain ⟨o, ho, hd, _, _⟩ := (hsp x e1).op
    rw [e2, hj] at ho
    injection ho with ho
    subst ho
    refine .inl ⟨x, e1, e2, fun b => ?_⟩
    have h4 := e3 b
    rw [← hd] at h4 ⊢
    exact ⟨keep a hy _, by rw [← Act.put_comm a v _ h2]; exact h4⟩
  · have ho := (hsp x e1).oq
    rw [e3, hj] at ho
    injection ho with ho
    refine .inr (.inl ⟨x, b, e1, e2, e3, e4, ?_, ?_⟩)
    · unfold Writes at *
      rw [← ho] at e5 ⊢
      rwa [execOp_put oj hsj a oi.dst v h1] at e5
    · rw [← ho] at e6 ⊢
      exact ⟨keep a hy _, by rw [← Act.put_comm a v _ h2]; exact e6⟩
  · rw [hj] at hk
    injection hk with hk
    subst hk
    exact .inr (.inr ⟨e1, oj, u, hj, hb.of_same (execOp_put oj hsj a oi.dst v h1).symm (wanted_put oj a oi.dst v h1).symm, keep a hy u, by rw [← Act.put_comm a v u h2]; exact hn⟩)

/-- whatever order is picked, to the end of the head -/
def wpAnyA (P : Program) (md : Region.Mode) (ops : Array Oper) (w0 : World) (sp : Option Sp) (n : Nat) (L : Array Bool → Act → St → Prop) : Nat → Array Bool → Act → St → Prop
  | 0, listed, a, s => L listed a s
  | f + 1, listed, a, s =>
    Region.ready md ops listed ≠ [] ∧ ∀ i ∈ Region.ready md ops listed, i < n ∧ aOp P ops w0 sp i (wpAnyA P md ops w0 sp n L f (listed.setIfInBounds i true)) a s
theorem getD_set_self {listed : Array Bool} {i : Nat} (h : i < listed.size) : (listed.setIfInBounds i true).getD i true = true := by simp [h]
theorem wpAny_of_headA {z z2 : Obj} {n g : Nat} {L : Array Bool → Act → St → Prop} {Q' : Exit → Act → World → Prop} (hL : ∀ listed a s W, L listed a s → S w0 z z2 s W → wpAny P md ops Q' g listed a W)
    (hsp : ∀ x, sp = some x → SpOk P ops x ∧ x.z = z ∧ x.z2 = z2) :
    ∀ (f : Nat) (listed : Array Bool) (a : Act) (s : St) (W : World), S w0 z z2 s W → ((∀ x, sp = some x → listed.getD x.p true = false) → s = .fresh) → wpAnyA P md ops w0 sp n L f listed a s → wpAny P md ops Q' (f + g) listed a W
  | 0, listed, a, s, W, hS, _, h => by rw [Nat.zero_add]; exact hL _ _ _ _ h hS
  | f + 1, listed, a, s, W, hS, hs, h => by
    rw [show f + 1 + g = (f + g) + 1 by omega]
    refine ⟨fun h0 => absurd h0 h.1, fun i hi => ?_⟩
    have hun := (mem_ready.1 hi).1
    have hlt : i < listed.size := by
      rcases Nat.lt_or_ge i listed.size with h' | h'
      · exact h'
      · rw [Array.getD_eq_getD_getElem?, Array.getElem?_eq_none h'] at hun; cases hun
    rcases (h.2 i hi).2 with ⟨x, e1, e2, e3⟩ | ⟨x, b, e1, e2, e3, e4, e5, e6⟩ | ⟨e1, oi, v, hoi, hb, hk⟩
    · obtain ⟨hx, hz, hz2⟩ := hsp x e1
      obtain ⟨o, ho, hd, hg, hrun⟩ := hx.op
      rw [e2] at ho
      have hsn : s = .fresh := hs (fun y hy => by rw [e1] at hy; injection hy with hy; subst hy; rw [e2]; exact hun)
      subst hsn
      unfold wpOp
      simp only [ho]
      rw [if_pos (by simp [Region.wanted, hg])]
      refine .inl ?_
      unfold Oper.wp
      rw [hrun, Oper.upon_value, hd, hz]
      have hB : Below w0.heap.size w0 W := hS
      refine wpAny_of_headA hL hsp f _ _ (.made W.heap.size) _ ⟨hB.alloc hB.size z, hB.size, World.alloc_heap_new W z⟩ (fun hc => ?_) (e3 W.heap.size)
      have h2 := hc x e1
      rw [e2, getD_set_self hlt] at h2; cases h2
    · obtain ⟨hx, hz, hz2⟩ := hsp x e1
      have ho := hx.oq
      rw [e3] at ho
      subst e4
      unfold wpOp
      simp only [ho]
      rw [if_pos (by simp [Region.wanted, hx.gq])]
      refine .inl ?_
      obtain ⟨W', hr, hg, hb⟩ := e5 W (by rw [hz]; exact hS.2.2)
      unfold Oper.wp
      rw [hr, Oper.upon_skip]
      refine wpAny_of_headA hL hsp f _ _ (.stored b) _ ⟨hS.1.grown hg hS.1.size (fun k e => by injection e with e; rw [← e]; exact hS.2.1), hS.2.1, by rw [← hz2]; exact hb⟩ (fun hc => ?_) e6
      have h2 := hc x e1
      have hne : i ≠ x.p := fun e => e2 e.symm
      rw [getD_set_ne true hne] at h2
      have := hs (fun y hy => by rw [e1] at hy; injection hy with hy; subst hy; exact h2)
      cases this
    · refine wpOp_of_bel hoi hb hS fun W' hS' => wpAny_of_headA hL hsp f _ _ s _ hS' (fun hc => hs fun x hx => ?_) hk
      have h2 := hc x hx
      have hne : i ≠ x.p := fun e2 => (e1 x hx).1 e2.symm
      rwa [getD_set_ne true hne] at h2

theorem wpAnyA_first {n i : Nat} {oi : Oper} {v : Value} {L : Array Bool → Act → St → Prop} (hi : ops[i]? = some oi) (hip : ∀ x, sp = some x → x.p ≠ i ∧ x.q ≠ i) (hsp : ∀ x, sp = some x → SpOk P ops x)
    (hsel : ∀ (j : Nat) (o : Oper) cs b, ops[j]? = some o → o.op ≠ .select cs b)
    (hs : Region.sinkB md ops n = true) (hc : Region.chainB md ops n = true) (hn : n < ops.size) (hin : i < n)
    (hdone : ∀ listed a s, L listed a s → ∀ j ∈ Region.ready md ops listed, n ≤ j) :
    ∀ (f : Nat) (listed : Array Bool) (a : Act) (s : St), HeadInv md ops n listed →
      (∀ j oj, ops[j]? = some oj → j ≠ i → listed.getD j true = false → (∀ e ∈ oj.after, Region.binds md e = true → e.on ≠ i) → oi.apart ops oj = true) →
      i ∈ Region.ready md ops listed → Bel P ops w0 oi v a →
      wpAnyA P md ops w0 sp n L f (listed.setIfInBounds i true) (a.put oi.dst v) s → wpAnyA P md ops w0 sp n L (f + 1) listed a s := by
  have own : ∀ {K : Act → St → Prop} {a : Act} {s : St}, Bel P ops w0 oi v a → K (a.put oi.dst v) s → aOp P ops w0 sp i K a s := fun hy hK => .inr (.inr ⟨hip, oi, v, hi, hy, hK⟩)
  intro f
  induction f with
  | zero =>
    intro listed a s inv _ hr hy H
    have hun := (mem_ready.1 hr).1
    refine ⟨fun h => (by rw [h] at hr; cases hr), fun j hj => ?_⟩
    have hjn : j < n := by
      rcases Nat.lt_or_ge j n with h | h
      · exact h
      · exact absurd hj (tail_waits hs hc hn inv _ i rfl hin hun j h)
    refine ⟨hjn, ?_⟩
    by_cases hji : j = i
    · subst hji; exact own hy H
    · have := hdone _ _ _ H j (ready_mono hj hji)
      omega
  | succ f ih =>
    intro listed a s inv hfree hr hy H
    have hun := (mem_ready.1 hr).1
    refine ⟨fun h => (by rw [h] at hr; cases hr), fun j hj => ?_⟩
    have hjn : j < n := by
      rcases Nat.lt_or_ge j n with h | h
      · exact h
      · exact absurd hj (tail_waits hs hc hn inv _ i rfl hin hun j h)
    refine ⟨hjn, ?_⟩
    by_cases hji : j = i
    · subst hji; exact own hy H
    · have h1 := (H.2 j (ready_mono hj hji)).2
      obtain ⟨hjun, oj, hoj, hall⟩ := mem_ready.1 hj
      have hnot : ∀ e ∈ oj.after, Region.binds md e = true → e.on ≠ i := fun e he hb heq => by
        have h1 := hall e he hb
        rw [heq, getD_both hun] at h1
        cases h1
      have h2 := aOp_put hoj hsp (hfree j oj hoj hji hjun hnot) (fun cs b => hsel i oi cs b hi) (fun cs b => hsel j oj cs b hoj) hy h1
      have hfree' : ∀ k ok, ops[k]? = some ok → k ≠ i → (listed.setIfInBounds j true).getD k true = false →
          (∀ e ∈ ok.after, Region.binds md e = true → e.on ≠ i) → oi.apart ops ok = true := fun k ok hk hki hun hno => by
        refine hfree k ok hk hki ?_ hno
        by_cases hjk : j = k
        · subst hjk; exact hjun
        · rw [getD_set_ne true hjk] at hun; exact hun
      refine aOp_mono (fun a' s' h3 => ih (listed.setIfInBounds j true) a' s' (inv.set hj hjn) hfree' (ready_mono hr (Ne.symm hji)) h3.1 ?_) h2
      rw [Array.setIfInBounds_comm _ _ hji]
      exact h3.2

/-! ### the walk of the head -/
/-- the operations of the head, by their numbers, in the order of the text, allocation and store left out -/
def wpBel (P : Program) (ops : Array Oper) (w0 : World) (Q : Act → Prop) : List Nat → Act → Prop
  | [], a => Q a
  | k :: ks, a => ∃ o v, ops[k]? = some o ∧ Bel P ops w0 o v a ∧ wpBel P ops w0 Q ks (a.put o.dst v)
/-- the Bool over a region's text -/
def headB (md : Region.Mode) (ops : Array Oper) (n g : Nat) (sp : Option (Nat × Nat)) : List Nat → Array Bool → Bool
  | [], listed => match sp with
    | none => Region.seqB md ops g n listed
    | some (i, q) => decide (Region.ready md ops listed = [i]) && decide (i < n) && decide (Region.ready md ops (listed.setIfInBounds i true) = [q]) && decide (q < n) && decide (i ≠ q) && Region.seqB md ops g n ((listed.setIfInBounds i true).setIfInBounds q true)
  | k :: ks, listed => (Region.ready md ops listed).contains k && Region.free md ops listed k && decide (k < n) && decide (∀ x ∈ sp, x.1 ≠ k ∧ x.2 ≠ k) && headB md ops n g sp ks (listed.setIfInBounds k true)
def more (sp : Option (Nat × Nat)) : Nat := match sp with
  | none => 0
  | some _ => 2
def allB (md : Region.Mode) (ops : Array Oper) (n : Nat) (sp : Option (Nat × Nat)) (ks : List Nat) : Bool :=
  Region.noSelect ops && decide (n < ops.size) && Region.sinkB md ops n && Region.chainB md ops n && decide (ks.length + more sp = n) && headB md ops n (ops.size - n) sp ks (Array.replicate ops.size false)

theorem wpAnyA_lex {n g : Nat} {L : Act → St → Prop} (hsel : Region.noSelect ops = true) (hs : Region.sinkB md ops n = true) (hc : Region.chainB md ops n = true) (hn : n < ops.size) (hsp : ∀ x, sp = some x → SpOk P ops x) :
    ∀ (ks : List Nat) (listed : Array Bool) (a : Act), HeadInv md ops n listed → headB md ops n g (sp.map fun x => (x.p, x.q)) ks listed = true →
    wpBel P ops w0 (fun a' => match sp with
      | none => L a' .fresh
      | some x => ∀ b, Writes P x.oq (a'.put x.dp (.pointer (some ⟨b, 0, none⟩))) x.z x.z2 b ∧ L ((a'.put x.dp (.pointer (some ⟨b, 0, none⟩))).put x.oq.dst undef) (.stored b)) ks a →
    wpAnyA P md ops w0 sp n (fun listed' a' s' => Region.seqB md ops g n listed' = true ∧ L a' s') (ks.length + more (sp.map fun x => (x.p, x.q))) listed a .fresh
  | [], listed, a, inv, hB, h => by
    cases sp with
    | none => exact ⟨hB, h⟩
    | some x =>
      simp only [headB, Option.map_some, Bool.and_eq_true, decide_eq_true_eq] at hB
      obtain ⟨⟨⟨⟨⟨h1, h2⟩, h3⟩, h4⟩, h5⟩, h6⟩ := hB
      show wpAnyA P md ops w0 (some x) n _ 2 listed a .fresh
      refine ⟨by rw [h1]; simp, fun j hj => ?_⟩
      rw [h1] at hj
      have hji : j = x.p := by simpa using hj
      subst hji
      refine ⟨h2, .inl ⟨x, rfl, rfl, fun b => ⟨by rw [h3]; simp, fun j hj => ?_⟩⟩⟩
      rw [h3] at hj
      have hji : j = x.q := by simpa using hj
      subst hji
      exact ⟨h4, .inr (.inl ⟨x, b, rfl, h5, rfl, rfl, (h b).1, h6, (h b).2⟩)⟩
  | k :: ks, listed, a, inv, hB, h => by
    simp only [headB, Bool.and_eq_true, decide_eq_true_eq] at hB
    obtain ⟨⟨⟨⟨hr, hf⟩, hkn⟩, hkp⟩, hB'⟩ := hB
    obtain ⟨o, v, ho, hy, hK⟩ := h
    have hr' : k ∈ Region.ready md ops listed := by simpa using hr
    rw [show (k :: ks).length + more (sp.map fun x => (x.p, x.q)) = (ks.length + more (sp.map fun x => (x.p, x.q))) + 1 by simp; omega]
    refine wpAnyA_first ho (fun x hx => hkp (x.p, x.q) (by rw [hx]; rfl)) hsp (Region.noSelect_spec hsel) hs hc hn hkn (fun listed' a' s' hL => seqB_ready hL.1) _ listed a .fresh inv (Region.free_spec ho hf) hr' hy
      (wpAnyA_lex hsel hs hc hn hsp ks _ _ (inv.set hr' hkn) hB' hK)
theorem wpBel_mono {Q1 Q2 : Act → Prop} (hq : ∀ a, Q1 a → Q2 a) (ks : List Nat) : ∀ a, wpBel P ops w0 Q1 ks a → wpBel P ops w0 Q2 ks a := by
  induction ks with
  | nil => exact fun a h => hq a h
  | cons k ks ih => exact fun a ⟨o, v, h1, h2, h3⟩ => ⟨o, v, h1, h2, ih _ h3⟩

theorem wp_region_bel {id : Nat} {Q : Exit → Act → World → Prop} {a : Act} {w : World} {l : List Oper} (n : Nat) (ks : List Nat) (hm : P.follows .mixedOrders = true) (hB : allB .any l.toArray n none ks = true)
    (h : wpBel P l.toArray w (fun a' => ∀ w', Below w.heap.size w w' → wpList P l.toArray Q (l.drop n) a' w') ks a) : (Code.region id l.toArray true).wp P Q a w := by
  simp only [allB, Bool.and_eq_true, decide_eq_true_eq] at hB
  obtain ⟨⟨⟨⟨⟨hsel, hn⟩, hs⟩, hc⟩, hlen⟩, hlex⟩ := hB
  have hdl : (l.drop n).length = l.toArray.size - n := by simp
  have inv0 : HeadInv .any l.toArray n (Array.replicate l.toArray.size false) :=
    ⟨by simp, fun j oj _ hl => (by rw [getD_replicate_false] at hl; cases hl), fun t _ ht => getD_in (by simpa using ht) (getD_replicate_false _ _)⟩
  have H := wpAnyA_lex (P := P) (w0 := w) (sp := none) (md := .any) (g := l.toArray.size - n) (L := fun a' _ => ∀ w', Below w.heap.size w w' → wpList P l.toArray Q (l.drop n) a' w') hsel hs hc hn (fun x e => by cases e) ks _ a inv0 hlex h
  refine wp_region_any hm ?_
  have := wpAny_of_headA (z := .deferred none) (z2 := .deferred none) (Q' := Q) (g := l.toArray.size - n) (fun listed a' s W hL hS => by
    have := wpAny_of_seq (md := .any) (Q' := Q) (l.drop n) n listed a' W (fun j => by simp [List.getElem?_drop]) (by rw [hdl]; exact hL.1) (hL.2 W hS.below)
    rwa [hdl] at this) (fun i e => by cases e) _ _ _ .fresh { w with drawn := w.drawn + 1 } (show Below w.heap.size w { w with drawn := w.drawn + 1 } from ⟨rfl, rfl, rfl, Nat.le_refl _, fun _ _ => rfl⟩) (fun _ => rfl) H
  rw [show ks.length + more (Option.map (fun x : Sp => (x.p, x.q)) none) = n from hlen, show n + (l.toArray.size - n) = l.toArray.size by omega] at this
  exact this
theorem wp_region_bel_store {id : Nat} {Q : Exit → Act → World → Prop} {a : Act} {w : World} {l : List Oper} (n i q : Nat) (ks : List Nat) (o oq : Oper) (z z2 : Obj) (hm : P.follows .mixedOrders = true) (hB : allB .any l.toArray n (some (i, q)) ks = true)
    (ho : l.toArray[i]? = some o) (hg : o.guard = none) (hz : ∀ (a : Act) (W : World), (execOp a.eval o).run P W = .ok (.value (.pointer (some ⟨W.heap.size, 0, none⟩))) (W.alloc z))
    (hoq : l.toArray[q]? = some oq) (hgq : oq.guard = none)
    (h : wpBel P l.toArray w (fun a' => ∀ b : Nat, Writes P oq (a'.put o.dst (.pointer (some ⟨b, 0, none⟩))) z z2 b ∧
      ∀ w', Below w.heap.size w w' → w.heap.size ≤ b → w'.heap[b]? = some z2 → wpList P l.toArray Q (l.drop n) ((a'.put o.dst (.pointer (some ⟨b, 0, none⟩))).put oq.dst undef) w') ks a) : (Code.region id l.toArray true).wp P Q a w := by
  simp only [allB, Bool.and_eq_true, decide_eq_true_eq] at hB
  obtain ⟨⟨⟨⟨⟨hsel, hn⟩, hs⟩, hc⟩, hlen⟩, hlex⟩ := hB
  have hdl : (l.drop n).length = l.toArray.size - n := by simp
  have inv0 : HeadInv .any l.toArray n (Array.replicate l.toArray.size false) :=
    ⟨by simp, fun j oj _ hl => (by rw [getD_replicate_false] at hl; cases hl), fun t _ ht => getD_in (by simpa using ht) (getD_replicate_false _ _)⟩
  obtain ⟨x, hx⟩ : ∃ x : Sp, x = { p := i, dp := o.dst, q, oq, z, z2 } := ⟨_, rfl⟩
  have hok : SpOk P l.toArray x := by rw [hx]; exact ⟨⟨o, ho, rfl, hg, hz⟩, hoq, hgq⟩
  have H := wpAnyA_lex (P := P) (w0 := w) (sp := some x) (md := .any) (g := l.toArray.size - n) (L := fun a' s => ∀ w', S w z z2 s w' → wpList P l.toArray Q (l.drop n) a' w') hsel hs hc hn (fun y hy => by injection hy with hy; subst hy; exact hok) ks _ a inv0 (by rw [hx]; exact hlex)
    (wpBel_mono (fun a' h' b => by rw [hx]; exact ⟨(h' b).1, fun w' hS => (h' b).2 w' hS.1 hS.2.1 hS.2.2⟩) ks a h)
  refine wp_region_any hm ?_
  have := wpAny_of_headA (z := z) (z2 := z2) (Q' := Q) (g := l.toArray.size - n) (fun listed a' s W hL hS => by
    have := wpAny_of_seq (md := .any) (Q' := Q) (l.drop n) n listed a' W (fun j => by simp [List.getElem?_drop]) (by rw [hdl]; exact hL.1) (hL.2 W hS)
    rwa [hdl] at this) (fun y hy => by injection hy with hy; subst hy; exact ⟨hok, by rw [hx], by rw [hx]⟩) _ _ _ .fresh { w with drawn := w.drawn + 1 } (show Below w.heap.size w { w with drawn := w.drawn + 1 } from ⟨rfl, rfl, rfl, Nat.le_refl _, fun _ _ => rfl⟩) (fun _ => rfl) H
  rw [show ks.length + more ((some x).map fun x => (x.p, x.q)) = n from by rw [hx]; exact hlen, show n + (l.toArray.size - n) = l.toArray.size by omega] at this
  exact this

/-! ### the walk over the operations themselves -/
def wpBelO (P : Program) (ops : Array Oper) (w0 : World) (Q : Act → Prop) : List Oper → Act → Prop
  | [], a => Q a
  | o :: rest, a => ∃ v, Bel P ops w0 o v a ∧ wpBelO P ops w0 Q rest (a.put o.dst v)
theorem wpBel_of_list {Q : Act → Prop} : ∀ (os : List Oper) (k : Nat) (a : Act), (∀ j, j < os.length → os[j]? = ops[k + j]?) → wpBelO P ops w0 Q os a → wpBel P ops w0 Q (List.range' k os.length) a
  | [], _, _, _, h => h
  | o :: os, k, a, hj, h => by
    obtain ⟨v, h1, h2⟩ := h
    rw [List.length_cons, List.range'_succ]
    refine ⟨o, v, by have := hj 0 (by simp); simpa using this.symm, h1, wpBel_of_list os (k + 1) _ (fun j hj' => by have := hj (j + 1) (by simp; omega); simpa [Nat.add_assoc, Nat.add_comm 1 j] using this) h2⟩
theorem wpBel_of_take {Q : Act → Prop} {l : List Oper} {m : Nat} {a : Act} (hm : m ≤ l.length) (h : wpBelO P l.toArray w0 Q (l.take m) a) : wpBel P l.toArray w0 Q (List.range' 0 m) a := by
  have hl : (l.take m).length = m := by simp; omega
  have := wpBel_of_list (l.take m) 0 a (fun j hj => by rw [hl] at hj; simp [hj]) h
  rwa [hl] at this
/-- a region whose first n operations are its head -/
theorem wp_region_head {id : Nat} {Q : Exit → Act → World → Prop} {a : Act} {w : World} {l : List Oper} (n : Nat) (hm : P.follows .mixedOrders = true) (hB : (decide (n ≤ l.length) && allB .any l.toArray n none (List.range' 0 n)) = true)
    (h : wpBelO P l.toArray w (fun a' => ∀ w', Below w.heap.size w w' → wpList P l.toArray Q (l.drop n) a' w') (l.take n) a) : (Code.region id l.toArray true).wp P Q a w := by
  rw [Bool.and_eq_true, decide_eq_true_eq] at hB
  exact wp_region_bel n _ hm hB.2 (wpBel_of_take hB.1 h)
/-- a region whose first m operations are its head, then an allocation and the store of its first value -/
theorem wp_region_head_store {id : Nat} {Q : Exit → Act → World → Prop} {a : Act} {w : World} {l : List Oper} (m : Nat) (o oq : Oper) (z z2 : Obj) (hm : P.follows .mixedOrders = true) (hB : (decide (m ≤ l.length) && allB .any l.toArray (m + 2) (some (m, m + 1)) (List.range' 0 m)) = true)
    (ho : l.toArray[m]? = some o) (hg : o.guard = none) (hz : ∀ (a : Act) (W : World), (execOp a.eval o).run P W = .ok (.value (.pointer (some ⟨W.heap.size, 0, none⟩))) (W.alloc z))
    (hoq : l.toArray[m + 1]? = some oq) (hgq : oq.guard = none)
    (h : wpBelO P l.toArray w (fun a' => ∀ b : Nat, Writes P oq (a'.put o.dst (.pointer (some ⟨b, 0, none⟩))) z z2 b ∧
      ∀ w', Below w.heap.size w w' → w.heap.size ≤ b → w'.heap[b]? = some z2 → wpList P l.toArray Q (l.drop (m + 2)) ((a'.put o.dst (.pointer (some ⟨b, 0, none⟩))).put oq.dst undef) w') (l.take m) a) : (Code.region id l.toArray true).wp P Q a w := by
  rw [Bool.and_eq_true, decide_eq_true_eq] at hB
  exact wp_region_bel_store (m + 2) m (m + 1) _ o oq z z2 hm hB.2 ho hg hz hoq hgq (wpBel_of_take hB.1 h)
theorem belO_nil {Q : Act → Prop} {a : Act} (h : Q a) : wpBelO P ops w0 Q [] a := h
theorem belO_step {Q : Act → Prop} {a : Act} {rest : List Oper} {o : Oper} {v : Value} (hw : Region.wanted o (yielded ops a.tmps) = true)
    (hv : ∀ W, Below w0.heap.size w0 W → belUpon P W v ((execOp a.eval o).run P W)) (h : wpBelO P ops w0 Q rest (a.put o.dst v)) : wpBelO P ops w0 Q (o :: rest) a :=
  ⟨v, .inl ⟨hw, hv⟩, h⟩
theorem belO_value {Q : Act → Prop} {a : Act} {rest : List Oper} {o : Oper} {v : Value} (hw : Region.wanted o (yielded ops a.tmps) = true)
    (hv : ∀ W, Below w0.heap.size w0 W → (execOp a.eval o).run P W = .ok (.value v) W) (h : wpBelO P ops w0 Q rest (a.put o.dst v)) : wpBelO P ops w0 Q (o :: rest) a :=
  ⟨v, .inl ⟨hw, fun W hW => by rw [hv W hW]; exact ⟨rfl, rfl⟩⟩, h⟩
theorem belO_call {Q : Act → Prop} {a : Act} {rest : List Oper} {o : Oper} {v : Value} (f : FuncId) (args : Array Value) (hw : Region.wanted o (yielded ops a.tmps) = true)
    (hv : ∀ W, (execOp a.eval o).run P W = .ok (.enter f args) W) (hc : ∀ W, Below w0.heap.size w0 W → Calls P f args W fun e w'' => e = .returned v ∧ Below W.heap.size W w'') (h : wpBelO P ops w0 Q rest (a.put o.dst v)) : wpBelO P ops w0 Q (o :: rest) a :=
  ⟨v, .inl ⟨hw, fun W hW => by rw [hv W]; exact ⟨rfl, hc W hW⟩⟩, h⟩
theorem belO_skip {Q : Act → Prop} {a : Act} {rest : List Oper} {o : Oper} (hw : Region.wanted o (yielded ops a.tmps) = false) (h : wpBelO P ops w0 Q rest (a.put o.dst undef)) : wpBelO P ops w0 Q (o :: rest) a :=
  ⟨undef, .inr ⟨hw, rfl⟩, h⟩
end
end Go.Bl

/- A region that draws its order, as in the text on regions with calls, an allocation and a store, but with calls whose answers are open: each call of the head gives some value with a property; the calls come up in one order; all else of the head commutes with them. -/
namespace Go.Bm
open Go.RowKit Go.Bl

section
variable {P : Program} {ops : Array Oper} {md : Region.Mode} {w0 : World}

/-- is it a call of a function? -/
def isCall (o : Oper) : Bool := match o.op with
  | .call c => match c.callee with
    | .builtin _ => false
    | _ => true
  | _ => false
/-- reckoning: the value v in every world behind w0 -/
def BelV (P : Program) (ops : Array Oper) (w0 : World) (o : Oper) (v : Value) (a : Act) : Prop :=
  (Region.wanted o (yielded ops a.tmps) = true ∧ ∀ W, Below w0.heap.size w0 W → (execOp a.eval o).run P W = .ok (.value v) W ∨ ((execOp a.eval o).run P W = .ok .skip W ∧ v = undef)) ∨ (Region.wanted o (yielded ops a.tmps) = false ∧ v = undef)
/-- a call: some value with the property F, in every world behind w0 -/
def BelC (P : Program) (ops : Array Oper) (w0 : World) (o : Oper) (F : Value → Prop) (a : Act) : Prop :=
  (Region.wanted o (yielded ops a.tmps) = true ∧ ∀ W, Below w0.heap.size w0 W → ∃ f args, (execOp a.eval o).run P W = .ok (.enter f args) W ∧ Calls P f args W fun e w'' => ∃ v, e = .returned v ∧ F v ∧ Below W.heap.size W w'') ∨ (Region.wanted o (yielded ops a.tmps) = false ∧ F undef)
theorem BelV.of_same {o : Oper} {v : Value} {a a' : Act} (hy : BelV P ops w0 o v a) (he : execOp a'.eval o = execOp a.eval o) (hw : Region.wanted o (yielded ops a'.tmps) = Region.wanted o (yielded ops a.tmps)) : BelV P ops w0 o v a' := by
  unfold BelV at *; rw [he, hw]; exact hy
theorem BelC.of_same {o : Oper} {F : Value → Prop} {a a' : Act} (hy : BelC P ops w0 o F a) (he : execOp a'.eval o = execOp a.eval o) (hw : Region.wanted o (yielded ops a'.tmps) = Region.wanted o (yielded ops a.tmps)) : BelC P ops w0 o F a' := by
  unfold BelC at *; rw [he, hw]; exact hy
theorem BelV.unique {o : Oper} {u v : Value} {a : Act} (h1 : BelV P ops w0 o u a) (h2 : BelV P ops w0 o v a) : u = v := by
  rcases h1 with ⟨a1, b1⟩ | ⟨a1, b1⟩ <;> rcases h2 with ⟨a2, b2⟩ | ⟨a2, b2⟩
  · have c1 := b1 w0 (Below.refl _ _)
    have c2 := b2 w0 (Below.refl _ _)
    rcases c1 with c1 | ⟨c1, d1⟩ <;> rcases c2 with c2 | ⟨c2, d2⟩
    · rw [c1] at c2; injection c2 with c2; injection c2
    · rw [c1] at c2; injection c2 with c2; cases c2
    · rw [c1] at c2; injection c2 with c2; cases c2
    · rw [d1, d2]
  · rw [a1] at a2; cases a2
  · rw [a1] at a2; cases a2
  · rw [b1, b2]
theorem BelC.some {o : Oper} {F : Value → Prop} {a : Act} (h : BelC P ops w0 o F a) : ∃ v, F v := by
  rcases h with ⟨_, h⟩ | ⟨_, h⟩
  · obtain ⟨f, args, _, hc⟩ := h w0 (Below.refl _ _)
    obtain ⟨e, w', fr, ⟨v, _, hF, _⟩, _⟩ := hc []
    exact ⟨v, hF⟩
  · exact ⟨undef, h⟩
theorem wpOp_of_V {z z2 : Obj} {i : Nat} {o : Oper} {v : Value} {a : Act} {s : St} {W : World} {K' : Act → World → Prop} {Q' : Exit → Act → World → Prop} (hi : ops[i]? = some o) (hy : BelV P ops w0 o v a) (hS : S w0 z z2 s W)
    (h : K' (a.put o.dst v) W) : wpOp P ops Q' i K' a W := by
  unfold wpOp
  simp only [hi]
  rcases hy with ⟨hw, hv⟩ | ⟨hw, rfl⟩
  · simp only [hw, if_true]
    refine .inl ?_
    unfold Oper.wp
    rcases hv W hS.below with hr | ⟨hr, rfl⟩
    · rw [hr]; exact h
    · rw [hr]; exact h
  · simp only [hw]; exact h
theorem wpOp_of_C {z z2 : Obj} {i : Nat} {o : Oper} {F : Value → Prop} {a : Act} {s : St} {W : World} {K' : Act → World → Prop} {Q' : Exit → Act → World → Prop} (hi : ops[i]? = some o) (hy : BelC P ops w0 o F a) (hS : S w0 z z2 s W)
    (h : ∀ v W', F v → S w0 z z2 s W' → K' (a.put o.dst v) W') : wpOp P ops Q' i K' a W := by
  unfold wpOp
  simp only [hi]
  rcases hy with ⟨hw, hv⟩ | ⟨hw, hF⟩
  · simp only [hw, if_true]
    refine .inl ?_
    unfold Oper.wp
    obtain ⟨f, args, hr, hc⟩ := hv W hS.below
    rw [hr]
    exact hc.mono fun e w'' ⟨v, he, hF, hb⟩ => by subst he; exact h _ _ hF (hS.step hb)
  · simp only [hw]; exact h _ _ hF hS

/-- operation i of the head comes up -/
def aOp (P : Program) (ops : Array Oper) (w0 : World) (sp : Option Sp) (i : Nat) (K : Act → St → Prop) (a : Act) (s : St) : Prop :=
  (∃ x, sp = some x ∧ x.p = i ∧ ∀ b, K (a.put x.dp (.pointer (some ⟨b, 0, none⟩))) (.made b)) ∨
  (∃ x b, sp = some x ∧ x.p ≠ i ∧ x.q = i ∧ s = .made b ∧ Writes P x.oq a x.z x.z2 b ∧ K (a.put x.oq.dst undef) (.stored b)) ∨
  ((∀ x, sp = some x → x.p ≠ i ∧ x.q ≠ i) ∧ ∃ oi F, ops[i]? = some oi ∧ isCall oi = true ∧ BelC P ops w0 oi F a ∧ ∀ v, F v → K (a.put oi.dst v) s) ∨
  ((∀ x, sp = some x → x.p ≠ i ∧ x.q ≠ i) ∧ ∃ oi v, ops[i]? = some oi ∧ isCall oi = false ∧ BelV P ops w0 oi v a ∧ K (a.put oi.dst v) s)
variable {sp : Option Sp}
theorem aOp_mono {i : Nat} {a : Act} {s : St} {K K' : Act → St → Prop} (h : ∀ a s, K a s → K' a s) (hh : aOp P ops w0 sp i K a s) : aOp P ops w0 sp i K' a s := by
  rcases hh with ⟨x, h1, h2, h3⟩ | ⟨x, b, h1, h2, h3, h4, h5, h6⟩ | ⟨h1, oi, F, h2, h3, h4, h5⟩ | ⟨h1, oi, v, h2, h3, h4, h5⟩
  · exact .inl ⟨x, h1, h2, fun b => h _ _ (h3 b)⟩
  · exact .inr (.inl ⟨x, b, h1, h2, h3, h4, h5, h _ _ h6⟩)
  · exact .inr (.inr (.inl ⟨h1, oi, F, h2, h3, h4, fun v hv => h _ _ (h5 v hv)⟩))
  · exact .inr (.inr (.inr ⟨h1, oi, v, h2, h3, h4, h _ _ h5⟩))
theorem aOp_putV {j : Nat} {oi oj : Oper} {v : Value} (hj : ops[j]? = some oj) (hsp : ∀ x, sp = some x → SpOk P ops x) (hap : oi.apart ops oj = true)
    (hsi : ∀ cs b, oi.op ≠ .select cs b) (hsj : ∀ cs b, oj.op ≠ .select cs b) {K : Act → St → Prop} {a : Act} {s : St}
    (hy : BelV P ops w0 oi v a) (h : aOp P ops w0 sp j K (a.put oi.dst v) s) :
    aOp P ops w0 sp j (fun a' s' => BelV P ops w0 oi v a' ∧ K (a'.put oi.dst v) s') a s := by
  obtain ⟨h1, h2, h3⟩ := Oper.apart_spec hap
  have keep : ∀ (a : Act), BelV P ops w0 oi v a → ∀ u, BelV P ops w0 oi v (a.put oj.dst u) := fun a hy u =>
    hy.of_same (execOp_put oi hsi a oj.dst u h3) (wanted_put oi a oj.dst u h3)
  rcases h with ⟨x, e1, e2, e3⟩ | ⟨x, b, e1, e2, e3, e4, e5, e6⟩ | ⟨e1, ok, F, hk, hcl, hb, hn⟩ | ⟨e1, ok, u, hk, hcl, hb, hn⟩
  · obtain ⟨o, ho, hd, _, _⟩ := (hsp x e1).op
    rw [e2, hj] at ho
    injection ho with ho
    subst ho
    refine .inl ⟨x, e1, e2, fun b => ?_⟩
    have h4 := e3 b
    rw [← hd] at h4 ⊢
    exact ⟨keep a hy _, by rw [← Act.put_comm a v _ h2]; exact h4⟩
  · have ho := (hsp x e1).oq
    rw [e3, hj] at ho
    injection ho with ho
    refine .inr (.inl ⟨x, b, e1, e2, e3, e4, ?_, ?_⟩)
    · unfold Writes at *
      rw [← ho] at e5 ⊢
      rwa [execOp_put oj hsj a oi.dst v h1] at e5
    · rw [← ho] at e6 ⊢
      exact ⟨keep a hy _, by rw [← Act.put_comm a v _ h2]; exact e6⟩
  · rw [hj] at hk
    injection hk with hk
    subst hk
    exact .inr (.inr (.inl ⟨e1, oj, F, hj, hcl, hb.of_same (execOp_put oj hsj a oi.dst v h1).symm (wanted_put oj a oi.dst v h1).symm, fun u hu => ⟨keep a hy u, by rw [← Act.put_comm a v u h2]; exact hn u hu⟩⟩))
  · rw [hj] at hk
    injection hk with hk
    subst hk
    exact .inr (.inr (.inr ⟨e1, oj, u, hj, hcl, hb.of_same (execOp_put oj hsj a oi.dst v h1).symm (wanted_put oj a oi.dst v h1).symm, keep a hy u, by rw [← Act.put_comm a v u h2]; exact hn⟩))
/-- a call is taken first: what else comes up is no call and no store -/
theorem aOp_putC {j : Nat} {oi oj : Oper} {F : Value → Prop} (hj : ops[j]? = some oj) (hsp : ∀ x, sp = some x → SpOk P ops x) (hnc : isCall oj = false) (hnq : ∀ x, sp = some x → x.q ≠ j) (hap : oi.apart ops oj = true)
    (hsi : ∀ cs b, oi.op ≠ .select cs b) (hsj : ∀ cs b, oj.op ≠ .select cs b) {K : Act → St → Prop} {a : Act} {s : St}
    (hy : BelC P ops w0 oi F a) (h : ∀ v, F v → aOp P ops w0 sp j K (a.put oi.dst v) s) :
    aOp P ops w0 sp j (fun a' s' => BelC P ops w0 oi F a' ∧ ∀ v, F v → K (a'.put oi.dst v) s') a s := by
  obtain ⟨h1, h2, h3⟩ := Oper.apart_spec hap
  have keep : ∀ (a : Act), BelC P ops w0 oi F a → ∀ u, BelC P ops w0 oi F (a.put oj.dst u) := fun a hy u =>
    hy.of_same (execOp_put oi hsi a oj.dst u h3) (wanted_put oi a oj.dst u h3)
  obtain ⟨v0, hv0⟩ := hy.some
  by_cases hp : ∃ x, sp = some x ∧ x.p = j
  · obtain ⟨x, e1, e2⟩ := hp
    obtain ⟨o, ho, hd, _, _⟩ := (hsp x e1).op
    rw [e2, hj] at ho
    injection ho with ho
    subst ho
    refine .inl ⟨x, e1, e2, fun b => ⟨by rw [← hd]; exact keep a hy _, fun v hv => ?_⟩⟩
    rcases h v hv with ⟨y, d1, d2, d3⟩ | ⟨y, b', d1, d2, d3, _⟩ | ⟨d1, _⟩ | ⟨d1, _⟩
    · rw [e1] at d1; injection d1 with d1; subst d1
      have h4 := d3 b
      rw [← hd] at h4 ⊢
      rw [← Act.put_comm a v _ h2]; exact h4
    · exact absurd d3 (hnq y d1)
    · exact absurd e2 (d1 x e1).1
    · exact absurd e2 (d1 x e1).1
  · have hno : ∀ x, sp = some x → x.p ≠ j ∧ x.q ≠ j := fun x hx => ⟨fun e => hp ⟨x, hx, e⟩, hnq x hx⟩
    have each : ∀ v, F v → ∃ u, BelV P ops w0 oj u a ∧ K ((a.put oi.dst v).put oj.dst u) s := by
      intro v hv
      rcases h v hv with ⟨y, d1, d2, _⟩ | ⟨y, b', d1, d2, d3, _⟩ | ⟨_, ok, F', hk, hcl, _⟩ | ⟨_, ok, u, hk, hcl, hb, hn⟩
      · exact absurd d2 (hno y d1).1
      · exact absurd d3 (hnq y d1)
      · rw [hj] at hk; injection hk with hk; subst hk; rw [hnc] at hcl; cases hcl
      · rw [hj] at hk; injection hk with hk; subst hk
        exact ⟨u, hb.of_same (execOp_put oj hsj a oi.dst v h1).symm (wanted_put oj a oi.dst v h1).symm, hn⟩
    obtain ⟨u, hu, _⟩ := each v0 hv0
    refine .inr (.inr (.inr ⟨hno, oj, u, hj, hnc, hu, keep a hy u, fun v hv => ?_⟩))
    obtain ⟨u', hu', hK⟩ := each v hv
    rw [hu.unique hu', ← Act.put_comm a v u' h2]; exact hK

/-- whatever order is picked, to the end of the head -/
def wpAnyA (P : Program) (md : Region.Mode) (ops : Array Oper) (w0 : World) (sp : Option Sp) (n : Nat) (L : Array Bool → Act → St → Prop) : Nat → Array Bool → Act → St → Prop
  | 0, listed, a, s => L listed a s
  | f + 1, listed, a, s =>
    Region.ready md ops listed ≠ [] ∧ ∀ i ∈ Region.ready md ops listed, i < n ∧ aOp P ops w0 sp i (wpAnyA P md ops w0 sp n L f (listed.setIfInBounds i true)) a s
theorem wpAny_of_headA {z z2 : Obj} {n g : Nat} {L : Array Bool → Act → St → Prop} {Q' : Exit → Act → World → Prop} (hL : ∀ listed a s W, L listed a s → S w0 z z2 s W → wpAny P md ops Q' g listed a W)
    (hsp : ∀ x, sp = some x → SpOk P ops x ∧ x.z = z ∧ x.z2 = z2) :
    ∀ (f : Nat) (listed : Array Bool) (a : Act) (s : St) (W : World), S w0 z z2 s W → ((∀ x, sp = some x → listed.getD x.p true = false) → s = .fresh) → wpAnyA P md ops w0 sp n L f listed a s → wpAny P md ops Q' (f + g) listed a W
  | 0, listed, a, s, W, hS, _, h => by rw [Nat.zero_add]; exact hL _ _ _ _ h hS
  | f + 1, listed, a, s, W, hS, hs, h => by
    rw [show f + 1 + g = (f + g) + 1 by omega]
    refine ⟨fun h0 => absurd h0 h.1, fun i hi => ?_⟩
    have hun := (mem_ready.1 hi).1
    have hlt : i < listed.size := by
      rcases Nat.lt_or_ge i listed.size with h' | h'
      · exact h'
      · rw [Array.getD_eq_getD_getElem?, Array.getElem?_eq_none h'] at hun; cases hun
    rcases (h.2 i hi).2 with ⟨x, e1, e2, e3⟩ | ⟨x, b, e1, e2, e3, e4, e5, e6⟩ | ⟨e1, oi, F, hoi, _, hb, hk⟩ | ⟨e1, oi, v, hoi, _, hb, hk⟩
    · obtain ⟨hx, hz, hz2⟩ := hsp x e1
      obtain ⟨o, ho, hd, hg, hrun⟩ := hx.op
      rw [e2] at ho
      have hsn : s = .fresh := hs (fun y hy => by rw [e1] at hy; injection hy with hy; subst hy; rw [e2]; exact hun)
      subst hsn
      unfold wpOp
      simp only [ho]
      rw [if_pos (by simp [Region.wanted, hg])]
      refine .inl ?_
      unfold Oper.wp
      rw [hrun, Oper.upon_value, hd, hz]
      have hB : Below w0.heap.size w0 W := hS
      refine wpAny_of_headA hL hsp f _ _ (.made W.heap.size) _ ⟨hB.alloc hB.size z, hB.size, World.alloc_heap_new W z⟩ (fun hc => ?_) (e3 W.heap.size)
      have h2 := hc x e1
      rw [e2, getD_set_self hlt] at h2; cases h2
    · obtain ⟨hx, hz, hz2⟩ := hsp x e1
      have ho := hx.oq
      rw [e3] at ho
      subst e4
      unfold wpOp
      simp only [ho]
      rw [if_pos (by simp [Region.wanted, hx.gq])]
      refine .inl ?_
      obtain ⟨W', hr, hg, hb⟩ := e5 W (by rw [hz]; exact hS.2.2)
      unfold Oper.wp
      rw [hr, Oper.upon_skip]
      refine wpAny_of_headA hL hsp f _ _ (.stored b) _ ⟨hS.1.grown hg hS.1.size (fun k e => by injection e with e; rw [← e]; exact hS.2.1), hS.2.1, by rw [← hz2]; exact hb⟩ (fun hc => ?_) e6
      have h2 := hc x e1
      have hne : i ≠ x.p := fun e => e2 e.symm
      rw [getD_set_ne true hne] at h2
      have := hs (fun y hy => by rw [e1] at hy; injection hy with hy; subst hy; exact h2)
      cases this
    · refine wpOp_of_C hoi hb hS fun v W' hv hS' => wpAny_of_headA hL hsp f _ _ s _ hS' (fun hc => hs fun x hx => ?_) (hk v hv)
      have h2 := hc x hx
      have hne : i ≠ x.p := fun e2 => (e1 x hx).1 e2.symm
      rwa [getD_set_ne true hne] at h2
    · refine wpOp_of_V hoi hb hS (wpAny_of_headA hL hsp f _ _ s _ hS (fun hc => hs fun x hx => ?_) hk)
      have h2 := hc x hx
      have hne : i ≠ x.p := fun e2 => (e1 x hx).1 e2.symm
      rwa [getD_set_ne true hne] at h2

theorem wpAnyA_firstV {n i : Nat} {oi : Oper} {v : Value} {L : Array Bool → Act → St → Prop} (hi : ops[i]? = some oi) (hcl : isCall oi = false) (hip : ∀ x, sp = some x → x.p ≠ i ∧ x.q ≠ i) (hsp : ∀ x, sp = some x → SpOk P ops x)
    (hsel : ∀ (j : Nat) (o : Oper) cs b, ops[j]? = some o → o.op ≠ .select cs b)
    (hs : Region.sinkB md ops n = true) (hc : Region.chainB md ops n = true) (hn : n < ops.size) (hin : i < n)
    (hdone : ∀ listed a s, L listed a s → ∀ j ∈ Region.ready md ops listed, n ≤ j) :
    ∀ (f : Nat) (listed : Array Bool) (a : Act) (s : St), HeadInv md ops n listed →
      (∀ j oj, ops[j]? = some oj → j ≠ i → listed.getD j true = false → (∀ e ∈ oj.after, Region.binds md e = true → e.on ≠ i) → oi.apart ops oj = true) →
      i ∈ Region.ready md ops listed → BelV P ops w0 oi v a →
      wpAnyA P md ops w0 sp n L f (listed.setIfInBounds i true) (a.put oi.dst v) s → wpAnyA P md ops w0 sp n L (f + 1) listed a s := by
  have own : ∀ {K : Act → St → Prop} {a : Act} {s : St}, BelV P ops w0 oi v a → K (a.put oi.dst v) s → aOp P ops w0 sp i K a s := fun hy hK => .inr (.inr (.inr ⟨hip, oi, v, hi, hcl, hy, hK⟩))
  intro f
  induction f with
  | zero =>
    intro listed a s inv _ hr hy H
    have hun := (mem_ready.1 hr).1
    refine ⟨fun h => (by rw [h] at hr; cases hr), fun j hj => ?_⟩
    have hjn : j < n := by
      rcases Nat.lt_or_ge j n with h | h
      · exact h
      · exact absurd hj (tail_waits hs hc hn inv _ i rfl hin hun j h)
    refine ⟨hjn, ?_⟩
    by_cases hji : j = i
    · subst hji; exact own hy H
    · have := hdone _ _ _ H j (ready_mono hj hji)
      omega
  | succ f ih =>
    intro listed a s inv hfree hr hy H
    have hun := (mem_ready.1 hr).1
    refine ⟨fun h => (by rw [h] at hr; cases hr), fun j hj => ?_⟩
    have hjn : j < n := by
      rcases Nat.lt_or_ge j n with h | h
      · exact h
      · exact absurd hj (tail_waits hs hc hn inv _ i rfl hin hun j h)
    refine ⟨hjn, ?_⟩
    by_cases hji : j = i
    · subst hji; exact own hy H
    · have h1 := (H.2 j (ready_mono hj hji)).2
      obtain ⟨hjun, oj, hoj, hall⟩ := mem_ready.1 hj
      have hnot : ∀ e ∈ oj.after, Region.binds md e = true → e.on ≠ i := fun e he hb heq => by
        have h1 := hall e he hb
        rw [heq, getD_both hun] at h1
        cases h1
      have h2 := aOp_putV hoj hsp (hfree j oj hoj hji hjun hnot) (fun cs b => hsel i oi cs b hi) (fun cs b => hsel j oj cs b hoj) hy h1
      have hfree' : ∀ k ok, ops[k]? = some ok → k ≠ i → (listed.setIfInBounds j true).getD k true = false →
          (∀ e ∈ ok.after, Region.binds md e = true → e.on ≠ i) → oi.apart ops ok = true := fun k ok hk hki hun hno => by
        refine hfree k ok hk hki ?_ hno
        by_cases hjk : j = k
        · subst hjk; exact hjun
        · rw [getD_set_ne true hjk] at hun; exact hun
      refine aOp_mono (fun a' s' h3 => ih (listed.setIfInBounds j true) a' s' (inv.set hj hjn) hfree' (ready_mono hr (Ne.symm hji)) h3.1 ?_) h2
      rw [Array.setIfInBounds_comm _ _ hji]
      exact h3.2

/-- does j wait for i, perhaps by way of others? -/
def waitsT (md : Region.Mode) (ops : Array Oper) (i : Nat) : Nat → Nat → Bool
  | 0, _ => false
  | f + 1, j => match ops[j]? with
    | some oj => oj.after.any fun e => Region.binds md e && (e.on == i || waitsT md ops i f e.on)
    | none => false
theorem listed_of_waits {n i : Nat} {listed : Array Bool} (inv : HeadInv md ops n listed) : ∀ (f j : Nat), waitsT md ops i f j = true → listed.getD j false = true → listed.getD i false = true
  | 0, _, h, _ => by simp [waitsT] at h
  | f + 1, j, h, hl => by
    unfold waitsT at h
    split at h
    · rename_i oj hj
      obtain ⟨e, he, hb⟩ := Array.any_eq_true'.1 h
      simp only [Bool.and_eq_true, Bool.or_eq_true, beq_iff_eq] at hb
      have h1 := inv.closed j oj hj hl e he hb.1
      rcases hb.2 with h2 | h2
      · rw [← h2]; exact h1
      · exact listed_of_waits inv f e.on h2 h1
    · cases h
theorem not_ready {n i : Nat} {listed : Array Bool} (inv : HeadInv md ops n listed) (hun : listed.getD i true = false) {f j : Nat} (h : waitsT md ops i f j = true) : j ∉ Region.ready md ops listed := by
  intro hj
  obtain ⟨_, oj, hoj, hall⟩ := mem_ready.1 hj
  cases f with
  | zero => simp [waitsT] at h
  | succ f =>
    unfold waitsT at h
    rw [hoj] at h
    obtain ⟨e, he, hb⟩ := Array.any_eq_true'.1 h
    simp only [Bool.and_eq_true, Bool.or_eq_true, beq_iff_eq] at hb
    have h1 := hall e he hb.1
    have h2 := getD_both hun
    rcases hb.2 with h3 | h3
    · rw [h3, h2] at h1; cases h1
    · have := listed_of_waits inv f e.on h3 h1
      rw [h2] at this; cases this
/-- each call waits for the one before -/
def chainC (md : Region.Mode) (ops : Array Oper) : List Nat → Bool
  | [] => true
  | [_] => true
  | a :: b :: rest => waitsT md ops a 9 b && chainC md ops (b :: rest)
theorem waits_one {i j : Nat} (h : Region.waitsFor md ops j i = true) : waitsT md ops i 1 j = true := by
  obtain ⟨oj, hj, e, he, hb, hon⟩ := Region.waitsFor_spec h
  simp only [waitsT, hj]
  exact Array.any_eq_true'.2 ⟨e, he, by simp [hb, hon]⟩
theorem waits_trans {i k f : Nat} (hk : waitsT md ops i f k = true) : ∀ (g j : Nat), waitsT md ops k g j = true → ∃ h, waitsT md ops i h j = true
  | 0, _, h => by simp [waitsT] at h
  | g + 1, j, h => by
    unfold waitsT at h
    split at h
    · rename_i oj hj
      obtain ⟨e, he, hb⟩ := Array.any_eq_true'.1 h
      simp only [Bool.and_eq_true, Bool.or_eq_true, beq_iff_eq] at hb
      obtain ⟨h', hh⟩ : ∃ h', waitsT md ops i h' e.on = true := by
        rcases hb.2 with h2 | h2
        · rw [h2]; exact ⟨f, hk⟩
        · exact waits_trans hk g e.on h2
      refine ⟨h' + 1, ?_⟩
      simp only [waitsT, hj]
      exact Array.any_eq_true'.2 ⟨e, he, by simp [hb.1, hh]⟩
    · cases h
theorem chain_from {a : Nat} : ∀ (b : Nat) (rest : List Nat), (∃ f, waitsT md ops a f b = true) → chainC md ops (b :: rest) = true → ∀ c ∈ b :: rest, ∃ f, waitsT md ops a f c = true
  | b, [], h, _, c, hc => by simp at hc; subst hc; exact h
  | b, d :: rest, h, hch, c, hc => by
    simp only [chainC, Bool.and_eq_true] at hch
    obtain ⟨f, hf⟩ := h
    rcases List.mem_cons.1 hc with rfl | hc
    · exact ⟨f, hf⟩
    · exact chain_from d rest (waits_trans hf 9 d hch.1) hch.2 c hc
theorem chain_all : ∀ (cs : List Nat), chainC md ops cs = true → cs.Pairwise fun a b => ∃ f, waitsT md ops a f b = true
  | [], _ => List.Pairwise.nil
  | [a], _ => by simp
  | a :: b :: rest, h => by
    have h' := h
    simp only [chainC, Bool.and_eq_true] at h
    rw [List.pairwise_cons]
    exact ⟨fun c hc => chain_from b rest ⟨9, h.1⟩ h.2 c hc, chain_all (b :: rest) h.2⟩
theorem pair_of_lt {R : Nat → Nat → Prop} : ∀ {cs : List Nat}, cs.Pairwise (· < ·) → cs.Pairwise R → ∀ a b, a ∈ cs → b ∈ cs → a < b → R a b
  | [], _, _, a, _, ha, _, _ => by simp at ha
  | c :: cs, hs, hr, a, b, ha, hb, hlt => by
    rw [List.pairwise_cons] at hs hr
    rcases List.mem_cons.1 ha with e1 | h1 <;> rcases List.mem_cons.1 hb with e2 | h2
    · omega
    · rw [e1]; exact hr.1 b h2
    · have := hs.1 a h1; omega
    · exact pair_of_lt hs.2 hr.2 a b h1 h2 hlt
def callsOf (ops : Array Oper) : List Nat := (List.range ops.size).filter fun j => (ops[j]?.map isCall).getD false
/-- the calls come up in one order, the store behind them all -/
def orderB (md : Region.Mode) (ops : Array Oper) (q : Option Nat) : Bool :=
  chainC md ops (callsOf ops) && match q with
    | none => true
    | some q => (callsOf ops).all fun c => Region.waitsFor md ops q c
theorem orderB_spec {q : Option Nat} (h : orderB md ops q = true) {i j : Nat} (hi : i ∈ callsOf ops) (hij : i < j) (hj : (ops[j]?.map isCall).getD false = true ∨ q = some j) : ∃ f, waitsT md ops i f j = true := by
  unfold orderB at h
  rw [Bool.and_eq_true] at h
  rcases hj with hj | hj
  · have hjs : j < ops.size := by
      apply Classical.byContradiction; intro hge
      rw [Array.getElem?_eq_none (by omega)] at hj; cases hj
    refine pair_of_lt ?_ (chain_all _ h.1) i j hi (by unfold callsOf; rw [List.mem_filter]; exact ⟨List.mem_range.2 hjs, hj⟩) hij
    unfold callsOf
    exact List.Pairwise.filter _ (List.pairwise_lt_range)
  · subst hj
    have h2 := List.all_eq_true.1 h.2 i hi
    exact ⟨1, waits_one h2⟩

theorem wpAnyA_firstC {n i : Nat} {oi : Oper} {F : Value → Prop} {L : Array Bool → Act → St → Prop} (hi : ops[i]? = some oi) (hcl : isCall oi = true) (hip : ∀ x, sp = some x → x.p ≠ i ∧ x.q ≠ i) (hsp : ∀ x, sp = some x → SpOk P ops x)
    (hsel : ∀ (j : Nat) (o : Oper) cs b, ops[j]? = some o → o.op ≠ .select cs b)
    (hs : Region.sinkB md ops n = true) (hc : Region.chainB md ops n = true) (hn : n < ops.size) (hin : i < n)
    (hdone : ∀ listed a s, L listed a s → ∀ j ∈ Region.ready md ops listed, n ≤ j) :
    ∀ (f : Nat) (listed : Array Bool) (a : Act) (s : St), HeadInv md ops n listed →
      (∀ j oj, ops[j]? = some oj → j ≠ i → listed.getD j true = false → (∀ e ∈ oj.after, Region.binds md e = true → e.on ≠ i) → oi.apart ops oj = true) →
      (∀ j, j ≠ i → listed.getD j true = false → (∃ f, waitsT md ops i f j = true) ∨ ((ops[j]?.map isCall).getD false = false ∧ ∀ x, sp = some x → x.q ≠ j)) →
      i ∈ Region.ready md ops listed → BelC P ops w0 oi F a →
      (∀ v, F v → wpAnyA P md ops w0 sp n L f (listed.setIfInBounds i true) (a.put oi.dst v) s) → wpAnyA P md ops w0 sp n L (f + 1) listed a s := by
  have own : ∀ {K : Act → St → Prop} {a : Act} {s : St}, BelC P ops w0 oi F a → (∀ v, F v → K (a.put oi.dst v) s) → aOp P ops w0 sp i K a s := fun hy hK => .inr (.inr (.inl ⟨hip, oi, F, hi, hcl, hy, hK⟩))
  intro f
  induction f with
  | zero =>
    intro listed a s inv _ _ hr hy H
    have hun := (mem_ready.1 hr).1
    refine ⟨fun h => (by rw [h] at hr; cases hr), fun j hj => ?_⟩
    have hjn : j < n := by
      rcases Nat.lt_or_ge j n with h | h
      · exact h
      · exact absurd hj (tail_waits hs hc hn inv _ i rfl hin hun j h)
    refine ⟨hjn, ?_⟩
    by_cases hji : j = i
    · subst hji; exact own hy H
    · obtain ⟨v0, hv0⟩ := hy.some
      have := hdone _ _ _ (H v0 hv0) j (ready_mono hj hji)
      omega
  | succ f ih =>
    intro listed a s inv hfree hcc hr hy H
    have hun := (mem_ready.1 hr).1
    refine ⟨fun h => (by rw [h] at hr; cases hr), fun j hj => ?_⟩
    have hjn : j < n := by
      rcases Nat.lt_or_ge j n with h | h
      · exact h
      · exact absurd hj (tail_waits hs hc hn inv _ i rfl hin hun j h)
    refine ⟨hjn, ?_⟩
    by_cases hji : j = i
    · subst hji; exact own hy H
    · have h1 := fun v hv => ((H v hv).2 j (ready_mono hj hji)).2
      obtain ⟨hjun, oj, hoj, hall⟩ := mem_ready.1 hj
      have hnot : ∀ e ∈ oj.after, Region.binds md e = true → e.on ≠ i := fun e he hb heq => by
        have h1 := hall e he hb
        rw [heq, getD_both hun] at h1
        cases h1
      obtain ⟨hnc, hnq⟩ : isCall oj = false ∧ ∀ x, sp = some x → x.q ≠ j := by
        rcases hcc j hji hjun with ⟨f', hw⟩ | h
        · exact absurd hj (not_ready inv hun hw)
        · rw [hoj] at h; exact ⟨by simpa using h.1, h.2⟩
      have h2 := aOp_putC hoj hsp hnc hnq (hfree j oj hoj hji hjun hnot) (fun cs b => hsel i oi cs b hi) (fun cs b => hsel j oj cs b hoj) hy h1
      have old : ∀ k, (listed.setIfInBounds j true).getD k true = false → listed.getD k true = false := fun k hun => by
        by_cases hjk : j = k
        · subst hjk; exact hjun
        · rw [getD_set_ne true hjk] at hun; exact hun
      refine aOp_mono (fun a' s' h3 => ih (listed.setIfInBounds j true) a' s' (inv.set hj hjn) (fun k ok hk hki hun hno => hfree k ok hk hki (old k hun) hno) (fun k hk hun => hcc k hk (old k hun)) (ready_mono hr (Ne.symm hji)) h3.1 ?_) h2
      rw [Array.setIfInBounds_comm _ _ hji]
      exact h3.2

/-! ### the walk of the head -/
/-- the head's operations in the order of the text -/
def walk (P : Program) (ops : Array Oper) (w0 : World) (Q : Act → Prop) : List Oper → Act → Prop
  | [], a => Q a
  | o :: rest, a => if isCall o = true then ∃ F, BelC P ops w0 o F a ∧ ∀ v, F v → walk P ops w0 Q rest (a.put o.dst v) else ∃ v, BelV P ops w0 o v a ∧ walk P ops w0 Q rest (a.put o.dst v)
def headB (md : Region.Mode) (ops : Array Oper) (n g : Nat) (sp : Option (Nat × Nat)) : List Nat → Array Bool → Bool
  | [], listed => match sp with
    | none => Region.seqB md ops g n listed
    | some (i, q) => decide (Region.ready md ops listed = [i]) && decide (i < n) && decide (Region.ready md ops (listed.setIfInBounds i true) = [q]) && decide (q < n) && decide (i ≠ q) && Region.seqB md ops g n ((listed.setIfInBounds i true).setIfInBounds q true)
  | k :: ks, listed => (Region.ready md ops listed).contains k && Region.free md ops listed k && decide (k < n) && decide (∀ x ∈ sp, x.1 ≠ k ∧ x.2 ≠ k) && (!(ops[k]?.map isCall).getD false || (List.range k).all fun j => listed.getD j false) && headB md ops n g sp ks (listed.setIfInBounds k true)
def allB (md : Region.Mode) (ops : Array Oper) (n : Nat) (sp : Option (Nat × Nat)) (ks : List Nat) : Bool :=
  Region.noSelect ops && decide (n < ops.size) && Region.sinkB md ops n && Region.chainB md ops n && decide (ks.length + more sp = n) && orderB md ops (sp.map (·.2)) && headB md ops n (ops.size - n) sp ks (Array.replicate ops.size false)

theorem wpAnyA_lex {n g : Nat} {L : Act → St → Prop} (hsel : Region.noSelect ops = true) (hs : Region.sinkB md ops n = true) (hc : Region.chainB md ops n = true) (hn : n < ops.size) (hsp : ∀ x, sp = some x → SpOk P ops x) (hord : orderB md ops (sp.map fun x => x.q) = true) :
    ∀ (os : List Oper) (k : Nat) (listed : Array Bool) (a : Act), (∀ j, j < os.length → os[j]? = ops[k + j]?) → HeadInv md ops n listed → headB md ops n g (sp.map fun x => (x.p, x.q)) (List.range' k os.length) listed = true →
    walk P ops w0 (fun a' => match sp with
      | none => L a' .fresh
      | some x => ∀ b, Writes P x.oq (a'.put x.dp (.pointer (some ⟨b, 0, none⟩))) x.z x.z2 b ∧ L ((a'.put x.dp (.pointer (some ⟨b, 0, none⟩))).put x.oq.dst undef) (.stored b)) os a →
    wpAnyA P md ops w0 sp n (fun listed' a' s' => Region.seqB md ops g n listed' = true ∧ L a' s') (os.length + more (sp.map fun x => (x.p, x.q))) listed a .fresh
  | [], k, listed, a, _, inv, hB, h => by
    cases sp with
    | none => exact ⟨hB, h⟩
    | some x =>
      simp only [headB, List.length_nil, List.range'_zero, Option.map_some, Bool.and_eq_true, decide_eq_true_eq] at hB
      obtain ⟨⟨⟨⟨⟨h1, h2⟩, h3⟩, h4⟩, h5⟩, h6⟩ := hB
      show wpAnyA P md ops w0 (some x) n _ 2 listed a .fresh
      refine ⟨by rw [h1]; simp, fun j hj => ?_⟩
      rw [h1] at hj
      have hji : j = x.p := by simpa using hj
      subst hji
      refine ⟨h2, .inl ⟨x, rfl, rfl, fun b => ⟨by rw [h3]; simp, fun j hj => ?_⟩⟩⟩
      rw [h3] at hj
      have hji : j = x.q := by simpa using hj
      subst hji
      exact ⟨h4, .inr (.inl ⟨x, b, rfl, h5, rfl, rfl, (h b).1, h6, (h b).2⟩)⟩
  | o :: os, k, listed, a, hj, inv, hB, h => by
    rw [List.length_cons, List.range'_succ] at hB
    simp only [headB, Bool.and_eq_true, decide_eq_true_eq] at hB
    obtain ⟨⟨⟨⟨⟨hr, hf⟩, hkn⟩, hkp⟩, hcb⟩, hB'⟩ := hB
    have ho : ops[k]? = some o := by have := hj 0 (by simp); simpa using this.symm
    have hr' : k ∈ Region.ready md ops listed := by simpa using hr
    have hip : ∀ x, sp = some x → x.p ≠ k ∧ x.q ≠ k := fun x hx => hkp (x.p, x.q) (by rw [hx]; rfl)
    have hnext : ∀ j, j < os.length → os[j]? = ops[k + 1 + j]? := fun j hj' => by have := hj (j + 1) (by simp; omega); simpa [Nat.add_assoc, Nat.add_comm 1 j] using this
    rw [show (o :: os).length + more (sp.map fun x => (x.p, x.q)) = (os.length + more (sp.map fun x => (x.p, x.q))) + 1 by simp; omega]
    unfold walk at h
    cases hcl : isCall o
    · rw [hcl, if_neg (by simp)] at h
      obtain ⟨v, hy, hK⟩ := h
      exact wpAnyA_firstV ho hcl hip hsp (Region.noSelect_spec hsel) hs hc hn hkn (fun listed' a' s' hL => seqB_ready hL.1) _ listed a .fresh inv (Region.free_spec ho hf) hr' hy
        (wpAnyA_lex hsel hs hc hn hsp hord os (k + 1) _ _ hnext (inv.set hr' hkn) hB' hK)
    · rw [hcl, if_pos rfl] at h
      obtain ⟨F, hy, hK⟩ := h
      rw [ho] at hcb
      simp only [Option.map_some, Option.getD_some, hcl, Bool.not_true, Bool.false_or] at hcb
      refine wpAnyA_firstC ho hcl hip hsp (Region.noSelect_spec hsel) hs hc hn hkn (fun listed' a' s' hL => seqB_ready hL.1) _ listed a .fresh inv (Region.free_spec ho hf) (fun j hjk hun => ?_) hr' hy
        (fun v hv => wpAnyA_lex hsel hs hc hn hsp hord os (k + 1) _ _ hnext (inv.set hr' hkn) hB' (hK v hv))
      rw [List.all_eq_true] at hcb
      by_cases hjk2 : j < k
      · have h1 := hcb j (List.mem_range.2 hjk2)
        rw [getD_both hun] at h1; cases h1
      · by_cases hx : (ops[j]?.map isCall).getD false = true ∨ (sp.map fun x => x.q) = some j
        · refine .inl (orderB_spec hord ?_ (by omega) hx)
          unfold callsOf; rw [List.mem_filter]
          exact ⟨List.mem_range.2 (by omega), by rw [ho]; exact hcl⟩
        · refine .inr ⟨?_, fun x hx2 e => hx (.inr ?_)⟩
          · cases hb : (ops[j]?.map isCall).getD false
            · rfl
            · exact absurd (.inl hb) hx
          · rw [hx2]; simp [e]
theorem walk_mono {Q1 Q2 : Act → Prop} (hq : ∀ a, Q1 a → Q2 a) (os : List Oper) : ∀ a, walk P ops w0 Q1 os a → walk P ops w0 Q2 os a := by
  induction os with
  | nil => exact fun a h => hq a h
  | cons o os ih =>
    intro a h
    unfold walk at h ⊢
    split
    · rename_i hc
      rw [if_pos hc] at h
      obtain ⟨F, h1, h2⟩ := h
      exact ⟨F, h1, fun v hv => ih _ (h2 v hv)⟩
    · rename_i hc
      rw [if_neg hc] at h
      obtain ⟨v, h1, h2⟩ := h
      exact ⟨v, h1, ih _ h2⟩

/-- a region whose first n operations are its head -/
theorem wp_region_head {id : Nat} {Q : Exit → Act → World → Prop} {a : Act} {w : World} {l : List Oper} (n : Nat) (hm : P.follows .mixedOrders = true) (hB : (decide (n ≤ l.length) && allB .any l.toArray n none (List.range' 0 n)) = true)
    (h : walk P l.toArray w (fun a' => ∀ w', Below w.heap.size w w' → wpList P l.toArray Q (l.drop n) a' w') (l.take n) a) : (Code.region id l.toArray true).wp P Q a w := by
  simp only [Bool.and_eq_true, decide_eq_true_eq, allB] at hB
  obtain ⟨hnl, ⟨⟨⟨⟨⟨hsel, hn⟩, hs⟩, hc⟩, hlen⟩, hord⟩, hlex⟩ := hB
  have hdl : (l.drop n).length = l.toArray.size - n := by simp
  have htl : (l.take n).length = n := by simp; omega
  have inv0 : HeadInv .any l.toArray n (Array.replicate l.toArray.size false) :=
    ⟨by simp, fun j oj _ hl => (by rw [getD_replicate_false] at hl; cases hl), fun t _ ht => getD_in (by simpa using ht) (getD_replicate_false _ _)⟩
  have H := wpAnyA_lex (P := P) (w0 := w) (sp := none) (md := .any) (g := l.toArray.size - n) (L := fun a' _ => ∀ w', Below w.heap.size w w' → wpList P l.toArray Q (l.drop n) a' w') hsel hs hc hn (fun x e => by cases e) hord (l.take n) 0 _ a (fun j hj => by rw [htl] at hj; simp [hj]) inv0 (by rw [htl]; exact hlex) h
  refine wp_region_any hm ?_
  have := wpAny_of_headA (z := .deferred none) (z2 := .deferred none) (Q' := Q) (g := l.toArray.size - n) (fun listed a' s W hL hS => by
    have := wpAny_of_seq (md := .any) (Q' := Q) (l.drop n) n listed a' W (fun j => by simp [List.getElem?_drop]) (by rw [hdl]; exact hL.1) (hL.2 W hS.below)
    rwa [hdl] at this) (fun i e => by cases e) _ _ _ .fresh { w with drawn := w.drawn + 1 } (show Below w.heap.size w { w with drawn := w.drawn + 1 } from ⟨rfl, rfl, rfl, Nat.le_refl _, fun _ _ => rfl⟩) (fun _ => rfl) H
  rw [show (l.take n).length + more (Option.map (fun x : Sp => (x.p, x.q)) none) = n from htl, show n + (l.toArray.size - n) = l.toArray.size by omega] at this
  exact this
/-- a region whose first m operations are its head, then an allocation and the store of its first value -/
theorem wp_region_head_store {id : Nat} {Q : Exit → Act → World → Prop} {a : Act} {w : World} {l : List Oper} (m : Nat) (o oq : Oper) (z z2 : Obj) (hm : P.follows .mixedOrders = true) (hB : (decide (m ≤ l.length) && allB .any l.toArray (m + 2) (some (m, m + 1)) (List.range' 0 m)) = true)
    (ho : l.toArray[m]? = some o) (hg : o.guard = none) (hz : ∀ (a : Act) (W : World), (execOp a.eval o).run P W = .ok (.value (.pointer (some ⟨W.heap.size, 0, none⟩))) (W.alloc z))
    (hoq : l.toArray[m + 1]? = some oq) (hgq : oq.guard = none)
    (h : walk P l.toArray w (fun a' => ∀ b : Nat, Writes P oq (a'.put o.dst (.pointer (some ⟨b, 0, none⟩))) z z2 b ∧
      ∀ w', Below w.heap.size w w' → w.heap.size ≤ b → w'.heap[b]? = some z2 → wpList P l.toArray Q (l.drop (m + 2)) ((a'.put o.dst (.pointer (some ⟨b, 0, none⟩))).put oq.dst undef) w') (l.take m) a) : (Code.region id l.toArray true).wp P Q a w := by
  simp only [Bool.and_eq_true, decide_eq_true_eq, allB] at hB
  obtain ⟨hnl, ⟨⟨⟨⟨⟨hsel, hn⟩, hs⟩, hc⟩, hlen⟩, hord⟩, hlex⟩ := hB
  have hdl : (l.drop (m + 2)).length = l.toArray.size - (m + 2) := by simp
  have htl : (l.take m).length = m := by simp; omega
  have inv0 : HeadInv .any l.toArray (m + 2) (Array.replicate l.toArray.size false) :=
    ⟨by simp, fun j oj _ hl => (by rw [getD_replicate_false] at hl; cases hl), fun t _ ht => getD_in (by simpa using ht) (getD_replicate_false _ _)⟩
  obtain ⟨x, hx⟩ : ∃ x : Sp, x = { p := m, dp := o.dst, q := m + 1, oq, z, z2 } := ⟨_, rfl⟩
  have hok : SpOk P l.toArray x := by rw [hx]; exact ⟨⟨o, ho, rfl, hg, hz⟩, hoq, hgq⟩
  have H := wpAnyA_lex (P := P) (w0 := w) (sp := some x) (md := .any) (g := l.toArray.size - (m + 2)) (L := fun a' s => ∀ w', S w z z2 s w' → wpList P l.toArray Q (l.drop (m + 2)) a' w') hsel hs hc hn (fun y hy => by injection hy with hy; subst hy; exact hok) (by rw [hx]; exact hord) (l.take m) 0 _ a (fun j hj => by rw [htl] at hj; simp [hj]) inv0 (by rw [htl, hx]; exact hlex)
    (walk_mono (fun a' h' b => by rw [hx]; exact ⟨(h' b).1, fun w' hS => (h' b).2 w' hS.1 hS.2.1 hS.2.2⟩) _ a h)
  refine wp_region_any hm ?_
  have := wpAny_of_headA (z := z) (z2 := z2) (Q' := Q) (g := l.toArray.size - (m + 2)) (fun listed a' s W hL hS => by
    have := wpAny_of_seq (md := .any) (Q' := Q) (l.drop (m + 2)) (m + 2) listed a' W (fun j => by simp [List.getElem?_drop]) (by rw [hdl]; exact hL.1) (hL.2 W hS)
    rwa [hdl] at this) (fun y hy => by injection hy with hy; subst hy; exact ⟨hok, by rw [hx], by rw [hx]⟩) _ _ _ .fresh { w with drawn := w.drawn + 1 } (show Below w.heap.size w { w with drawn := w.drawn + 1 } from ⟨rfl, rfl, rfl, Nat.le_refl _, fun _ _ => rfl⟩) (fun _ => rfl) H
  rw [show (l.take m).length + more ((some x).map fun x => (x.p, x.q)) = m + 2 from by rw [htl]; rfl, show m + 2 + (l.toArray.size - (m + 2)) = l.toArray.size by omega] at this
  exact this

/-! ### steps -/
theorem walk_nil {Q : Act → Prop} {a : Act} (h : Q a) : walk P ops w0 Q [] a := h
theorem walk_step {Q : Act → Prop} {a : Act} {rest : List Oper} {o : Oper} {v : Value} (hc : isCall o = false) (hw : Region.wanted o (yielded ops a.tmps) = true)
    (hv : ∀ W, Below w0.heap.size w0 W → (execOp a.eval o).run P W = .ok (.value v) W) (h : walk P ops w0 Q rest (a.put o.dst v)) : walk P ops w0 Q (o :: rest) a := by
  unfold walk
  rw [hc, if_neg (by simp)]
  exact ⟨v, .inl ⟨hw, fun W hW => .inl (hv W hW)⟩, h⟩
/-- reckoning, the value left to be found -/
def valUpon (W : World) (v : Value) : Result Next → Prop
  | .ok (.value u) w' => w' = W ∧ u = v
  | _ => False
theorem walk_st {Q : Act → Prop} {a : Act} {rest : List Oper} {o : Oper} {v : Value} (hc : isCall o = false) (hw : Region.wanted o (yielded ops a.tmps) = true)
    (hv : ∀ W, Below w0.heap.size w0 W → valUpon W v ((execOp a.eval o).run P W)) (h : walk P ops w0 Q rest (a.put o.dst v)) : walk P ops w0 Q (o :: rest) a :=
  walk_step hc hw (fun W hW => by
    have h1 := hv W hW
    generalize (execOp a.eval o).run P W = r at h1
    cases r with
    | ok n w' =>
      cases n with
      | value u => obtain ⟨rfl, rfl⟩ := (h1 : w' = W ∧ u = v); rfl
      | skip => exact (h1 : False).elim
      | enter f args => exact (h1 : False).elim
      | defer d => exact (h1 : False).elim
      | row r args => exact (h1 : False).elim
      | _ => exact (h1 : False).elim
    | halt x w' => exact (h1 : False).elim) h
theorem walk_skip {Q : Act → Prop} {a : Act} {rest : List Oper} {o : Oper} (hw : Region.wanted o (yielded ops a.tmps) = false) (h : walk P ops w0 Q rest (a.put o.dst undef)) : walk P ops w0 Q (o :: rest) a := by
  unfold walk
  split
  · exact ⟨fun v => v = undef, .inr ⟨hw, rfl⟩, fun v hv => by subst hv; exact h⟩
  · exact ⟨undef, .inr ⟨hw, rfl⟩, h⟩
/-- a call whose answer is one value -/
theorem walk_call {Q : Act → Prop} {a : Act} {rest : List Oper} {o : Oper} {v : Value} (f : FuncId) (args : Array Value) (hc : isCall o = true) (hw : Region.wanted o (yielded ops a.tmps) = true)
    (hv : ∀ W, (execOp a.eval o).run P W = .ok (.enter f args) W) (hk : ∀ W, Below w0.heap.size w0 W → Calls P f args W fun e w'' => e = .returned v ∧ Below W.heap.size W w'') (h : walk P ops w0 Q rest (a.put o.dst v)) : walk P ops w0 Q (o :: rest) a := by
  unfold walk
  rw [hc, if_pos rfl]
  exact ⟨fun u => u = v, .inl ⟨hw, fun W hW => ⟨f, args, hv W, (hk W hW).mono fun e w' ⟨h1, h2⟩ => ⟨v, h1, rfl, h2⟩⟩⟩, fun u hu => by subst hu; exact h⟩
/-- a call whose answer is open -/
theorem walk_open {Q : Act → Prop} {a : Act} {rest : List Oper} {o : Oper} (F : Value → Prop) (f : FuncId) (args : Array Value) (hc : isCall o = true) (hw : Region.wanted o (yielded ops a.tmps) = true)
    (hv : ∀ W, (execOp a.eval o).run P W = .ok (.enter f args) W) (hk : ∀ W, Below w0.heap.size w0 W → Calls P f args W fun e w'' => ∃ v, e = .returned v ∧ F v ∧ Below W.heap.size W w'') (h : ∀ v, F v → walk P ops w0 Q rest (a.put o.dst v)) : walk P ops w0 Q (o :: rest) a := by
  unfold walk
  rw [hc, if_pos rfl]
  exact ⟨F, .inl ⟨hw, fun W hW => ⟨f, args, hv W, hk W hW⟩⟩, h⟩
end
end Go.Bm

/- A region that draws its order, as in the text on regions with calls of open answers, but with worlds of any kind (I), and with operations that write what is there (a builtin append) or whose answers are open together with what is then known of the world (R). -/
namespace Go.Bo
open Go.RowKit Go.Bl
open Go.Bm (waitsT chainC chain_all pair_of_lt not_ready waits_one)

section
variable {P : Program} {ops : Array Oper} {md : Region.Mode} {I : World → Prop} {n0 : Option Nat}

/-- is it a call of a function, an append, the making of a slice? -/
def isOpen (o : Oper) : Bool := match o.op with
  | .call c => match c.callee with
    | .builtin b => match b with
      | .append => true
      | _ => false
    | _ => true
  | .buildSlice _ _ _ => true
  | _ => false
abbrev Sx := St × (World → Prop)
/-- the blocks from n0 on are as they were -/
def Kept (n0 : Option Nat) (W W' : World) : Prop := ∀ n b, n0 = some n → n ≤ b → b < W.heap.size → W'.heap[b]? = W.heap[b]?
theorem Kept.of_below {W W' : World} (h : Below W.heap.size W W') : Kept n0 W W' := fun n b _ _ hb => h.block b hb
theorem Kept.none {W W' : World} : Kept none W W' := fun n b h => by cases h
/-- what is asked of I -/
structure Inv (I : World → Prop) (n0 : Option Nat) : Prop where
  alloc : ∀ W z, I W → I (W.alloc z)
  put : ∀ W W' n b, n0 = some n → I W → W.grownBy W' (some b) → n ≤ b → I W'
  size : ∀ W n, n0 = some n → I W → n ≤ W.heap.size
/-- reckoning: the value v in every world of I -/
def BelV (P : Program) (ops : Array Oper) (I : World → Prop) (o : Oper) (v : Value) (a : Act) : Prop :=
  (Region.wanted o (yielded ops a.tmps) = true ∧ ∀ W, I W → (execOp a.eval o).run P W = .ok (.value v) W ∨ ((execOp a.eval o).run P W = .ok .skip W ∧ v = undef)) ∨ (Region.wanted o (yielded ops a.tmps) = false ∧ v = undef)
/-- what an open operation does -/
def opens (P : Program) (I : World → Prop) (n0 : Option Nat) (W : World) (G : Value → (World → Prop) → Prop) : Result Next → Prop
  | .ok (.value v) W' => ∃ R', G v R' ∧ I W' ∧ R' W' ∧ Kept n0 W W'
  | .ok (.enter f args) W1 => W1 = W ∧ Calls P f args W fun e w'' => ∃ v R', e = .returned v ∧ G v R' ∧ I w'' ∧ R' w'' ∧ Kept n0 W w''
  | _ => False
/-- an open operation -/
def OpenC (P : Program) (ops : Array Oper) (I : World → Prop) (n0 : Option Nat) (R : World → Prop) (o : Oper) (G : Value → (World → Prop) → Prop) (a : Act) : Prop :=
  (∀ v R', G v R' → ∀ W z, R' W → R' (W.alloc z)) ∧ (∃ v R', G v R') ∧ Region.wanted o (yielded ops a.tmps) = true ∧ ∀ W, I W → R W → opens P I n0 W G ((execOp a.eval o).run P W)
theorem BelV.of_same {o : Oper} {v : Value} {a a' : Act} (hy : BelV P ops I o v a) (he : execOp a'.eval o = execOp a.eval o) (hw : Region.wanted o (yielded ops a'.tmps) = Region.wanted o (yielded ops a.tmps)) : BelV P ops I o v a' := by
  unfold BelV at *; rw [he, hw]; exact hy
theorem OpenC.of_same {R : World → Prop} {o : Oper} {G : Value → (World → Prop) → Prop} {a a' : Act} (hy : OpenC P ops I n0 R o G a) (he : execOp a'.eval o = execOp a.eval o) (hw : Region.wanted o (yielded ops a'.tmps) = Region.wanted o (yielded ops a.tmps)) : OpenC P ops I n0 R o G a' := by
  unfold OpenC at *; rw [he, hw]; exact hy
theorem BelV.unique {w0 : World} (hI : I w0) {o : Oper} {u v : Value} {a : Act} (h1 : BelV P ops I o u a) (h2 : BelV P ops I o v a) : u = v := by
  rcases h1 with ⟨a1, b1⟩ | ⟨a1, b1⟩ <;> rcases h2 with ⟨a2, b2⟩ | ⟨a2, b2⟩
  · have c1 := b1 w0 hI
    have c2 := b2 w0 hI
    rcases c1 with c1 | ⟨c1, d1⟩ <;> rcases c2 with c2 | ⟨c2, d2⟩
    · rw [c1] at c2; injection c2 with c2; injection c2
    · rw [c1] at c2; injection c2 with c2; cases c2
    · rw [c1] at c2; injection c2 with c2; cases c2
    · rw [d1, d2]
  · rw [a1] at a2; cases a2
  · rw [a1] at a2; cases a2
  · rw [b1, b2]
/-- the worlds of a state -/
def S (I : World → Prop) (n0 : Option Nat) (z z2 : Obj) : Sx → World → Prop
  | (.fresh, R), W => I W ∧ R W ∧ ∀ W z, R W → R (W.alloc z)
  | (.made b, R), W => (I W ∧ R W ∧ ∀ W z, R W → R (W.alloc z)) ∧ (∃ n, n0 = some n ∧ n ≤ b) ∧ W.heap[b]? = some z
  | (.stored b, _), W => I W ∧ (∃ n, n0 = some n ∧ n ≤ b) ∧ W.heap[b]? = some z2
theorem S.inv {z z2 : Obj} {s : Sx} {W : World} (h : S I n0 z z2 s W) : I W := by
  obtain ⟨s, R⟩ := s
  cases s with
  | fresh => exact h.1
  | made b => exact h.1.1
  | stored b => exact h.1
theorem wpOp_of_V {z z2 : Obj} {i : Nat} {o : Oper} {v : Value} {a : Act} {s : Sx} {W : World} {K' : Act → World → Prop} {Q' : Exit → Act → World → Prop} (hi : ops[i]? = some o) (hy : BelV P ops I o v a) (hS : S I n0 z z2 s W)
    (h : K' (a.put o.dst v) W) : wpOp P ops Q' i K' a W := by
  unfold wpOp
  simp only [hi]
  rcases hy with ⟨hw, hv⟩ | ⟨hw, rfl⟩
  · simp only [hw, if_true]
    refine .inl ?_
    unfold Oper.wp
    rcases hv W hS.inv with hr | ⟨hr, rfl⟩
    · rw [hr]; exact h
    · rw [hr]; exact h
  · simp only [hw]; exact h
def Open (s : St) : Prop := ∀ b, s ≠ .stored b
theorem S.turn {z z2 : Obj} {s : St} {R R' : World → Prop} {W W' : World} (hs : Open s) (h : S I n0 z z2 (s, R) W) (hI : I W') (hR : R' W') (hal : ∀ W z, R' W → R' (W.alloc z)) (hk : Kept n0 W W') : S I n0 z z2 (s, R') W' := by
  cases s with
  | fresh => exact ⟨hI, hR, hal⟩
  | made b =>
    obtain ⟨n, hn, hnb⟩ := h.2.1
    exact ⟨⟨hI, hR, hal⟩, h.2.1, (hk n b hn hnb (Array.getElem?_eq_some_iff.1 h.2.2).1).trans h.2.2⟩
  | stored b => exact absurd rfl (hs b)
theorem S.knows {z z2 : Obj} {s : St} {R : World → Prop} {W : World} (hs : Open s) (h : S I n0 z z2 (s, R) W) : R W := by
  cases s with
  | fresh => exact h.2.1
  | made b => exact h.1.2.1
  | stored b => exact absurd rfl (hs b)
theorem wpOp_of_C {z z2 : Obj} {i : Nat} {o : Oper} {G : Value → (World → Prop) → Prop} {a : Act} {s : St} {R : World → Prop} {W : World} {K' : Act → World → Prop} {Q' : Exit → Act → World → Prop} (hi : ops[i]? = some o) (hs : Open s) (hy : OpenC P ops I n0 R o G a) (hS : S I n0 z z2 (s, R) W)
    (h : ∀ v R' W', G v R' → S I n0 z z2 (s, R') W' → K' (a.put o.dst v) W') : wpOp P ops Q' i K' a W := by
  obtain ⟨hal, _, hw, hv⟩ := hy
  unfold wpOp
  simp only [hi]
  simp only [hw, if_true]
  refine .inl ?_
  unfold Oper.wp
  have h3 := hv W hS.inv (hS.knows hs)
  generalize (execOp a.eval o).run P W = r at *
  cases r with
  | ok n w' =>
    cases n <;> simp only [opens] at h3 <;> simp only [Oper.upon]
    case value u =>
      obtain ⟨R', h4, h5, h6, h7⟩ := h3
      exact h _ _ _ h4 (hS.turn hs h5 h6 (hal _ _ h4) h7)
    case enter f args =>
      obtain ⟨rfl, hc⟩ := h3
      exact hc.mono fun e w'' ⟨v, R', he, h4, h5, h6, h7⟩ => by subst he; exact h _ _ _ h4 (hS.turn hs h5 h6 (hal _ _ h4) h7)
  | halt x w' => simp only [opens] at h3

/-- operation i of the head comes up -/
def aOp (P : Program) (ops : Array Oper) (I : World → Prop) (n0 : Option Nat) (sp : Option Sp) (i : Nat) (K : Act → Sx → Prop) (a : Act) (s : Sx) : Prop :=
  (∃ x, sp = some x ∧ x.p = i ∧ ∀ b, K (a.put x.dp (.pointer (some ⟨b, 0, none⟩))) (.made b, s.2)) ∨
  (∃ x b, sp = some x ∧ x.p ≠ i ∧ x.q = i ∧ s.1 = .made b ∧ Writes P x.oq a x.z x.z2 b ∧ K (a.put x.oq.dst undef) (.stored b, s.2)) ∨
  ((∀ x, sp = some x → x.p ≠ i ∧ x.q ≠ i) ∧ Open s.1 ∧ ∃ oi G, ops[i]? = some oi ∧ isOpen oi = true ∧ OpenC P ops I n0 s.2 oi G a ∧ ∀ v R', G v R' → K (a.put oi.dst v) (s.1, R')) ∨
  ((∀ x, sp = some x → x.p ≠ i ∧ x.q ≠ i) ∧ ∃ oi v, ops[i]? = some oi ∧ isOpen oi = false ∧ BelV P ops I oi v a ∧ K (a.put oi.dst v) s)
variable {sp : Option Sp}
theorem aOp_mono {i : Nat} {a : Act} {s : Sx} {K K' : Act → Sx → Prop} (h : ∀ a s, K a s → K' a s) (hh : aOp P ops I n0 sp i K a s) : aOp P ops I n0 sp i K' a s := by
  rcases hh with ⟨x, h1, h2, h3⟩ | ⟨x, b, h1, h2, h3, h4, h5, h6⟩ | ⟨h1, h0, oi, G, h2, h3, h4, h5⟩ | ⟨h1, oi, v, h2, h3, h4, h5⟩
  · exact .inl ⟨x, h1, h2, fun b => h _ _ (h3 b)⟩
  · exact .inr (.inl ⟨x, b, h1, h2, h3, h4, h5, h _ _ h6⟩)
  · exact .inr (.inr (.inl ⟨h1, h0, oi, G, h2, h3, h4, fun v R' hv => h _ _ (h5 v R' hv)⟩))
  · exact .inr (.inr (.inr ⟨h1, oi, v, h2, h3, h4, h _ _ h5⟩))
theorem aOp_putV {j : Nat} {oi oj : Oper} {v : Value} (hj : ops[j]? = some oj) (hsp : ∀ x, sp = some x → SpOk P ops x) (hap : oi.apart ops oj = true)
    (hsi : ∀ cs b, oi.op ≠ .select cs b) (hsj : ∀ cs b, oj.op ≠ .select cs b) {K : Act → Sx → Prop} {a : Act} {s : Sx}
    (hy : BelV P ops I oi v a) (h : aOp P ops I n0 sp j K (a.put oi.dst v) s) :
    aOp P ops I n0 sp j (fun a' s' => BelV P ops I oi v a' ∧ K (a'.put oi.dst v) s') a s := by
  obtain ⟨h1, h2, h3⟩ := Oper.apart_spec hap
  have keep : ∀ (a : Act), BelV P ops I oi v a → ∀ u, BelV P ops I oi v (a.put oj.dst u) := fun a hy u =>
    hy.of_same (execOp_put oi hsi a oj.dst u h3) (wanted_put oi a oj.dst u h3)
  rcases h with ⟨x, e1, e2, e3⟩ | ⟨x, b, e1, e2, e3, e4, e5, e6⟩ | ⟨e1, e0, ok, G, hk, hcl, hb, hn⟩ | ⟨e1, ok, u, hk, hcl, hb, hn⟩
  · obtain ⟨o, ho, hd, _, _⟩ := (hsp x e1).op
    rw [e2, hj] at ho
    injection ho with ho
    subst ho
    refine .inl ⟨x, e1, e2, fun b => ?_⟩
    have h4 := e3 b
    rw [← hd] at h4 ⊢
    exact ⟨keep a hy _, by rw [← Act.put_comm a v _ h2]; exact h4⟩
  · have ho := (hsp x e1).oq
    rw [e3, hj] at ho
    injection ho with ho
    refine .inr (.inl ⟨x, b, e1, e2, e3, e4, ?_, ?_⟩)
    · unfold Writes at *
      rw [← ho] at e5 ⊢
      rwa [execOp_put oj hsj a oi.dst v h1] at e5
    · rw [← ho] at e6 ⊢
      exact ⟨keep a hy _, by rw [← Act.put_comm a v _ h2]; exact e6⟩
  · rw [hj] at hk
    injection hk with hk
    subst hk
    exact .inr (.inr (.inl ⟨e1, e0, oj, G, hj, hcl, hb.of_same (execOp_put oj hsj a oi.dst v h1).symm (wanted_put oj a oi.dst v h1).symm, fun u R' hu => ⟨keep a hy u, by rw [← Act.put_comm a v u h2]; exact hn u R' hu⟩⟩))
  · rw [hj] at hk
    injection hk with hk
    subst hk
    exact .inr (.inr (.inr ⟨e1, oj, u, hj, hcl, hb.of_same (execOp_put oj hsj a oi.dst v h1).symm (wanted_put oj a oi.dst v h1).symm, keep a hy u, by rw [← Act.put_comm a v u h2]; exact hn⟩))
/-- an open operation is taken first: what else comes up is no open one and no store -/
theorem aOp_putC {w0 : World} (hI : I w0) {j : Nat} {oi oj : Oper} {G : Value → (World → Prop) → Prop} (hj : ops[j]? = some oj) (hsp : ∀ x, sp = some x → SpOk P ops x) (hnc : isOpen oj = false) (hnq : ∀ x, sp = some x → x.q ≠ j) (hap : oi.apart ops oj = true)
    (hsi : ∀ cs b, oi.op ≠ .select cs b) (hsj : ∀ cs b, oj.op ≠ .select cs b) {K : Act → Sx → Prop} {a : Act} {s : Sx}
    (hs : Open s.1) (hy : OpenC P ops I n0 s.2 oi G a) (h : ∀ v R', G v R' → aOp P ops I n0 sp j K (a.put oi.dst v) (s.1, R')) :
    aOp P ops I n0 sp j (fun a' s' => Open s'.1 ∧ OpenC P ops I n0 s'.2 oi G a' ∧ ∀ v R', G v R' → K (a'.put oi.dst v) (s'.1, R')) a s := by
  obtain ⟨h1, h2, h3⟩ := Oper.apart_spec hap
  have keep : ∀ (a : Act), OpenC P ops I n0 s.2 oi G a → ∀ u, OpenC P ops I n0 s.2 oi G (a.put oj.dst u) := fun a hy u =>
    hy.of_same (execOp_put oi hsi a oj.dst u h3) (wanted_put oi a oj.dst u h3)
  obtain ⟨v0, R0, hv0⟩ := hy.2.1
  by_cases hp : ∃ x, sp = some x ∧ x.p = j
  · obtain ⟨x, e1, e2⟩ := hp
    obtain ⟨o, ho, hd, _, _⟩ := (hsp x e1).op
    rw [e2, hj] at ho
    injection ho with ho
    subst ho
    refine .inl ⟨x, e1, e2, fun b => ⟨fun b' e => (by cases e), by rw [← hd]; exact keep a hy _, fun v R' hv => ?_⟩⟩
    rcases h v R' hv with ⟨y, d1, d2, d3⟩ | ⟨y, b', d1, d2, d3, _⟩ | ⟨d1, _⟩ | ⟨d1, _⟩
    · rw [e1] at d1; injection d1 with d1; subst d1
      have h4 := d3 b
      rw [← hd] at h4 ⊢
      rw [← Act.put_comm a v _ h2]; exact h4
    · exact absurd d3 (hnq y d1)
    · exact absurd e2 (d1 x e1).1
    · exact absurd e2 (d1 x e1).1
  · have hno : ∀ x, sp = some x → x.p ≠ j ∧ x.q ≠ j := fun x hx => ⟨fun e => hp ⟨x, hx, e⟩, hnq x hx⟩
    have each : ∀ v R', G v R' → ∃ u, BelV P ops I oj u a ∧ K ((a.put oi.dst v).put oj.dst u) (s.1, R') := by
      intro v R' hv
      rcases h v R' hv with ⟨y, d1, d2, _⟩ | ⟨y, b', d1, d2, d3, _⟩ | ⟨_, _, ok, G', hk, hcl, _⟩ | ⟨_, ok, u, hk, hcl, hb, hn⟩
      · exact absurd d2 (hno y d1).1
      · exact absurd d3 (hnq y d1)
      · rw [hj] at hk; injection hk with hk; subst hk; rw [hnc] at hcl; cases hcl
      · rw [hj] at hk; injection hk with hk; subst hk
        exact ⟨u, hb.of_same (execOp_put oj hsj a oi.dst v h1).symm (wanted_put oj a oi.dst v h1).symm, hn⟩
    obtain ⟨u, hu, _⟩ := each v0 R0 hv0
    refine .inr (.inr (.inr ⟨hno, oj, u, hj, hnc, hu, hs, keep a hy u, fun v R' hv => ?_⟩))
    obtain ⟨u', hu', hK⟩ := each v R' hv
    rw [hu.unique hI hu', ← Act.put_comm a v u' h2]; exact hK

/-- whatever order is picked, to the end of the head -/
def wpAnyA (P : Program) (md : Region.Mode) (ops : Array Oper) (I : World → Prop) (n0 : Option Nat) (sp : Option Sp) (n : Nat) (L : Array Bool → Act → Sx → Prop) : Nat → Array Bool → Act → Sx → Prop
  | 0, listed, a, s => L listed a s
  | f + 1, listed, a, s =>
    Region.ready md ops listed ≠ [] ∧ ∀ i ∈ Region.ready md ops listed, i < n ∧ aOp P ops I n0 sp i (wpAnyA P md ops I n0 sp n L f (listed.setIfInBounds i true)) a s
theorem wpAny_of_headA (hInv : Inv I n0) (hsn : ∀ x, sp = some x → ∃ n, n0 = some n) {z z2 : Obj} {n g : Nat} {L : Array Bool → Act → Sx → Prop} {Q' : Exit → Act → World → Prop} (hL : ∀ listed a s W, L listed a s → S I n0 z z2 s W → wpAny P md ops Q' g listed a W)
    (hsp : ∀ x, sp = some x → SpOk P ops x ∧ x.z = z ∧ x.z2 = z2) :
    ∀ (f : Nat) (listed : Array Bool) (a : Act) (s : Sx) (W : World), S I n0 z z2 s W → ((∀ x, sp = some x → listed.getD x.p true = false) → s.1 = .fresh) → wpAnyA P md ops I n0 sp n L f listed a s → wpAny P md ops Q' (f + g) listed a W
  | 0, listed, a, s, W, hS, _, h => by rw [Nat.zero_add]; exact hL _ _ _ _ h hS
  | f + 1, listed, a, s, W, hS, hs, h => by
    rw [show f + 1 + g = (f + g) + 1 by omega]
    refine ⟨fun h0 => absurd h0 h.1, fun i hi => ?_⟩
    have hun := (mem_ready.1 hi).1
    have hlt : i < listed.size := by
      rcases Nat.lt_or_ge i listed.size with h' | h'
      · exact h'
      · rw [Array.getD_eq_getD_getElem?, Array.getElem?_eq_none h'] at hun; cases hun
    rcases (h.2 i hi).2 with ⟨x, e1, e2, e3⟩ | ⟨x, b, e1, e2, e3, e4, e5, e6⟩ | ⟨e1, e0, oi, G, hoi, _, hb, hk⟩ | ⟨e1, oi, v, hoi, _, hb, hk⟩
    · obtain ⟨hx, hz, hz2⟩ := hsp x e1
      obtain ⟨o, ho, hd, hg, hrun⟩ := hx.op
      rw [e2] at ho
      obtain ⟨s, R⟩ := s
      obtain ⟨n', hn'⟩ := hsn x e1
      have hsf : s = .fresh := hs (fun y hy => by rw [e1] at hy; injection hy with hy; subst hy; rw [e2]; exact hun)
      subst hsf
      unfold wpOp
      simp only [ho]
      rw [if_pos (by simp [Region.wanted, hg])]
      refine .inl ?_
      unfold Oper.wp
      rw [hrun, Oper.upon_value, hd, hz]
      have hB : I W ∧ R W ∧ ∀ W z, R W → R (W.alloc z) := hS
      refine wpAny_of_headA hInv hsn hL hsp f _ _ (.made W.heap.size, R) _ ⟨⟨hInv.alloc _ _ hB.1, hB.2.2 _ _ hB.2.1, hB.2.2⟩, ⟨n', hn', hInv.size _ _ hn' hB.1⟩, World.alloc_heap_new W z⟩ (fun hc => ?_) (e3 W.heap.size)
      have h2 := hc x e1
      rw [e2, getD_set_self hlt] at h2; cases h2
    · obtain ⟨hx, hz, hz2⟩ := hsp x e1
      have ho := hx.oq
      rw [e3] at ho
      obtain ⟨s, R⟩ := s
      obtain rfl : s = .made b := e4
      unfold wpOp
      simp only [ho]
      rw [if_pos (by simp [Region.wanted, hx.gq])]
      refine .inl ?_
      obtain ⟨W', hr, hg, hb⟩ := e5 W (by rw [hz]; exact hS.2.2)
      unfold Oper.wp
      rw [hr, Oper.upon_skip]
      refine wpAny_of_headA hInv hsn hL hsp f _ _ (.stored b, R) _ ⟨by obtain ⟨n', hn', hnb'⟩ := hS.2.1; exact hInv.put _ _ n' b hn' hS.1.1 hg hnb', hS.2.1, by rw [← hz2]; exact hb⟩ (fun hc => ?_) e6
      have h2 := hc x e1
      have hne : i ≠ x.p := fun e => e2 e.symm
      rw [getD_set_ne true hne] at h2
      have := hs (fun y hy => by rw [e1] at hy; injection hy with hy; subst hy; exact h2)
      cases this
    · obtain ⟨s, R⟩ := s
      refine wpOp_of_C hoi e0 hb hS fun v R' W' hv hS' => wpAny_of_headA hInv hsn hL hsp f _ _ (s, R') _ hS' (fun hc => hs fun x hx => ?_) (hk v R' hv)
      have h2 := hc x hx
      have hne : i ≠ x.p := fun e2 => (e1 x hx).1 e2.symm
      rwa [getD_set_ne true hne] at h2
    · refine wpOp_of_V hoi hb hS (wpAny_of_headA hInv hsn hL hsp f _ _ s _ hS (fun hc => hs fun x hx => ?_) hk)
      have h2 := hc x hx
      have hne : i ≠ x.p := fun e2 => (e1 x hx).1 e2.symm
      rwa [getD_set_ne true hne] at h2

theorem wpAnyA_firstV {n i : Nat} {oi : Oper} {v : Value} {L : Array Bool → Act → Sx → Prop} (hi : ops[i]? = some oi) (hcl : isOpen oi = false) (hip : ∀ x, sp = some x → x.p ≠ i ∧ x.q ≠ i) (hsp : ∀ x, sp = some x → SpOk P ops x)
    (hsel : ∀ (j : Nat) (o : Oper) cs b, ops[j]? = some o → o.op ≠ .select cs b)
    (hs : Region.sinkB md ops n = true) (hc : Region.chainB md ops n = true) (hn : n < ops.size) (hin : i < n)
    (hdone : ∀ listed a s, L listed a s → ∀ j ∈ Region.ready md ops listed, n ≤ j) :
    ∀ (f : Nat) (listed : Array Bool) (a : Act) (s : Sx), HeadInv md ops n listed →
      (∀ j oj, ops[j]? = some oj → j ≠ i → listed.getD j true = false → (∀ e ∈ oj.after, Region.binds md e = true → e.on ≠ i) → oi.apart ops oj = true) →
      i ∈ Region.ready md ops listed → BelV P ops I oi v a →
      wpAnyA P md ops I n0 sp n L f (listed.setIfInBounds i true) (a.put oi.dst v) s → wpAnyA P md ops I n0 sp n L (f + 1) listed a s := by
  have own : ∀ {K : Act → Sx → Prop} {a : Act} {s : Sx}, BelV P ops I oi v a → K (a.put oi.dst v) s → aOp P ops I n0 sp i K a s := fun hy hK => .inr (.inr (.inr ⟨hip, oi, v, hi, hcl, hy, hK⟩))
  intro f
  induction f with
  | zero =>
    intro listed a s inv _ hr hy H
    have hun := (mem_ready.1 hr).1
    refine ⟨fun h => (by rw [h] at hr; cases hr), fun j hj => ?_⟩
    have hjn : j < n := by
      rcases Nat.lt_or_ge j n with h | h
      · exact h
      · exact absurd hj (tail_waits hs hc hn inv _ i rfl hin hun j h)
    refine ⟨hjn, ?_⟩
    by_cases hji : j = i
    · subst hji; exact own hy H
    · have := hdone _ _ _ H j (ready_mono hj hji)
      omega
  | succ f ih =>
    intro listed a s inv hfree hr hy H
    have hun := (mem_ready.1 hr).1
    refine ⟨fun h => (by rw [h] at hr; cases hr), fun j hj => ?_⟩
    have hjn : j < n := by
      rcases Nat.lt_or_ge j n with h | h
      · exact h
      · exact absurd hj (tail_waits hs hc hn inv _ i rfl hin hun j h)
    refine ⟨hjn, ?_⟩
    by_cases hji : j = i
    · subst hji; exact own hy H
    · have h1 := (H.2 j (ready_mono hj hji)).2
      obtain ⟨hjun, oj, hoj, hall⟩ := mem_ready.1 hj
      have hnot : ∀ e ∈ oj.after, Region.binds md e = true → e.on ≠ i := fun e he hb heq => by
        have h1 := hall e he hb
        rw [heq, getD_both hun] at h1
        cases h1
      have h2 := aOp_putV hoj hsp (hfree j oj hoj hji hjun hnot) (fun cs b => hsel i oi cs b hi) (fun cs b => hsel j oj cs b hoj) hy h1
      have hfree' : ∀ k ok, ops[k]? = some ok → k ≠ i → (listed.setIfInBounds j true).getD k true = false →
          (∀ e ∈ ok.after, Region.binds md e = true → e.on ≠ i) → oi.apart ops ok = true := fun k ok hk hki hun hno => by
        refine hfree k ok hk hki ?_ hno
        by_cases hjk : j = k
        · subst hjk; exact hjun
        · rw [getD_set_ne true hjk] at hun; exact hun
      refine aOp_mono (fun a' s' h3 => ih (listed.setIfInBounds j true) a' s' (inv.set hj hjn) hfree' (ready_mono hr (Ne.symm hji)) h3.1 ?_) h2
      rw [Array.setIfInBounds_comm _ _ hji]
      exact h3.2

def callsOf (ops : Array Oper) : List Nat := (List.range ops.size).filter fun j => (ops[j]?.map isOpen).getD false
/-- the calls come up in one order, the store behind them all -/
def orderB (md : Region.Mode) (ops : Array Oper) (q : Option Nat) : Bool :=
  chainC md ops (callsOf ops) && match q with
    | none => true
    | some q => (callsOf ops).all fun c => Region.waitsFor md ops q c
theorem orderB_spec {q : Option Nat} (h : orderB md ops q = true) {i j : Nat} (hi : i ∈ callsOf ops) (hij : i < j) (hj : (ops[j]?.map isOpen).getD false = true ∨ q = some j) : ∃ f, waitsT md ops i f j = true := by
  unfold orderB at h
  rw [Bool.and_eq_true] at h
  rcases hj with hj | hj
  · have hjs : j < ops.size := by
      apply Classical.byContradiction; intro hge
      rw [Array.getElem?_eq_none (by omega)] at hj; cases hj
    refine pair_of_lt ?_ (chain_all _ h.1) i j hi (by unfold callsOf; rw [List.mem_filter]; exact ⟨List.mem_range.2 hjs, hj⟩) hij
    unfold callsOf
    exact List.Pairwise.filter _ (List.pairwise_lt_range)
  · subst hj
    have h2 := List.all_eq_true.1 h.2 i hi
    exact ⟨1, waits_one h2⟩

theorem wpAnyA_firstC {w0 : World} (hI : I w0) {n i : Nat} {oi : Oper} {G : Value → (World → Prop) → Prop} {L : Array Bool → Act → Sx → Prop} (hi : ops[i]? = some oi) (hcl : isOpen oi = true) (hip : ∀ x, sp = some x → x.p ≠ i ∧ x.q ≠ i) (hsp : ∀ x, sp = some x → SpOk P ops x)
    (hsel : ∀ (j : Nat) (o : Oper) cs b, ops[j]? = some o → o.op ≠ .select cs b)
    (hs : Region.sinkB md ops n = true) (hc : Region.chainB md ops n = true) (hn : n < ops.size) (hin : i < n)
    (hdone : ∀ listed a s, L listed a s → ∀ j ∈ Region.ready md ops listed, n ≤ j) :
    ∀ (f : Nat) (listed : Array Bool) (a : Act) (s : Sx), HeadInv md ops n listed →
      (∀ j oj, ops[j]? = some oj → j ≠ i → listed.getD j true = false → (∀ e ∈ oj.after, Region.binds md e = true → e.on ≠ i) → oi.apart ops oj = true) →
      (∀ j, j ≠ i → listed.getD j true = false → (∃ f, waitsT md ops i f j = true) ∨ ((ops[j]?.map isOpen).getD false = false ∧ ∀ x, sp = some x → x.q ≠ j)) →
      i ∈ Region.ready md ops listed → Open s.1 → OpenC P ops I n0 s.2 oi G a →
      (∀ v R', G v R' → wpAnyA P md ops I n0 sp n L f (listed.setIfInBounds i true) (a.put oi.dst v) (s.1, R')) → wpAnyA P md ops I n0 sp n L (f + 1) listed a s := by
  have own : ∀ {K : Act → Sx → Prop} {a : Act} {s : Sx}, Open s.1 → OpenC P ops I n0 s.2 oi G a → (∀ v R', G v R' → K (a.put oi.dst v) (s.1, R')) → aOp P ops I n0 sp i K a s := fun hs hy hK => .inr (.inr (.inl ⟨hip, hs, oi, G, hi, hcl, hy, hK⟩))
  intro f
  induction f with
  | zero =>
    intro listed a s inv _ _ hr ho hy H
    have hun := (mem_ready.1 hr).1
    refine ⟨fun h => (by rw [h] at hr; cases hr), fun j hj => ?_⟩
    have hjn : j < n := by
      rcases Nat.lt_or_ge j n with h | h
      · exact h
      · exact absurd hj (tail_waits hs hc hn inv _ i rfl hin hun j h)
    refine ⟨hjn, ?_⟩
    by_cases hji : j = i
    · subst hji; exact own ho hy H
    · obtain ⟨v0, R0, hv0⟩ := hy.2.1
      have := hdone _ _ _ (H v0 R0 hv0) j (ready_mono hj hji)
      omega
  | succ f ih =>
    intro listed a s inv hfree hcc hr ho hy H
    have hun := (mem_ready.1 hr).1
    refine ⟨fun h => (by rw [h] at hr; cases hr), fun j hj => ?_⟩
    have hjn : j < n := by
      rcases Nat.lt_or_ge j n with h | h
      · exact h
      · exact absurd hj (tail_waits hs hc hn inv _ i rfl hin hun j h)
    refine ⟨hjn, ?_⟩
    by_cases hji : j = i
    · subst hji; exact own ho hy H
    · have h1 := fun v R' hv => ((H v R' hv).2 j (ready_mono hj hji)).2
      obtain ⟨hjun, oj, hoj, hall⟩ := mem_ready.1 hj
      have hnot : ∀ e ∈ oj.after, Region.binds md e = true → e.on ≠ i := fun e he hb heq => by
        have h1 := hall e he hb
        rw [heq, getD_both hun] at h1
        cases h1
      obtain ⟨hnc, hnq⟩ : isOpen oj = false ∧ ∀ x, sp = some x → x.q ≠ j := by
        rcases hcc j hji hjun with ⟨f', hw⟩ | h
        · exact absurd hj (not_ready inv hun hw)
        · rw [hoj] at h; exact ⟨by simpa using h.1, h.2⟩
      have h2 := aOp_putC hI hoj hsp hnc hnq (hfree j oj hoj hji hjun hnot) (fun cs b => hsel i oi cs b hi) (fun cs b => hsel j oj cs b hoj) ho hy h1
      have old : ∀ k, (listed.setIfInBounds j true).getD k true = false → listed.getD k true = false := fun k hun => by
        by_cases hjk : j = k
        · subst hjk; exact hjun
        · rw [getD_set_ne true hjk] at hun; exact hun
      refine aOp_mono (fun a' s' h3 => ih (listed.setIfInBounds j true) a' s' (inv.set hj hjn) (fun k ok hk hki hun hno => hfree k ok hk hki (old k hun) hno) (fun k hk hun => hcc k hk (old k hun)) (ready_mono hr (Ne.symm hji)) h3.1 h3.2.1 ?_) h2
      rw [Array.setIfInBounds_comm _ _ hji]
      exact h3.2.2

/-! ### the walk of the head -/
/-- the head's operations in the order of the text -/
def walk (P : Program) (ops : Array Oper) (I : World → Prop) (n0 : Option Nat) (Q : Act → (World → Prop) → Prop) : List Oper → (World → Prop) → Act → Prop
  | [], R, a => Q a R
  | o :: rest, R, a => if isOpen o = true then ∃ G, OpenC P ops I n0 R o G a ∧ ∀ v R', G v R' → walk P ops I n0 Q rest R' (a.put o.dst v) else ∃ v, BelV P ops I o v a ∧ walk P ops I n0 Q rest R (a.put o.dst v)
def headB (md : Region.Mode) (ops : Array Oper) (n g : Nat) (sp : Option (Nat × Nat)) : List Nat → Array Bool → Bool
  | [], listed => match sp with
    | none => Region.seqB md ops g n listed
    | some (i, q) => decide (Region.ready md ops listed = [i]) && decide (i < n) && decide (Region.ready md ops (listed.setIfInBounds i true) = [q]) && decide (q < n) && decide (i ≠ q) && Region.seqB md ops g n ((listed.setIfInBounds i true).setIfInBounds q true)
  | k :: ks, listed => (Region.ready md ops listed).contains k && Region.free md ops listed k && decide (k < n) && decide (∀ x ∈ sp, x.1 ≠ k ∧ x.2 ≠ k) && (!(ops[k]?.map isOpen).getD false || (List.range k).all fun j => listed.getD j false) && headB md ops n g sp ks (listed.setIfInBounds k true)
def allB (md : Region.Mode) (ops : Array Oper) (n : Nat) (sp : Option (Nat × Nat)) (ks : List Nat) : Bool :=
  Region.noSelect ops && decide (n < ops.size) && Region.sinkB md ops n && Region.chainB md ops n && decide (ks.length + more sp = n) && orderB md ops (sp.map (·.2)) && headB md ops n (ops.size - n) sp ks (Array.replicate ops.size false)

theorem wpAnyA_lex {w0 : World} (hI : I w0) {n g : Nat} {L : Act → Sx → Prop} (hsel : Region.noSelect ops = true) (hs : Region.sinkB md ops n = true) (hc : Region.chainB md ops n = true) (hn : n < ops.size) (hsp : ∀ x, sp = some x → SpOk P ops x) (hord : orderB md ops (sp.map fun x => x.q) = true) :
    ∀ (os : List Oper) (k : Nat) (listed : Array Bool) (R : World → Prop) (a : Act), (∀ j, j < os.length → os[j]? = ops[k + j]?) → HeadInv md ops n listed → headB md ops n g (sp.map fun x => (x.p, x.q)) (List.range' k os.length) listed = true →
    walk P ops I n0 (fun a' R => match sp with
      | none => L a' (.fresh, R)
      | some x => ∀ b, Writes P x.oq (a'.put x.dp (.pointer (some ⟨b, 0, none⟩))) x.z x.z2 b ∧ L ((a'.put x.dp (.pointer (some ⟨b, 0, none⟩))).put x.oq.dst undef) (.stored b, R)) os R a →
    wpAnyA P md ops I n0 sp n (fun listed' a' s' => Region.seqB md ops g n listed' = true ∧ L a' s') (os.length + more (sp.map fun x => (x.p, x.q))) listed a (.fresh, R)
  | [], k, listed, R, a, _, inv, hB, h => by
    cases sp with
    | none => exact ⟨hB, h⟩
    | some x =>
      simp only [headB, List.length_nil, List.range'_zero, Option.map_some, Bool.and_eq_true, decide_eq_true_eq] at hB
      obtain ⟨⟨⟨⟨⟨h1, h2⟩, h3⟩, h4⟩, h5⟩, h6⟩ := hB
      show wpAnyA P md ops I n0 (some x) n _ 2 listed a (.fresh, R)
      refine ⟨by rw [h1]; simp, fun j hj => ?_⟩
      rw [h1] at hj
      have hji : j = x.p := by simpa using hj
      subst hji
      refine ⟨h2, .inl ⟨x, rfl, rfl, fun b => ⟨by rw [h3]; simp, fun j hj => ?_⟩⟩⟩
      rw [h3] at hj
      have hji : j = x.q := by simpa using hj
      subst hji
      exact ⟨h4, .inr (.inl ⟨x, b, rfl, h5, rfl, rfl, (h b).1, h6, (h b).2⟩)⟩
  | o :: os, k, listed, R, a, hj, inv, hB, h => by
    rw [List.length_cons, List.range'_succ] at hB
    simp only [headB, Bool.and_eq_true, decide_eq_true_eq] at hB
    obtain ⟨⟨⟨⟨⟨hr, hf⟩, hkn⟩, hkp⟩, hcb⟩, hB'⟩ := hB
    have ho : ops[k]? = some o := by have := hj 0 (by simp); simpa using this.symm
    have hr' : k ∈ Region.ready md ops listed := by simpa using hr
    have hip : ∀ x, sp = some x → x.p ≠ k ∧ x.q ≠ k := fun x hx => hkp (x.p, x.q) (by rw [hx]; rfl)
    have hnext : ∀ j, j < os.length → os[j]? = ops[k + 1 + j]? := fun j hj' => by have := hj (j + 1) (by simp; omega); simpa [Nat.add_assoc, Nat.add_comm 1 j] using this
    rw [show (o :: os).length + more (sp.map fun x => (x.p, x.q)) = (os.length + more (sp.map fun x => (x.p, x.q))) + 1 by simp; omega]
    unfold walk at h
    cases hcl : isOpen o
    · rw [hcl, if_neg (by simp)] at h
      obtain ⟨v, hy, hK⟩ := h
      exact wpAnyA_firstV ho hcl hip hsp (Region.noSelect_spec hsel) hs hc hn hkn (fun listed' a' s' hL => seqB_ready hL.1) _ listed a (.fresh, R) inv (Region.free_spec ho hf) hr' hy
        (wpAnyA_lex hI hsel hs hc hn hsp hord os (k + 1) _ R _ hnext (inv.set hr' hkn) hB' hK)
    · rw [hcl, if_pos rfl] at h
      obtain ⟨G, hy, hK⟩ := h
      rw [ho] at hcb
      simp only [Option.map_some, Option.getD_some, hcl, Bool.not_true, Bool.false_or] at hcb
      refine wpAnyA_firstC hI ho hcl hip hsp (Region.noSelect_spec hsel) hs hc hn hkn (fun listed' a' s' hL => seqB_ready hL.1) _ listed a (.fresh, R) inv (Region.free_spec ho hf) (fun j hjk hun => ?_) hr' (fun b e => by cases e) hy
        (fun v R' hv => wpAnyA_lex hI hsel hs hc hn hsp hord os (k + 1) _ R' _ hnext (inv.set hr' hkn) hB' (hK v R' hv))
      rw [List.all_eq_true] at hcb
      by_cases hjk2 : j < k
      · have h1 := hcb j (List.mem_range.2 hjk2)
        rw [getD_both hun] at h1; cases h1
      · by_cases hx : (ops[j]?.map isOpen).getD false = true ∨ (sp.map fun x => x.q) = some j
        · refine .inl (orderB_spec hord ?_ (by omega) hx)
          unfold callsOf; rw [List.mem_filter]
          exact ⟨List.mem_range.2 (by omega), by rw [ho]; exact hcl⟩
        · refine .inr ⟨?_, fun x hx2 e => hx (.inr ?_)⟩
          · cases hb : (ops[j]?.map isOpen).getD false
            · rfl
            · exact absurd (.inl hb) hx
          · rw [hx2]; simp [e]
theorem walk_mono {Q1 Q2 : Act → (World → Prop) → Prop} (hq : ∀ a R, Q1 a R → Q2 a R) (os : List Oper) : ∀ R a, walk P ops I n0 Q1 os R a → walk P ops I n0 Q2 os R a := by
  induction os with
  | nil => exact fun R a h => hq a R h
  | cons o os ih =>
    intro R a h
    unfold walk at h ⊢
    split
    · rename_i hc
      rw [if_pos hc] at h
      obtain ⟨G, h1, h2⟩ := h
      exact ⟨G, h1, fun v R' hv => ih _ _ (h2 v R' hv)⟩
    · rename_i hc
      rw [if_neg hc] at h
      obtain ⟨v, h1, h2⟩ := h
      exact ⟨v, h1, ih _ _ h2⟩

/-- a region whose first n operations are its head -/
theorem wp_region_head {id : Nat} {Q : Exit → Act → World → Prop} {a : Act} {w : World} {l : List Oper} (I : World → Prop) (hInv : Inv I none) (hI : I { w with drawn := w.drawn + 1 }) (n : Nat) (hm : P.follows .mixedOrders = true) (hB : (decide (n ≤ l.length) && allB .any l.toArray n none (List.range' 0 n)) = true)
    (h : walk P l.toArray I none (fun a' R => ∀ w', I w' → R w' → wpList P l.toArray Q (l.drop n) a' w') (l.take n) (fun _ => True) a) : (Code.region id l.toArray true).wp P Q a w := by
  simp only [Bool.and_eq_true, decide_eq_true_eq, allB] at hB
  obtain ⟨hnl, ⟨⟨⟨⟨⟨hsel, hn⟩, hs⟩, hc⟩, hlen⟩, hord⟩, hlex⟩ := hB
  have hdl : (l.drop n).length = l.toArray.size - n := by simp
  have htl : (l.take n).length = n := by simp; omega
  have inv0 : HeadInv .any l.toArray n (Array.replicate l.toArray.size false) :=
    ⟨by simp, fun j oj _ hl => (by rw [getD_replicate_false] at hl; cases hl), fun t _ ht => getD_in (by simpa using ht) (getD_replicate_false _ _)⟩
  have H := wpAnyA_lex (P := P) (I := I) (n0 := none) hI (sp := none) (md := .any) (g := l.toArray.size - n) (L := fun a' s => ∀ w', S I none (.deferred none) (.deferred none) s w' → wpList P l.toArray Q (l.drop n) a' w') hsel hs hc hn (fun x e => by cases e) hord (l.take n) 0 _ _ a (fun j hj => by rw [htl] at hj; simp [hj]) inv0 (by rw [htl]; exact hlex) (walk_mono (fun a' R h' w' hS => h' w' hS.1 hS.2.1) _ _ a h)
  refine wp_region_any hm ?_
  have := wpAny_of_headA hInv (fun x e => by cases e) (z := .deferred none) (z2 := .deferred none) (Q' := Q) (g := l.toArray.size - n) (fun listed a' s W hL hS => by
    have := wpAny_of_seq (md := .any) (Q' := Q) (l.drop n) n listed a' W (fun j => by simp [List.getElem?_drop]) (by rw [hdl]; exact hL.1) (hL.2 W hS)
    rwa [hdl] at this) (fun i e => by cases e) _ _ _ (.fresh, fun _ => True) { w with drawn := w.drawn + 1 } ⟨hI, trivial, fun _ _ _ => trivial⟩ (fun _ => rfl) H
  rw [show (l.take n).length + more (Option.map (fun x : Sp => (x.p, x.q)) none) = n from htl, show n + (l.toArray.size - n) = l.toArray.size by omega] at this
  exact this
/-- a region whose first m operations are its head, then an allocation and the store of its first value -/
theorem wp_region_head_store {id : Nat} {Q : Exit → Act → World → Prop} {a : Act} {w : World} {l : List Oper} (I : World → Prop) (n0 : Nat) (hInv : Inv I (some n0)) (hI : I { w with drawn := w.drawn + 1 }) (m : Nat) (o oq : Oper) (z z2 : Obj) (hm : P.follows .mixedOrders = true) (hB : (decide (m ≤ l.length) && allB .any l.toArray (m + 2) (some (m, m + 1)) (List.range' 0 m)) = true)
    (ho : l.toArray[m]? = some o) (hg : o.guard = none) (hz : ∀ (a : Act) (W : World), (execOp a.eval o).run P W = .ok (.value (.pointer (some ⟨W.heap.size, 0, none⟩))) (W.alloc z))
    (hoq : l.toArray[m + 1]? = some oq) (hgq : oq.guard = none)
    (h : walk P l.toArray I (some n0) (fun a' _ => ∀ b : Nat, Writes P oq (a'.put o.dst (.pointer (some ⟨b, 0, none⟩))) z z2 b ∧
      ∀ w', I w' → n0 ≤ b → w'.heap[b]? = some z2 → wpList P l.toArray Q (l.drop (m + 2)) ((a'.put o.dst (.pointer (some ⟨b, 0, none⟩))).put oq.dst undef) w') (l.take m) (fun _ => True) a) : (Code.region id l.toArray true).wp P Q a w := by
  simp only [Bool.and_eq_true, decide_eq_true_eq, allB] at hB
  obtain ⟨hnl, ⟨⟨⟨⟨⟨hsel, hn⟩, hs⟩, hc⟩, hlen⟩, hord⟩, hlex⟩ := hB
  have hdl : (l.drop (m + 2)).length = l.toArray.size - (m + 2) := by simp
  have htl : (l.take m).length = m := by simp; omega
  have inv0 : HeadInv .any l.toArray (m + 2) (Array.replicate l.toArray.size false) :=
    ⟨by simp, fun j oj _ hl => (by rw [getD_replicate_false] at hl; cases hl), fun t _ ht => getD_in (by simpa using ht) (getD_replicate_false _ _)⟩
  obtain ⟨x, hx⟩ : ∃ x : Sp, x = { p := m, dp := o.dst, q := m + 1, oq, z, z2 } := ⟨_, rfl⟩
  have hok : SpOk P l.toArray x := by rw [hx]; exact ⟨⟨o, ho, rfl, hg, hz⟩, hoq, hgq⟩
  have H := wpAnyA_lex (P := P) (I := I) (n0 := some n0) hI (sp := some x) (md := .any) (g := l.toArray.size - (m + 2)) (L := fun a' s => ∀ w', S I (some n0) z z2 s w' → wpList P l.toArray Q (l.drop (m + 2)) a' w') hsel hs hc hn (fun y hy => by injection hy with hy; subst hy; exact hok) (by rw [hx]; exact hord) (l.take m) 0 _ _ a (fun j hj => by rw [htl] at hj; simp [hj]) inv0 (by rw [htl, hx]; exact hlex)
    (walk_mono (fun a' R h' b => by rw [hx]; exact ⟨(h' b).1, fun w' hS => (h' b).2 w' hS.1 (by obtain ⟨n', hn', hb'⟩ := hS.2.1; injection hn' with hn'; omega) hS.2.2⟩) _ _ a h)
  refine wp_region_any hm ?_
  have := wpAny_of_headA hInv (fun x e => ⟨n0, rfl⟩) (z := z) (z2 := z2) (Q' := Q) (g := l.toArray.size - (m + 2)) (fun listed a' s W hL hS => by
    have := wpAny_of_seq (md := .any) (Q' := Q) (l.drop (m + 2)) (m + 2) listed a' W (fun j => by simp [List.getElem?_drop]) (by rw [hdl]; exact hL.1) (hL.2 W hS)
    rwa [hdl] at this) (fun y hy => by injection hy with hy; subst hy; exact ⟨hok, by rw [hx], by rw [hx]⟩) _ _ _ (.fresh, fun _ => True) { w with drawn := w.drawn + 1 } ⟨hI, trivial, fun _ _ _ => trivial⟩ (fun _ => rfl) H
  rw [show (l.take m).length + more ((some x).map fun x => (x.p, x.q)) = m + 2 from by rw [htl]; rfl, show m + 2 + (l.toArray.size - (m + 2)) = l.toArray.size by omega] at this
  exact this

/-! ### steps -/
theorem walk_nil {Q : Act → (World → Prop) → Prop} {R : World → Prop} {a : Act} (h : Q a R) : walk P ops I n0 Q [] R a := h
theorem walk_step {Q : Act → (World → Prop) → Prop} {R : World → Prop} {a : Act} {rest : List Oper} {o : Oper} {v : Value} (hc : isOpen o = false) (hw : Region.wanted o (yielded ops a.tmps) = true)
    (hv : ∀ W, I W → (execOp a.eval o).run P W = .ok (.value v) W) (h : walk P ops I n0 Q rest R (a.put o.dst v)) : walk P ops I n0 Q (o :: rest) R a := by
  unfold walk
  rw [hc, if_neg (by simp)]
  exact ⟨v, .inl ⟨hw, fun W hW => .inl (hv W hW)⟩, h⟩
theorem walk_st {Q : Act → (World → Prop) → Prop} {R : World → Prop} {a : Act} {rest : List Oper} {o : Oper} {v : Value} (hc : isOpen o = false) (hw : Region.wanted o (yielded ops a.tmps) = true)
    (hv : ∀ W, I W → Bm.valUpon W v ((execOp a.eval o).run P W)) (h : walk P ops I n0 Q rest R (a.put o.dst v)) : walk P ops I n0 Q (o :: rest) R a :=
  walk_step hc hw (fun W hW => by
    have h1 := hv W hW
    generalize (execOp a.eval o).run P W = r at h1
    cases r with
    | ok n w' =>
      cases n with
      | value u => obtain ⟨rfl, rfl⟩ := (h1 : w' = W ∧ u = v); rfl
      | _ => exact (h1 : False).elim
    | halt x w' => exact (h1 : False).elim) h
/-- an open operation -/
theorem walk_open {Q : Act → (World → Prop) → Prop} {R : World → Prop} {a : Act} {rest : List Oper} {o : Oper} (G : Value → (World → Prop) → Prop) (hc : isOpen o = true) (hw : Region.wanted o (yielded ops a.tmps) = true)
    (hal : ∀ v R', G v R' → ∀ W z, R' W → R' (W.alloc z)) (hex : ∃ v R', G v R')
    (hv : ∀ W, I W → R W → opens P I n0 W G ((execOp a.eval o).run P W)) (h : ∀ v R', G v R' → walk P ops I n0 Q rest R' (a.put o.dst v)) : walk P ops I n0 Q (o :: rest) R a := by
  unfold walk
  rw [hc, if_pos rfl]
  exact ⟨G, ⟨hal, hex, hw, hv⟩, h⟩
/-- a call of one answer that leaves what was there alone; R is kept -/
theorem walk_call {Q : Act → (World → Prop) → Prop} {R : World → Prop} {a : Act} {rest : List Oper} {o : Oper} {v : Value} (f : FuncId) (args : Array Value) (hc : isOpen o = true) (hw : Region.wanted o (yielded ops a.tmps) = true)
    (hIb : ∀ W W', I W → Below W.heap.size W W' → I W') 
    (hv : ∀ W, (execOp a.eval o).run P W = .ok (.enter f args) W) (hk : ∀ W, I W → R W → Calls P f args W fun e w'' => e = .returned v ∧ Below W.heap.size W w'') (h : walk P ops I n0 Q rest (fun _ => True) (a.put o.dst v)) : walk P ops I n0 Q (o :: rest) R a :=
  walk_open (fun u R' => u = v ∧ R' = fun _ => True) hc hw (fun u R' ⟨_, hr⟩ W z _ => by rw [hr]; trivial) ⟨v, _, rfl, rfl⟩
    (fun W hW hR => by
      rw [hv W]
      exact ⟨rfl, (hk W hW hR).mono fun e w' ⟨h1, h2⟩ => ⟨v, _, h1, ⟨rfl, rfl⟩, hIb W w' hW h2, trivial, Kept.of_below h2⟩⟩)
    (fun u R' ⟨h1, h2⟩ => by rw [h1, h2]; exact h)
end
end Go.Bo
