/- A region that draws its order: at its head loads, reckoning and calls that leave what was there alone (and one allocation that may come up at any time), at its end a forced sequence (a store and what follows): one walk of the head in the order of the text serves every order. -/
import Derived.StillTail
import Derived.Deep.Quiet
import Derived.Below
import Derived.RangeFuncRecord
namespace Go.Bl
open Go.RowKit

section
variable {P : Program} {ops : Array Oper} {md : Region.Mode} {w0 : World}

/-- what an operation of the head does: the value v, in a world in which nothing of the old has turned -/
def belUpon (P : Program) (w : World) (v : Value) : Result Next → Prop
  | .ok (.value u) w' => w' = w ∧ u = v
  | .ok .skip w' => w' = w ∧ v = undef
  | .ok (.enter f args) w' => w' = w ∧ Calls P f args w (fun e w'' => e = .returned v ∧ Below w.heap.size w w'')
  | _ => False
/-- in frame a operation o leaves v in its slot, in every world behind w0 -/
def Bel (P : Program) (ops : Array Oper) (w0 : World) (o : Oper) (v : Value) (a : Act) : Prop :=
  (Region.wanted o (yielded ops a.tmps) = true ∧ ∀ W, Below w0.heap.size w0 W → belUpon P W v ((execOp a.eval o).run P W)) ∨ (Region.wanted o (yielded ops a.tmps) = false ∧ v = undef)
theorem Bel.of_same {o : Oper} {v : Value} {a a' : Act} (hy : Bel P ops w0 o v a) (he : execOp a'.eval o = execOp a.eval o) (hw : Region.wanted o (yielded ops a'.tmps) = Region.wanted o (yielded ops a.tmps)) : Bel P ops w0 o v a' := by
  unfold Bel at *
  rw [he, hw]
  exact hy
/-- the state: nothing made yet, a block made, the block written -/
inductive St
  | fresh
  | made (b : Nat)
  | stored (b : Nat)
/-- the worlds of a state -/
def S (w0 : World) (z z2 : Obj) : St → World → Prop
  | .fresh, W => Below w0.heap.size w0 W
  | .made b, W => Below w0.heap.size w0 W ∧ w0.heap.size ≤ b ∧ W.heap[b]? = some z
  | .stored b, W => Below w0.heap.size w0 W ∧ w0.heap.size ≤ b ∧ W.heap[b]? = some z2
theorem S.below {z z2 : Obj} {s : St} {W : World} (h : S w0 z z2 s W) : Below w0.heap.size w0 W := by
  cases s with
  | fresh => exact h
  | made b => exact h.1
  | stored b => exact h.1
theorem S.step {z z2 : Obj} {s : St} {W W' : World} (h : S w0 z z2 s W) (hb : Below W.heap.size W W') : S w0 z z2 s W' := by
  cases s with
  | fresh => exact Below.trans h (hb.mono (Below.size h))
  | made b => exact ⟨h.1.trans (hb.mono h.1.size), h.2.1, (hb.block b (Array.getElem?_eq_some_iff.1 h.2.2).1).trans h.2.2⟩
  | stored b => exact ⟨h.1.trans (hb.mono h.1.size), h.2.1, (hb.block b (Array.getElem?_eq_some_iff.1 h.2.2).1).trans h.2.2⟩
theorem wpOp_of_bel {z z2 : Obj} {i : Nat} {o : Oper} {v : Value} {a : Act} {s : St} {W : World} {K' : Act → World → Prop} {Q' : Exit → Act → World → Prop} (hi : ops[i]? = some o) (hy : Bel P ops w0 o v a) (hS : S w0 z z2 s W)
    (h : ∀ W', S w0 z z2 s W' → K' (a.put o.dst v) W') : wpOp P ops Q' i K' a W := by
  unfold wpOp
  simp only [hi]
  rcases hy with ⟨hw, hv⟩ | ⟨hw, rfl⟩
  · simp only [hw, if_true]
    have h3 := hv W hS.below
    refine .inl ?_
    unfold Oper.wp
    generalize (execOp a.eval o).run P W = r at *
    cases r with
    | ok n w' =>
      cases n <;> simp only [belUpon] at h3 <;> simp only [Oper.upon]
      case value u =>
        obtain ⟨e1, e2⟩ := h3
        rw [e1, e2]
        exact h _ hS
      case skip =>
        obtain ⟨e1, e2⟩ := h3
        rw [e1, ← e2]
        exact h _ hS
      case enter f args =>
        obtain ⟨e1, hc⟩ := h3
        rw [e1]
        exact hc.mono fun e w'' ⟨he, hw''⟩ => by subst he; exact h _ (hS.step hw'')
    | halt x w' => simp only [belUpon] at h3
  · simp only [hw]
    exact h _ hS

/-- the store writes block b: z becomes z2 -/
def Writes (P : Program) (o : Oper) (a : Act) (z z2 : Obj) (b : Nat) : Prop :=
  ∀ W : World, W.heap[b]? = some z → ∃ W', (execOp a.eval o).run P W = .ok .skip W' ∧ W.grownBy W' (some b) ∧ W'.heap[b]? = some z2
/-- the allocation's number, its slot; the store's number, the store; what the block holds before and behind -/
structure Sp where
  p : Nat
  dp : Option Tmp
  q : Nat
  oq : Oper
  z : Obj
  z2 : Obj
/-- operation i of the head comes up -/
def aOp (P : Program) (ops : Array Oper) (w0 : World) (sp : Option Sp) (i : Nat) (K : Act → St → Prop) (a : Act) (s : St) : Prop :=
  (∃ x, sp = some x ∧ x.p = i ∧ ∀ b, K (a.put x.dp (.pointer (some ⟨b, 0, none⟩))) (.made b)) ∨
  (∃ x b, sp = some x ∧ x.p ≠ i ∧ x.q = i ∧ s = .made b ∧ Writes P x.oq a x.z x.z2 b ∧ K (a.put x.oq.dst undef) (.stored b)) ∨
  ((∀ x, sp = some x → x.p ≠ i ∧ x.q ≠ i) ∧ ∃ oi v, ops[i]? = some oi ∧ Bel P ops w0 oi v a ∧ K (a.put oi.dst v) s)
variable {sp : Option Sp}
theorem aOp_mono {i : Nat} {a : Act} {s : St} {K K' : Act → St → Prop} (h : ∀ a s, K a s → K' a s) (hh : aOp P ops w0 sp i K a s) : aOp P ops w0 sp i K' a s := by
  rcases hh with ⟨x, h1, h2, h3⟩ | ⟨x, b, h1, h2, h3, h4, h5, h6⟩ | ⟨h1, oi, v, h2, h3, h4⟩
  · exact .inl ⟨x, h1, h2, fun b => h _ _ (h3 b)⟩
  · exact .inr (.inl ⟨x, b, h1, h2, h3, h4, h5, h _ _ h6⟩)
  · exact .inr (.inr ⟨h1, oi, v, h2, h3, h _ _ h4⟩)
/-- what is asked of the special operations -/
structure SpOk (P : Program) (ops : Array Oper) (x : Sp) : Prop where
  op : ∃ o, ops[x.p]? = some o ∧ o.dst = x.dp ∧ o.guard = none ∧ ∀ (a : Act) (W : World), (execOp a.eval o).run P W = .ok (.value (.pointer (some ⟨W.heap.size, 0, none⟩))) (W.alloc x.z)
  oq : ops[x.q]? = some x.oq
  gq : x.oq.guard = none
theorem aOp_put {j : Nat} {oi oj : Oper} {v : Value} (hj : ops[j]? = some oj) (hsp : ∀ x, sp = some x → SpOk P ops x) (hap : oi.apart ops oj = true)
    (hsi : ∀ cs b, oi.op ≠ .select cs b) (hsj : ∀ cs b, oj.op ≠ .select cs b) {K : Act → St → Prop} {a : Act} {s : St}
    (hy : Bel P ops w0 oi v a) (h : aOp P ops w0 sp j K (a.put oi.dst v) s) :
    aOp P ops w0 sp j (fun a' s' => Bel P ops w0 oi v a' ∧ K (a'.put oi.dst v) s') a s := by
  obtain ⟨h1, h2, h3⟩ := Oper.apart_spec hap
  have keep : ∀ (a : Act), Bel P ops w0 oi v a → ∀ u, Bel P ops w0 oi v (a.put oj.dst u) := fun a hy u =>
    hy.of_same (execOp_put oi hsi a oj.dst u h3) (wanted_put oi a oj.dst u h3)
  rcases h with ⟨x, e1, e2, e3⟩ | ⟨x, b, e1, e2, e3, e4, e5, e6⟩ | ⟨e1, ok, u, hk, hb, hn⟩
  · obtain ⟨o, ho, hd, _, _⟩ := (hsp x e1).op
    rw [e2, hj] at ho
    injection ho with ho
    subst ho
    refine .inl ⟨x, e1, e2, fun b => ?_⟩
    have h4 := e3 b
    rw [← hd] at h4 ⊢
    exact ⟨keep a hy _, by rw [← Act.put_comm a v _ h2]; exact h4⟩
  · have ho := (hsp x e1).oq
    rw [e3, hj] at ho
    injection ho with ho
    refine .inr (.inl ⟨x, b, e1, e2, e3, e4, ?_, ?_⟩)
    · unfold Writes at *
      rw [← ho] at e5 ⊢
      rwa [execOp_put oj hsj a oi.dst v h1] at e5
    · rw [← ho] at e6 ⊢
      exact ⟨keep a hy _, by rw [← Act.put_comm a v _ h2]; exact e6⟩
  · rw [hj] at hk
    injection hk with hk
    subst hk
    exact .inr (.inr ⟨e1, oj, u, hj, hb.of_same (execOp_put oj hsj a oi.dst v h1).symm (wanted_put oj a oi.dst v h1).symm, keep a hy u, by rw [← Act.put_comm a v u h2]; exact hn⟩)

/-- whatever order is picked, to the end of the head -/
def wpAnyA (P : Program) (md : Region.Mode) (ops : Array Oper) (w0 : World) (sp : Option Sp) (n : Nat) (L : Array Bool → Act → St → Prop) : Nat → Array Bool → Act → St → Prop
  | 0, listed, a, s => L listed a s
  | f + 1, listed, a, s =>
    Region.ready md ops listed ≠ [] ∧ ∀ i ∈ Region.ready md ops listed, i < n ∧ aOp P ops w0 sp i (wpAnyA P md ops w0 sp n L f (listed.setIfInBounds i true)) a s
theorem getD_set_self {listed : Array Bool} {i : Nat} (h : i < listed.size) : (listed.setIfInBounds i true).getD i true = true := by simp [h]
theorem wpAny_of_headA {z z2 : Obj} {n g : Nat} {L : Array Bool → Act → St → Prop} {Q' : Exit → Act → World → Prop} (hL : ∀ listed a s W, L listed a s → S w0 z z2 s W → wpAny P md ops Q' g listed a W)
    (hsp : ∀ x, sp = some x → SpOk P ops x ∧ x.z = z ∧ x.z2 = z2) :
    ∀ (f : Nat) (listed : Array Bool) (a : Act) (s : St) (W : World), S w0 z z2 s W → ((∀ x, sp = some x → listed.getD x.p true = false) → s = .fresh) → wpAnyA P md ops w0 sp n L f listed a s → wpAny P md ops Q' (f + g) listed a W
  | 0, listed, a, s, W, hS, _, h => by rw [Nat.zero_add]; exact hL _ _ _ _ h hS
  | f + 1, listed, a, s, W, hS, hs, h => by
    rw [show f + 1 + g = (f + g) + 1 by omega]
    refine ⟨fun h0 => absurd h0 h.1, fun i hi => ?_⟩
    have hun := (mem_ready.1 hi).1
    have hlt : i < listed.size := by
      rcases Nat.lt_or_ge i listed.size with h' | h'
      · exact h'
      · rw [Array.getD_eq_getD_getElem?, Array.getElem?_eq_none h'] at hun; cases hun
    rcases (h.2 i hi).2 with ⟨x, e1, e2, e3⟩ | ⟨x, b, e1, e2, e3, e4, e5, e6⟩ | ⟨e1, oi, v, hoi, hb, hk⟩
    · obtain ⟨hx, hz, hz2⟩ := hsp x e1
      obtain ⟨o, ho, hd, hg, hrun⟩ := hx.op
      rw [e2] at ho
      have hsn : s = .fresh := hs (fun y hy => by rw [e1] at hy; injection hy with hy; subst hy; rw [e2]; exact hun)
      subst hsn
      unfold wpOp
      simp only [ho]
      rw [if_pos (by simp [Region.wanted, hg])]
      refine .inl ?_
      unfold Oper.wp
      rw [hrun, Oper.upon_value, hd, hz]
      have hB : Below w0.heap.size w0 W := hS
      refine wpAny_of_headA hL hsp f _ _ (.made W.heap.size) _ ⟨hB.alloc hB.size z, hB.size, World.alloc_heap_new W z⟩ (fun hc => ?_) (e3 W.heap.size)
      have h2 := hc x e1
      rw [e2, getD_set_self hlt] at h2; cases h2
    · obtain ⟨hx, hz, hz2⟩ := hsp x e1
      have ho := hx.oq
      rw [e3] at ho
      subst e4
      unfold wpOp
      simp only [ho]
      rw [if_pos (by simp [Region.wanted, hx.gq])]
      refine .inl ?_
      obtain ⟨W', hr, hg, hb⟩ := e5 W (by rw [hz]; exact hS.2.2)
      unfold Oper.wp
      rw [hr, Oper.upon_skip]
      refine wpAny_of_headA hL hsp f _ _ (.stored b) _ ⟨hS.1.grown hg hS.1.size (fun k e => by injection e with e; rw [← e]; exact hS.2.1), hS.2.1, by rw [← hz2]; exact hb⟩ (fun hc => ?_) e6
      have h2 := hc x e1
      have hne : i ≠ x.p := fun e => e2 e.symm
      rw [getD_set_ne true hne] at h2
      have := hs (fun y hy => by rw [e1] at hy; injection hy with hy; subst hy; exact h2)
      cases this
    · refine wpOp_of_bel hoi hb hS fun W' hS' => wpAny_of_headA hL hsp f _ _ s _ hS' (fun hc => hs fun x hx => ?_) hk
      have h2 := hc x hx
      have hne : i ≠ x.p := fun e2 => (e1 x hx).1 e2.symm
      rwa [getD_set_ne true hne] at h2

theorem wpAnyA_first {n i : Nat} {oi : Oper} {v : Value} {L : Array Bool → Act → St → Prop} (hi : ops[i]? = some oi) (hip : ∀ x, sp = some x → x.p ≠ i ∧ x.q ≠ i) (hsp : ∀ x, sp = some x → SpOk P ops x)
    (hsel : ∀ (j : Nat) (o : Oper) cs b, ops[j]? = some o → o.op ≠ .select cs b)
    (hs : Region.sinkB md ops n = true) (hc : Region.chainB md ops n = true) (hn : n < ops.size) (hin : i < n)
    (hdone : ∀ listed a s, L listed a s → ∀ j ∈ Region.ready md ops listed, n ≤ j) :
    ∀ (f : Nat) (listed : Array Bool) (a : Act) (s : St), HeadInv md ops n listed →
      (∀ j oj, ops[j]? = some oj → j ≠ i → listed.getD j true = false → (∀ e ∈ oj.after, Region.binds md e = true → e.on ≠ i) → oi.apart ops oj = true) →
      i ∈ Region.ready md ops listed → Bel P ops w0 oi v a →
      wpAnyA P md ops w0 sp n L f (listed.setIfInBounds i true) (a.put oi.dst v) s → wpAnyA P md ops w0 sp n L (f + 1) listed a s := by
  have own : ∀ {K : Act → St → Prop} {a : Act} {s : St}, Bel P ops w0 oi v a → K (a.put oi.dst v) s → aOp P ops w0 sp i K a s := fun hy hK => .inr (.inr ⟨hip, oi, v, hi, hy, hK⟩)
  intro f
  induction f with
  | zero =>
    intro listed a s inv _ hr hy H
    have hun := (mem_ready.1 hr).1
    refine ⟨fun h => (by rw [h] at hr; cases hr), fun j hj => ?_⟩
    have hjn : j < n := by
      rcases Nat.lt_or_ge j n with h | h
      · exact h
      · exact absurd hj (tail_waits hs hc hn inv _ i rfl hin hun j h)
    refine ⟨hjn, ?_⟩
    by_cases hji : j = i
    · subst hji; exact own hy H
    · have := hdone _ _ _ H j (ready_mono hj hji)
      omega
  | succ f ih =>
    intro listed a s inv hfree hr hy H
    have hun := (mem_ready.1 hr).1
    refine ⟨fun h => (by rw [h] at hr; cases hr), fun j hj => ?_⟩
    have hjn : j < n := by
      rcases Nat.lt_or_ge j n with h | h
      · exact h
      · exact absurd hj (tail_waits hs hc hn inv _ i rfl hin hun j h)
    refine ⟨hjn, ?_⟩
    by_cases hji : j = i
    · subst hji; exact own hy H
    · have h1 := (H.2 j (ready_mono hj hji)).2
      obtain ⟨hjun, oj, hoj, hall⟩ := mem_ready.1 hj
      have hnot : ∀ e ∈ oj.after, Region.binds md e = true → e.on ≠ i := fun e he hb heq => by
        have h1 := hall e he hb
        rw [heq, getD_both hun] at h1
        cases h1
      have h2 := aOp_put hoj hsp (hfree j oj hoj hji hjun hnot) (fun cs b => hsel i oi cs b hi) (fun cs b => hsel j oj cs b hoj) hy h1
      have hfree' : ∀ k ok, ops[k]? = some ok → k ≠ i → (listed.setIfInBounds j true).getD k true = false →
          (∀ e ∈ ok.after, Region.binds md e = true → e.on ≠ i) → oi.apart ops ok = true := fun k ok hk hki hun hno => by
        refine hfree k ok hk hki ?_ hno
        by_cases hjk : j = k
        · subst hjk; exact hjun
        · rw [getD_set_ne true hjk] at hun; exact hun
      refine aOp_mono (fun a' s' h3 => ih (listed.setIfInBounds j true) a' s' (inv.set hj hjn) hfree' (ready_mono hr (Ne.symm hji)) h3.1 ?_) h2
      rw [Array.setIfInBounds_comm _ _ hji]
      exact h3.2

/-! ### the walk of the head -/
/-- the operations of the head, by their numbers, in the order of the text, allocation and store left out -/
def wpBel (P : Program) (ops : Array Oper) (w0 : World) (Q : Act → Prop) : List Nat → Act → Prop
  | [], a => Q a
  | k :: ks, a => ∃ o v, ops[k]? = some o ∧ Bel P ops w0 o v a ∧ wpBel P ops w0 Q ks (a.put o.dst v)
/-- the Bool over a region's text -/
def headB (md : Region.Mode) (ops : Array Oper) (n g : Nat) (sp : Option (Nat × Nat)) : List Nat → Array Bool → Bool
  | [], listed => match sp with
    | none => Region.seqB md ops g n listed
    | some (i, q) => decide (Region.ready md ops listed = [i]) && decide (i < n) && decide (Region.ready md ops (listed.setIfInBounds i true) = [q]) && decide (q < n) && decide (i ≠ q) && Region.seqB md ops g n ((listed.setIfInBounds i true).setIfInBounds q true)
  | k :: ks, listed => (Region.ready md ops listed).contains k && Region.free md ops listed k && decide (k < n) && decide (∀ x ∈ sp, x.1 ≠ k ∧ x.2 ≠ k) && headB md ops n g sp ks (listed.setIfInBounds k true)
def more (sp : Option (Nat × Nat)) : Nat := match sp with
  | none => 0
  | some _ => 2
def allB (md : Region.Mode) (ops : Array Oper) (n : Nat) (sp : Option (Nat × Nat)) (ks : List Nat) : Bool :=
  Region.noSelect ops && decide (n < ops.size) && Region.sinkB md ops n && Region.chainB md ops n && decide (ks.length + more sp = n) && headB md ops n (ops.size - n) sp ks (Array.replicate ops.size false)

theorem wpAnyA_lex {n g : Nat} {L : Act → St → Prop} (hsel : Region.noSelect ops = true) (hs : Region.sinkB md ops n = true) (hc : Region.chainB md ops n = true) (hn : n < ops.size) (hsp : ∀ x, sp = some x → SpOk P ops x) :
    ∀ (ks : List Nat) (listed : Array Bool) (a : Act), HeadInv md ops n listed → headB md ops n g (sp.map fun x => (x.p, x.q)) ks listed = true →
    wpBel P ops w0 (fun a' => match sp with
      | none => L a' .fresh
      | some x => ∀ b, Writes P x.oq (a'.put x.dp (.pointer (some ⟨b, 0, none⟩))) x.z x.z2 b ∧ L ((a'.put x.dp (.pointer (some ⟨b, 0, none⟩))).put x.oq.dst undef) (.stored b)) ks a →
    wpAnyA P md ops w0 sp n (fun listed' a' s' => Region.seqB md ops g n listed' = true ∧ L a' s') (ks.length + more (sp.map fun x => (x.p, x.q))) listed a .fresh
  | [], listed, a, inv, hB, h => by
    cases sp with
    | none => exact ⟨hB, h⟩
    | some x =>
      simp only [headB, Option.map_some, Bool.and_eq_true, decide_eq_true_eq] at hB
      obtain ⟨⟨⟨⟨⟨h1, h2⟩, h3⟩, h4⟩, h5⟩, h6⟩ := hB
      show wpAnyA P md ops w0 (some x) n _ 2 listed a .fresh
      refine ⟨by rw [h1]; simp, fun j hj => ?_⟩
      rw [h1] at hj
      have hji : j = x.p := by simpa using hj
      subst hji
      refine ⟨h2, .inl ⟨x, rfl, rfl, fun b => ⟨by rw [h3]; simp, fun j hj => ?_⟩⟩⟩
      rw [h3] at hj
      have hji : j = x.q := by simpa using hj
      subst hji
      exact ⟨h4, .inr (.inl ⟨x, b, rfl, h5, rfl, rfl, (h b).1, h6, (h b).2⟩)⟩
  | k :: ks, listed, a, inv, hB, h => by
    simp only [headB, Bool.and_eq_true, decide_eq_true_eq] at hB
    obtain ⟨⟨⟨⟨hr, hf⟩, hkn⟩, hkp⟩, hB'⟩ := hB
    obtain ⟨o, v, ho, hy, hK⟩ := h
    have hr' : k ∈ Region.ready md ops listed := by simpa using hr
    rw [show (k :: ks).length + more (sp.map fun x => (x.p, x.q)) = (ks.length + more (sp.map fun x => (x.p, x.q))) + 1 by simp; omega]
    refine wpAnyA_first ho (fun x hx => hkp (x.p, x.q) (by rw [hx]; rfl)) hsp (Region.noSelect_spec hsel) hs hc hn hkn (fun listed' a' s' hL => seqB_ready hL.1) _ listed a .fresh inv (Region.free_spec ho hf) hr' hy
      (wpAnyA_lex hsel hs hc hn hsp ks _ _ (inv.set hr' hkn) hB' hK)
theorem wpBel_mono {Q1 Q2 : Act → Prop} (hq : ∀ a, Q1 a → Q2 a) (ks : List Nat) : ∀ a, wpBel P ops w0 Q1 ks a → wpBel P ops w0 Q2 ks a := by
  induction ks with
  | nil => exact fun a h => hq a h
  | cons k ks ih => exact fun a ⟨o, v, h1, h2, h3⟩ => ⟨o, v, h1, h2, ih _ h3⟩

theorem wp_region_bel {id : Nat} {Q : Exit → Act → World → Prop} {a : Act} {w : World} {l : List Oper} (n : Nat) (ks : List Nat) (hm : P.follows .mixedOrders = true) (hB : allB .any l.toArray n none ks = true)
    (h : wpBel P l.toArray w (fun a' => ∀ w', Below w.heap.size w w' → wpList P l.toArray Q (l.drop n) a' w') ks a) : (Code.region id l.toArray true).wp P Q a w := by
  simp only [allB, Bool.and_eq_true, decide_eq_true_eq] at hB
  obtain ⟨⟨⟨⟨⟨hsel, hn⟩, hs⟩, hc⟩, hlen⟩, hlex⟩ := hB
  have hdl : (l.drop n).length = l.toArray.size - n := by simp
  have inv0 : HeadInv .any l.toArray n (Array.replicate l.toArray.size false) :=
    ⟨by simp, fun j oj _ hl => (by rw [getD_replicate_false] at hl; cases hl), fun t _ ht => getD_in (by simpa using ht) (getD_replicate_false _ _)⟩
  have H := wpAnyA_lex (P := P) (w0 := w) (sp := none) (md := .any) (g := l.toArray.size - n) (L := fun a' _ => ∀ w', Below w.heap.size w w' → wpList P l.toArray Q (l.drop n) a' w') hsel hs hc hn (fun x e => by cases e) ks _ a inv0 hlex h
  refine wp_region_any hm ?_
  have := wpAny_of_headA (z := .deferred none) (z2 := .deferred none) (Q' := Q) (g := l.toArray.size - n) (fun listed a' s W hL hS => by
    have := wpAny_of_seq (md := .any) (Q' := Q) (l.drop n) n listed a' W (fun j => by simp [List.getElem?_drop]) (by rw [hdl]; exact hL.1) (hL.2 W hS.below)
    rwa [hdl] at this) (fun i e => by cases e) _ _ _ .fresh { w with drawn := w.drawn + 1 } (show Below w.heap.size w { w with drawn := w.drawn + 1 } from ⟨rfl, rfl, rfl, Nat.le_refl _, fun _ _ => rfl⟩) (fun _ => rfl) H
  rw [show ks.length + more (Option.map (fun x : Sp => (x.p, x.q)) none) = n from hlen, show n + (l.toArray.size - n) = l.toArray.size by omega] at this
  exact this
theorem wp_region_bel_store {id : Nat} {Q : Exit → Act → World → Prop} {a : Act} {w : World} {l : List Oper} (n i q : Nat) (ks : List Nat) (o oq : Oper) (z z2 : Obj) (hm : P.follows .mixedOrders = true) (hB : allB .any l.toArray n (some (i, q)) ks = true)
    (ho : l.toArray[i]? = some o) (hg : o.guard = none) (hz : ∀ (a : Act) (W : World), (execOp a.eval o).run P W = .ok (.value (.pointer (some ⟨W.heap.size, 0, none⟩))) (W.alloc z))
    (hoq : l.toArray[q]? = some oq) (hgq : oq.guard = none)
    (h : wpBel P l.toArray w (fun a' => ∀ b : Nat, Writes P oq (a'.put o.dst (.pointer (some ⟨b, 0, none⟩))) z z2 b ∧
      ∀ w', Below w.heap.size w w' → w.heap.size ≤ b → w'.heap[b]? = some z2 → wpList P l.toArray Q (l.drop n) ((a'.put o.dst (.pointer (some ⟨b, 0, none⟩))).put oq.dst undef) w') ks a) : (Code.region id l.toArray true).wp P Q a w := by
  simp only [allB, Bool.and_eq_true, decide_eq_true_eq] at hB
  obtain ⟨⟨⟨⟨⟨hsel, hn⟩, hs⟩, hc⟩, hlen⟩, hlex⟩ := hB
  have hdl : (l.drop n).length = l.toArray.size - n := by simp
  have inv0 : HeadInv .any l.toArray n (Array.replicate l.toArray.size false) :=
    ⟨by simp, fun j oj _ hl => (by rw [getD_replicate_false] at hl; cases hl), fun t _ ht => getD_in (by simpa using ht) (getD_replicate_false _ _)⟩
  obtain ⟨x, hx⟩ : ∃ x : Sp, x = { p := i, dp := o.dst, q, oq, z, z2 } := ⟨_, rfl⟩
  have hok : SpOk P l.toArray x := by rw [hx]; exact ⟨⟨o, ho, rfl, hg, hz⟩, hoq, hgq⟩
  have H := wpAnyA_lex (P := P) (w0 := w) (sp := some x) (md := .any) (g := l.toArray.size - n) (L := fun a' s => ∀ w', S w z z2 s w' → wpList P l.toArray Q (l.drop n) a' w') hsel hs hc hn (fun y hy => by injection hy with hy; subst hy; exact hok) ks _ a inv0 (by rw [hx]; exact hlex)
    (wpBel_mono (fun a' h' b => by rw [hx]; exact ⟨(h' b).1, fun w' hS => (h' b).2 w' hS.1 hS.2.1 hS.2.2⟩) ks a h)
  refine wp_region_any hm ?_
  have := wpAny_of_headA (z := z) (z2 := z2) (Q' := Q) (g := l.toArray.size - n) (fun listed a' s W hL hS => by
    have := wpAny_of_seq (md := .any) (Q' := Q) (l.drop n) n listed a' W (fun j => by simp [List.getElem?_drop]) (by rw [hdl]; exact hL.1) (hL.2 W hS)
    rwa [hdl] at this) (fun y hy => by injection hy with hy; subst hy; exact ⟨hok, by rw [hx], by rw [hx]⟩) _ _ _ .fresh { w with drawn := w.drawn + 1 } (show Below w.heap.size w { w with drawn := w.drawn + 1 } from ⟨rfl, rfl, rfl, Nat.le_refl _, fun _ _ => rfl⟩) (fun _ => rfl) H
  rw [show ks.length + more ((some x).map fun x => (x.p, x.q)) = n from by rw [hx]; exact hlen, show n + (l.toArray.size - n) = l.toArray.size by omega] at this
  exact this

/-! ### the walk over the operations themselves -/
def wpBelO (P : Program) (ops : Array Oper) (w0 : World) (Q : Act → Prop) : List Oper → Act → Prop
  | [], a => Q a
  | o :: rest, a => ∃ v, Bel P ops w0 o v a ∧ wpBelO P ops w0 Q rest (a.put o.dst v)
theorem wpBel_of_list {Q : Act → Prop} : ∀ (os : List Oper) (k : Nat) (a : Act), (∀ j, j < os.length → os[j]? = ops[k + j]?) → wpBelO P ops w0 Q os a → wpBel P ops w0 Q (List.range' k os.length) a
  | [], _, _, _, h => h
  | o :: os, k, a, hj, h => by
    obtain ⟨v, h1, h2⟩ := h
    rw [List.length_cons, List.range'_succ]
    refine ⟨o, v, by have := hj 0 (by simp); simpa using this.symm, h1, wpBel_of_list os (k + 1) _ (fun j hj' => by have := hj (j + 1) (by simp; omega); simpa [Nat.add_assoc, Nat.add_comm 1 j] using this) h2⟩
theorem wpBel_of_take {Q : Act → Prop} {l : List Oper} {m : Nat} {a : Act} (hm : m ≤ l.length) (h : wpBelO P l.toArray w0 Q (l.take m) a) : wpBel P l.toArray w0 Q (List.range' 0 m) a := by
  have hl : (l.take m).length = m := by simp; omega
  have := wpBel_of_list (l.take m) 0 a (fun j hj => by rw [hl] at hj; simp [hj]) h
  rwa [hl] at this
/-- a region whose first n operations are its head -/
theorem wp_region_head {id : Nat} {Q : Exit → Act → World → Prop} {a : Act} {w : World} {l : List Oper} (n : Nat) (hm : P.follows .mixedOrders = true) (hB : (decide (n ≤ l.length) && allB .any l.toArray n none (List.range' 0 n)) = true)
    (h : wpBelO P l.toArray w (fun a' => ∀ w', Below w.heap.size w w' → wpList P l.toArray Q (l.drop n) a' w') (l.take n) a) : (Code.region id l.toArray true).wp P Q a w := by
  rw [Bool.and_eq_true, decide_eq_true_eq] at hB
  exact wp_region_bel n _ hm hB.2 (wpBel_of_take hB.1 h)
/-- a region whose first m operations are its head, then an allocation and the store of its first value -/
theorem wp_region_head_store {id : Nat} {Q : Exit → Act → World → Prop} {a : Act} {w : World} {l : List Oper} (m : Nat) (o oq : Oper) (z z2 : Obj) (hm : P.follows .mixedOrders = true) (hB : (decide (m ≤ l.length) && allB .any l.toArray (m + 2) (some (m, m + 1)) (List.range' 0 m)) = true)
    (ho : l.toArray[m]? = some o) (hg : o.guard = none) (hz : ∀ (a : Act) (W : World), (execOp a.eval o).run P W = .ok (.value (.pointer (some ⟨W.heap.size, 0, none⟩))) (W.alloc z))
    (hoq : l.toArray[m + 1]? = some oq) (hgq : oq.guard = none)
    (h : wpBelO P l.toArray w (fun a' => ∀ b : Nat, Writes P oq (a'.put o.dst (.pointer (some ⟨b, 0, none⟩))) z z2 b ∧
      ∀ w', Below w.heap.size w w' → w.heap.size ≤ b → w'.heap[b]? = some z2 → wpList P l.toArray Q (l.drop (m + 2)) ((a'.put o.dst (.pointer (some ⟨b, 0, none⟩))).put oq.dst undef) w') (l.take m) a) : (Code.region id l.toArray true).wp P Q a w := by
  rw [Bool.and_eq_true, decide_eq_true_eq] at hB
  exact wp_region_bel_store (m + 2) m (m + 1) _ o oq z z2 hm hB.2 ho hg hz hoq hgq (wpBel_of_take hB.1 h)
theorem belO_nil {Q : Act → Prop} {a : Act} (h : Q a) : wpBelO P ops w0 Q [] a := h
theorem belO_step {Q : Act → Prop} {a : Act} {rest : List Oper} {o : Oper} {v : Value} (hw : Region.wanted o (yielded ops a.tmps) = true)
    (hv : ∀ W, Below w0.heap.size w0 W → belUpon P W v ((execOp a.eval o).run P W)) (h : wpBelO P ops w0 Q rest (a.put o.dst v)) : wpBelO P ops w0 Q (o :: rest) a :=
  ⟨v, .inl ⟨hw, hv⟩, h⟩
theorem belO_value {Q : Act → Prop} {a : Act} {rest : List Oper} {o : Oper} {v : Value} (hw : Region.wanted o (yielded ops a.tmps) = true)
    (hv : ∀ W, Below w0.heap.size w0 W → (execOp a.eval o).run P W = .ok (.value v) W) (h : wpBelO P ops w0 Q rest (a.put o.dst v)) : wpBelO P ops w0 Q (o :: rest) a :=
  ⟨v, .inl ⟨hw, fun W hW => by rw [hv W hW]; exact ⟨rfl, rfl⟩⟩, h⟩
theorem belO_call {Q : Act → Prop} {a : Act} {rest : List Oper} {o : Oper} {v : Value} (f : FuncId) (args : Array Value) (hw : Region.wanted o (yielded ops a.tmps) = true)
    (hv : ∀ W, (execOp a.eval o).run P W = .ok (.enter f args) W) (hc : ∀ W, Below w0.heap.size w0 W → Calls P f args W fun e w'' => e = .returned v ∧ Below W.heap.size W w'') (h : wpBelO P ops w0 Q rest (a.put o.dst v)) : wpBelO P ops w0 Q (o :: rest) a :=
  ⟨v, .inl ⟨hw, fun W hW => by rw [hv W]; exact ⟨rfl, hc W hW⟩⟩, h⟩
theorem belO_skip {Q : Act → Prop} {a : Act} {rest : List Oper} {o : Oper} (hw : Region.wanted o (yielded ops a.tmps) = false) (h : wpBelO P ops w0 Q rest (a.put o.dst undef)) : wpBelO P ops w0 Q (o :: rest) a :=
  ⟨undef, .inr ⟨hw, rfl⟩, h⟩
end
end Go.Bl
