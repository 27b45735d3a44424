/- A range over a function whose iterator keeps its state in a captured variable of its own (one box), the loop's body never leaving early: one law for the caller. -/
import Derived.RangeFuncNested
import Derived.RangeFuncBound
import Derived.RangeFuncCalls
import Derived.RangeFuncLeaves
import Derived.Deep.RegionHeld3
import Derived.OneCell
namespace Go.Rf
open Go.RowKit

variable {F : Fence} {n : Nat} {P : Program}

/-- the iterator g with what it captured hands xs, in its order, to every loop whose rounds leave its box alone -/
def Gives {α : Type} (F : Fence) (n : Nat) (P : Program) (g : Nat) (lb : Array Value) (encs : α → Array Value) (Bx : Nat) (xs : List α) (box : Obj) (T : World → Prop) : Prop :=
  ∀ (l : Nat) (J : List α → World → Prop) (W : World), W.heap[Bx]? = some box →
    (∀ pre W1, J pre W1 → T W1) →
    (∀ pre W1 v, J pre W1 → J pre (W1.setCell ⟨Bx, 0, none⟩ v)) →
    (∀ pre x W1, J pre W1 → pre ++ [x] <+: xs → YieldAt F (n - 1) P l (encs x) W1 fun e W' => e = .returned (.bool true) ∧ J (pre ++ [x]) W' ∧ W'.heap[Bx]? = W1.heap[Bx]?) →
    J [] W →
    CallsIn F n P g (#[.func (.yield l) #[] #[]] ++ lb) W fun e W' => (∃ v, e = .returned v) ∧ J xs W'

/-- how a round may be left -/
def roundEnd {α : Type} (Bx : Nat) (I : List α → World → Prop) (xs : List α) (W : World) : Exit → Act → World → Prop
  | .normal, _, W' => KeepsOthers W W' ∧ W'.heap[Bx]? = W.heap[Bx]? ∧ I xs W'
  | _, _, _ => False

theorem wpIn_rangeFunc_box {α : Type} {g : Operand} {ps : Array Tmp} {assign body : Code} {Q : Exit → Act → World → Prop} {a : Act} {w : World}
    (hro : F.round = none) (h1 : 1 ≤ n) {gf : Nat} {lb : Array Value} (hg : a.eval g = .func (.func gf) #[] lb) (hFg : F.fn gf) (eg : ∀ args w, (callFunc gf args).run P w = .ok (.enter gf args) w)
    {encs : α → Array Value} {Bx : Nat} {xs : List α} {box : Obj} {T : World → Prop} (hit : Gives F (n - 1) P gf lb encs Bx xs box T) (hbx : w.heap[Bx]? = some box) (hps : ∀ x, (encs x).size = ps.size)
    (I : List α → World → Prop)
    (hIT : ∀ pre (W : World), I pre W → T W)
    (hIa : ∀ (W : World) (o : Obj), I [] W → I [] (W.alloc o))
    (hIb : ∀ pre (W : World) v, I pre W → I pre (W.setCell ⟨Bx, 0, none⟩ v))
    (hIp : ∀ pre (W : World) (l : Nat) (o o' : Obj), w.heap.size ≤ l → W.heap[l]? = some o → o.isCells = false → I pre W → I pre (W.putObj l o'))
    (h0 : I [] w)
    (hround : ∀ (l : Nat) (pre : List α) (x : α) (W W2 : World), w.heap.size + 2 ≤ W2.heap.size → I pre W2 → pre ++ [x] <+: xs →
      assign.wpIn (F.inRound l) (n - 1 - 1) P (Exit.then (fun a₁ w₁ => w₁ = W ∧ body.wpIn (F.inRound l) (n - 1 - 1) P (roundEnd Bx I (pre ++ [x]) W2) a₁ W2) (fun _ _ _ => False))
        { tmps := (ps.zip (encs x)).foldl (fun t (p, v) => t.setIfInBounds p v) a.tmps, defers := [] } W)
    (hdone : ∀ (D : Nat) (W : World), w.heap.size ≤ D → I xs W → W.heap[D]? = some (.deferred (some [])) → Q .normal { a with defers := { target := .collected D, args := #[] } :: a.defers } W) :
    (Code.rangeFunc g ps assign body).wpIn F n P Q a w := by
  have hbl : Bx < w.heap.size := (Array.getElem?_eq_some_iff.1 hbx).1
  refine wpIn_rangeFunc fun fn hfn => ?_
  rw [hro]
  obtain ⟨rec, hrec⟩ : ∃ rec : LoopState → Option Code → Loop, rec = fun st pe => { state := st, pending := pe, fn, tmps := a.tmps, params := ps, assign, body, defers := w.heap.size } := ⟨_, rfl⟩
  obtain ⟨W1, hW1⟩ : ∃ W1, (w.alloc (.deferred (some []))).alloc (.loop (rec .ready none)) = W1 := ⟨_, rfl⟩
  have hL1 : W1.heap[w.heap.size + 1]? = some (.loop (rec .ready none)) := by
    rw [← hW1]; have := World.alloc_heap_new (w.alloc (.deferred (some []))) (.loop (rec .ready none)); rwa [World.size_alloc] at this
  have hD1 : W1.heap[w.heap.size]? = some (.deferred (some [])) := by
    rw [← hW1]; exact (Below.heap_alloc _ _ _ (by simp)).trans (World.alloc_heap_new w _)
  have hB1 : W1.heap[Bx]? = some box := by
    rw [← hW1]; exact (Below.heap_alloc _ _ _ (by simp; omega)).trans ((Below.heap_alloc _ _ _ hbl).trans hbx)
  have hI1 : I [] W1 := by rw [← hW1]; exact hIa _ _ (hIa _ _ h0)
  refine ⟨w.heap.size + 1, [{ target := .collected w.heap.size, args := #[] }], W1, { target := .fn (.func gf) lb, args := #[.func (.yield (w.heap.size + 1)) #[] #[]] }, W1, gf,
    #[.func (.yield (w.heap.size + 1)) #[] #[]] ++ lb, W1, ?_, ?_, ?_, ?_, fun _ => h1, ?_⟩
  · rw [← hW1, hrec]; exact run_enterLoop_outer _ _ _ _ _
  · simp only [resolve, hg]
    simp [go_sem]
  · intro f' hf'; simp [Target.leads] at hf'; subst hf'; exact hFg
  · simp [invoke, go_sem, eg]
  · refine (hit (w.heap.size + 1)
      (fun pre W => I pre W ∧ W.heap[w.heap.size + 1]? = some (.loop (rec .ready none)) ∧ W.heap[w.heap.size]? = some (.deferred (some [])))
      W1 hB1 (fun pre W h => hIT pre W h.1)
      (fun pre W v h => ⟨hIb pre W v h.1, (Below.heap_setCell _ _ _ _ (by show w.heap.size + 1 ≠ Bx; omega)).trans h.2.1, (Below.heap_setCell _ _ _ _ (by show w.heap.size ≠ Bx; omega)).trans h.2.2⟩)
      ?_ ⟨hI1, hL1, hD1⟩).mono ?_
    · rintro pre x W ⟨hi, hl, hd⟩ hpre
      have hlt : w.heap.size + 1 < W.heap.size := (Array.getElem?_eq_some_iff.1 hl).1
      have hy := run_yield (P := P) (args := encs x) hl (by rw [hrec]; exact hps x)
      rw [hrec] at hy
      obtain ⟨W2, hW2⟩ : ∃ W2, W2 = W.putObj (w.heap.size + 1) (.loop { rec .ready none with state := .busy }) := ⟨_, rfl⟩
      have hl2 : W2.heap[w.heap.size + 1]? = some (.loop { rec .ready none with state := .busy }) := by rw [hW2]; exact World.putObj_heap_same hlt
      have hd2 : W2.heap[w.heap.size]? = some (.deferred (some [])) := by rw [hW2]; exact (World.putObj_heap_other (by omega)).trans hd
      have hb2 : W2.heap[Bx]? = W.heap[Bx]? := by rw [hW2]; exact World.putObj_heap_other (by omega)
      have hi2 : I pre W2 := by rw [hW2]; exact hIp pre W _ _ _ (by omega) hl rfl hi
      have hbr := run_beginRound (P := P) hl (by rw [hrec])
      rw [← hW2] at hbr
      refine ⟨fn, _, assign, body, hy, roundIn_of_wpIn hfn (wpIn_mono (hround _ pre x W W2 (by have := (Array.getElem?_eq_some_iff.1 hl2).1; omega) hi2 hpre) ?_)⟩
      intro e1 a1 w1 hq
      cases e1 with
      | exit id => exact hq.elim
      | goto t => exact hq.elim
      | ret => exact hq.elim
      | panic ch => exact hq.elim
      | outgrown => exact hq.elim
      | normal =>
      obtain ⟨rfl, hbody⟩ := hq
      refine ⟨W2, hbr, wpIn_mono hbody ?_⟩
      rintro e a3 W3 hp
      cases e with
      | normal =>
        obtain ⟨hk3, hb3, hi3⟩ := hp
        have hl3 := hk3.same _ _ hl2 rfl
        have hd3 := hk3.same _ _ hd2 rfl
        have hr := run_endRound (P := P) none hl3
        rw [hrec] at hr
        refine ⟨_, _, hr, rfl, ⟨hIp _ _ _ _ _ (by omega) hl3 rfl hi3, ?_, (World.putObj_heap_other (by omega)).trans hd3⟩, (World.putObj_heap_other (by omega)).trans (hb3.trans hb2)⟩
        rw [hrec]
        exact World.putObj_heap_same (Array.getElem?_eq_some_iff.1 hl3).1
      | exit id => exact hp.elim
      | goto t => exact hp.elim
      | ret => exact hp.elim
      | panic ch => exact hp.elim
      | outgrown => exact hp.elim
    · rintro e W2 ⟨⟨v, rfl⟩, hi, hl, hd⟩
      have hr := run_endLoop (P := P) hl (by rw [hrec]; simp)
      rw [hrec] at hr
      exact ⟨none, _, hr, hdone _ _ (Nat.le_refl _) (hIp _ _ _ _ _ (by omega) hl rfl hi) ((World.putObj_heap_other (by omega)).trans hd)⟩
theorem wpIn_noPanic {c : Code} {Q : Exit → Act → World → Prop} {a : Act} {w : World} (h : c.wpIn F n P (NoPanic Q) a w) : c.wpIn F n P Q a w := wpIn_mono h NoPanic.imp
/-! a block of three cells -/
theorem cells3 {w : World} {b : Nat} {x y z : Value} {t : TypeId} (h : w.heap[b]? = some (.cells #[x, y, z] t (0, 0))) :
    w.cell? ⟨b, 0, none⟩ = some x ∧ w.cell? ⟨b, 1, none⟩ = some y ∧ w.cell? ⟨b, 2, none⟩ = some z ∧ w.frozen? ⟨b, 0, none⟩ = false ∧ w.frozen? ⟨b, 1, none⟩ = false ∧ w.frozen? ⟨b, 2, none⟩ = false := by
  simp [World.cell?, World.frozen?, h]
theorem set_cells {w : World} {b i : Nat} {cs : Array Value} {t : TypeId} {fr : Nat × Nat} (u : Value) (h : w.heap[b]? = some (.cells cs t fr)) : (w.setCell ⟨b, i, none⟩ u).heap[b]? = some (.cells (cs.setIfInBounds i u) t fr) := by
  have hlt := lt_of_block h
  have h' : w.heap[b] = .cells cs t fr := by simpa [Array.getElem?_eq_getElem hlt] using h
  show (w.heap.modify b _)[b]? = _
  rw [Array.getElem?_eq_getElem (by simpa using hlt), Array.getElem_modify_self, h']
  rfl
theorem set3 {w : World} {b : Nat} {x y z x' y' z' : Value} {t : TypeId} (h : w.heap[b]? = some (.cells #[x, y, z] t (0, 0))) :
    (((w.setCell ⟨b, 0, none⟩ x').setCell ⟨b, 1, none⟩ y').setCell ⟨b, 2, none⟩ z').heap[b]? = some (.cells #[x', y', z'] t (0, 0)) := by
  have h3 := set_cells (i := 2) z' (set_cells (i := 1) y' (set_cells (i := 0) x' h))
  simpa using h3
/-! what a caller says of one box of its own -/
theorem box_alloc {B n0 : Nat} {w W : World} {o : Obj} (x : Obj) (hn : n0 ≤ w.heap.size) (h : W.heap[B]? = some o ∧ Below n0 w W) : (W.alloc x).heap[B]? = some o ∧ Below n0 w (W.alloc x) :=
  ⟨(Below.heap_alloc _ _ _ (Array.getElem?_eq_some_iff.1 h.1).1).trans h.1, h.2.alloc (Nat.le_trans hn h.2.size) _⟩
theorem box_set {B n0 : Nat} {w W : World} {o : Obj} (p : Addr) (v : Value) (hne : B ≠ p.block) (hn : n0 ≤ p.block) (h : W.heap[B]? = some o ∧ Below n0 w W) : (W.setCell p v).heap[B]? = some o ∧ Below n0 w (W.setCell p v) :=
  ⟨(Below.heap_setCell _ _ _ _ hne).trans h.1, h.2.setCell hn _⟩
theorem box_put {B n0 : Nat} {w W : World} {o : Obj} (l : Nat) (x x' : Obj) (hl : B < l) (hn : n0 ≤ l) (_hx : W.heap[l]? = some x) (hw : n0 ≤ w.heap.size) (h : W.heap[B]? = some o ∧ Below n0 w W) : (W.putObj l x').heap[B]? = some o ∧ Below n0 w (W.putObj l x') :=
  ⟨(World.putObj_heap_other (by omega)).trans h.1, h.2.grown (grownBy_putObj' W l x') (Nat.le_trans hw h.2.size) (fun k e => by cases e; exact hn)⟩
theorem below_put {n0 : Nat} {w W : World} (D : Nat) (x : Obj) (hn : n0 ≤ D) (hw : n0 ≤ w.heap.size) (h : Below n0 w W) : Below n0 w (W.putObj D x) :=
  h.grown (grownBy_putObj' W D x) (Nat.le_trans hw h.size) (fun k e => by cases e; exact hn)
theorem keeps_of_below {W W' : World} (h : Below W.heap.size W W') : KeepsOthers W W' :=
  ⟨h.size, fun k _ hk _ => (h.block k (Array.getElem?_eq_some_iff.1 hk).1).trans hk⟩
end Go.Rf
