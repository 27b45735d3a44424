/- A range over a function whose rounds and whose iterator both write memory of their own: the blocks that are the caller's are named ('fp'), the others of the time behind the start are the iterator's. What is handed to a round may be known by what lies in memory (Pv). -/
import Derived.RangeFuncNested
import Derived.RangeFuncBound
import Derived.RangeFuncCalls
import Derived.RangeFuncLeaves
namespace Go.Rg
open Go.RowKit

variable {F : Fence} {n : Nat} {P : Program}

/-- a stretch of the iterator's own: what is older than B, and the caller's blocks, lie as they lay -/
structure Steps (B : Nat) (fp : List Nat) (w w' : World) : Prop where
  os : w'.os = w.os
  tape : w'.tape = w.tape
  output : w'.output = w.output
  size : w.heap.size ≤ w'.heap.size
  block : ∀ k, k < w.heap.size → (k < B ∨ k ∈ fp) → w'.heap[k]? = w.heap[k]?
theorem Steps.refl (B : Nat) (fp : List Nat) (w : World) : Steps B fp w w := ⟨rfl, rfl, rfl, Nat.le_refl _, fun _ _ _ => rfl⟩
theorem Steps.trans {B : Nat} {fp : List Nat} {w w1 w2 : World} (h : Steps B fp w w1) (k : Steps B fp w1 w2) : Steps B fp w w2 :=
  ⟨k.os.trans h.os, k.tape.trans h.tape, k.output.trans h.output, Nat.le_trans h.size k.size, fun j hj hb => (k.block j (Nat.lt_of_lt_of_le hj h.size) hb).trans (h.block j hj hb)⟩
theorem Steps.of_below {B : Nat} {fp : List Nat} {w w' : World} (h : Below w.heap.size w w') : Steps B fp w w' := ⟨h.os, h.tape, h.output, h.size, fun k hk _ => h.block k hk⟩
theorem Steps.less {B B' : Nat} {fp : List Nat} {w w' : World} (h : Steps B fp w w') (hb : B' ≤ B) : Steps B' fp w w' :=
  ⟨h.os, h.tape, h.output, h.size, fun k hk hc => h.block k hk (hc.elim (fun h => .inl (Nat.lt_of_lt_of_le h hb)) .inr)⟩
/-- what a round may do: the caller's blocks, what is older than B, and new blocks -/
structure Grew (B : Nat) (fp fp' : List Nat) (w w' : World) : Prop where
  size : w.heap.size ≤ w'.heap.size
  new : ∀ b ∈ fp', b ∈ fp ∨ w.heap.size ≤ b
  keep : ∀ b, B ≤ b → b < w.heap.size → b ∉ fp → w'.heap[b]? = w.heap[b]?
theorem Grew.more {B B' : Nat} {fp fp' : List Nat} {w w' : World} (h : Grew B fp fp' w w') (hb : B ≤ B') : Grew B' fp fp' w w' := ⟨h.size, h.new, fun b h1 => h.keep b (Nat.le_trans hb h1)⟩

/-- the iterator g with what it captured hands xs, in its order, each as a value of which Pv holds at that time -/
def Gives {α : Type} (F : Fence) (n : Nat) (P : Program) (g : Nat) (lb : Array Value) (Pv : α → Value → World → Prop) (xs : List α) (T : World → Prop) (w0 : World) : Prop :=
  ∀ (l : Nat) (J : List α → List Nat → World → Prop) (Jx : List α → World → Prop) (fp : List Nat) (W : World), Below w0.heap.size w0 W → (∀ b ∈ fp, b < W.heap.size) →
    (∀ pre fp W1, J pre fp W1 → T W1) →
    (∀ pre fp W1 W2, J pre fp W1 → Steps W.heap.size fp W1 W2 → J pre fp W2) →
    (∀ pre fp x v W1, J pre fp W1 → W.heap.size ≤ W1.heap.size → pre ++ [x] <+: xs → Pv x v W1 → YieldAt F (n - 1) P l #[v] W1 fun e W' =>
      (e = .returned (.bool true) ∧ ∃ fp', J (pre ++ [x]) fp' W' ∧ Grew W.heap.size fp fp' W1 W') ∨ (e = .returned (.bool false) ∧ Jx (pre ++ [x]) W')) →
    J [] fp W →
    CallsIn F n P g (#[.func (.yield l) #[] #[]] ++ lb) W fun e W' => (∃ v, e = .returned v) ∧ ((∃ fp', J xs fp' W') ∨ (∃ pre, pre <+: xs ∧ Jx pre W'))

/-- how the body of a round may be left -/
def post {α : Type} (B : Nat) (I : List α → List Nat → World → Prop) (Ix : Code → List α → World → Prop) (xs : List α) (fp : List Nat) (W : World) : Exit → Act → World → Prop
  | .normal, _, W' => ∃ fp', I xs fp' W' ∧ Grew B fp fp' W W'
  | .ret, _, W' => ∃ fp', Ix .ret xs W' ∧ Grew B fp fp' W W'
  | .exit id, _, W' => ∃ fp', Ix (.exit id) xs W' ∧ Grew B fp fp' W W'
  | .goto t, _, W' => ∃ fp', Ix (.goto t) xs W' ∧ Grew B fp fp' W W'
  | .panic _, _, _ => False
  | .outgrown, _, _ => False

theorem wpIn_rangeFunc_fp {α : Type} {g : Operand} {ps : Array Tmp} {assign body : Code} {Q : Exit → Act → World → Prop} {a : Act} {w : World}
    (hro : F.round = none) (h1 : 1 ≤ n) {gf : Nat} {lb : Array Value} (hg : a.eval g = .func (.func gf) #[] lb) (hFg : F.fn gf) (eg : ∀ args w, (callFunc gf args).run P w = .ok (.enter gf args) w)
    {Pv : α → Value → World → Prop} {xs : List α} {T : World → Prop} {w0 : World} (hseq : Gives F (n - 1) P gf lb Pv xs T w0) (hb0 : Below w0.heap.size w0 w) (hps : 1 = ps.size)
    (hPv : ∀ x v (W : World) l o o', W.heap[l]? = some o → o.isCells = false → Pv x v W → Pv x v (W.putObj l o'))
    (I : List α → List Nat → World → Prop) (Ix : Code → List α → World → Prop)
    (hIT : ∀ pre fp W, I pre fp W → T W)
    (hI : ∀ pre fp W W', I pre fp W → Steps w.heap.size fp W W' → I pre fp W')
    (hIx : ∀ c pre (W : World) l o o', w.heap.size ≤ l → W.heap[l]? = some o → o.isCells = false → Ix c pre W → Ix c pre (W.putObj l o'))
    (fp0 : List Nat) (hfp : ∀ b ∈ fp0, b < w.heap.size) (h0 : I [] fp0 w) (a₁ : Value → Act)
    (hassign : ∀ (l : Nat) (v : Value) (W : World) (K : Act → World → Prop), K (a₁ v) W →
      assign.wpIn (F.inRound l) (n - 1 - 1) P (Exit.then K (fun _ _ _ => False)) { tmps := (ps.zip #[v]).foldl (fun t (p, v) => t.setIfInBounds p v) a.tmps, defers := [] } W)
    (hbody : ∀ (l : Nat) (pre : List α) (fp : List Nat) (x : α) (v : Value) (W : World), I pre fp W → pre ++ [x] <+: xs → Pv x v W → w.heap.size + 2 ≤ W.heap.size → (∀ b ∈ fp, b < w.heap.size ∨ w.heap.size + 2 ≤ b) →
      body.wpIn (F.inRound l) (n - 1 - 1) P (post w.heap.size I Ix (pre ++ [x]) fp W) (a₁ v) W)
    (hdone : ∀ (D : Nat) (fp : List Nat) (W : World), w.heap.size ≤ D → I xs fp W → D ∉ fp → W.heap[D]? = some (.deferred (some [])) → Q .normal { a with defers := { target := .collected D, args := #[] } :: a.defers } W)
    (hstop : ∀ (D : Nat) (c : Code) (pre : List α) (W : World), w.heap.size ≤ D → pre <+: xs → Ix c pre W → W.heap[D]? = some (.deferred (some [])) → c.wpIn F n P Q { a with defers := { target := .collected D, args := #[] } :: a.defers } W) :
    (Code.rangeFunc g ps assign body).wpIn F n P Q a w := by
  refine wpIn_rangeFunc ?_
  intro fn hfn
  rw [hro]
  obtain ⟨rec, hrec⟩ : ∃ rec : LoopState → Option Code → Loop, rec = fun st pe => { state := st, pending := pe, fn, tmps := a.tmps, params := ps, assign, body, defers := w.heap.size } := ⟨_, rfl⟩
  obtain ⟨W1, hW1⟩ : ∃ W1, (w.alloc (.deferred (some []))).alloc (.loop (rec .ready none)) = W1 := ⟨_, rfl⟩
  have hs1 : W1.heap.size = w.heap.size + 2 := by rw [← hW1]; simp
  have hL1 : W1.heap[w.heap.size + 1]? = some (.loop (rec .ready none)) := by
    rw [← hW1]; have := World.alloc_heap_new (w.alloc (.deferred (some []))) (.loop (rec .ready none)); rwa [World.size_alloc] at this
  have hK1 : W1.heap[w.heap.size]? = some (.deferred (some [])) := by
    rw [← hW1]; exact (Below.heap_alloc _ _ _ (by simp)).trans (World.alloc_heap_new w _)
  have hbw : Below w.heap.size w W1 := by
    rw [← hW1]; exact (((Below.refl _ w).alloc (Nat.le_refl _) _).alloc (by simp) _)
  have hI1 : I [] fp0 W1 := hI _ _ _ _ h0 (.of_below hbw)
  have hb1 : Below w0.heap.size w0 W1 := hb0.trans (hbw.mono hb0.size)
  -- a turn of the loop's record
  have put : ∀ {pre : List α} {fp : List Nat} {W : World} (o' : Obj), (∀ b ∈ fp, b < w.heap.size ∨ w.heap.size + 2 ≤ b) → I pre fp W → I pre fp (W.putObj (w.heap.size + 1) o') := fun {pre fp W} o' hf hi =>
    hI _ _ _ _ hi ⟨rfl, rfl, rfl, by simp [World.putObj], fun k hk hc => World.putObj_heap_other (by
      rcases hc with hc | hc
      · omega
      · rcases hf k hc with h | h <;> omega)⟩
  refine ⟨w.heap.size + 1, [{ target := .collected w.heap.size, args := #[] }], W1, { target := .fn (.func gf) lb, args := #[.func (.yield (w.heap.size + 1)) #[] #[]] }, W1, gf,
    #[.func (.yield (w.heap.size + 1)) #[] #[]] ++ lb, W1, ?_, ?_, ?_, ?_, fun _ => h1, ?_⟩
  · rw [← hW1, hrec]; exact run_enterLoop_outer _ _ _ _ _
  · simp only [resolve, hg]
    simp [go_sem]
  · intro f' hf'; simp [Target.leads] at hf'; subst hf'; exact hFg
  · simp [invoke, go_sem, eg]
  · refine (hseq (w.heap.size + 1)
      (fun pre fp W => I pre fp W ∧ (∀ b ∈ fp, b < w.heap.size ∨ w.heap.size + 2 ≤ b) ∧ W.heap[w.heap.size + 1]? = some (.loop (rec .ready none)) ∧ W.heap[w.heap.size]? = some (.deferred (some [])))
      (fun pre W => ∃ c, Ix c pre W ∧ W.heap[w.heap.size + 1]? = some (.loop (rec .done (some c))) ∧ W.heap[w.heap.size]? = some (.deferred (some [])))
      fp0 W1 hb1 (fun b hb => by have := hfp b hb; omega) (fun pre fp W h => hIT pre fp W h.1)
      (fun pre fp A B hs hst => ⟨hI _ _ _ _ hs.1 (hst.less (by omega)), hs.2.1, (hst.block _ (Array.getElem?_eq_some_iff.1 hs.2.2.1).1 (.inl (by omega))).trans hs.2.2.1, (hst.block _ (Array.getElem?_eq_some_iff.1 hs.2.2.2).1 (.inl (by omega))).trans hs.2.2.2⟩)
      ?_ ⟨hI1, fun b hb => .inl (hfp b hb), hL1, hK1⟩).mono ?_
    · rintro pre fp x v W ⟨hi, hf, hl, hk⟩ hsz hpre hpv
      have hlt : w.heap.size + 1 < W.heap.size := (Array.getElem?_eq_some_iff.1 hl).1
      have hy := run_yield (P := P) (args := #[v]) hl (by rw [hrec]; exact hps)
      rw [hrec] at hy
      refine ⟨fn, _, assign, body, hy, roundIn_of_wpIn hfn (hassign _ v W _ ⟨_, run_beginRound hl (by rw [hrec]), ?_⟩)⟩
      have hl2 : (W.putObj (w.heap.size + 1) (.loop { rec .ready none with state := .busy })).heap[w.heap.size + 1]? = some (.loop { rec .ready none with state := .busy }) := World.putObj_heap_same hlt
      have hk2 : (W.putObj (w.heap.size + 1) (.loop { rec .ready none with state := .busy })).heap[w.heap.size]? = some (.deferred (some [])) := (World.putObj_heap_other (by omega)).trans hk
      have hz2 : (W.putObj (w.heap.size + 1) (.loop { rec .ready none with state := .busy })).heap.size = W.heap.size := by simp [World.putObj]
      refine wpIn_mono (hbody _ pre fp x v _ (put _ hf hi) hpre (hPv _ _ _ _ _ _ hl rfl hpv) (by rw [hz2]; omega) hf) ?_
      have hnl : w.heap.size + 1 ∉ fp := fun h => by rcases hf _ h with h | h <;> omega
      have hnd : w.heap.size ∉ fp := fun h => by rcases hf _ h with h | h <;> omega
      have fin : ∀ (jump : Option Code) (fp' : List Nat) (W3 : World), Grew w.heap.size fp fp' (W.putObj (w.heap.size + 1) (.loop { rec .ready none with state := .busy })) W3 →
          (Instr.endRound (w.heap.size + 1) jump).run P W3 = .ok (.bool jump.isNone) (W3.putObj (w.heap.size + 1) (.loop (rec (if jump.isNone then .ready else .done) jump))) ∧
          W3.heap[w.heap.size + 1]? = some (.loop { rec .ready none with state := .busy }) ∧
          (W3.putObj (w.heap.size + 1) (.loop (rec (if jump.isNone then .ready else .done) jump))).heap[w.heap.size + 1]? = some (.loop (rec (if jump.isNone then .ready else .done) jump)) ∧
          (W3.putObj (w.heap.size + 1) (.loop (rec (if jump.isNone then .ready else .done) jump))).heap[w.heap.size]? = some (.deferred (some [])) := fun jump fp' W3 hg3 => by
        have hl3 := (hg3.keep _ (by omega) (by rw [hz2]; omega) hnl).trans hl2
        have hk3 := (hg3.keep _ (by omega) (by rw [hz2]; omega) hnd).trans hk2
        have := run_endRound (P := P) jump hl3
        rw [hrec] at this ⊢
        exact ⟨this, by rw [hrec] at hl3; exact hl3, World.putObj_heap_same (Array.getElem?_eq_some_iff.1 hl3).1, (World.putObj_heap_other (by omega)).trans hk3⟩
      rintro e a3 W3 hp
      cases e with
      | normal =>
        obtain ⟨fp', hi3, hg3⟩ := hp
        obtain ⟨hr, hl3, hl4, hk4⟩ := fin none fp' W3 hg3
        have hf' : ∀ b ∈ fp', b < w.heap.size ∨ w.heap.size + 2 ≤ b := fun b hb => by
          rcases hg3.new b hb with h | h
          · exact hf b h
          · rw [hz2] at h; omega
        refine ⟨_, _, hr, .inl ⟨rfl, fp', ⟨put _ hf' hi3, hf', hl4, hk4⟩, ⟨?_, fun b hb => ?_, fun b h1 h2 h3 => ?_⟩⟩⟩
        · have := hg3.size; rw [hz2] at this; simpa [World.putObj] using this
        · have := hg3.new b hb; rwa [hz2] at this
        · rw [World.putObj_heap_other (by omega), hg3.keep b (by omega) (by rw [hz2]; exact h2) h3, World.putObj_heap_other (by omega)]
      | ret =>
        obtain ⟨fp', hi3, hg3⟩ := hp
        obtain ⟨hr, hl3, hl4, hk4⟩ := fin (some .ret) fp' W3 hg3
        exact ⟨_, _, hr, .inr ⟨rfl, .ret, hIx _ _ _ _ _ _ (by omega) hl3 rfl hi3, hl4, hk4⟩⟩
      | exit id =>
        obtain ⟨fp', hi3, hg3⟩ := hp
        obtain ⟨hr, hl3, hl4, hk4⟩ := fin (some (.exit id)) fp' W3 hg3
        exact ⟨_, _, hr, .inr ⟨rfl, .exit id, hIx _ _ _ _ _ _ (by omega) hl3 rfl hi3, hl4, hk4⟩⟩
      | goto t =>
        obtain ⟨fp', hi3, hg3⟩ := hp
        obtain ⟨hr, hl3, hl4, hk4⟩ := fin (some (.goto t)) fp' W3 hg3
        exact ⟨_, _, hr, .inr ⟨rfl, .goto t, hIx _ _ _ _ _ _ (by omega) hl3 rfl hi3, hl4, hk4⟩⟩
      | panic ch => exact hp.elim
      | outgrown => exact hp.elim
    · rintro e W2 ⟨⟨v, rfl⟩, (⟨fp', hi, hf, hl, hk⟩ | ⟨pre, hpre, c, hi, hl, hk⟩)⟩
      · exact ⟨none, _, by have := run_endLoop (P := P) hl (by rw [hrec]; simp); rw [hrec] at this; exact this, hdone _ _ _ (Nat.le_refl _) (put _ hf hi) (fun h => by rcases hf _ h with h | h <;> omega) ((World.putObj_heap_other (by omega)).trans hk)⟩
      · exact ⟨some c, _, by have := run_endLoop (P := P) hl (by rw [hrec]; simp); rw [hrec] at this; exact this, hstop _ c pre _ (Nat.le_refl _) hpre (hIx _ _ _ _ _ _ (by omega) hl rfl hi) ((World.putObj_heap_other (by omega)).trans hk)⟩
end Go.Rg
