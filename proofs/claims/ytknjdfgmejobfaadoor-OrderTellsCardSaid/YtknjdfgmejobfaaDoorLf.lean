/- Texts that stand together: Nl, Nm, Nr, Ns, Nn, No, Nx. -/
import Derived.Test.YtknjdfgmejobfaaDoorLe
import Derived.Test.YtknjdfgmejobfaaDoorLc
import Derived.Test.YtknjdfgmejobfaaDoorLb
import Derived.OwnWalk
import Derived.Deep.AppendLies
/- package rel: Of. -/
namespace Go.Proofs.YtknjdfgmejobfaaDoor
open Go.RowKit Go.Shelf

attribute [-go_sem] run_eql_struct run_neq_struct
attribute [local go_sem] Bv.and_u Bv.or_u Bv.andNot_u Bv.wrap_sub1 Bv.eq0 Bv.ne0 Bv.wrap_pow Bv.wrap_powmin Bv.wrap_neg Bv.eq_u Bv.ne_u Bv.shr_min Bv.shr_pow Bv.tmod2 Bv.and1 Bv.wrap_add Bv.B1_eq1 Bv.B1_eq0 Bv.B1_ne1 Bv.B1_ne0

/-- the pairs l lie from A on -/
def PairsAt (w : World) (A : Option Addr) (l : List (Int × Int)) : Prop :=
  0 < l.length → ∃ b off, A = some ⟨b, off, none⟩ ∧ b < w.heap.size ∧ ∀ i, i < l.length → w.cell? ⟨b, off + i * 2, none⟩ = some (.int .i64 (l.getD i (0, 0)).1) ∧ w.cell? ⟨b, off + i * 2 + 1, none⟩ = some (.int .i64 (l.getD i (0, 0)).2)
theorem PairsAt.below {n : Nat} {w w' : World} {A : Option Addr} {l : List (Int × Int)} (h : PairsAt w A l) (hb : Below n w w') (hn : w.heap.size ≤ n) : PairsAt w' A l := by
  intro hp
  obtain ⟨b, off, e, hlt, hc⟩ := h hp
  exact ⟨b, off, e, Nat.lt_of_lt_of_le hlt hb.size, fun i hi => ⟨(hb.cell (p := ⟨b, off + i * 2, none⟩) (by show b < n; omega)).trans (hc i hi).1, (hb.cell (p := ⟨b, off + i * 2 + 1, none⟩) (by show b < n; omega)).trans (hc i hi).2⟩⟩
def inB (n : Int) (p : Int × Int) : Bool := decide (0 ≤ p.1 ∧ p.1 < n ∧ 0 ≤ p.2 ∧ p.2 < n)
def addP (f : Rl.Rows) (p : Int × Int) : Rl.Rows := upd f p.1.toNat (f p.1.toNat ||| Bv.bit p.2.toNat)
def ofR (l : List (Int × Int)) : Rl.Rows := l.foldl addP zeroR
def ofB (n : Int) (l : List (Int × Int)) : Bool := decide (0 ≤ n ∧ n ≤ 48) && l.all (inB n)

/-- what Of answers: the number, the rows, the error -/
def ofN (n : Int) (l : List (Int × Int)) : Int := if ofB n l then n else 0
def ofF (n : Int) (l : List (Int × Int)) : Rl.Rows := if ofB n l then ofR l else zeroR
def ofE (n : Int) (l : List (Int × Int)) : Int := if ofB n l then 0 else 2
theorem of_true {n : Int} {l : List (Int × Int)} (h : ofB n l = true) : ofN n l = n ∧ ofF n l = ofR l ∧ ofE n l = 0 := by unfold ofN ofF ofE; rw [h]; exact ⟨rfl, rfl, rfl⟩
theorem of_false {n : Int} {l : List (Int × Int)} (h : ofB n l = false) : ofN n l = 0 ∧ ofF n l = zeroR ∧ ofE n l = 2 := by unfold ofN ofF ofE; rw [h]; exact ⟨rfl, rfl, rfl⟩
set_option maxRecDepth 100000 in
set_option maxHeartbeats 1000000 in
theorem of_yes (n : Nat) (A : Option Addr) (l : List (Int × Int)) (cap : Nat) (w : World) (hn : n ≤ 48) (hl : l.length ≤ maxLen) (hA : PairsAt w A l) :
    Calls Tryd.prog 41 #[.int .i64 n, .slice A l.length cap] w fun e w' => e = .returned (.tuple #[.agg (relC (ofN n l) (ofF n l)), .int .i64 (ofE n l)]) ∧ Below w.heap.size w w' := by
  unfold maxLen at hl
  have hzr := zero_rel
  have hbr := build_rel
  have hbz := build_zero
  have hne0 : ¬ relC 0 zeroR = #[] := by intro h; have := congrArg Array.size h; rw [relC_size] at this; simp at this
  have q0 : ¬ ((n : Int) < 0) := by omega
  have q1 : ¬ ((48 : Int) < (n : Int)) := by omega
  have h0 := (RelAt.new w 0 zeroR).alloc (.cells (relC 0 zeroR) 26)
  have h1 := RelAt.new (w.alloc (.cells (relC 0 zeroR) 26)) 0 zeroR
  rw [World.size_alloc] at h1
  have hB := (((Below.refl w.heap.size w).alloc (Nat.le_refl _) (.cells (relC 0 zeroR) 26)).alloc (by simp) (.cells (relC 0 zeroR) 26))
  have H := Lib.hid (And.intro h0 (And.intro h1 (And.intro hB hA)))
  clear h0 h1 hB hA
  go_enter Tryd.func41, Tryd.ntmps41
  go_wp2_with (refine wpList_store_rel (by rfl) (.tmp 6) (.tmp 17) (by rfl) (w.heap.size + 1) n 0 zeroR zeroR (by rfl) (by rfl) H.out.2.1 ?_; intro w3 hR3 hg3)
  have H3 := Lib.hid (And.intro hR3 (And.intro (H.out.1.kept hg3 (by intro e; injection e with e; omega)) (H.out.2.2.1.grown hg3 H.out.2.2.1.size (fun j e => by injection e with e; omega))))
  clear hR3 hg3
  go_loopw [20] (fun c wr => ∃ k : Nat, k ≤ l.length ∧ c = .int .i64 k ∧ (l.take k).all (inB n) = true ∧ RelAt wr (w.heap.size + 1) n (ofR (l.take k)) ∧ RelAt wr w.heap.size 0 zeroR ∧ Below w.heap.size w wr) (fun c _ => l.length - (intOf c).toNat)
  case atStart => exact ⟨0, Nat.zero_le _, rfl, by simp, by simpa [ofR] using H3.out.1, H3.out.2⟩
  case round =>
    obtain ⟨k, hk, rfl, hall, r1, r0, hb⟩ := hrel
    by_cases hlt : k < l.length
    · obtain ⟨b, off, rfl, hbl, hc⟩ := (H.out.2.2.2.below hb (Nat.le_refl _)) (by omega)
      obtain ⟨c1, c2⟩ := hc k hlt
      obtain ⟨p, hp⟩ : ∃ p, p = l.getD k (0, 0) := ⟨_, rfl⟩
      rw [← hp] at c1 c2
      obtain ⟨x, y⟩ := p
      have hel : l[k]? = some (x, y) := by
        rw [List.getD_eq_getElem?_getD, List.getElem?_eq_getElem hlt] at hp
        rw [List.getElem?_eq_getElem hlt, hp]; rfl
      have htk : l.take (k + 1) = l.take k ++ [(x, y)] := by rw [List.take_add_one, hel]; rfl
      cases hin : inB n (x, y)
      · have hnot : l.all (inB n) = false := by
          rw [Bool.eq_false_iff]
          intro h
          rw [List.all_eq_true] at h
          rw [h (x, y) (List.mem_of_getElem? hel)] at hin
          cases hin
        have HN := Lib.hid (of_false (n := (n : Int)) (l := l) (by unfold ofB; rw [hnot, Bool.and_false]))
        have hcase : x < 0 ∨ (0 ≤ x ∧ (n : Int) ≤ x) ∨ (0 ≤ x ∧ x < n ∧ y < 0) ∨ (0 ≤ x ∧ x < n ∧ 0 ≤ y ∧ (n : Int) ≤ y) := by
          have h := of_decide_eq_false hin
          simp only [] at h
          omega
        have hR := r0.alloc (.cells #[.int .i64 x, .int .i64 y] 42)
        have hB := hb.alloc hb.size (.cells #[.int .i64 x, .int .i64 y] 42)
        have HH := Lib.hid (And.intro hR hB)
        clear hall r1 r0 hb hp hc hin hel htk hR hB hnot
        rcases hcase with h1 | ⟨h1, h2⟩ | ⟨h1, h2, h3⟩ | ⟨h1, h2, h3, h4⟩
        all_goals
          go_wp2_with (refine wpList_store_rel (by rfl) (.tmp 4) (.tmp 44) (by rfl) w.heap.size 0 0 zeroR zeroR (by rfl) (by rfl) HH.out.1 ?_; intro w4 hR4 hg4)
          refine bodyPost_ret (results_rel_tmp rfl _ _ w.heap.size 0 zeroR rfl hR4) rfl ⟨by rw [HN.out.1, HN.out.2.1, HN.out.2.2]; rfl, HH.out.2.grown hg4 HH.out.2.size (fun j e => by injection e with e; omega)⟩
      · have hcase := of_decide_eq_true hin
        simp only [] at hcase
        obtain ⟨h1, h2, h3, h4⟩ := hcase
        obtain ⟨i, rfl⟩ : ∃ i : Nat, x = (i : Int) := ⟨x.toNat, by omega⟩
        obtain ⟨j, rfl⟩ : ∃ j : Nat, y = (j : Int) := ⟨y.toNat, by omega⟩
        have hi : i < n := by omega
        have hj : j < n := by omega
        have q2 : (i : Int) < 48 := by omega
        have q3 : (j : Int) < 64 := by omega
        have hall2 : (l.take (k + 1)).all (inB n) = true := by rw [htk, List.all_append, hall]; simp [hin]
        have hof : ofR (l.take (k + 1)) = upd (ofR (l.take k)) i (ofR (l.take k) i ||| Bv.bit j) := by rw [htk]; unfold ofR; rw [List.foldl_append]; rfl
        obtain ⟨W, hW⟩ : ∃ W, W = wr.alloc (.cells #[.int .i64 (i : Int), .int .i64 (j : Int)] 42) := ⟨_, rfl⟩
        have rn := World.alloc_heap_new wr (.cells #[.int .i64 (i : Int), .int .i64 (j : Int)] 42)
        have r1' := r1.alloc (.cells #[.int .i64 (i : Int), .int .i64 (j : Int)] 42)
        have r0' := r0.alloc (.cells #[.int .i64 (i : Int), .int .i64 (j : Int)] 42)
        have hb' := hb.alloc hb.size (.cells #[.int .i64 (i : Int), .int .i64 (j : Int)] 42)
        rw [← hW] at rn r1' r0' hb'
        have d0 : W.cell? ⟨wr.heap.size, 0, none⟩ = some (.int .i64 (i : Int)) := by rw [cell_of_row _ _ 0 _ _ _ rn]; rfl
        have d1 : W.cell? ⟨wr.heap.size, 1, none⟩ = some (.int .i64 (j : Int)) := by rw [cell_of_row _ _ 1 _ _ _ rn]; rfl
        have d2 := r1'.row i (by omega)
        have f2 := r1'.free (1 + i)
        have hset := r1'.drew.set i (ofR (l.take k) i ||| Bv.bit j)
        rw [← hof] at hset
        obtain ⟨v, hv⟩ : ∃ v, v = ofR (l.take k) i := ⟨_, rfl⟩
        rw [← hv] at d2 hset
        have H4 := Lib.hid (And.intro hset (And.intro (r0'.drew.other ⟨w.heap.size + 1, 1 + i, none⟩ (.int .u64 (Bv.U (v ||| Bv.bit j))) (by simp)) (And.intro (hb'.drew.setCell (p := ⟨w.heap.size + 1, 1 + i, none⟩) (by simp) (.int .u64 (Bv.U (v ||| Bv.bit j)))) (And.intro hall2 hW))))
        clear hset hall2 hW r1' r0' hb' rn hof hv hin htk hel hp hall r1 r0 hb hc
        go_wp2_with fail
        rw [← H4.out.2.2.2.2]
        go_still_tail 11, (by kernel_rfl)
        change wpList _ _ _ _ _ W.drew
        have c3 : W.drew.cell? ⟨w.heap.size + 1, 1 + i, none⟩ = some (.int .u64 (Bv.U v)) := d2
        have f3 : W.drew.frozen? ⟨w.heap.size + 1, 1 + i, none⟩ = false := f2
        go_step
        go_wp2_with fail
        rw [← World.setCell_drew]
        go_roundw
        case rel => exact ⟨k + 1, by omega, by go_num, H4.out.2.2.2.1, H4.out.1, H4.out.2.1, H4.out.2.2.1⟩
        case measure => simp [intOf]; omega
    · have hkl : k = l.length := by omega
      subst hkl
      rw [List.take_length] at hall r1
      have HN := Lib.hid (of_true (n := (n : Int)) (l := l) (by unfold ofB; rw [hall, Bool.and_true]; exact decide_eq_true ⟨by omega, by omega⟩))
      have HH := Lib.hid (And.intro r1 (And.intro r0 hb))
      clear hall r1 r0 hb
      go_wp2_with (first | (refine wpList_load_rel (by rfl) (.tmp 6) (by rfl) (w.heap.size + 1) n (ofR l) (by rfl) HH.out.1 ?_) | (refine wpList_store_rel (by rfl) (.tmp 4) (.tmp 57) (by rfl) w.heap.size n 0 (ofR l) zeroR (by rfl) (by rfl) HH.out.2.1 ?_; intro w4 hR4 hg4))
      refine bodyPost_ret (results_rel_tmp rfl _ _ w.heap.size n (ofR l) rfl hR4) rfl ⟨by rw [HN.out.1, HN.out.2.1, HN.out.2.2]; rfl, HH.out.2.2.grown hg4 HH.out.2.2.size (fun j e => by injection e with e; omega)⟩
set_option maxRecDepth 100000 in
set_option maxHeartbeats 1000000 in
theorem of_bad (n : Int) (A : Value) (l : List (Int × Int)) (w : World) (hn : n < 0 ∨ 48 < n) :
    Calls Tryd.prog 41 #[.int .i64 n, A] w fun e w' => e = .returned (.tuple #[.agg (relC (ofN n l) (ofF n l)), .int .i64 (ofE n l)]) ∧ Below w.heap.size w w' := by
  have hzr := zero_rel
  have hbz := build_zero
  have HN := Lib.hid (of_false (n := n) (l := l) (by unfold ofB; rw [decide_eq_false (by omega)]; rfl))
  have h0 := RelAt.new w 0 zeroR
  have hB := (Below.refl w.heap.size w).alloc (Nat.le_refl _) (.cells (relC 0 zeroR) 26)
  have H := Lib.hid (And.intro h0 hB)
  clear h0 hB
  rcases hn with h1 | h1
  all_goals
    go_enter Tryd.func41, Tryd.ntmps41
    go_wp2_with (refine wpList_store_rel (by rfl) (.tmp 4) (.tmp 15) (by rfl) w.heap.size 0 0 zeroR zeroR (by rfl) (by rfl) H.out.1 ?_; intro w4 hR4 hg4)
    refine bodyPost_ret (results_rel_tmp rfl _ _ w.heap.size 0 zeroR rfl hR4) rfl ⟨by rw [HN.out.1, HN.out.2.1, HN.out.2.2]; rfl, H.out.2.grown hg4 H.out.2.size (fun j e => by injection e with e; omega)⟩
theorem of_any (n : Int) (A : Option Addr) (l : List (Int × Int)) (cap : Nat) (w : World) (hl : l.length ≤ maxLen) (hA : PairsAt w A l) :
    Calls Tryd.prog 41 #[.int .i64 n, .slice A l.length cap] w fun e w' => e = .returned (.tuple #[.agg (relC (ofN n l) (ofF n l)), .int .i64 (ofE n l)]) ∧ Below w.heap.size w w' := by
  by_cases h : n < 0 ∨ 48 < n
  · exact of_bad n _ l w h
  · obtain ⟨m, rfl⟩ : ∃ m : Nat, n = (m : Int) := ⟨n.toNat, by omega⟩
    exact of_yes m A l cap w (by omega) hl hA
end Go.Proofs.YtknjdfgmejobfaaDoor

/- seisinlaw02: Fine. -/
namespace Go.Proofs.YtknjdfgmejobfaaDoor
open Go.RowKit Go.Shelf

attribute [-go_sem] run_eql_struct run_neq_struct
attribute [local go_sem] Bv.and_u Bv.or_u Bv.andNot_u Bv.wrap_sub1 Bv.eq0 Bv.ne0 Bv.wrap_pow Bv.wrap_powmin Bv.wrap_neg Bv.eq_u Bv.ne_u Bv.shr_min Bv.shr_pow Bv.tmod2 Bv.and1 Bv.wrap_add Bv.B1_eq1 Bv.B1_eq0 Bv.B1_ne1 Bv.B1_ne0

/-- the number that Fine makes of n -/
def fineK (n : Int) (m : Nat) : Nat := ((n.tmod ((m : Int) + 1) + m + 1) % ((m : Int) + 1)).toNat
/-- the rows that Fine makes -/
def fineR (k : Nat) (f : Rl.Rows) : Rl.Rows := Rl.cut k fun a => f a &&& Rl.below (k : Int)
theorem fineK_le (n : Int) (m : Nat) : fineK n m ≤ m := by
  unfold fineK
  have h1 := Int.emod_lt_of_pos (n.tmod ((m : Int) + 1) + m + 1) (show (0 : Int) < (m : Int) + 1 by omega)
  have h2 := Int.emod_nonneg (n.tmod ((m : Int) + 1) + m + 1) (show (m : Int) + 1 ≠ 0 by omega)
  omega
theorem ok_fine {k : Nat} (hk : k ≤ 48) (f : Rl.Rows) : Rl.Ok k (fineR k f) := Rl.ok_cut hk fun a b _ h => by
  unfold Rl.bit at h
  have hb := Bx.lt64 h
  rw [BitVec.getLsbD_and, Rl.below_getN _ _ hb, Bool.and_eq_true] at h
  exact of_decide_eq_true h.2
/-- after j rows -/
def fineM (j k : Nat) (f : Rl.Rows) : Rl.Rows := fun i => if i < j then fineR k f i else f i
theorem fineM_zero (k : Nat) (f : Rl.Rows) : fineM 0 k f = f := by funext i; unfold fineM; rw [if_neg (by omega)]
theorem fineM_all (k : Nat) (f : Rl.Rows) (hk : k ≤ 48) (zf : Rl.Z f) : fineM 48 k f = fineR k f := by
  funext i; unfold fineM
  by_cases h : i < 48
  · rw [if_pos h]
  · rw [if_neg h, zf i (by omega)]; unfold fineR; rw [Rl.cut_ge (by omega)]
theorem fineM_in (j k : Nat) (f : Rl.Rows) (h : j < k) : upd (fineM j k f) j (f j &&& Rl.below (k : Int)) = fineM (j + 1) k f := by
  funext i; unfold upd fineM
  by_cases e : i = j
  · subst e; rw [if_pos rfl, if_pos (by omega)]; unfold fineR; rw [Rl.cut_lt h]
  · rw [if_neg e]
    by_cases hi : i < j
    · rw [if_pos hi, if_pos (by omega)]
    · rw [if_neg hi, if_neg (by omega)]
theorem fineM_out (j k : Nat) (f : Rl.Rows) (h : ¬ j < k) : upd (fineM j k f) j 0#64 = fineM (j + 1) k f := by
  funext i; unfold upd fineM
  by_cases e : i = j
  · subst e; rw [if_pos rfl, if_pos (by omega)]; unfold fineR; rw [Rl.cut_ge h]
  · rw [if_neg e]
    by_cases hi : i < j
    · rw [if_pos hi, if_pos (by omega)]
    · rw [if_neg hi, if_neg (by omega)]
theorem fineM_at (j k : Nat) (f : Rl.Rows) : fineM j k f j = f j := by unfold fineM; rw [if_neg (by omega)]
theorem upd_upd (f : Rl.Rows) (a : Nat) (s t : BitVec 64) : upd (upd f a s) a t = upd f a t := by
  funext i; unfold upd; split <;> rfl
end Go.Proofs.YtknjdfgmejobfaaDoor

/- package rel: Star. -/
namespace Go.Proofs.YtknjdfgmejobfaaDoor
open Go.RowKit Go.Shelf

attribute [local go_sem] Bv.and_u Bv.or_u Bv.andNot_u Bv.wrap_sub1 Bv.eq0 Bv.ne0 Bv.wrap_pow Bv.wrap_powmin Bv.wrap_neg Bv.eq_u Bv.ne_u Bv.shr_min Bv.shr_pow Bv.tmod2 Bv.and1 Bv.wrap_add Bv.B1_eq1 Bv.B1_eq0 Bv.B1_ne1 Bv.B1_ne0

theorem run_alloc_rel (ρ : Operand → Value) (dst : Option Tmp) (ty : TypeId) (pos : String) (after : Array Edge) (W : World) :
    (execOp ρ { dst, op := .alloc 26, type := ty, pos, after, guard := none }).run Tryd.prog W = .ok (.value (.pointer (some ⟨W.heap.size, 0, none⟩))) (W.alloc (.cells (relC 0 zeroR) 26)) := by
  have hzr := zero_rel
  have hne0 : ¬ relC 0 zeroR = #[] := by intro h; have := congrArg Array.size h; rw [relC_size] at this; simp at this
  simp [execOp, go_sem, hzr]
/-- loads in the head of a region -/
theorem bel_load_rel {ops : Array Oper} {w0 : World} {Q : Act → Prop} {a : Act} {rest : List Oper} {o : Oper} (hw : Region.wanted o (yielded ops a.tmps) = true) (x : Operand) (hop : o.op = .load 26 x)
    (b : Nat) (n : Int) (f : Rl.Rows) (hx : a.eval x = .pointer (some ⟨b, 0, none⟩)) (hR : RelAt w0 b n f) (h : Bl.wpBelO Tryd.prog ops w0 Q rest (a.put o.dst (.agg (relC n f)))) : Bl.wpBelO Tryd.prog ops w0 Q (o :: rest) a :=
  Bl.belO_value hw (fun W hW => by
    unfold execOp
    simp only [hop, hx, Instr.loadAt, Instr.sureAddr, Sem.run_bind, Sem.run_pure, Result.andThen_ok, run_loadVar_row (P := Tryd.prog) _ b 26 26 (relC n f) (0, 0) _ (hR.below hW hR.lt) uRel rfl (sRelC n f)]) h
/-- the store of a relation into a new variable -/
theorem writes_rel {o : Oper} {a : Act} (x y : Operand) (hop : o.op = .store 26 x y) (b : Nat) (m n : Int) (g f : Rl.Rows) (hx : a.eval x = .pointer (some ⟨b, 0, none⟩)) (hy : a.eval y = .agg (relC m g)) :
    Bl.Writes Tryd.prog o a (.cells (relC n f) 26) (.cells (relC m g) 26) b := by
  intro W hR
  have hrun := run_storeVar_row (P := Tryd.prog) W b 26 26 (relC n f) (relC m g) hR (sRelC m g) (by rw [relC_size, relC_size]) (relC_one m g)
  refine ⟨W.setRow b (relC m g), ?_, ⟨rfl, rfl, rfl, by simp, fun k _ hk => setRow_other W b k _ (fun e => hk (by rw [e]))⟩, setRow_heap W b (relC n f) _ 26 (0, 0) hR⟩
  unfold execOp
  simp only [hop, hx, hy, Instr.storeAt, Instr.sureAddr, Sem.run_bind, Sem.run_pure, Result.andThen_ok, hrun]
/-! ### the operations on valid relations -/
theorem comb_ok {n : Nat} {f g : Rl.Rows} (hf : Rl.Ok n f) (hg : Rl.Ok n g) (rows : Rl.Rows) : combN n n f g = n ∧ combF n n f g rows = Rl.cut n rows ∧ combE n n f g = 0 := by
  have h : okB n n f g = true := by unfold okB; rw [Rl.right_of hf, Rl.right_of hg]; simp
  unfold combN combF combE
  rw [h]
  exact ⟨rfl, rfl, rfl⟩
theorem union_ok (n : Nat) (f g : Rl.Rows) (w : World) (hf : Rl.Ok n f) (hg : Rl.Ok n g) :
    Calls Tryd.prog 19 #[.agg (relC n f), .agg (relC n g)] w fun e w' => e = .returned (.tuple #[.agg (relC n (Rl.unionF n f g)), .int .i64 0]) ∧ Below w.heap.size w w' := by
  have h := union_any n n f g w hf.z hg.z
  have e := comb_ok hf hg (fun k => f k ||| g k)
  rw [e.1, e.2.1, e.2.2] at h
  exact h

set_option maxRecDepth 100000 in
set_option maxHeartbeats 1000000 in
theorem star_yes (n : Nat) (f : Rl.Rows) (w : World) (hr : Rl.Ok n f) (hT : Tab w) (hw : 0 < w.heap.size) :
    Calls Tryd.prog 67 #[.agg (relC n f)] w fun e w' => e = .returned (.agg (relC n (Rl.unionF n (Rl.plusF n f) (Rl.idF n (Rl.below (n : Int)))))) ∧ Below w.heap.size w w' := by
  have hzr := zero_rel
  have hn := hr.le
  have h0 := (RelAt.new w n f).alloc (.cells (relC 0 zeroR) 26)
  have h1 := RelAt.new (w.alloc (.cells (relC n f) 26)) 0 zeroR
  rw [World.size_alloc] at h1
  have hB := (((Below.refl w.heap.size w).alloc (Nat.le_refl _) (.cells (relC n f) 26)).alloc (by simp) (.cells (relC 0 zeroR) 26))
  have hTl : ∀ W, Below w.heap.size w W → Tab W ∧ 0 < W.heap.size := fun W h => ⟨hT.below h hw, Nat.lt_of_lt_of_le hw h.size⟩
  have HT := Lib.hid hTl
  have HO := Lib.hid hr
  have H := Lib.hid (And.intro h0 (And.intro h1 (And.intro hB (Rl.right_of hr))))
  have hne0 : ¬ relC 0 zeroR = #[] := by intro h; have := congrArg Array.size h; rw [relC_size] at this; simp at this
  clear h0 h1 hB hr hT hTl
  go_enter Tryd.func67, Tryd.ntmps67
  go_wp2_with (refine wpList_load_rel (by rfl) (.tmp 1) (by rfl) w.heap.size n f (by rfl) H.out.1 ?_)
  with_reducible refine (right_is _ _ _ H.out.2.2.2 _).mono ?_
  rintro e w1 ⟨rfl, hb⟩
  have H1 := Lib.hid (And.intro (H.out.1.below hb (by simp; omega)) (And.intro (H.out.2.1.below hb (by simp)) (H.out.2.2.1.trans (hb.mono H.out.2.2.1.size))))
  clear hb
  have hTW : ∀ W, Below w1.heap.size w1 W → Tab W ∧ 0 < W.heap.size := fun W h => HT.out W (H1.out.2.2.trans (h.mono H1.out.2.2.size))
  have HTW := Lib.hid hTW
  clear hTW
  go_wp2_with fail
  refine Bl.wp_region_head_store 12 _ _ (.cells (relC 0 zeroR) 26) (.cells (relC n (Rl.unionF n (Rl.plusF n f) (Rl.idF n (Rl.below (n : Int))))) 26) (by kernel_rfl) (by kernel_rfl) rfl rfl (fun a W => run_alloc_rel _ _ _ _ _ _) rfl rfl ?_
  simp only [List.take_succ_cons, List.take_zero, List.drop_succ_cons, List.drop_zero]
  have cN : ∀ W, Below w1.heap.size w1 W → W.cell? ⟨w.heap.size, 0, none⟩ = some (.int .i64 n) := fun W hW => (H1.out.1.below hW H1.out.1.lt).num
  refine bel_load_rel (by rfl) (.tmp 1) (by rfl) w.heap.size n f (by rfl) H1.out.1 ?_
  simp only [Act.put, List.setIfInBounds_toArray, List.set_cons_zero, List.set_cons_succ]
  refine Bl.belO_call 25 #[.agg (relC n f)] (by rfl) (fun W => by simp [execOp, go_sem]) (fun W hW => plus_yes n f W HO.out (HTW.out W hW).1 (HTW.out W hW).2) ?_
  simp only [Act.put, List.setIfInBounds_toArray, List.set_cons_zero, List.set_cons_succ]
  refine Bl.belO_step (by rfl) (fun W hW => by have c1 := cN W hW; simp [execOp, go_sem, c1]; exact ⟨rfl, rfl⟩) ?_
  simp only [Act.put, List.setIfInBounds_toArray, List.set_cons_zero, List.set_cons_succ]
  repeat (refine Bl.belO_step (by rfl) (fun W hW => by have c1 := cN W hW; simp [execOp, go_sem, c1]; exact ⟨rfl, rfl⟩) ?_; simp only [Act.put, List.setIfInBounds_toArray, List.set_cons_zero, List.set_cons_succ])
  refine Bl.belO_call 81 #[.int .i64 n] (by rfl) (fun W => by simp [execOp, go_sem]) (fun W hW => (all_is _ _ (allS_below n) W).mono fun e w' h => ⟨h.1, by rw [← h.2]; exact Below.refl _ _⟩) ?_
  simp only [Act.put, List.setIfInBounds_toArray, List.set_cons_zero, List.set_cons_succ]
  refine Bl.belO_call 21 #[.int .i64 n, .int .u64 (Bv.U (Rl.below (n : Int)))] (by rfl) (fun W => by simp [execOp, go_sem]) (fun W hW => id_any n _ W hn) ?_
  simp only [Act.put, List.setIfInBounds_toArray, List.set_cons_zero, List.set_cons_succ]
  refine Bl.belO_call 19 #[.agg (relC n (Rl.plusF n f)), .agg (relC n (Rl.idF n (Rl.below (n : Int))))] (by rfl) (fun W => by simp [execOp, go_sem]) (fun W hW => union_ok n _ _ W (Rl.ok_plus HO.out) (Rl.ok_id hn _)) ?_
  simp only [Act.put, List.setIfInBounds_toArray, List.set_cons_zero, List.set_cons_succ]
  repeat (refine Bl.belO_step (by rfl) (fun W hW => by have c1 := cN W hW; simp [execOp, go_sem, c1]; exact ⟨rfl, rfl⟩) ?_; simp only [Act.put, List.setIfInBounds_toArray, List.set_cons_zero, List.set_cons_succ])
  refine Bl.belO_nil ?_
  intro b
  refine ⟨writes_rel (.tmp 3) (.tmp 19) (by rfl) b n 0 _ zeroR (by rfl) (by rfl), ?_⟩
  intro w2 hb2 hle hR2
  have h1b := H1.out.2.1.below hb2 H1.out.2.1.lt
  have hbw := H1.out.2.2.trans (hb2.mono H1.out.2.2.size)
  have hne : w.heap.size + 1 ≠ b := by have := H1.out.2.1.lt; omega
  have hR2' : RelAt w2 b n (Rl.unionF n (Rl.plusF n f) (Rl.idF n (Rl.below (n : Int)))) := hR2
  have H2 := Lib.hid (And.intro hR2' (And.intro h1b hbw))
  clear hR2 hR2' h1b hbw hb2 cN
  simp only [Act.put, List.setIfInBounds_toArray, List.set_cons_zero, List.set_cons_succ]
  go_wp2_with (first
    | (refine wpList_load_rel (by rfl) (.tmp 3) (by rfl) b n _ (by rfl) H2.out.1 ?_)
    | (refine wpList_store_rel (by rfl) (.tmp 2) (.tmp 21) (by rfl) (w.heap.size + 1) n 0 (Rl.unionF n (Rl.plusF n f) (Rl.idF n (Rl.below (n : Int)))) zeroR (by rfl) (by rfl) H2.out.2.1 ?_; intro w4 hR4 hg4))
  refine bodyPost_ret (results_cell_row rfl _ _ (w.heap.size + 1) 26 (relC n (Rl.unionF n (Rl.plusF n f) (Rl.idF n (Rl.below (n : Int))))) (0, 0) _ rfl hR4 uRel rfl (sRelC _ _)) rfl ⟨rfl, H2.out.2.2.grown hg4 H2.out.2.2.size (fun j e => by injection e with e; omega)⟩
set_option maxRecDepth 100000 in
set_option maxHeartbeats 1000000 in
theorem star_no (n : Int) (f : Rl.Rows) (w : World) (hr : Rl.rightB n f = false) :
    Calls Tryd.prog 67 #[.agg (relC n f)] w fun e w' => e = .returned (.agg (relC 0 zeroR)) ∧ Below w.heap.size w w' := by
  have hzr := zero_rel
  have hbz := build_zero
  have h0 := (RelAt.new w n f).alloc (.cells (relC 0 zeroR) 26)
  have h1 := RelAt.new (w.alloc (.cells (relC n f) 26)) 0 zeroR
  rw [World.size_alloc] at h1
  have hB := (((Below.refl w.heap.size w).alloc (Nat.le_refl _) (.cells (relC n f) 26)).alloc (by simp) (.cells (relC 0 zeroR) 26))
  have H := Lib.hid (And.intro h0 (And.intro h1 (And.intro hB hr)))
  clear h0 h1 hB hr
  go_enter Tryd.func67, Tryd.ntmps67
  go_wp2_with (refine wpList_load_rel (by rfl) (.tmp 1) (by rfl) w.heap.size n f (by rfl) H.out.1 ?_)
  with_reducible refine (right_is _ _ _ H.out.2.2.2 _).mono ?_
  rintro e w1 ⟨rfl, hb⟩
  have H1 := Lib.hid (And.intro (H.out.2.1.below hb (by simp)) (H.out.2.2.1.trans (hb.mono H.out.2.2.1.size)))
  clear hb
  go_wp2_with (refine wpList_store_rel (by rfl) (.tmp 2) (.tmp 8) (by rfl) (w.heap.size + 1) 0 0 zeroR zeroR (by rfl) (by rfl) H1.out.1 ?_; intro w3 hR3 hg3)
  refine bodyPost_ret (results_cell_row rfl _ _ (w.heap.size + 1) 26 (relC 0 zeroR) (0, 0) _ rfl hR3 uRel rfl (sRelC _ _)) rfl ⟨rfl, H1.out.2.grown hg3 H1.out.2.size (fun j e => by injection e with e; omega)⟩
/-- the reflexive closure, valid or not -/
noncomputable def starR (n : Int) (f : Rl.Rows) : Rl.Rows := if Rl.rightB n f then Rl.unionF n.toNat (Rl.plusF n.toNat f) (Rl.idF n.toNat (Rl.below n)) else zeroR
theorem star_any (n : Int) (f : Rl.Rows) (w : World) (zf : Rl.Z f) (hT : Tab w) (hw : 0 < w.heap.size) :
    Calls Tryd.prog 67 #[.agg (relC n f)] w fun e w' => e = .returned (.agg (relC (backN n f) (starR n f))) ∧ Below w.heap.size w w' := by
  unfold backN starR
  cases h : Rl.rightB n f
  · rw [if_neg (by simp), if_neg (by simp)]; exact star_no n f w h
  · obtain ⟨m, rfl, hm⟩ := Rl.right_nat zf h
    rw [if_pos rfl, if_pos rfl, Int.toNat_natCast]; exact star_yes m f w hm hT hw
end Go.Proofs.YtknjdfgmejobfaaDoor

/- seisinlaw02: Fine, the walk. -/
namespace Go.Proofs.YtknjdfgmejobfaaDoor
open Go.RowKit Go.Shelf

attribute [-go_sem] run_eql_struct run_neq_struct
attribute [local go_sem] Bv.and_u Bv.or_u Bv.andNot_u Bv.wrap_sub1 Bv.eq0 Bv.ne0 Bv.wrap_pow Bv.wrap_powmin Bv.wrap_neg Bv.eq_u Bv.ne_u Bv.shr_min Bv.shr_pow Bv.tmod2 Bv.and1 Bv.wrap_add Bv.B1_eq1 Bv.B1_eq0 Bv.B1_ne1 Bv.B1_ne0

theorem below_bit {k : Nat} (hk : k ≤ 64) : Bv.bit k - 1#64 = Rl.below (k : Int) := by
  unfold Rl.below; rw [Int.toNat_natCast, Nat.min_eq_left hk]
theorem tmod_bd (n : Int) (m : Nat) : -(m : Int) ≤ n.tmod ((m : Int) + 1) ∧ n.tmod ((m : Int) + 1) ≤ m := by
  have h1 := Int.tmod_lt_of_pos n (show (0 : Int) < (m : Int) + 1 by omega)
  have h2 := Int.lt_tmod_of_pos n (show (0 : Int) < (m : Int) + 1 by omega)
  omega
set_option maxRecDepth 100000 in
set_option maxHeartbeats 2000000 in
theorem fine_any (n : Int) (f : Rl.Rows) (m : Nat) (w : World) (hm : m ≤ 48) (zf : Rl.Z f) :
    Calls Tryd.prog 17 #[.agg (relC n f), .int .i64 m] w fun e w' => e = .returned (.agg (relC (fineK n m) (fineR (fineK n m) f))) ∧ Below w.heap.size w w' := by
  have hzr := zero_rel
  obtain ⟨r1, r2⟩ := tmod_bd n m
  obtain ⟨k, hk⟩ : ∃ k, k = fineK n m := ⟨_, rfl⟩
  have hk48 : k ≤ 48 := by rw [hk]; exact Nat.le_trans (fineK_le n m) hm
  have hkv : (n.tmod ((m : Int) + 1) + m + 1) % ((m : Int) + 1) = (k : Int) := by
    rw [hk]; unfold fineK
    have h2 := Int.emod_nonneg (n.tmod ((m : Int) + 1) + m + 1) (show (m : Int) + 1 ≠ 0 by omega)
    omega
  rw [← hk]
  have h0 := (RelAt.new w n f).alloc (.cells (relC 0 zeroR) 26)
  have h1 := RelAt.new (w.alloc (.cells (relC n f) 26)) 0 zeroR
  rw [World.size_alloc] at h1
  have hB := (((Below.refl w.heap.size w).alloc (Nat.le_refl _) (.cells (relC n f) 26)).alloc (by simp) (.cells (relC 0 zeroR) 26))
  have c0 := h0.num
  have f0 := h0.free 0
  have H := Lib.hid (And.intro h0 (And.intro h1 (And.intro hB (And.intro zf hk))))
  have hne0 : ¬ relC 0 zeroR = #[] := by intro h; have := congrArg Array.size h; rw [relC_size] at this; simp at this
  clear h0 h1 hB zf hk
  go_enter Tryd.func17, Tryd.ntmps17
  go_wp2_with fail
  rw [relC_setN]
  have g0 := (RelAt.new w k f).alloc (.cells (relC 0 zeroR) 26)
  have g1 := RelAt.new (w.alloc (.cells (relC k f) 26)) 0 zeroR
  rw [World.size_alloc] at g1
  have gB := (((Below.refl w.heap.size w).alloc (Nat.le_refl _) (.cells (relC k f) 26)).alloc (by simp) (.cells (relC 0 zeroR) 26))
  have H1 := Lib.hid (And.intro g0 (And.intro g1 gB))
  clear g0 g1 gB c0 f0
  have HK := Lib.hid hkv
  clear hkv
  go_loopw [18] (fun c wr => ∃ j : Nat, j ≤ 48 ∧ c = .int .i64 j ∧ RelAt wr w.heap.size k (fineM j k f) ∧ RelAt wr (w.heap.size + 1) 0 zeroR ∧ Below w.heap.size w wr) (fun c _ => 48 - (intOf c).toNat)
  case atStart => exact ⟨0, Nat.zero_le _, rfl, by rw [fineM_zero]; exact H1.out⟩
  case round =>
    obtain ⟨j, hj, rfl, hR0, hR1, hb⟩ := hrel
    by_cases hlt : j < 48
    · have q0 : (0 : Int) ≤ (j : Int) := by omega
      have q1 : (j : Int) < 48 := by omega
      have q2 : (0 : Int) ≤ (k : Int) := by omega
      have q3 : (k : Int) < 64 := by omega
      have c0 := hR0.num
      by_cases hjk : j < k
      · have hd : decide (k ≤ j) = false := decide_eq_false (by omega)
        have cN : ∀ W, Below wr.heap.size wr W → W.cell? ⟨w.heap.size, 0, none⟩ = some (.int .i64 k) := fun W hW => (hR0.below hW hR0.lt).num
        have cR : ∀ W, Below wr.heap.size wr W → W.cell? ⟨w.heap.size, 1 + j, none⟩ = some (.int .u64 (Bv.U (f j))) := fun W hW => by have := (hR0.below hW hR0.lt).row j hlt; rwa [fineM_at] at this
        have HH := Lib.hid (And.intro hR0 (And.intro hR1 hb))
        have CN := Lib.hid (And.intro cN cR)
        clear hR0 hR1 hb cN cR
        go_wp2_with fail
        refine Bl.wp_region_head 11 (by kernel_rfl) (by kernel_rfl) ?_
        simp only [List.take_succ_cons, List.take_zero, List.drop_succ_cons, List.drop_zero]
        repeat (refine Bl.belO_step (by rfl) (fun W hW => by have c1 := CN.out.1 W hW; have c2 := CN.out.2 W hW; simp [execOp, go_sem, c1, c2, q0, q1]; exact ⟨rfl, rfl⟩) ?_; simp only [Act.put, List.setIfInBounds_toArray, List.set_cons_zero, List.set_cons_succ])
        refine Bl.belO_nil ?_
        intro w2 hb2
        have hR0 := HH.out.1.below hb2 HH.out.1.lt
        have hc := hR0.row j hlt
        have hf := hR0.free (1 + j)
        have hset := hR0.set j (f j &&& (Bv.bit k - 1#64))
        rw [below_bit (by omega : k ≤ 64)] at hset
        rw [fineM_in j k f hjk] at hset
        have H2 := Lib.hid (And.intro hset (And.intro ((HH.out.2.1.below hb2 HH.out.2.1.lt).other ⟨w.heap.size, 1 + j, none⟩ (.int .u64 (Bv.U (f j &&& Rl.below (k : Int)))) (by simp)) ((HH.out.2.2.trans (hb2.mono HH.out.2.2.size)).setCell (p := ⟨w.heap.size, 1 + j, none⟩) (Nat.le_refl _) (.int .u64 (Bv.U (f j &&& Rl.below (k : Int)))))))
        rw [below_bit (by omega : k ≤ 64)]
        clear hset hR0 hb2
        go_wp2_with fail
        go_roundw
        case rel => exact ⟨j + 1, by omega, by go_num, H2.out.1, H2.out.2.1, H2.out.2.2⟩
        case measure => simp [intOf]; omega
      · have hd : decide (k ≤ j) = true := decide_eq_true (by omega)
        have c3 := hR0.row j hlt
        have f3 := hR0.free (1 + j)
        obtain ⟨W5, hW5⟩ : ∃ W5, W5 = wr.setCell ⟨w.heap.size, 1 + j, none⟩ (.int .u64 0) := ⟨_, rfl⟩
        have hS0 : RelAt W5 w.heap.size k (upd (fineM j k f) j 0#64) := by rw [hW5]; exact hR0.set j 0#64
        have hS1 : RelAt W5 (w.heap.size + 1) 0 zeroR := by rw [hW5]; exact hR1.other ⟨w.heap.size, 1 + j, none⟩ (.int .u64 0) (by simp)
        have hSB : Below w.heap.size w W5 := by rw [hW5]; exact hb.setCell (p := ⟨w.heap.size, 1 + j, none⟩) (Nat.le_refl _) (.int .u64 0)
        have cN : ∀ W, Below W5.heap.size W5 W → W.cell? ⟨w.heap.size, 0, none⟩ = some (.int .i64 k) := fun W hW => (hS0.below hW hS0.lt).num
        have cR : ∀ W, Below W5.heap.size W5 W → W.cell? ⟨w.heap.size, 1 + j, none⟩ = some (.int .u64 (Bv.U 0#64)) := fun W hW => by have := (hS0.below hW hS0.lt).row j hlt; rwa [upd_same] at this
        have HH := Lib.hid (And.intro hS0 (And.intro hS1 (And.intro hSB hW5)))
        have CN := Lib.hid (And.intro cN cR)
        clear hR0 hR1 hb cN cR hS0 hS1 hSB hW5
        go_wp2_with fail
        rw [← HH.out.2.2.2]
        refine Bl.wp_region_head 11 (by kernel_rfl) (by kernel_rfl) ?_
        simp only [List.take_succ_cons, List.take_zero, List.drop_succ_cons, List.drop_zero]
        repeat (refine Bl.belO_step (by rfl) (fun W hW => by have c1 := CN.out.1 W hW; have c2 := CN.out.2 W hW; simp [execOp, go_sem, c1, c2, q0, q1]; exact ⟨rfl, rfl⟩) ?_; simp only [Act.put, List.setIfInBounds_toArray, List.set_cons_zero, List.set_cons_succ])
        refine Bl.belO_nil ?_
        intro w2 hb2
        have hR0 := HH.out.1.below hb2 HH.out.1.lt
        have hc := hR0.row j hlt
        have hf := hR0.free (1 + j)
        have hset := hR0.set j (0#64 &&& (Bv.bit k - 1#64))
        rw [upd_upd, show (0#64 &&& (Bv.bit k - 1#64)) = 0#64 by simp, fineM_out j k f hjk] at hset
        have H2 := Lib.hid (And.intro hset (And.intro ((HH.out.2.1.below hb2 HH.out.2.1.lt).other ⟨w.heap.size, 1 + j, none⟩ (.int .u64 (Bv.U 0#64)) (by simp)) ((HH.out.2.2.1.trans (hb2.mono HH.out.2.2.1.size)).setCell (p := ⟨w.heap.size, 1 + j, none⟩) (Nat.le_refl _) (.int .u64 (Bv.U 0#64)))))
        clear hset hR0 hb2 c3 f3
        go_wp2_with fail
        go_roundw
        case rel => exact ⟨j + 1, by omega, by go_num, H2.out.1, H2.out.2.1, H2.out.2.2⟩
        case measure => simp [intOf]; omega
    · have hj48 : j = 48 := by omega
      subst hj48
      rw [fineM_all k f hk48 H.out.2.2.2.1] at hR0
      have HH := Lib.hid (And.intro hR0 (And.intro hR1 hb))
      clear hR0 hR1 hb
      go_wp2_with (first
        | (refine wpList_load_rel (by rfl) (.tmp 2) (by rfl) w.heap.size k (fineR k f) (by rfl) HH.out.1 ?_)
        | (refine wpList_store_rel (by rfl) (.tmp 4) (.tmp 40) (by rfl) (w.heap.size + 1) k 0 (fineR k f) zeroR (by rfl) (by rfl) HH.out.2.1 ?_; intro w4 hR4 hg4))
      refine bodyPost_ret (results_cell_row rfl _ _ (w.heap.size + 1) 26 (relC k (fineR k f)) (0, 0) _ rfl hR4 uRel rfl (sRelC _ _)) rfl ⟨rfl, HH.out.2.2.grown hg4 HH.out.2.2.size (fun j e => by injection e with e; omega)⟩
/-- a relation that is fine already -/
theorem fineK_same {k m : Nat} (h : k ≤ m) : fineK k m = k := by
  unfold fineK
  have e1 : ((k : Int)).tmod ((m : Int) + 1) = k := by rw [Int.tmod_eq_emod_of_nonneg (by omega)]; exact Int.emod_eq_of_lt (by omega) (by omega)
  rw [e1, show ((k : Int) + m + 1) = k + ((m : Int) + 1) * 1 by omega, Int.add_mul_emod_self_left, Int.emod_eq_of_lt (by omega) (by omega)]
  omega
end Go.Proofs.YtknjdfgmejobfaaDoor

/- package rel: From, Into, Empty, Irreflexive. -/
namespace Go.Proofs.YtknjdfgmejobfaaDoor
open Go.RowKit Go.Shelf

attribute [local go_sem] Bv.and_u Bv.or_u Bv.andNot_u Bv.wrap_sub1 Bv.eq0 Bv.ne0 Bv.wrap_pow Bv.wrap_powmin Bv.wrap_neg Bv.eq_u Bv.ne_u Bv.shr_min Bv.shr_pow Bv.tmod2 Bv.and1 Bv.wrap_add Bv.B1_eq1 Bv.B1_eq0 Bv.B1_ne1 Bv.B1_ne0

/-- a relation read whole, behind a guard -/
theorem wpList_load_rel_want {ops : Array Oper} {rest : List Oper} {op : Oper} {a : Act} {w : World} {Q : Exit → Act → World → Prop} (hw : Region.wanted op (yielded ops a.tmps) = true) (x : Operand) (ho : op.op = .load 26 x)
    (b : Nat) (n : Int) (f : Rl.Rows) (hx : a.eval x = .pointer (some ⟨b, 0, none⟩)) (hR : RelAt w b n f)
    (h : wpList Tryd.prog ops Q rest (a.put op.dst (.agg (relC n f))) w) : wpList Tryd.prog ops Q (op :: rest) a w :=
  BigFrame.wpList_want hw fun K hK => by
    unfold Oper.wp execOp
    simp only [ho, hx, Instr.loadAt, Instr.sureAddr, Sem.run_bind, Sem.run_pure, Result.andThen_ok, run_loadVar_row (P := Tryd.prog) w b 26 26 (relC n f) (0, 0) _ hR uRel rfl (sRelC n f)]
    exact hK _ _ h

/-! ### From -/
def fromK (f : Rl.Rows) (k : Nat) : BitVec 64 := Bx.mk fun a => decide (a < k) && !(f a == 0#64)
theorem fromK_hit (f : Rl.Rows) (k : Nat) (hk : k < 48) (h : (f k == 0#64) = false) : fromK f k ||| Bv.bit k = fromK f (k + 1) := by
  apply Bv.ext_get; intro i hi
  unfold fromK
  rw [BitVec.getLsbD_or, Bx.mk_get _ i hi, Bx.mk_get _ i hi, Bv.bit_get k i (by omega)]
  by_cases e : i = k
  · subst e; simp [h]
  · have e1 : decide (i < k + 1) = decide (i < k) := by rw [Bool.eq_iff_iff]; simp; omega
    rw [e1, decide_eq_false e, Bool.or_false]
theorem fromK_miss (f : Rl.Rows) (k : Nat) (h : (f k == 0#64) = true) : fromK f k = fromK f (k + 1) := by
  apply Bv.ext_get; intro i hi
  unfold fromK
  rw [Bx.mk_get _ i hi, Bx.mk_get _ i hi]
  by_cases e : i = k
  · subst e; simp [h]
  · have e1 : decide (i < k + 1) = decide (i < k) := by rw [Bool.eq_iff_iff]; simp; omega
    rw [e1]
theorem fromK_zero (f : Rl.Rows) : fromK f 0 = 0#64 := by
  apply Bv.ext_get; intro i hi; unfold fromK; rw [Bx.mk_get _ i hi, Bv.zero_get]; simp

def fromS (n : Int) (f : Rl.Rows) : BitVec 64 := if Rl.rightB n f then Rl.fromF n.toNat f else 0#64
set_option maxRecDepth 100000 in
set_option maxHeartbeats 1000000 in
theorem from_no (n : Int) (f : Rl.Rows) (w : World) (hr : Rl.rightB n f = false) :
    Calls Tryd.prog 43 #[.agg (relC n f)] w fun e w' => e = .returned (.int .u64 (Bv.U 0#64)) ∧ Below w.heap.size w w' := by
  have H := Lib.hid (And.intro (RelAt.new w n f) (And.intro ((Below.refl w.heap.size w).alloc (Nat.le_refl _) (.cells (relC n f) 26)) hr))
  clear hr
  go_enter Tryd.func43, Tryd.ntmps43
  go_wp2_with (refine wpList_load_rel (by rfl) (.tmp 1) (by rfl) w.heap.size n f (by rfl) H.out.1 ?_)
  with_reducible refine (right_is _ _ _ H.out.2.2 _).mono ?_
  rintro e w1 ⟨rfl, hb⟩
  have H1 := Lib.hid (H.out.2.1.trans (hb.mono H.out.2.1.size))
  clear hb
  go_wp2_with fail
  go_ret
  exact ⟨rfl, H1.out⟩
set_option maxRecDepth 100000 in
set_option maxHeartbeats 1000000 in
theorem from_yes (n : Nat) (f : Rl.Rows) (w : World) (hr : Rl.Ok n f) :
    Calls Tryd.prog 43 #[.agg (relC n f)] w fun e w' => e = .returned (.int .u64 (Bv.U (Rl.fromF n f))) ∧ Below w.heap.size w w' := by
  have hn := hr.le
  have H := Lib.hid (And.intro (RelAt.new w n f) (And.intro ((Below.refl w.heap.size w).alloc (Nat.le_refl _) (.cells (relC n f) 26)) (Rl.right_of hr)))
  clear hr
  go_enter Tryd.func43, Tryd.ntmps43
  go_wp2_with (refine wpList_load_rel (by rfl) (.tmp 1) (by rfl) w.heap.size n f (by rfl) H.out.1 ?_)
  with_reducible refine (right_is _ _ _ H.out.2.2 _).mono ?_
  rintro e w1 ⟨rfl, hb⟩
  have H1 := Lib.hid (And.intro (H.out.1.below hb (by simp)) (H.out.2.1.trans (hb.mono H.out.2.1.size)))
  clear hb
  have c0 := H1.out.1.num
  go_wp2_with fail
  go_loop [3, 10] (fun x i => ∃ k : Nat, k ≤ n ∧ i = .int .i64 k ∧ x = .int .u64 (Bv.U (fromK f k))) (fun _ i => n - (intOf i).toNat)
  case atStart => exact ⟨0, Nat.zero_le _, rfl, by rw [fromK_zero]; rfl⟩
  case round =>
    obtain ⟨k, hk, rfl, rfl⟩ := hrel
    by_cases hlt : k < n
    · have c1 := H1.out.1.row k (by omega)
      have q0 : (0 : Int) ≤ (k : Int) := by omega
      have q1 : (k : Int) < 48 := by omega
      have q2 : (k : Int) < 64 := by omega
      cases hz : (f k == 0#64)
      · have HK := Lib.hid (fromK_hit f k (by omega) hz)
        have he : (f k != 0#64) = true := by simp only [bne, hz]; rfl
        clear hz
        go_wp2_with fail
        go_round
        case rel => exact ⟨k + 1, by omega, by go_num, by rw [← HK.out]⟩
        case measure => simp [intOf]; omega
      · have HK := Lib.hid (fromK_miss f k hz)
        have he : (f k != 0#64) = false := by simp only [bne, hz]; rfl
        clear hz
        go_wp2_with fail
        go_round
        case rel => exact ⟨k + 1, by omega, by go_num, by rw [← HK.out]⟩
        case measure => simp [intOf]; omega
    · have hkn : k = n := by omega
      subst hkn
      go_wp2_with fail
      go_ret
      exact ⟨rfl, H1.out.2⟩
theorem from_any (n : Int) (f : Rl.Rows) (w : World) (zf : Rl.Z f) :
    Calls Tryd.prog 43 #[.agg (relC n f)] w fun e w' => e = .returned (.int .u64 (Bv.U (fromS n f))) ∧ Below w.heap.size w w' := by
  unfold fromS
  cases h : Rl.rightB n f
  · rw [if_neg (by simp)]; exact from_no n f w h
  · obtain ⟨m, rfl, hm⟩ := Rl.right_nat zf h
    rw [if_pos rfl, Int.toNat_natCast]; exact from_yes m f w hm
theorem from_is (n : Int) (f : Rl.Rows) (s : BitVec 64) (hs : fromS n f = s) (w : World) (zf : Rl.Z f) :
    Calls Tryd.prog 43 #[.agg (relC n f)] w fun e w' => e = .returned (.int .u64 (Bv.U s)) ∧ Below w.heap.size w w' := by subst hs; exact from_any n f w zf

/-! ### Into -/
def intoS (n : Int) (f : Rl.Rows) : BitVec 64 := if Rl.rightB n f then Rl.intoF n.toNat f else 0#64
theorem below48 {n : Nat} (hn : n ≤ 48) (i : Nat) (h : (Rl.below (n : Int)).getLsbD i = true) : i < 48 := by
  rw [Rl.below_getN _ _ (Bx.lt64 h)] at h
  have := of_decide_eq_true h; omega
set_option maxRecDepth 100000 in
set_option maxHeartbeats 1000000 in
theorem into_no (n : Int) (f : Rl.Rows) (w : World) (hr : Rl.rightB n f = false) :
    Calls Tryd.prog 44 #[.agg (relC n f)] w fun e w' => e = .returned (.int .u64 (Bv.U 0#64)) ∧ Below w.heap.size w w' := by
  have H := Lib.hid (And.intro (RelAt.new w n f) (And.intro ((Below.refl w.heap.size w).alloc (Nat.le_refl _) (.cells (relC n f) 26)) hr))
  clear hr
  go_enter Tryd.func44, Tryd.ntmps44
  go_wp2_with (refine wpList_load_rel (by rfl) (.tmp 1) (by rfl) w.heap.size n f (by rfl) H.out.1 ?_)
  with_reducible refine (right_is _ _ _ H.out.2.2 _).mono ?_
  rintro e w1 ⟨rfl, hb⟩
  have H1 := Lib.hid (H.out.2.1.trans (hb.mono H.out.2.1.size))
  clear hb
  go_wp2_with fail
  go_ret
  exact ⟨rfl, H1.out⟩
set_option maxRecDepth 100000 in
set_option maxHeartbeats 1000000 in
theorem into_yes (n : Nat) (f : Rl.Rows) (w : World) (hr : Rl.Ok n f) (hT : Tab w) (hw : 0 < w.heap.size) :
    Calls Tryd.prog 44 #[.agg (relC n f)] w fun e w' => e = .returned (.int .u64 (Bv.U (Rl.intoF n f))) ∧ Below w.heap.size w w' := by
  have hn := hr.le
  have hTl : ∀ W, Below w.heap.size w W → Tab W ∧ 0 < W.heap.size := fun W h => ⟨hT.below h hw, Nat.lt_of_lt_of_le hw h.size⟩
  have HT := Lib.hid hTl
  have H := Lib.hid (And.intro (RelAt.new w n f) (And.intro ((Below.refl w.heap.size w).alloc (Nat.le_refl _) (.cells (relC n f) 26)) (Rl.right_of hr)))
  clear hr hT hTl
  go_enter Tryd.func44, Tryd.ntmps44
  go_wp2_with (refine wpList_load_rel (by rfl) (.tmp 1) (by rfl) w.heap.size n f (by rfl) H.out.1 ?_)
  with_reducible refine (right_is _ _ _ H.out.2.2 _).mono ?_
  rintro e w1 ⟨rfl, hb⟩
  have H1 := Lib.hid (And.intro (H.out.1.below hb (by simp)) (H.out.2.1.trans (hb.mono H.out.2.1.size)))
  clear hb
  have c0 := H1.out.1.num
  go_wp2_with fail
  refine (all_is _ _ (allS_below n) _).mono ?_
  rintro e w2 ⟨rfl, rfl⟩
  go_wp2_with fail
  refine (image_any w.heap.size n f (Rl.below (n : Int)) w1 H1.out.1 (below48 hn) (HT.out _ H1.out.2).1 (HT.out _ H1.out.2).2).mono ?_
  rintro e w3 ⟨rfl, hb⟩
  have H3 := Lib.hid (H1.out.2.trans (hb.mono H1.out.2.size))
  clear hb
  go_wp2_with fail
  go_ret
  exact ⟨rfl, H3.out⟩
theorem into_any (n : Int) (f : Rl.Rows) (w : World) (zf : Rl.Z f) (hT : Tab w) (hw : 0 < w.heap.size) :
    Calls Tryd.prog 44 #[.agg (relC n f)] w fun e w' => e = .returned (.int .u64 (Bv.U (intoS n f))) ∧ Below w.heap.size w w' := by
  unfold intoS
  cases h : Rl.rightB n f
  · rw [if_neg (by simp)]; exact into_no n f w h
  · obtain ⟨m, rfl, hm⟩ := Rl.right_nat zf h
    rw [if_pos rfl, Int.toNat_natCast]; exact into_yes m f w hm hT hw

/-! ### Empty -/
def emptyB (n : Int) (f : Rl.Rows) : Bool := Rl.rightB n f && (fromS n f == 0#64)
set_option maxRecDepth 100000 in
set_option maxHeartbeats 1000000 in
theorem empty_any (n : Int) (f : Rl.Rows) (w : World) (zf : Rl.Z f) :
    Calls Tryd.prog 34 #[.agg (relC n f)] w fun e w' => e = .returned (.bool (emptyB n f)) ∧ Below w.heap.size w w' := by
  unfold emptyB
  have HZ := Lib.hid zf
  cases hr : Rl.rightB n f
  all_goals
    have H := Lib.hid (And.intro (RelAt.new w n f) (And.intro ((Below.refl w.heap.size w).alloc (Nat.le_refl _) (.cells (relC n f) 26)) hr))
    clear hr
    go_enter Tryd.func34, Tryd.ntmps34
    go_wp2_with (refine wpList_load_rel (by rfl) (.tmp 1) (by rfl) w.heap.size n f (by rfl) H.out.1 ?_)
    with_reducible refine (right_is _ _ _ H.out.2.2 _).mono ?_
    rintro e w1 ⟨rfl, hb⟩
    have H1 := Lib.hid (And.intro (H.out.1.below hb (by simp)) (H.out.2.1.trans (hb.mono H.out.2.1.size)))
    clear hb
  · go_wp2_with fail
    go_ret
    exact ⟨rfl, H1.out.2⟩
  · go_wp2_with (refine wpList_load_rel_want (by rfl) (.tmp 1) (by rfl) w.heap.size n f (by rfl) H1.out.1 ?_)
    with_reducible refine (from_any _ _ _ HZ.out).mono ?_
    rintro e w2 ⟨rfl, hb⟩
    have H2 := Lib.hid (H1.out.2.trans (hb.mono H1.out.2.size))
    clear hb
    go_wp2_with fail
    go_ret
    exact ⟨rfl, H2.out⟩
theorem empty_is (n : Int) (f : Rl.Rows) (b : Bool) (hb : emptyB n f = b) (w : World) (zf : Rl.Z f) :
    Calls Tryd.prog 34 #[.agg (relC n f)] w fun e w' => e = .returned (.bool b) ∧ Below w.heap.size w w' := by subst hb; exact empty_any n f w zf

/-! ### Irreflexive -/
def irrB (n : Int) (f : Rl.Rows) : Bool := Rl.rightB n f && Rl.irrF n.toNat f
theorem irrF_succ (k : Nat) (f : Rl.Rows) : Rl.irrF (k + 1) f = (Rl.irrF k f && !Rl.bit f k k) := by simp [Rl.irrF, List.range_succ]
theorem irrF_mono {k n : Nat} {f : Rl.Rows} (hk : k < n) (h : Bv.G (f k) k = true) : Rl.irrF n f = false := by
  rw [Bool.eq_false_iff]
  intro h2
  unfold Rl.irrF at h2
  rw [List.all_eq_true] at h2
  have := h2 k (List.mem_range.2 hk)
  unfold Rl.bit at this
  rw [show (f k).getLsbD k = true from h] at this
  cases this
set_option maxRecDepth 100000 in
set_option maxHeartbeats 1000000 in
theorem irr_no (n : Int) (f : Rl.Rows) (w : World) (hr : Rl.rightB n f = false) :
    Calls Tryd.prog 24 #[.agg (relC n f)] w fun e w' => e = .returned (.bool false) ∧ Below w.heap.size w w' := by
  have H := Lib.hid (And.intro (RelAt.new w n f) (And.intro ((Below.refl w.heap.size w).alloc (Nat.le_refl _) (.cells (relC n f) 26)) hr))
  clear hr
  go_enter Tryd.func24, Tryd.ntmps24
  go_wp2_with (refine wpList_load_rel (by rfl) (.tmp 1) (by rfl) w.heap.size n f (by rfl) H.out.1 ?_)
  with_reducible refine (right_is _ _ _ H.out.2.2 _).mono ?_
  rintro e w1 ⟨rfl, hb⟩
  have H1 := Lib.hid (H.out.2.1.trans (hb.mono H.out.2.1.size))
  clear hb
  go_wp2_with fail
  go_ret
  exact ⟨rfl, H1.out⟩
set_option maxRecDepth 100000 in
set_option maxHeartbeats 1000000 in
theorem irr_yes (n : Nat) (f : Rl.Rows) (w : World) (hr : Rl.Ok n f) :
    Calls Tryd.prog 24 #[.agg (relC n f)] w fun e w' => e = .returned (.bool (Rl.irrF n f)) ∧ Below w.heap.size w w' := by
  have hn := hr.le
  have H := Lib.hid (And.intro (RelAt.new w n f) (And.intro ((Below.refl w.heap.size w).alloc (Nat.le_refl _) (.cells (relC n f) 26)) (Rl.right_of hr)))
  clear hr
  go_enter Tryd.func24, Tryd.ntmps24
  go_wp2_with (refine wpList_load_rel (by rfl) (.tmp 1) (by rfl) w.heap.size n f (by rfl) H.out.1 ?_)
  with_reducible refine (right_is _ _ _ H.out.2.2 _).mono ?_
  rintro e w1 ⟨rfl, hb⟩
  have H1 := Lib.hid (And.intro (H.out.1.below hb (by simp)) (H.out.2.1.trans (hb.mono H.out.2.1.size)))
  clear hb
  have c0 := H1.out.1.num
  go_wp2_with fail
  go_loop [9] (fun i => ∃ k : Nat, k ≤ n ∧ i = .int .i64 k ∧ Rl.irrF k f = true) (fun i => n - (intOf i).toNat)
  case atStart => exact ⟨0, Nat.zero_le _, rfl, rfl⟩
  case round =>
    obtain ⟨k, hk, rfl, hok⟩ := hrel
    by_cases hlt : k < n
    · have c1 := H1.out.1.row k (by omega)
      have q0 : (0 : Int) ≤ (k : Int) := by omega
      have q1 : (k : Int) < 48 := by omega
      have q2 : (k : Int) < 64 := by omega
      cases hb : Bv.G (f k) k
      · have HK := Lib.hid (show Rl.irrF (k + 1) f = true by rw [irrF_succ, hok, show Rl.bit f k k = false from hb]; rfl)
        clear hok
        go_wp2_with fail
        go_round
        case rel => exact ⟨k + 1, by omega, by go_num, HK.out⟩
        case measure => simp [intOf]; omega
      · have HK := Lib.hid (irrF_mono hlt hb)
        clear hok
        go_wp2_with fail
        go_ret
        exact ⟨by rw [HK.out]; rfl, H1.out.2⟩
    · have hkn : k = n := by omega
      subst hkn
      have HK := Lib.hid hok
      clear hok
      go_wp2_with fail
      go_ret
      exact ⟨by rw [HK.out]; rfl, H1.out.2⟩
theorem irr_any (n : Int) (f : Rl.Rows) (w : World) (zf : Rl.Z f) :
    Calls Tryd.prog 24 #[.agg (relC n f)] w fun e w' => e = .returned (.bool (irrB n f)) ∧ Below w.heap.size w w' := by
  unfold irrB
  cases h : Rl.rightB n f
  · exact irr_no n f w h
  · obtain ⟨m, rfl, hm⟩ := Rl.right_nat zf h
    rw [Bool.true_and, Int.toNat_natCast]; exact irr_yes m f w hm
theorem irr_is (n : Int) (f : Rl.Rows) (b : Bool) (hb : irrB n f = b) (w : World) (zf : Rl.Z f) :
    Calls Tryd.prog 24 #[.agg (relC n f)] w fun e w' => e = .returned (.bool b) ∧ Below w.heap.size w w' := by subst hb; exact irr_any n f w zf
end Go.Proofs.YtknjdfgmejobfaaDoor

/- package rel: free, Top, Acyclic. -/
namespace Go.Proofs.YtknjdfgmejobfaaDoor
open Go.RowKit Go.Shelf

attribute [local go_sem] Bv.and_u Bv.or_u Bv.andNot_u Bv.wrap_sub1 Bv.eq0 Bv.ne0 Bv.wrap_pow Bv.wrap_powmin Bv.wrap_neg Bv.eq_u Bv.ne_u Bv.shr_min Bv.shr_pow Bv.tmod2 Bv.and1 Bv.wrap_add Bv.B1_eq1 Bv.B1_eq0 Bv.B1_ne1 Bv.B1_ne0

theorem owns_below {k : Nat} {w w' : World} {base n : Nat} {e : TypeId} {size : Nat} {v : Value} {xs : List Value} (h : w.ownsRow base e size v n xs) (hb : Below k w w') (hk : w.heap.size ≤ k) : w'.ownsRow base e size v n xs :=
  ⟨h.1, h.2.imp id fun ⟨g, cap, cur, h1, h2, h3, h4⟩ => ⟨g, cap, cur, h1, h2, (hb.block g (Nat.lt_of_lt_of_le (Array.getElem?_eq_some_iff.1 h3).1 hk)).trans h3, h4⟩⟩
/-- the item that free gives, or 0; is there one? -/
def freeI (f : Rl.Rows) (s : BitVec 64) : Int := match Rl.freeN f s with
  | some a => (a : Int)
  | none => 0
def freeB (f : Rl.Rows) (s : BitVec 64) : Bool := (Rl.freeN f s).isSome
def freeP (f : Rl.Rows) (s t : BitVec 64) : Option Nat := (Bs.elems t).find? fun a => f a &&& s == 0#64
theorem freeP_zero (f : Rl.Rows) (s : BitVec 64) : freeP f s 0#64 = none := by unfold freeP; rw [show Bs.elems 0#64 = [] from Bs.elems_zero]; rfl
theorem freeP_hit {f : Rl.Rows} {s t : BitVec 64} (ht : t ≠ 0#64) (h : (f (Bs.low t) &&& s == 0#64) = true) : freeP f s t = some (Bs.low t) := by unfold freeP; rw [Bs.elems_step ht, List.find?_cons, h]
theorem freeP_miss {f : Rl.Rows} {s t : BitVec 64} (ht : t ≠ 0#64) (h : (f (Bs.low t) &&& s == 0#64) = false) : freeP f s t = freeP f s (Bs.rest t) := by unfold freeP; rw [Bs.elems_step ht, List.find?_cons, h]

set_option maxRecDepth 100000 in
set_option maxHeartbeats 1000000 in
theorem free_any (b : Nat) (n : Int) (f : Rl.Rows) (s : BitVec 64) (w : World) (hR : RelAt w b n f) (hs : ∀ i, s.getLsbD i = true → i < 48) (hT : Tab w) (hw : 0 < w.heap.size) :
    Calls Tryd.prog 82 #[.pointer (some ⟨b, 0, none⟩), .int .u64 (Bv.U s)] w fun e w' => e = .returned (.tuple #[.int .i64 (freeI f s), .bool (freeB f s)]) ∧ Below w.heap.size w w' := by
  have hTl : ∀ W, Below w.heap.size w W → Tab W ∧ 0 < W.heap.size := fun W h => ⟨hT.below h hw, Nat.lt_of_lt_of_le hw h.size⟩
  have HT := Lib.hid hTl
  have H0 := Lib.hid (And.intro hR hs)
  have HTw := Lib.hid hT
  clear hTl hT hR hs
  go_enter Tryd.func82, Tryd.ntmps82
  go_wp2_with fail
  refine (first_any _ _ HTw.out hw).mono ?_
  rintro e w1 ⟨rfl, hb⟩
  have B1 := Lib.hid hb
  clear hb
  go_wp2_with fail
  go_loopw [6, 7, 8] (fun x p q wr => ∃ t : BitVec 64, x = .int .u64 (Bv.U t) ∧ p = .int .i64 (firstN t) ∧ q = .bool (someB t) ∧ freeP f s t = Rl.freeN f s ∧ (∀ i, t.getLsbD i = true → s.getLsbD i = true) ∧ Below w.heap.size w wr) (fun x _ _ _ => leftOf x)
  case atStart => exact ⟨s, rfl, rfl, rfl, rfl, fun _ h => h, B1.out⟩
  case round =>
    obtain ⟨t, rfl, rfl, rfl, hfr, hsub, hb⟩ := hrel
    by_cases hz : t = 0#64
    · subst hz
      have hno : Rl.freeN f s = none := by rw [← hfr, freeP_zero]
      have HF := Lib.hid (And.intro hno hb)
      clear hno hb hfr hsub
      rw [some_zero.1, some_zero.2]
      go_wp2_with fail
      go_ret2
      exact ⟨by unfold freeI freeB; rw [HF.out.1]; rfl, HF.out.2⟩
    · have hlow := Bs.low_bit hz
      have h48 := H0.out.2 _ (hsub _ hlow)
      have hcell := ((H0.out.1.below hb H0.out.1.lt)).row (Bs.low t) h48
      have hlt := Bs.rest_lt hz
      have hsub2 : ∀ i, (Bs.rest t).getLsbD i = true → s.getLsbD i = true := fun i hi => hsub i (by rw [Bs.rest_bit hz] at hi; simp at hi; exact hi.1)
      rw [(some_ne hz).1, (some_ne hz).2]
      have hh := @freeP_hit f s t hz
      have hm := @freeP_miss f s t hz
      obtain ⟨a, ha⟩ : ∃ a, a = Bs.low t := ⟨_, rfl⟩
      rw [← ha] at hcell h48 hh hm ⊢
      have q0 : (0 : Int) ≤ (a : Int) := by omega
      have q1 : (a : Int) < 48 := by omega
      cases hc : (f a &&& s == 0#64)
      · have hstep := (hm hc).symm.trans hfr
        have HH := Lib.hid (And.intro hstep (And.intro hsub2 (And.intro hb hlt)))
        clear hstep hsub2 hb hlt hfr hsub hlow ha hz hh hm
        go_wp2_with fail
        refine (first_any _ _ (HT.out _ HH.out.2.2.1).1 (HT.out _ HH.out.2.2.1).2).mono ?_
        rintro e w2 ⟨rfl, hb⟩
        have B2 := Lib.hid (HH.out.2.2.1.trans (hb.mono HH.out.2.2.1.size))
        clear hb
        go_wp2_with fail
        go_roundw
        case rel => exact ⟨Bs.rest t, rfl, rfl, rfl, HH.out.1, HH.out.2.1, B2.out⟩
        case measure => rw [leftOf_eq t]; exact Nat.lt_of_le_of_lt (Nat.le_of_eq (leftOf_eq (Bs.rest t))) HH.out.2.2.2
      · have hfin : Rl.freeN f s = some a := by rw [← hfr]; exact hh hc
        have HF := Lib.hid (And.intro hfin hb)
        clear hfin hb hfr hsub hsub2 hlow ha hz hh hm hlt
        go_wp2_with fail
        go_ret2
        exact ⟨by unfold freeI freeB; rw [HF.out.1]; rfl, HF.out.2⟩
theorem free_is (b : Nat) (n : Int) (f : Rl.Rows) (s : BitVec 64) (x : Int) (y : Bool) (hx : freeI f s = x) (hy : freeB f s = y) (w : World) (hR : RelAt w b n f) (hs : ∀ i, s.getLsbD i = true → i < 48) (hT : Tab w) (hw : 0 < w.heap.size) :
    Calls Tryd.prog 82 #[.pointer (some ⟨b, 0, none⟩), .int .u64 (Bv.U s)] w fun e w' => e = .returned (.tuple #[.int .i64 x, .bool y]) ∧ Below w.heap.size w w' := by subst hx hy; exact free_any b n f s w hR hs hT hw

/-! ### Top -/
theorem topGo_zero (f : Rl.Rows) (k : Nat) : Rl.topGo f k 0#64 = some [] := by cases k <;> simp [Rl.topGo]
theorem topGo_none1 {f : Rl.Rows} {k : Nat} {s : BitVec 64} (hs : s ≠ 0#64) (h : Rl.freeN f s = none) : Rl.topGo f (k + 1) s = none := by simp [Rl.topGo, hs, h]
theorem topGo_some1 {f : Rl.Rows} {k : Nat} {s : BitVec 64} {a : Nat} (hs : s ≠ 0#64) (h : Rl.freeN f s = some a) : Rl.topGo f (k + 1) s = (Rl.topGo f k (s &&& ~~~ Bv.bit a)).map (a :: ·) := by simp [Rl.topGo, hs, h]
/-- what Top answers -/
def topR (n : Int) (f : Rl.Rows) : Option (List Nat) := if Rl.rightB n f then Rl.topL n.toNat f else none
def TopOut (o : Option (List Nat)) (w : World) (e : Ending) (w' : World) : Prop :=
  ∃ v, e = .returned (.tuple #[v, .bool o.isSome]) ∧ w'.ownsRow w.heap.size 3 1 v (o.getD []).length (nums (o.getD [])) ∧ Below w.heap.size w w'
set_option maxRecDepth 100000 in
set_option maxHeartbeats 1000000 in
theorem top_no (n : Int) (f : Rl.Rows) (w : World) (hr : Rl.rightB n f = false) :
    Calls Tryd.prog 27 #[.agg (relC n f)] w (TopOut none w) := by
  have H := Lib.hid (And.intro (RelAt.new w n f) (And.intro ((Below.refl w.heap.size w).alloc (Nat.le_refl _) (.cells (relC n f) 26)) hr))
  clear hr
  go_enter Tryd.func27, Tryd.ntmps27
  go_wp2_with (refine wpList_load_rel (by rfl) (.tmp 1) (by rfl) w.heap.size n f (by rfl) H.out.1 ?_)
  with_reducible refine (right_is _ _ _ H.out.2.2 _).mono ?_
  rintro e w1 ⟨rfl, hb⟩
  have H1 := Lib.hid (H.out.2.1.trans (hb.mono H.out.2.1.size))
  clear hb
  go_wp2_with fail
  go_ret2
  exact ⟨_, rfl, World.ownsRow_nil _ _ _ _, H1.out⟩
set_option maxRecDepth 100000 in
set_option maxHeartbeats 2000000 in
theorem top_yes (n : Nat) (f : Rl.Rows) (w : World) (hr : Rl.Ok n f) (hT : Tab w) (hw : 0 < w.heap.size) :
    Calls Tryd.prog 27 #[.agg (relC n f)] w (TopOut (Rl.topL n f) w) := by
  have hn := hr.le
  have hzr := zero_rel
  obtain ⟨i0, hi, hz0, hz1, hz2⟩ := info_parts infoInt
  have hTl : ∀ W, Below w.heap.size w W → Tab W ∧ 0 < W.heap.size := fun W h => ⟨hT.below h hw, Nat.lt_of_lt_of_le hw h.size⟩
  have HT := Lib.hid hTl
  have H := Lib.hid (And.intro (RelAt.new w n f) (And.intro ((Below.refl w.heap.size w).alloc (Nat.le_refl _) (.cells (relC n f) 26)) (And.intro (Rl.right_of hr) hr)))
  have hne0 : ¬ relC 0 zeroR = #[] := by intro h; have := congrArg Array.size h; rw [relC_size] at this; simp at this
  clear hr hT hTl
  go_enter Tryd.func27, Tryd.ntmps27
  go_wp2_with (refine wpList_load_rel (by rfl) (.tmp 1) (by rfl) w.heap.size n f (by rfl) H.out.1 ?_)
  with_reducible refine (right_is _ _ _ H.out.2.2.1 _).mono ?_
  rintro e w1 ⟨rfl, hb⟩
  have H1 := Lib.hid (And.intro (H.out.1.below hb (by simp)) (H.out.2.1.trans (hb.mono H.out.2.1.size)))
  clear hb
  go_wp2_with (refine wpList_load_rel (by rfl) (.tmp 1) (by rfl) w.heap.size n f (by rfl) H1.out.1 ?_)
  with_reducible refine (back_yes n f w1 H.out.2.2.2 (HT.out _ H1.out.2).1 (HT.out _ H1.out.2).2).mono ?_
  rintro e w2 ⟨rfl, hb⟩
  have H2 := Lib.hid (And.intro (H1.out.1.below hb H1.out.1.lt) (H1.out.2.trans (hb.mono H1.out.2.size)))
  clear hb
  go_wp2_with (refine wpList_store_rel (by rfl) (.tmp 4) (.tmp 13) (by rfl) w2.heap.size n 0 (Rl.backF n f) zeroR (by rfl) (by rfl) (RelAt.new w2 0 zeroR) ?_; intro w3 hR3 hg3; have K0 := (H2.out.1.alloc (.cells (relC 0 zeroR) 26)).kept hg3 (by have := H2.out.1.lt; intro e; injection e with e; omega); have KB := (H2.out.2.alloc H2.out.2.size (.cells (relC 0 zeroR) 26)).grown hg3 (by have := H2.out.2.size; simp; omega) (fun j e => by have := H2.out.2.size; injection e with e; omega); have c0 := K0.num; have H3 := Lib.hid (And.intro hR3 (And.intro K0 KB)); clear hR3 hg3 K0 KB)
  refine (all_is _ _ (allS_below n) _).mono ?_
  rintro e w4 ⟨rfl, rfl⟩
  go_wp2_with (at_make; refine wpList_make_own _ rfl _ _ 35 rfl w3.heap.size 3 i0 (.int .i64 0) 1 Tryd.underlying35 hi hz0 hz1 .i64 .i64 _ n rfl rfl (by first | rfl | (simp; done) | omega) (by rw [hz2]; omega) (by unfold maxLen; omega) (Nat.le_refl _) ?_; intro w5 hown5 hgrow5)
  have hb5 := (Below.refl w3.heap.size w3).grown hgrow5 (Nat.le_refl _) (fun k e => by cases e)
  have H5 := Lib.hid (And.intro hown5 hb5)
  clear hown5 hgrow5 hb5 c0
  go_loopw [5, 6] (fun x v wr => ∃ (s : BitVec 64) (k : Nat) (L : List Nat), x = .int .u64 (Bv.U s) ∧ wr.ownsRow w3.heap.size 3 1 v L.length (nums L) ∧ Rl.topL n f = (Rl.topGo (Rl.backF n f) k s).map (L ++ ·) ∧ Bx.card s ≤ k ∧ L.length + k = 64 ∧ (∀ i, s.getLsbD i = true → i < 48) ∧ Below w3.heap.size w3 wr) (fun x _ _ => leftOf x)
  case atStart => exact ⟨Rl.below (n : Int), 64, [], rfl, H5.out.1, by unfold Rl.topL; simp, Bx.card_le _, rfl, below48 hn, H5.out.2⟩
  case round =>
    obtain ⟨s, k, L, rfl, hrow, htop, hcard, hlen, hsub, hb⟩ := hrel
    by_cases hz : s = 0#64
    · subst hz
      have he : (0#64 != 0#64) = false := rfl
      have hfin : Rl.topL n f = some L := by rw [htop, topGo_zero]; simp
      have hs3 : w.heap.size ≤ w3.heap.size := H3.out.2.2.size
      have HF := Lib.hid (And.intro hfin (And.intro (owns_base hrow hs3) (H3.out.2.2.trans (hb.mono hs3))))
      clear hfin hrow htop hcard hsub hb hs3
      go_wp2_with fail
      go_ret2
      exact ⟨_, by rw [HF.out.1]; rfl, by rw [HF.out.1]; exact HF.out.2.1, HF.out.2.2⟩
    · have he : (s != 0#64) = true := by simpa using hz
      have hlow := Bs.low_bit hz
      have hc1 : 0 < Bx.card s := by unfold Bx.card; rw [Bs.elems_step hz]; simp
      obtain ⟨j, rfl⟩ : ∃ j, k = j + 1 := ⟨k - 1, by omega⟩
      have hs3 : w.heap.size ≤ w3.heap.size := H3.out.2.2.size
      have hbw := H3.out.2.2.trans (hb.mono hs3)
      have hRb := H3.out.1.below hb H3.out.1.lt
      cases hfr : Rl.freeN (Rl.backF n f) s with
      | none =>
        have hfin : Rl.topL n f = none := by rw [htop, topGo_none1 hz hfr]; rfl
        have HF := Lib.hid (And.intro hfin (And.intro hRb (And.intro hbw (And.intro hsub (And.intro (show freeI (Rl.backF n f) s = 0 by unfold freeI; rw [hfr]) (show freeB (Rl.backF n f) s = false by unfold freeB; rw [hfr]; rfl))))))
        clear hfin hrow htop hcard hsub hb hs3 hbw hRb hfr hlow hz hc1
        go_wp2_with fail
        refine (free_is w2.heap.size n (Rl.backF n f) s 0 false HF.out.2.2.2.2.1 HF.out.2.2.2.2.2 _ HF.out.2.1 HF.out.2.2.2.1 (HT.out _ HF.out.2.2.1).1 (HT.out _ HF.out.2.2.1).2).mono ?_
        rintro e w6 ⟨rfl, hb⟩
        have H6 := Lib.hid (HF.out.2.2.1.trans (hb.mono HF.out.2.2.1.size))
        clear hb
        go_wp2_with fail
        go_ret2
        exact ⟨_, by rw [HF.out.1]; rfl, by rw [HF.out.1]; exact World.ownsRow_nil _ _ _ _, H6.out⟩
      | some a =>
        have ha := (Rl.free_some hfr).1
        have ha48 := hsub a ha
        have hcm := Rl.card_minus s a ha
        have hstep : Rl.topL n f = (Rl.topGo (Rl.backF n f) j (s &&& ~~~ Bv.bit a)).map ((L ++ [a]) ++ ·) := by
          rw [htop, topGo_some1 hz hfr, Option.map_map]
          congr 1; funext m; simp
        have hsub2 : ∀ i, (s &&& ~~~ Bv.bit a).getLsbD i = true → i < 48 := fun i hi => hsub i ((Rl.minus_iff s a i (by omega)).1 hi).1
        have HF := Lib.hid (And.intro hstep (And.intro hRb (And.intro hbw (And.intro hsub (And.intro (show freeI (Rl.backF n f) s = (a : Int) by unfold freeI; rw [hfr]) (And.intro (show freeB (Rl.backF n f) s = true by unfold freeB; rw [hfr]; rfl) (And.intro hsub2 (And.intro hcm (And.intro hrow hb)))))))))
        clear hstep hrow htop hsub hb hs3 hbw hRb hfr hlow hz hc1 ha hsub2 hcm
        have q0 : (0 : Int) ≤ (a : Int) := by omega
        have q1 : (a : Int) < 64 := by omega
        go_wp2_with fail
        refine (free_is w2.heap.size n (Rl.backF n f) s a true HF.out.2.2.2.2.1 HF.out.2.2.2.2.2.1 _ HF.out.2.1 HF.out.2.2.2.1 (HT.out _ HF.out.2.2.1).1 (HT.out _ HF.out.2.2.1).2).mono ?_
        rintro e w6 ⟨rfl, hb⟩
        have hrow := owns_below HF.out.2.2.2.2.2.2.2.2.1 hb (Nat.le_refl _)
        have hb6 := HF.out.2.2.2.2.2.2.2.2.2.trans (hb.mono HF.out.2.2.2.2.2.2.2.2.2.size)
        have hs6 : w3.heap.size ≤ w6.heap.size := hb6.size
        have H6 := Lib.hid (And.intro hrow hb6)
        clear hb hrow hb6
        go_wp2_with (at_builtin; refine wpList_append_own _ rfl _ _ 35 rfl w3.heap.size 3 i0 (.int .i64 0) 1 8 Tryd.underlying35 hi hz0 hz1 hz2 rfl (by decide) _ _ _ rfl (H6.out.1.alloc _) ⟨w6.heap.size, 0, none⟩ 1 1 [.int .i64 a] rfl rfl (cell_one_new _ _ _) (by simp [Value.oneCell']) (by unfold maxLen; omega) (by omega) (by simp; omega) ?_; intro v' w7 hown' hgrow hnil')
        go_roundw
        case rel =>
          have hbn : Below w3.heap.size w3 w7 := (H6.out.2.alloc hs6 _).grown hgrow (by simp; omega) (fun j e => (H6.out.1.lt j e).1)
          refine ⟨s &&& ~~~ Bv.bit a, j, L ++ [a], rfl, ?_, HF.out.1, by have := HF.out.2.2.2.2.2.2.2.1; omega, by simp; omega, HF.out.2.2.2.2.2.2.1, hbn⟩
          rw [nums_snoc]; simpa using hown'
        case measure =>
          have hcm := HF.out.2.2.2.2.2.2.2.1
          rw [leftOf_eq s]
          refine Nat.lt_of_le_of_lt (Nat.le_of_eq (leftOf_eq (s &&& ~~~ Bv.bit a))) ?_
          unfold Bx.card at hcm; omega
theorem top_any (n : Int) (f : Rl.Rows) (w : World) (zf : Rl.Z f) (hT : Tab w) (hw : 0 < w.heap.size) :
    Calls Tryd.prog 27 #[.agg (relC n f)] w (TopOut (topR n f) w) := by
  unfold topR
  cases h : Rl.rightB n f
  · rw [if_neg (by simp)]; exact top_no n f w h
  · obtain ⟨m, rfl, hm⟩ := Rl.right_nat zf h
    rw [if_pos rfl, Int.toNat_natCast]; exact top_yes m f w hm hT hw

/-! ### Acyclic -/
set_option maxRecDepth 100000 in
set_option maxHeartbeats 1000000 in
theorem acyclic_any (n : Int) (f : Rl.Rows) (w : World) (zf : Rl.Z f) (hT : Tab w) (hw : 0 < w.heap.size) :
    Calls Tryd.prog 26 #[.agg (relC n f)] w fun e w' => e = .returned (.bool (topR n f).isSome) ∧ Below w.heap.size w w' := by
  have hB := (Below.refl w.heap.size w).alloc (Nat.le_refl _) (.cells (relC n f) 26)
  have H := Lib.hid (And.intro (RelAt.new w n f) (And.intro hB (And.intro zf (And.intro (hT.below hB hw) (show 0 < (w.alloc (.cells (relC n f) 26)).heap.size by simp)))))
  clear zf hT hB
  go_enter Tryd.func26, Tryd.ntmps26
  go_wp2_with (refine wpList_load_rel (by rfl) (.tmp 1) (by rfl) w.heap.size n f (by rfl) H.out.1 ?_)
  with_reducible refine (top_any n f _ H.out.2.2.1 H.out.2.2.2.1 H.out.2.2.2.2).mono ?_
  rintro e w1 ⟨v, rfl, hrow, hb⟩
  obtain ⟨b, hb0⟩ : ∃ b, b = (topR n f).isSome := ⟨_, rfl⟩
  rw [← hb0]
  have H1 := Lib.hid (And.intro hb0 (H.out.2.1.trans (hb.mono (by simp))))
  clear hb hrow hb0
  go_wp2_with fail
  go_ret
  exact ⟨by rw [← H1.out.1]; rfl, H1.out.2⟩
theorem acyclic_is (n : Int) (f : Rl.Rows) (b : Bool) (hb : (topR n f).isSome = b) (w : World) (zf : Rl.Z f) (hT : Tab w) (hw : 0 < w.heap.size) :
    Calls Tryd.prog 26 #[.agg (relC n f)] w fun e w' => e = .returned (.bool b) ∧ Below w.heap.size w w' := by subst hb; exact acyclic_any n f w zf hT hw
end Go.Proofs.YtknjdfgmejobfaaDoor

/- Several relations in variables of one walk; the operations on valid relations. -/
namespace Go.Proofs.YtknjdfgmejobfaaDoor
open Go.RowKit Go.Shelf

/-- the relations L lie in their blocks, apart from each other, all of them newer than w -/
structure Held (w : World) (L : List (Nat × Int × Rl.Rows)) (W : World) : Prop where
  rel : ∀ (i : Nat) (x : Nat × Int × Rl.Rows), L[i]? = some x → RelAt W x.1 x.2.1 x.2.2
  apart : ∀ (i j : Nat) (x y : Nat × Int × Rl.Rows), L[i]? = some x → L[j]? = some y → i ≠ j → x.1 ≠ y.1
  new : ∀ (i : Nat) (x : Nat × Int × Rl.Rows), L[i]? = some x → w.heap.size ≤ x.1
  bel : Below w.heap.size w W
variable {w W W' : World} {L : List (Nat × Int × Rl.Rows)}
theorem Held.nil (w : World) : Held w [] w := ⟨fun i x h => by simp at h, fun i j x y h => by simp at h, fun i x h => by simp at h, Below.refl _ _⟩
theorem Held.at (h : Held w L W) (i : Nat) {b : Nat} {n : Int} {f : Rl.Rows} (hi : L[i]? = some (b, n, f)) : RelAt W b n f := h.rel i (b, n, f) hi
theorem Held.step (h : Held w L W) (hb : Below W.heap.size W W') : Held w L W' :=
  ⟨fun i x hi => (h.rel i x hi).below hb (h.rel i x hi).lt, h.apart, h.new, h.bel.trans (hb.mono h.bel.size)⟩
/-- a new variable -/
theorem Held.push (h : Held w L W) {n : Int} {f : Rl.Rows} (hR : RelAt W' W.heap.size n f) (hg : (W.alloc (.cells (relC 0 zeroR) 26)).grownBy W' (some W.heap.size)) : Held w (L ++ [(W.heap.size, n, f)]) W' := by
  have hlt : ∀ (i : Nat) (x : Nat × Int × Rl.Rows), L[i]? = some x → x.1 < W.heap.size := fun i x hi => (h.rel i x hi).lt
  have cases_ : ∀ (i : Nat) (x : Nat × Int × Rl.Rows), (L ++ [(W.heap.size, n, f)])[i]? = some x → L[i]? = some x ∨ (i = L.length ∧ x = (W.heap.size, n, f)) := by
    intro i x hi
    by_cases hl : i < L.length
    · rw [List.getElem?_append_left hl] at hi; exact .inl hi
    · rw [List.getElem?_append_right (by omega)] at hi
      have h0 : i - L.length = 0 := by
        have := (List.getElem?_eq_some_iff.1 hi).1; simp at this; omega
      rw [h0] at hi
      simp at hi
      exact .inr ⟨by omega, hi.symm⟩
  refine ⟨fun i x hi => ?_, fun i j x y hi hj hne => ?_, fun i x hi => ?_, (h.bel.alloc h.bel.size _).grown hg (by have := h.bel.size; simp; omega) (fun k e => by injection e with e; rw [← e]; exact h.bel.size)⟩
  · rcases cases_ i x hi with hi | ⟨_, rfl⟩
    · exact ((h.rel i x hi).alloc _).kept hg (fun e => by injection e with e; have := hlt i x hi; omega)
    · exact hR
  · rcases cases_ i x hi with hi | ⟨h1, rfl⟩ <;> rcases cases_ j y hj with hj | ⟨h2, rfl⟩
    · exact h.apart i j x y hi hj hne
    · have := hlt i x hi; show x.1 ≠ W.heap.size; omega
    · have := hlt j y hj; show W.heap.size ≠ y.1; omega
    · omega
  · rcases cases_ i x hi with hi | ⟨_, rfl⟩
    · exact h.new i x hi
    · exact h.bel.size
/-- a new variable that holds what it is given at once -/
theorem Held.box (h : Held w L W) (n : Int) (f : Rl.Rows) : Held w (L ++ [(W.heap.size, n, f)]) (W.alloc (.cells (relC n f) 26)) := by
  have hlt : ∀ (i : Nat) (x : Nat × Int × Rl.Rows), L[i]? = some x → x.1 < W.heap.size := fun i x hi => (h.rel i x hi).lt
  have cases_ : ∀ (i : Nat) (x : Nat × Int × Rl.Rows), (L ++ [(W.heap.size, n, f)])[i]? = some x → L[i]? = some x ∨ (i = L.length ∧ x = (W.heap.size, n, f)) := by
    intro i x hi
    by_cases hl : i < L.length
    · rw [List.getElem?_append_left hl] at hi; exact .inl hi
    · rw [List.getElem?_append_right (by omega)] at hi
      have h0 : i - L.length = 0 := by
        have := (List.getElem?_eq_some_iff.1 hi).1; simp at this; omega
      rw [h0] at hi
      simp at hi
      exact .inr ⟨by omega, hi.symm⟩
  refine ⟨fun i x hi => ?_, fun i j x y hi hj hne => ?_, fun i x hi => ?_, h.bel.alloc h.bel.size _⟩
  · rcases cases_ i x hi with hi | ⟨_, rfl⟩
    · exact (h.rel i x hi).alloc _
    · exact RelAt.new W n f
  · rcases cases_ i x hi with hi | ⟨h1, rfl⟩ <;> rcases cases_ j y hj with hj | ⟨h2, rfl⟩
    · exact h.apart i j x y hi hj hne
    · have := hlt i x hi; show x.1 ≠ W.heap.size; omega
    · have := hlt j y hj; show W.heap.size ≠ y.1; omega
    · omega
  · rcases cases_ i x hi with hi | ⟨_, rfl⟩
    · exact h.new i x hi
    · exact h.bel.size
/-- a variable is given a new value -/
theorem Held.put (h : Held w L W) (i : Nat) {b : Nat} {n m : Int} {f g : Rl.Rows} (hi : L[i]? = some (b, n, f)) (hR : RelAt W' b m g) (hg : W.grownBy W' (some b)) : Held w (L.set i (b, m, g)) W' := by
  have hlen : i < L.length := (List.getElem?_eq_some_iff.1 hi).1
  have old : ∀ (j : Nat) (x : Nat × Int × Rl.Rows), (L.set i (b, m, g))[j]? = some x → (j = i ∧ x = (b, m, g)) ∨ (j ≠ i ∧ L[j]? = some x) := by
    intro j x hj
    rw [List.getElem?_set] at hj
    by_cases e : i = j
    · subst e
      rw [if_pos rfl, if_pos hlen] at hj
      injection hj with hj
      exact .inl ⟨rfl, hj.symm⟩
    · rw [if_neg e] at hj; exact .inr ⟨fun e2 => e e2.symm, hj⟩
  refine ⟨fun j x hj => ?_, fun j k x y hj hk hne => ?_, fun j x hj => ?_, h.bel.grown hg h.bel.size (fun k e => by injection e with e; rw [← e]; exact h.new i _ hi)⟩
  · rcases old j x hj with ⟨_, rfl⟩ | ⟨hne, hj⟩
    · exact hR
    · exact (h.rel j x hj).kept hg (fun e => by injection e with e; exact h.apart j i x _ hj hi hne e)
  · rcases old j x hj with ⟨h1, rfl⟩ | ⟨h1, hj⟩ <;> rcases old k y hk with ⟨h2, rfl⟩ | ⟨h2, hk⟩
    · omega
    · exact h.apart i k (b, n, f) y hi hk (by omega)
    · exact h.apart j i x (b, n, f) hj hi (by omega)
    · exact h.apart j k x y hj hk hne
  · rcases old j x hj with ⟨_, rfl⟩ | ⟨_, hj⟩
    · exact h.new i (b, n, f) hi
    · exact h.new j x hj
/-- a new variable behind a region's head -/
theorem Held.pushed (h : Held w L W) {b : Nat} {n : Int} {f : Rl.Rows} (hb : Below W.heap.size W W') (hle : W.heap.size ≤ b) (hR : RelAt W' b n f) : Held w (L ++ [(b, n, f)]) W' := by
  have hlt : ∀ (i : Nat) (x : Nat × Int × Rl.Rows), L[i]? = some x → x.1 < b := fun i x hi => Nat.lt_of_lt_of_le (h.rel i x hi).lt hle
  have cases_ : ∀ (i : Nat) (x : Nat × Int × Rl.Rows), (L ++ [(b, n, f)])[i]? = some x → L[i]? = some x ∨ (i = L.length ∧ x = (b, n, f)) := by
    intro i x hi
    by_cases hl : i < L.length
    · rw [List.getElem?_append_left hl] at hi; exact .inl hi
    · rw [List.getElem?_append_right (by omega)] at hi
      have h0 : i - L.length = 0 := by
        have := (List.getElem?_eq_some_iff.1 hi).1; simp at this; omega
      rw [h0] at hi
      simp at hi
      exact .inr ⟨by omega, hi.symm⟩
  refine ⟨fun i x hi => ?_, fun i j x y hi hj hne => ?_, fun i x hi => ?_, h.bel.trans (hb.mono h.bel.size)⟩
  · rcases cases_ i x hi with hi | ⟨_, rfl⟩
    · exact (h.rel i x hi).below hb (h.rel i x hi).lt
    · exact hR
  · rcases cases_ i x hi with hi | ⟨h1, rfl⟩ <;> rcases cases_ j y hj with hj | ⟨h2, rfl⟩
    · exact h.apart i j x y hi hj hne
    · have := hlt i x hi; show x.1 ≠ b; omega
    · have := hlt j y hj; show b ≠ y.1; omega
    · omega
  · rcases cases_ i x hi with hi | ⟨_, rfl⟩
    · exact h.new i x hi
    · exact Nat.le_trans h.bel.size hle

/-! ### the operations on valid relations -/
theorem both_ok (n : Nat) (f g : Rl.Rows) (w : World) (hf : Rl.Ok n f) (hg : Rl.Ok n g) :
    Calls Tryd.prog 42 #[.agg (relC n f), .agg (relC n g)] w fun e w' => e = .returned (.tuple #[.agg (relC n (Rl.bothF n f g)), .int .i64 0]) ∧ Below w.heap.size w w' := by
  have h := both_any n n f g w hf.z hg.z
  have e := comb_ok hf hg (fun k => f k &&& g k)
  rw [e.1, e.2.1, e.2.2] at h
  exact h
theorem less_ok (n : Nat) (f g : Rl.Rows) (w : World) (hf : Rl.Ok n f) (hg : Rl.Ok n g) :
    Calls Tryd.prog 40 #[.agg (relC n f), .agg (relC n g)] w fun e w' => e = .returned (.tuple #[.agg (relC n (Rl.lessF n f g)), .int .i64 0]) ∧ Below w.heap.size w w' := by
  have h := less_any n n f g w hf.z hg.z
  have e := comb_ok hf hg (fun k => f k &&& ~~~ (g k))
  rw [e.1, e.2.1, e.2.2] at h
  exact h
theorem then_ok (n : Nat) (f g : Rl.Rows) (w : World) (hf : Rl.Ok n f) (hg : Rl.Ok n g) (hT : Tab w ∧ 0 < w.heap.size) :
    Calls Tryd.prog 18 #[.agg (relC n f), .agg (relC n g)] w fun e w' => e = .returned (.tuple #[.agg (relC n (Rl.thenF n f g)), .int .i64 0]) ∧ Below w.heap.size w w' := by
  have h := then_any n n f g w hf.z hg.z hT.1 hT.2
  have e := comb_ok hf hg (fun k => Rl.image g (f k))
  rw [e.1, e.2.1, e.2.2] at h
  exact h
theorem back_fine (n : Nat) (f : Rl.Rows) (w : World) (hf : Rl.Ok n f) (hT : Tab w ∧ 0 < w.heap.size) :
    Calls Tryd.prog 20 #[.agg (relC n f)] w fun e w' => e = .returned (.agg (relC n (Rl.backF n f))) ∧ Below w.heap.size w w' := back_yes n f w hf hT.1 hT.2
theorem plus_fine (n : Nat) (f : Rl.Rows) (w : World) (hf : Rl.Ok n f) (hT : Tab w ∧ 0 < w.heap.size) :
    Calls Tryd.prog 25 #[.agg (relC n f)] w fun e w' => e = .returned (.agg (relC n (Rl.plusF n f))) ∧ Below w.heap.size w w' := plus_yes n f w hf hT.1 hT.2
end Go.Proofs.YtknjdfgmejobfaaDoor
