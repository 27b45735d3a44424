/- package rel: Of. -/
import Derived.Test.YtknjdfgmejobfaaDoorNk
namespace Go.Proofs.YtknjdfgmejobfaaDoor
open Go.RowKit Go.Shelf

attribute [-go_sem] run_eql_struct run_neq_struct
attribute [local go_sem] Bv.and_u Bv.or_u Bv.andNot_u Bv.wrap_sub1 Bv.eq0 Bv.ne0 Bv.wrap_pow Bv.wrap_powmin Bv.wrap_neg Bv.eq_u Bv.ne_u Bv.shr_min Bv.shr_pow Bv.tmod2 Bv.and1 Bv.wrap_add Bv.B1_eq1 Bv.B1_eq0 Bv.B1_ne1 Bv.B1_ne0

/-- the pairs l lie from A on -/
def PairsAt (w : World) (A : Option Addr) (l : List (Int × Int)) : Prop :=
  0 < l.length → ∃ b off, A = some ⟨b, off, none⟩ ∧ b < w.heap.size ∧ ∀ i, i < l.length → w.cell? ⟨b, off + i * 2, none⟩ = some (.int .i64 (l.getD i (0, 0)).1) ∧ w.cell? ⟨b, off + i * 2 + 1, none⟩ = some (.int .i64 (l.getD i (0, 0)).2)
theorem PairsAt.below {n : Nat} {w w' : World} {A : Option Addr} {l : List (Int × Int)} (h : PairsAt w A l) (hb : Below n w w') (hn : w.heap.size ≤ n) : PairsAt w' A l := by
  intro hp
  obtain ⟨b, off, e, hlt, hc⟩ := h hp
  exact ⟨b, off, e, Nat.lt_of_lt_of_le hlt hb.size, fun i hi => ⟨(hb.cell (p := ⟨b, off + i * 2, none⟩) (by show b < n; omega)).trans (hc i hi).1, (hb.cell (p := ⟨b, off + i * 2 + 1, none⟩) (by show b < n; omega)).trans (hc i hi).2⟩⟩
def inB (n : Int) (p : Int × Int) : Bool := decide (0 ≤ p.1 ∧ p.1 < n ∧ 0 ≤ p.2 ∧ p.2 < n)
def addP (f : Rl.Rows) (p : Int × Int) : Rl.Rows := upd f p.1.toNat (f p.1.toNat ||| Bv.bit p.2.toNat)
def ofR (l : List (Int × Int)) : Rl.Rows := l.foldl addP zeroR
def ofB (n : Int) (l : List (Int × Int)) : Bool := decide (0 ≤ n ∧ n ≤ 48) && l.all (inB n)

/-- what Of answers: the number, the rows, the error -/
def ofN (n : Int) (l : List (Int × Int)) : Int := if ofB n l then n else 0
def ofF (n : Int) (l : List (Int × Int)) : Rl.Rows := if ofB n l then ofR l else zeroR
def ofE (n : Int) (l : List (Int × Int)) : Int := if ofB n l then 0 else 2
theorem of_true {n : Int} {l : List (Int × Int)} (h : ofB n l = true) : ofN n l = n ∧ ofF n l = ofR l ∧ ofE n l = 0 := by unfold ofN ofF ofE; rw [h]; exact ⟨rfl, rfl, rfl⟩
theorem of_false {n : Int} {l : List (Int × Int)} (h : ofB n l = false) : ofN n l = 0 ∧ ofF n l = zeroR ∧ ofE n l = 2 := by unfold ofN ofF ofE; rw [h]; exact ⟨rfl, rfl, rfl⟩
set_option maxRecDepth 100000 in
set_option maxHeartbeats 1000000 in
theorem of_yes (n : Nat) (A : Option Addr) (l : List (Int × Int)) (cap : Nat) (w : World) (hn : n ≤ 48) (hl : l.length ≤ maxLen) (hA : PairsAt w A l) :
    Calls Tryd.prog 41 #[.int .i64 n, .slice A l.length cap] w fun e w' => e = .returned (.tuple #[.agg (relC (ofN n l) (ofF n l)), .int .i64 (ofE n l)]) ∧ Below w.heap.size w w' := by
  unfold maxLen at hl
  have hzr := zero_rel
  have hbr := build_rel
  have hbz := build_zero
  have hne0 : ¬ relC 0 zeroR = #[] := by intro h; have := congrArg Array.size h; rw [relC_size] at this; simp at this
  have q0 : ¬ ((n : Int) < 0) := by omega
  have q1 : ¬ ((48 : Int) < (n : Int)) := by omega
  have h0 := (RelAt.new w 0 zeroR).alloc (.cells (relC 0 zeroR) 26)
  have h1 := RelAt.new (w.alloc (.cells (relC 0 zeroR) 26)) 0 zeroR
  rw [World.size_alloc] at h1
  have hB := (((Below.refl w.heap.size w).alloc (Nat.le_refl _) (.cells (relC 0 zeroR) 26)).alloc (by simp) (.cells (relC 0 zeroR) 26))
  have H := Lib.hid (And.intro h0 (And.intro h1 (And.intro hB hA)))
  clear h0 h1 hB hA
  go_enter Tryd.func41, Tryd.ntmps41
  go_wp2_with (refine wpList_store_rel (by rfl) (.tmp 6) (.tmp 17) (by rfl) (w.heap.size + 1) n 0 zeroR zeroR (by rfl) (by rfl) H.out.2.1 ?_; intro w3 hR3 hg3)
  have H3 := Lib.hid (And.intro hR3 (And.intro (H.out.1.kept hg3 (by intro e; injection e with e; omega)) (H.out.2.2.1.grown hg3 H.out.2.2.1.size (fun j e => by injection e with e; omega))))
  clear hR3 hg3
  go_loopw [20] (fun c wr => ∃ k : Nat, k ≤ l.length ∧ c = .int .i64 k ∧ (l.take k).all (inB n) = true ∧ RelAt wr (w.heap.size + 1) n (ofR (l.take k)) ∧ RelAt wr w.heap.size 0 zeroR ∧ Below w.heap.size w wr) (fun c _ => l.length - (intOf c).toNat)
  case atStart => exact ⟨0, Nat.zero_le _, rfl, by simp, by simpa [ofR] using H3.out.1, H3.out.2⟩
  case round =>
    obtain ⟨k, hk, rfl, hall, r1, r0, hb⟩ := hrel
    by_cases hlt : k < l.length
    · obtain ⟨b, off, rfl, hbl, hc⟩ := (H.out.2.2.2.below hb (Nat.le_refl _)) (by omega)
      obtain ⟨c1, c2⟩ := hc k hlt
      obtain ⟨p, hp⟩ : ∃ p, p = l.getD k (0, 0) := ⟨_, rfl⟩
      rw [← hp] at c1 c2
      obtain ⟨x, y⟩ := p
      have hel : l[k]? = some (x, y) := by
        rw [List.getD_eq_getElem?_getD, List.getElem?_eq_getElem hlt] at hp
        rw [List.getElem?_eq_getElem hlt, hp]; rfl
      have htk : l.take (k + 1) = l.take k ++ [(x, y)] := by rw [List.take_add_one, hel]; rfl
      cases hin : inB n (x, y)
      · have hnot : l.all (inB n) = false := by
          rw [Bool.eq_false_iff]
          intro h
          rw [List.all_eq_true] at h
          rw [h (x, y) (List.mem_of_getElem? hel)] at hin
          cases hin
        have HN := Lib.hid (of_false (n := (n : Int)) (l := l) (by unfold ofB; rw [hnot, Bool.and_false]))
        have hcase : x < 0 ∨ (0 ≤ x ∧ (n : Int) ≤ x) ∨ (0 ≤ x ∧ x < n ∧ y < 0) ∨ (0 ≤ x ∧ x < n ∧ 0 ≤ y ∧ (n : Int) ≤ y) := by
          have h := of_decide_eq_false hin
          simp only [] at h
          omega
        have hR := r0.alloc (.cells #[.int .i64 x, .int .i64 y] 42)
        have hB := hb.alloc hb.size (.cells #[.int .i64 x, .int .i64 y] 42)
        have HH := Lib.hid (And.intro hR hB)
        clear hall r1 r0 hb hp hc hin hel htk hR hB hnot
        rcases hcase with h1 | ⟨h1, h2⟩ | ⟨h1, h2, h3⟩ | ⟨h1, h2, h3, h4⟩
        all_goals
          go_wp2_with (refine wpList_store_rel (by rfl) (.tmp 4) (.tmp 44) (by rfl) w.heap.size 0 0 zeroR zeroR (by rfl) (by rfl) HH.out.1 ?_; intro w4 hR4 hg4)
          refine bodyPost_ret (results_rel_tmp rfl _ _ w.heap.size 0 zeroR rfl hR4) rfl ⟨by rw [HN.out.1, HN.out.2.1, HN.out.2.2]; rfl, HH.out.2.grown hg4 HH.out.2.size (fun j e => by injection e with e; omega)⟩
      · have hcase := of_decide_eq_true hin
        simp only [] at hcase
        obtain ⟨h1, h2, h3, h4⟩ := hcase
        obtain ⟨i, rfl⟩ : ∃ i : Nat, x = (i : Int) := ⟨x.toNat, by omega⟩
        obtain ⟨j, rfl⟩ : ∃ j : Nat, y = (j : Int) := ⟨y.toNat, by omega⟩
        have hi : i < n := by omega
        have hj : j < n := by omega
        have q2 : (i : Int) < 48 := by omega
        have q3 : (j : Int) < 64 := by omega
        have hall2 : (l.take (k + 1)).all (inB n) = true := by rw [htk, List.all_append, hall]; simp [hin]
        have hof : ofR (l.take (k + 1)) = upd (ofR (l.take k)) i (ofR (l.take k) i ||| Bv.bit j) := by rw [htk]; unfold ofR; rw [List.foldl_append]; rfl
        obtain ⟨W, hW⟩ : ∃ W, W = wr.alloc (.cells #[.int .i64 (i : Int), .int .i64 (j : Int)] 42) := ⟨_, rfl⟩
        have rn := World.alloc_heap_new wr (.cells #[.int .i64 (i : Int), .int .i64 (j : Int)] 42)
        have r1' := r1.alloc (.cells #[.int .i64 (i : Int), .int .i64 (j : Int)] 42)
        have r0' := r0.alloc (.cells #[.int .i64 (i : Int), .int .i64 (j : Int)] 42)
        have hb' := hb.alloc hb.size (.cells #[.int .i64 (i : Int), .int .i64 (j : Int)] 42)
        rw [← hW] at rn r1' r0' hb'
        have d0 : W.cell? ⟨wr.heap.size, 0, none⟩ = some (.int .i64 (i : Int)) := by rw [cell_of_row _ _ 0 _ _ _ rn]; rfl
        have d1 : W.cell? ⟨wr.heap.size, 1, none⟩ = some (.int .i64 (j : Int)) := by rw [cell_of_row _ _ 1 _ _ _ rn]; rfl
        have d2 := r1'.row i (by omega)
        have f2 := r1'.free (1 + i)
        have hset := r1'.drew.set i (ofR (l.take k) i ||| Bv.bit j)
        rw [← hof] at hset
        obtain ⟨v, hv⟩ : ∃ v, v = ofR (l.take k) i := ⟨_, rfl⟩
        rw [← hv] at d2 hset
        have H4 := Lib.hid (And.intro hset (And.intro (r0'.drew.other ⟨w.heap.size + 1, 1 + i, none⟩ (.int .u64 (Bv.U (v ||| Bv.bit j))) (by simp)) (And.intro (hb'.drew.setCell (p := ⟨w.heap.size + 1, 1 + i, none⟩) (by simp) (.int .u64 (Bv.U (v ||| Bv.bit j)))) (And.intro hall2 hW))))
        clear hset hall2 hW r1' r0' hb' rn hof hv hin htk hel hp hall r1 r0 hb hc
        go_wp2_with fail
        rw [← H4.out.2.2.2.2]
        go_still_tail 11, (by kernel_rfl)
        change wpList _ _ _ _ _ W.drew
        have c3 : W.drew.cell? ⟨w.heap.size + 1, 1 + i, none⟩ = some (.int .u64 (Bv.U v)) := d2
        have f3 : W.drew.frozen? ⟨w.heap.size + 1, 1 + i, none⟩ = false := f2
        go_step
        go_wp2_with fail
        rw [← World.setCell_drew]
        go_roundw
        case rel => exact ⟨k + 1, by omega, by go_num, H4.out.2.2.2.1, H4.out.1, H4.out.2.1, H4.out.2.2.1⟩
        case measure => simp [intOf]; omega
    · have hkl : k = l.length := by omega
      subst hkl
      rw [List.take_length] at hall r1
      have HN := Lib.hid (of_true (n := (n : Int)) (l := l) (by unfold ofB; rw [hall, Bool.and_true]; exact decide_eq_true ⟨by omega, by omega⟩))
      have HH := Lib.hid (And.intro r1 (And.intro r0 hb))
      clear hall r1 r0 hb
      go_wp2_with (first | (refine wpList_load_rel (by rfl) (.tmp 6) (by rfl) (w.heap.size + 1) n (ofR l) (by rfl) HH.out.1 ?_) | (refine wpList_store_rel (by rfl) (.tmp 4) (.tmp 57) (by rfl) w.heap.size n 0 (ofR l) zeroR (by rfl) (by rfl) HH.out.2.1 ?_; intro w4 hR4 hg4))
      refine bodyPost_ret (results_rel_tmp rfl _ _ w.heap.size n (ofR l) rfl hR4) rfl ⟨by rw [HN.out.1, HN.out.2.1, HN.out.2.2]; rfl, HH.out.2.2.grown hg4 HH.out.2.2.size (fun j e => by injection e with e; omega)⟩
set_option maxRecDepth 100000 in
set_option maxHeartbeats 1000000 in
theorem of_bad (n : Int) (A : Value) (l : List (Int × Int)) (w : World) (hn : n < 0 ∨ 48 < n) :
    Calls Tryd.prog 41 #[.int .i64 n, A] w fun e w' => e = .returned (.tuple #[.agg (relC (ofN n l) (ofF n l)), .int .i64 (ofE n l)]) ∧ Below w.heap.size w w' := by
  have hzr := zero_rel
  have hbz := build_zero
  have HN := Lib.hid (of_false (n := n) (l := l) (by unfold ofB; rw [decide_eq_false (by omega)]; rfl))
  have h0 := RelAt.new w 0 zeroR
  have hB := (Below.refl w.heap.size w).alloc (Nat.le_refl _) (.cells (relC 0 zeroR) 26)
  have H := Lib.hid (And.intro h0 hB)
  clear h0 hB
  rcases hn with h1 | h1
  all_goals
    go_enter Tryd.func41, Tryd.ntmps41
    go_wp2_with (refine wpList_store_rel (by rfl) (.tmp 4) (.tmp 15) (by rfl) w.heap.size 0 0 zeroR zeroR (by rfl) (by rfl) H.out.1 ?_; intro w4 hR4 hg4)
    refine bodyPost_ret (results_rel_tmp rfl _ _ w.heap.size 0 zeroR rfl hR4) rfl ⟨by rw [HN.out.1, HN.out.2.1, HN.out.2.2]; rfl, H.out.2.grown hg4 H.out.2.size (fun j e => by injection e with e; omega)⟩
theorem of_any (n : Int) (A : Option Addr) (l : List (Int × Int)) (cap : Nat) (w : World) (hl : l.length ≤ maxLen) (hA : PairsAt w A l) :
    Calls Tryd.prog 41 #[.int .i64 n, .slice A l.length cap] w fun e w' => e = .returned (.tuple #[.agg (relC (ofN n l) (ofF n l)), .int .i64 (ofE n l)]) ∧ Below w.heap.size w w' := by
  by_cases h : n < 0 ∨ 48 < n
  · exact of_bad n _ l w h
  · obtain ⟨m, rfl⟩ : ∃ m : Nat, n = (m : Int) := ⟨n.toNat, by omega⟩
    exact of_yes m A l cap w (by omega) hl hA
end Go.Proofs.YtknjdfgmejobfaaDoor
