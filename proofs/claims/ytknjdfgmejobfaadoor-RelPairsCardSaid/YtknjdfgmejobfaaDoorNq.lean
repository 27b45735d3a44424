/- package rel: Pairs. -/
import Derived.Test.YtknjdfgmejobfaaDoorNo
import Derived.Test.YtknjdfgmejobfaaDoorRq
import Derived.Lib.OwnKind
namespace Go.Proofs.YtknjdfgmejobfaaDoor
open Go.RowKit Go.Shelf

attribute [local go_sem] Bv.and_u Bv.or_u Bv.andNot_u Bv.wrap_sub1 Bv.eq0 Bv.ne0 Bv.wrap_pow Bv.wrap_powmin Bv.wrap_neg Bv.eq_u Bv.ne_u Bv.shr_min Bv.shr_pow Bv.tmod2 Bv.and1 Bv.wrap_add Bv.B1_eq1 Bv.B1_eq0 Bv.B1_ne1 Bv.B1_ne0

theorem rows_apart {w : World} {b1 b2 n1 n2 : Nat} {e1 e2 : TypeId} {s1 s2 : Nat} {v1 v2 : Value} {x1 x2 : List Value} (h1 : w.ownsRow b1 e1 s1 v1 n1 x1) (h2 : w.ownsRow b2 e2 s2 v2 n2 x2) (he : e1 ≠ e2) : v1.ownBlock = none ∨ v1.ownBlock ≠ v2.ownBlock := by
  cases hv : v1.ownBlock with
  | none => exact .inl rfl
  | some g =>
    refine .inr fun e => he ?_
    obtain ⟨c, fz, hc⟩ := Go.Lib.ownsRow_kind h1 g hv
    obtain ⟨c2, fz2, hc2⟩ := Go.Lib.ownsRow_kind h2 g e.symm
    rw [hc] at hc2
    injection hc2 with hc2
    injection hc2
def pairC (p : Nat × Nat) : List Value := [Value.int .i64 (p.1 : Int), Value.int .i64 (p.2 : Int)]
def pairV (l : List (Nat × Nat)) : List Value := l.flatMap pairC
theorem pairV_snoc (l : List (Nat × Nat)) (p : Nat × Nat) : pairV (l ++ [p]) = pairV l ++ pairC p := by simp [pairV]
theorem infoPair : (Tryd.prog.info? 42).map (fun i => (i.zero, i.size, i.bytes)) = some (some (.agg #[.int .i64 0, .int .i64 0]), 2, 16) := by kernel_rfl
theorem cell_two_new (W : World) (x y : Value) (e : TypeId) : ∀ j u, [x, y][j]? = some u → (W.alloc (.cells #[x, y] e)).cell? ((⟨W.heap.size, 0, none⟩ : Addr).add j) = some u := by
  intro j u hu
  have hadd : (⟨W.heap.size, 0, none⟩ : Addr).add j = ⟨W.heap.size, 0 + j, none⟩ := by unfold Addr.add; split <;> simp_all
  rw [hadd, cell_of_row _ _ (0 + j) _ _ _ (World.alloc_heap_new W _), Nat.zero_add]
  simpa using hu
/-- what Pairs answers -/
def pairsR (n : Int) (f : Rl.Rows) : List (Nat × Nat) := if Rl.rightB n f then Rl.pairsF f n.toNat else []
def PairsOut (l : List (Nat × Nat)) (w : World) (e : Ending) (w' : World) : Prop :=
  ∃ v, e = .returned v ∧ w'.ownsRow w.heap.size 42 2 v l.length (pairV l) ∧ Below w.heap.size w w'
set_option maxRecDepth 100000 in
set_option maxHeartbeats 1000000 in
theorem pairs_no (n : Int) (f : Rl.Rows) (w : World) (hr : Rl.rightB n f = false) :
    Calls Tryd.prog 28 #[.agg (relC n f)] w (PairsOut [] w) := by
  have H := Lib.hid (And.intro (RelAt.new w n f) (And.intro ((Below.refl w.heap.size w).alloc (Nat.le_refl _) (.cells (relC n f) 26)) hr))
  clear hr
  go_enter Tryd.func28, Tryd.ntmps28
  go_wp2_with (refine wpList_load_rel (by rfl) (.tmp 1) (by rfl) w.heap.size n f (by rfl) H.out.1 ?_)
  with_reducible refine (right_is _ _ _ H.out.2.2 _).mono ?_
  rintro e w1 ⟨rfl, hb⟩
  have H1 := Lib.hid (H.out.2.1.trans (hb.mono H.out.2.1.size))
  clear hb
  go_wp2_with fail
  go_ret
  exact ⟨_, rfl, World.ownsRow_nil _ _ _ _, H1.out⟩
set_option maxRecDepth 100000 in
set_option maxHeartbeats 2000000 in
theorem pairs_yes (n : Nat) (f : Rl.Rows) (w : World) (hr : Rl.Ok n f) (hT : Tab w) (hw : 0 < w.heap.size) :
    Calls Tryd.prog 28 #[.agg (relC n f)] w (PairsOut (Rl.pairsF f n) w) := by
  have hn := hr.le
  obtain ⟨i0, hi, hz0, hz1, hz2⟩ := info_parts infoPair
  have hTl : ∀ W, Below w.heap.size w W → Tab W ∧ 0 < W.heap.size := fun W h => ⟨hT.below h hw, Nat.lt_of_lt_of_le hw h.size⟩
  have HT := Lib.hid hTl
  have H := Lib.hid (And.intro (RelAt.new w n f) (And.intro ((Below.refl w.heap.size w).alloc (Nat.le_refl _) (.cells (relC n f) 26)) (And.intro (Rl.right_of hr) hr)))
  clear hr hT hTl
  go_enter Tryd.func28, Tryd.ntmps28
  go_wp2_with (refine wpList_load_rel (by rfl) (.tmp 1) (by rfl) w.heap.size n f (by rfl) H.out.1 ?_)
  with_reducible refine (right_is _ _ _ H.out.2.2.1 _).mono ?_
  rintro e w1 ⟨rfl, hb⟩
  have H1 := Lib.hid (And.intro (H.out.1.below hb (by simp)) (H.out.2.1.trans (hb.mono H.out.2.1.size)))
  clear hb
  have c0 := H1.out.1.num
  go_wp2_with fail
  go_loopw [3, 12] (fun v i wr => ∃ k : Nat, k ≤ n ∧ i = .int .i64 k ∧ wr.ownsRow w1.heap.size 42 2 v (Rl.pairsF f k).length (pairV (Rl.pairsF f k)) ∧ Below w1.heap.size w1 wr) (fun _ i _ => n - (intOf i).toNat)
  case atStart => exact ⟨0, Nat.zero_le _, rfl, World.ownsRow_nil _ _ _ _, Below.refl _ _⟩
  case round =>
    obtain ⟨k, hk, rfl, hrow, hb⟩ := hrel
    by_cases hlt : k < n
    · have c1 := (H1.out.1.below hb H1.out.1.lt).row k (by omega)
      have q0 : (0 : Int) ≤ (k : Int) := by omega
      have q1 : (k : Int) < 48 := by omega
      have hbw := H1.out.2.trans (hb.mono H1.out.2.size)
      have hpl := Rl.pairs_le f k
      have HR := Lib.hid (And.intro hrow (And.intro hb hbw))
      clear hrow hb hbw
      go_wp2_with fail
      refine (list_any (f k) _ (HT.out _ HR.out.2.2).1 (HT.out _ HR.out.2.2).2).mono ?_
      rintro e w2 ⟨v2, rfl, hrow2, _, hb2⟩
      obtain ⟨A2, cap2, rfl, _, _, _⟩ := row_nums hrow2
      have hle := Bs.elems_le (f k)
      obtain ⟨E, hE⟩ : ∃ E, E = Bs.elems (f k) := ⟨_, rfl⟩
      rw [← hE] at hrow2 hle ⊢
      have H2 := Lib.hid (And.intro (owns_below HR.out.1 hb2 (Nat.le_refl _)) (And.intro (owns_base hrow2 HR.out.2.1.size) (And.intro (HR.out.2.1.trans (hb2.mono HR.out.2.1.size)) hE)))
      have hs2 : w1.heap.size ≤ w2.heap.size := H2.out.2.2.1.size
      clear hrow2 hb2 hE
      go_wp2_with fail
      go_loopw [3, 21] (fun v i wi => ∃ j : Nat, j ≤ E.length ∧ i = .int .i64 j ∧ wi.ownsRow w1.heap.size 42 2 v ((Rl.pairsF f k).length + j) (pairV (Rl.pairsF f k ++ (E.take j).map fun b => (k, b))) ∧ wi.ownsRow w1.heap.size 3 1 (.slice A2 E.length cap2) E.length (nums E) ∧ Below w1.heap.size w1 wi) (fun _ i _ => E.length - (intOf i).toNat)
      case atStart => exact ⟨0, Nat.zero_le _, rfl, by simpa using H2.out.1, H2.out.2.1, H2.out.2.2.1⟩
      case round =>
        obtain ⟨j, hj, rfl, hrowv, hrowl, hb⟩ := hrel
        by_cases hjl : j < E.length
        · obtain ⟨g2, c2, hv2, _⟩ := hrowl.form (by omega)
          injection hv2 with hA hL hC
          subst hA hC
          have cj := hrowl.cellAt j (by omega)
          have hget : (nums E)[j]? = some (.int .i64 ((E[j] : Nat) : Int)) := by simp [nums, hjl]
          rw [hget] at cj
          have htk : E.take (j + 1) = E.take j ++ [E[j]] := List.take_succ_eq_append_getElem hjl
          obtain ⟨x, hx⟩ : ∃ x, x = E[j] := ⟨_, rfl⟩
          rw [← hx] at cj htk
          have hsz : w1.heap.size ≤ wr.heap.size := hb.size
          have HI := Lib.hid (And.intro hrowv (And.intro hrowl (And.intro hb htk)))
          clear hrowv hrowl hb hx hget hL htk
          go_wp2_with (at_builtin; refine wpList_append_own _ rfl _ _ 40 rfl w1.heap.size 42 i0 (.agg #[.int .i64 0, .int .i64 0]) 2 16 Tryd.underlying40 hi hz0 hz1 hz2 rfl (by decide) _ _ _ rfl (HI.out.1.alloc _) ⟨wr.heap.size, 0, none⟩ 1 1 [.int .i64 k, .int .i64 x] rfl rfl (cell_two_new _ _ _ _) (by simp [Value.oneCell']) (by unfold maxLen; omega) (by omega) (by simp; omega) ?_; intro v' w7 hown' hgrow hnil')
          go_roundw
          case rel =>
            have hap := rows_apart HI.out.2.1 HI.out.1 (by decide)
            refine ⟨j + 1, by omega, by go_num, ?_, (HI.out.2.1.alloc _).kept hgrow hap, (HI.out.2.2.1.alloc hsz _).grown hgrow (by simp; omega) (fun q e => (HI.out.1.lt q e).1)⟩
            rw [HI.out.2.2.2, List.map_append, ← List.append_assoc]
            show World.ownsRow _ _ _ _ _ _ (pairV (_ ++ [(k, x)]))
            rw [pairV_snoc]; exact hown'
          case measure => simp [intOf]; omega
        · have hje : j = E.length := by omega
          subst hje
          rw [List.take_length] at hrowv
          have hrowv2 : wr.ownsRow w1.heap.size 42 2 u3 (Rl.pairsF f (k + 1)).length (pairV (Rl.pairsF f (k + 1))) := by
            rw [Rl.pairsF_succ]
            unfold Rl.rowP
            rw [← H2.out.2.2.2, List.length_append, List.length_map]; exact hrowv
          have HI := Lib.hid (And.intro hrowv2 hb)
          clear hrowv hrowv2 hb hrowl
          go_wp2_with fail
          go_roundw
          case rel => exact ⟨k + 1, by omega, by go_num, HI.out⟩
          case measure => simp [intOf]; omega
    · have hkn : k = n := by omega
      subst hkn
      have HF := Lib.hid (And.intro (owns_base hrow H1.out.2.size) (H1.out.2.trans (hb.mono H1.out.2.size)))
      clear hrow hb
      go_wp2_with fail
      go_ret
      exact ⟨_, rfl, HF.out⟩
theorem pairs_any (n : Int) (f : Rl.Rows) (w : World) (zf : Rl.Z f) (hT : Tab w) (hw : 0 < w.heap.size) :
    Calls Tryd.prog 28 #[.agg (relC n f)] w (PairsOut (pairsR n f) w) := by
  unfold pairsR
  cases h : Rl.rightB n f
  · rw [if_neg (by simp)]; exact pairs_no n f w h
  · obtain ⟨m, rfl, hm⟩ := Rl.right_nat zf h
    rw [if_pos rfl, Int.toNat_natCast]; exact pairs_yes m f w hm hT hw
end Go.Proofs.YtknjdfgmejobfaaDoor
