/- Texts that stand together: Nq, Nt, Np, Nv, Nu, Nw, Ny, Or, Oe, Bq, Oh. -/
import Derived.Test.YtknjdfgmejobfaaDoorLf
import Derived.Test.YtknjdfgmejobfaaDoorLb
import Derived.Lib.OwnKind
import Derived.Lib.QuietBelow
import Derived.Test.YtknjdfgmejobfaaDoorLe
import Derived.Test.YtknjdfgmejobfaaDoorLd
import Derived.Test.YtknjdfgmejobfaaDoorLc
import Derived.Deep.AppendLies
import Derived.Deep.DeepAppendRoom
import Derived.Laws.AppendOwnNone
import Derived.ArgAppend
/- package rel: Pairs. -/
namespace Go.Proofs.YtknjdfgmejobfaaDoor
open Go.RowKit Go.Shelf

attribute [local go_sem] Bv.and_u Bv.or_u Bv.andNot_u Bv.wrap_sub1 Bv.eq0 Bv.ne0 Bv.wrap_pow Bv.wrap_powmin Bv.wrap_neg Bv.eq_u Bv.ne_u Bv.shr_min Bv.shr_pow Bv.tmod2 Bv.and1 Bv.wrap_add Bv.B1_eq1 Bv.B1_eq0 Bv.B1_ne1 Bv.B1_ne0

theorem rows_apart {w : World} {b1 b2 n1 n2 : Nat} {e1 e2 : TypeId} {s1 s2 : Nat} {v1 v2 : Value} {x1 x2 : List Value} (h1 : w.ownsRow b1 e1 s1 v1 n1 x1) (h2 : w.ownsRow b2 e2 s2 v2 n2 x2) (he : e1 ≠ e2) : v1.ownBlock = none ∨ v1.ownBlock ≠ v2.ownBlock := by
  cases hv : v1.ownBlock with
  | none => exact .inl rfl
  | some g =>
    refine .inr fun e => he ?_
    obtain ⟨c, fz, hc⟩ := Go.Lib.ownsRow_kind h1 g hv
    obtain ⟨c2, fz2, hc2⟩ := Go.Lib.ownsRow_kind h2 g e.symm
    rw [hc] at hc2
    injection hc2 with hc2
    injection hc2
def pairC (p : Nat × Nat) : List Value := [Value.int .i64 (p.1 : Int), Value.int .i64 (p.2 : Int)]
def pairV (l : List (Nat × Nat)) : List Value := l.flatMap pairC
theorem pairV_snoc (l : List (Nat × Nat)) (p : Nat × Nat) : pairV (l ++ [p]) = pairV l ++ pairC p := by simp [pairV]
theorem infoPair : (Tryd.prog.info? 42).map (fun i => (i.zero, i.size, i.bytes)) = some (some (.agg #[.int .i64 0, .int .i64 0]), 2, 16) := by kernel_rfl
theorem cell_two_new (W : World) (x y : Value) (e : TypeId) : ∀ j u, [x, y][j]? = some u → (W.alloc (.cells #[x, y] e)).cell? ((⟨W.heap.size, 0, none⟩ : Addr).add j) = some u := by
  intro j u hu
  have hadd : (⟨W.heap.size, 0, none⟩ : Addr).add j = ⟨W.heap.size, 0 + j, none⟩ := by unfold Addr.add; split <;> simp_all
  rw [hadd, cell_of_row _ _ (0 + j) _ _ _ (World.alloc_heap_new W _), Nat.zero_add]
  simpa using hu
/-- what Pairs answers -/
def pairsR (n : Int) (f : Rl.Rows) : List (Nat × Nat) := if Rl.rightB n f then Rl.pairsF f n.toNat else []
def PairsOut (l : List (Nat × Nat)) (w : World) (e : Ending) (w' : World) : Prop :=
  ∃ v, e = .returned v ∧ w'.ownsRow w.heap.size 42 2 v l.length (pairV l) ∧ Below w.heap.size w w'
set_option maxRecDepth 100000 in
set_option maxHeartbeats 1000000 in
theorem pairs_no (n : Int) (f : Rl.Rows) (w : World) (hr : Rl.rightB n f = false) :
    Calls Tryd.prog 28 #[.agg (relC n f)] w (PairsOut [] w) := by
  have H := Lib.hid (And.intro (RelAt.new w n f) (And.intro ((Below.refl w.heap.size w).alloc (Nat.le_refl _) (.cells (relC n f) 26)) hr))
  clear hr
  go_enter Tryd.func28, Tryd.ntmps28
  go_wp2_with (refine wpList_load_rel (by rfl) (.tmp 1) (by rfl) w.heap.size n f (by rfl) H.out.1 ?_)
  with_reducible refine (right_is _ _ _ H.out.2.2 _).mono ?_
  rintro e w1 ⟨rfl, hb⟩
  have H1 := Lib.hid (H.out.2.1.trans (hb.mono H.out.2.1.size))
  clear hb
  go_wp2_with fail
  go_ret
  exact ⟨_, rfl, World.ownsRow_nil _ _ _ _, H1.out⟩
set_option maxRecDepth 100000 in
set_option maxHeartbeats 2000000 in
theorem pairs_yes (n : Nat) (f : Rl.Rows) (w : World) (hr : Rl.Ok n f) (hT : Tab w) (hw : 0 < w.heap.size) :
    Calls Tryd.prog 28 #[.agg (relC n f)] w (PairsOut (Rl.pairsF f n) w) := by
  have hn := hr.le
  obtain ⟨i0, hi, hz0, hz1, hz2⟩ := info_parts infoPair
  have hTl : ∀ W, Below w.heap.size w W → Tab W ∧ 0 < W.heap.size := fun W h => ⟨hT.below h hw, Nat.lt_of_lt_of_le hw h.size⟩
  have HT := Lib.hid hTl
  have H := Lib.hid (And.intro (RelAt.new w n f) (And.intro ((Below.refl w.heap.size w).alloc (Nat.le_refl _) (.cells (relC n f) 26)) (And.intro (Rl.right_of hr) hr)))
  clear hr hT hTl
  go_enter Tryd.func28, Tryd.ntmps28
  go_wp2_with (refine wpList_load_rel (by rfl) (.tmp 1) (by rfl) w.heap.size n f (by rfl) H.out.1 ?_)
  with_reducible refine (right_is _ _ _ H.out.2.2.1 _).mono ?_
  rintro e w1 ⟨rfl, hb⟩
  have H1 := Lib.hid (And.intro (H.out.1.below hb (by simp)) (H.out.2.1.trans (hb.mono H.out.2.1.size)))
  clear hb
  have c0 := H1.out.1.num
  go_wp2_with fail
  go_loopw [3, 12] (fun v i wr => ∃ k : Nat, k ≤ n ∧ i = .int .i64 k ∧ wr.ownsRow w1.heap.size 42 2 v (Rl.pairsF f k).length (pairV (Rl.pairsF f k)) ∧ Below w1.heap.size w1 wr) (fun _ i _ => n - (intOf i).toNat)
  case atStart => exact ⟨0, Nat.zero_le _, rfl, World.ownsRow_nil _ _ _ _, Below.refl _ _⟩
  case round =>
    obtain ⟨k, hk, rfl, hrow, hb⟩ := hrel
    by_cases hlt : k < n
    · have c1 := (H1.out.1.below hb H1.out.1.lt).row k (by omega)
      have q0 : (0 : Int) ≤ (k : Int) := by omega
      have q1 : (k : Int) < 48 := by omega
      have hbw := H1.out.2.trans (hb.mono H1.out.2.size)
      have hpl := Rl.pairs_le f k
      have HR := Lib.hid (And.intro hrow (And.intro hb hbw))
      clear hrow hb hbw
      go_wp2_with fail
      refine (list_any (f k) _ (HT.out _ HR.out.2.2).1 (HT.out _ HR.out.2.2).2).mono ?_
      rintro e w2 ⟨v2, rfl, hrow2, _, hb2⟩
      obtain ⟨A2, cap2, rfl, _, _, _⟩ := row_nums hrow2
      have hle := Bs.elems_le (f k)
      obtain ⟨E, hE⟩ : ∃ E, E = Bs.elems (f k) := ⟨_, rfl⟩
      rw [← hE] at hrow2 hle ⊢
      have H2 := Lib.hid (And.intro (owns_below HR.out.1 hb2 (Nat.le_refl _)) (And.intro (owns_base hrow2 HR.out.2.1.size) (And.intro (HR.out.2.1.trans (hb2.mono HR.out.2.1.size)) hE)))
      have hs2 : w1.heap.size ≤ w2.heap.size := H2.out.2.2.1.size
      clear hrow2 hb2 hE
      go_wp2_with fail
      go_loopw [3, 21] (fun v i wi => ∃ j : Nat, j ≤ E.length ∧ i = .int .i64 j ∧ wi.ownsRow w1.heap.size 42 2 v ((Rl.pairsF f k).length + j) (pairV (Rl.pairsF f k ++ (E.take j).map fun b => (k, b))) ∧ wi.ownsRow w1.heap.size 3 1 (.slice A2 E.length cap2) E.length (nums E) ∧ Below w1.heap.size w1 wi) (fun _ i _ => E.length - (intOf i).toNat)
      case atStart => exact ⟨0, Nat.zero_le _, rfl, by simpa using H2.out.1, H2.out.2.1, H2.out.2.2.1⟩
      case round =>
        obtain ⟨j, hj, rfl, hrowv, hrowl, hb⟩ := hrel
        by_cases hjl : j < E.length
        · obtain ⟨g2, c2, hv2, _⟩ := hrowl.form (by omega)
          injection hv2 with hA hL hC
          subst hA hC
          have cj := hrowl.cellAt j (by omega)
          have hget : (nums E)[j]? = some (.int .i64 ((E[j] : Nat) : Int)) := by simp [nums, hjl]
          rw [hget] at cj
          have htk : E.take (j + 1) = E.take j ++ [E[j]] := List.take_succ_eq_append_getElem hjl
          obtain ⟨x, hx⟩ : ∃ x, x = E[j] := ⟨_, rfl⟩
          rw [← hx] at cj htk
          have hsz : w1.heap.size ≤ wr.heap.size := hb.size
          have HI := Lib.hid (And.intro hrowv (And.intro hrowl (And.intro hb htk)))
          clear hrowv hrowl hb hx hget hL htk
          go_wp2_with (at_builtin; refine wpList_append_own _ rfl _ _ 40 rfl w1.heap.size 42 i0 (.agg #[.int .i64 0, .int .i64 0]) 2 16 Tryd.underlying40 hi hz0 hz1 hz2 rfl (by decide) _ _ _ rfl (HI.out.1.alloc _) ⟨wr.heap.size, 0, none⟩ 1 1 [.int .i64 k, .int .i64 x] rfl rfl (cell_two_new _ _ _ _) (by simp [Value.oneCell']) (by unfold maxLen; omega) (by omega) (by simp; omega) ?_; intro v' w7 hown' hgrow hnil')
          go_roundw
          case rel =>
            have hap := rows_apart HI.out.2.1 HI.out.1 (by decide)
            refine ⟨j + 1, by omega, by go_num, ?_, (HI.out.2.1.alloc _).kept hgrow hap, (HI.out.2.2.1.alloc hsz _).grown hgrow (by simp; omega) (fun q e => (HI.out.1.lt q e).1)⟩
            rw [HI.out.2.2.2, List.map_append, ← List.append_assoc]
            show World.ownsRow _ _ _ _ _ _ (pairV (_ ++ [(k, x)]))
            rw [pairV_snoc]; exact hown'
          case measure => simp [intOf]; omega
        · have hje : j = E.length := by omega
          subst hje
          rw [List.take_length] at hrowv
          have hrowv2 : wr.ownsRow w1.heap.size 42 2 u3 (Rl.pairsF f (k + 1)).length (pairV (Rl.pairsF f (k + 1))) := by
            rw [Rl.pairsF_succ]
            unfold Rl.rowP
            rw [← H2.out.2.2.2, List.length_append, List.length_map]; exact hrowv
          have HI := Lib.hid (And.intro hrowv2 hb)
          clear hrowv hrowv2 hb hrowl
          go_wp2_with fail
          go_roundw
          case rel => exact ⟨k + 1, by omega, by go_num, HI.out⟩
          case measure => simp [intOf]; omega
    · have hkn : k = n := by omega
      subst hkn
      have HF := Lib.hid (And.intro (owns_base hrow H1.out.2.size) (H1.out.2.trans (hb.mono H1.out.2.size)))
      clear hrow hb
      go_wp2_with fail
      go_ret
      exact ⟨_, rfl, HF.out⟩
theorem pairs_any (n : Int) (f : Rl.Rows) (w : World) (zf : Rl.Z f) (hT : Tab w) (hw : 0 < w.heap.size) :
    Calls Tryd.prog 28 #[.agg (relC n f)] w (PairsOut (pairsR n f) w) := by
  unfold pairsR
  cases h : Rl.rightB n f
  · rw [if_neg (by simp)]; exact pairs_no n f w h
  · obtain ⟨m, rfl, hm⟩ := Rl.right_nat zf h
    rw [if_pos rfl, Int.toNat_natCast]; exact pairs_yes m f w hm hT hw
end Go.Proofs.YtknjdfgmejobfaaDoor

/- seisinlaw02: of, in, Pairs. -/
namespace Go.Proofs.YtknjdfgmejobfaaDoor
open Go.RowKit Go.Shelf

attribute [-go_sem] run_eql_struct run_neq_struct
attribute [local go_sem] Bv.and_u Bv.or_u Bv.andNot_u Bv.wrap_sub1 Bv.eq0 Bv.ne0 Bv.wrap_pow Bv.wrap_powmin Bv.wrap_neg Bv.eq_u Bv.ne_u Bv.shr_min Bv.shr_pow Bv.tmod2 Bv.and1 Bv.wrap_add Bv.B1_eq1 Bv.B1_eq0 Bv.B1_ne1 Bv.B1_ne0

set_option maxRecDepth 100000 in
set_option maxHeartbeats 1000000 in
theorem of_fn (n : Int) (A : Option Addr) (l : List (Int × Int)) (cap : Nat) (w : World) (hl : l.length ≤ maxLen) (hA : PairsAt w A l) :
    Calls Tryd.prog 78 #[.int .i64 n, .slice A l.length cap] w fun e w' => e = .returned (.agg (relC (ofN n l) (ofF n l))) ∧ Below w.heap.size w w' := by
  have hzr := zero_rel
  have hne0 : ¬ relC 0 zeroR = #[] := by intro h; have := congrArg Array.size h; rw [relC_size] at this; simp at this
  have hB := (Below.refl w.heap.size w).alloc (Nat.le_refl _) (.cells (relC 0 zeroR) 26)
  obtain ⟨N, hN⟩ : ∃ N, N = ofN n l := ⟨_, rfl⟩
  obtain ⟨F, hF⟩ : ∃ F, F = ofF n l := ⟨_, rfl⟩
  have hcall := of_any n A l cap (w.alloc (.cells (relC 0 zeroR) 26)) hl (hA.below hB (Nat.le_refl _))
  rw [← hN, ← hF] at hcall
  rw [← hN, ← hF]
  have H := Lib.hid (And.intro (RelAt.new w 0 zeroR) (And.intro hB hcall))
  clear hB hA hcall hN hF
  go_enter Tryd.func78, Tryd.ntmps78
  go_wp2_with fail
  with_reducible refine H.out.2.2.mono ?_
  rintro e w1 ⟨rfl, hb⟩
  have hlt : w.heap.size < w1.heap.size := by have := hb.size; simp at this; omega
  have H1 := Lib.hid (And.intro (H.out.1.below hb (by simp)) (H.out.2.1.trans (hb.mono (by simp))))
  clear hb
  go_wp2_with (first
    | (refine wpList_store_rel (by rfl) (.tmp 5) (.tmp 11) (by rfl) w1.heap.size N 0 F zeroR (by rfl) (by rfl) (RelAt.new w1 0 zeroR) ?_; intro w2 hR2 hg2; have K0 := (H1.out.1.alloc (.cells (relC 0 zeroR) 26)).kept hg2 (by intro e; injection e with e; omega); have KB := (H1.out.2.alloc H1.out.2.size (.cells (relC 0 zeroR) 26)).grown hg2 (by have := H1.out.2.size; simp; omega) (fun j e => by injection e with e; omega); have H2 := Lib.hid (And.intro hR2 (And.intro K0 KB)); clear hR2 hg2 K0 KB)
    | (refine wpList_load_rel (by rfl) (.tmp 5) (by rfl) w1.heap.size N F (by rfl) H2.out.1 ?_)
    | (refine wpList_store_rel (by rfl) (.tmp 4) (.tmp 13) (by rfl) w.heap.size N 0 F zeroR (by rfl) (by rfl) H2.out.2.1 ?_; intro w4 hR4 hg4))
  refine bodyPost_ret (results_cell_row rfl _ _ w.heap.size 26 (relC N F) (0, 0) _ rfl hR4 uRel rfl (sRelC _ _)) rfl ⟨rfl, H2.out.2.2.grown hg4 H2.out.2.2.size (fun j e => by injection e with e; omega)⟩

/-! ### in, where it holds -/
set_option maxRecDepth 100000 in
set_option maxHeartbeats 1000000 in
theorem in_true (n : Nat) (f g : Rl.Rows) (w : World) (hf : Rl.Ok n f) (hg : Rl.Ok n g) (h : ∀ a b, Rl.bit f a b = true → Rl.bit g a b = true) :
    Calls Tryd.prog 30 #[.agg (relC n f), .agg (relC n g)] w fun e w' => e = .returned (.bool true) ∧ Below w.heap.size w w' := by
  have hzr := zero_rel
  have hne0 : ¬ relC 0 zeroR = #[] := by intro h; have := congrArg Array.size h; rw [relC_size] at this; simp at this
  have hl := Rl.ok_less (g := g) hf
  have he : emptyB n (Rl.lessF n f g) = true := by
    unfold emptyB fromS
    rw [Rl.right_of hl, if_pos rfl, Int.toNat_natCast, (Rl.less_zero hf).2 h]; rfl
  have H0 := Lib.hid (((Held.nil w).box n f).box n g)
  simp only [World.size_alloc] at H0
  have HO := Lib.hid (And.intro hf (And.intro hg (And.intro hl he)))
  clear hf hg h hl he
  go_enter Tryd.func30, Tryd.ntmps30
  go_wp2_with (first
    | (refine wpList_load_rel (by rfl) (.tmp 2) (by rfl) w.heap.size n f (by rfl) (H0.out.at 0 rfl) ?_)
    | (refine wpList_load_rel (by rfl) (.tmp 3) (by rfl) (w.heap.size + 1) n g (by rfl) (H0.out.at 1 rfl) ?_))
  with_reducible refine (less_ok n f g _ HO.out.1 HO.out.2.1).mono ?_
  rintro e w1 ⟨rfl, hb⟩
  have H1 := Lib.hid (H0.out.step hb)
  clear hb
  go_wp2_with (first
    | (refine wpList_store_rel (by rfl) (.tmp 5) (.tmp 11) (by rfl) w1.heap.size n 0 (Rl.lessF n f g) zeroR (by rfl) (by rfl) (RelAt.new w1 0 zeroR) ?_; intro w2 hR2 hg2; have H2 := Lib.hid (H1.out.push hR2 hg2); clear hR2 hg2)
    | (refine wpList_load_rel_want (by rfl) (.tmp 5) (by rfl) w1.heap.size n (Rl.lessF n f g) (by rfl) (H2.out.at 2 rfl) ?_))
  with_reducible refine (empty_is n (Rl.lessF n f g) true HO.out.2.2.2 _ HO.out.2.2.1.z).mono ?_
  rintro e w3 ⟨rfl, hb⟩
  have H3 := Lib.hid (H2.out.step hb)
  clear hb
  go_wp2_with fail
  go_ret
  exact ⟨rfl, H3.out.bel⟩

/-! ### two lists of pairs -/
def pI (l : List (Nat × Nat)) : List (Int × Int) := l.map fun p => ((p.1 : Int), (p.2 : Int))
theorem pI_len (l : List (Nat × Nat)) : (pI l).length = l.length := by simp [pI]
theorem pairV_len (l : List (Nat × Nat)) : (pairV l).length = l.length * 2 := by
  induction l with
  | nil => rfl
  | cons p l ih => rw [show pairV (p :: l) = pairC p ++ pairV l by simp [pairV], List.length_append, ih]; simp [pairC]; omega
theorem pairV_get : ∀ (l : List (Nat × Nat)) (i : Nat), i < l.length → (pairV l)[i * 2]? = some (.int .i64 ((l.getD i (0, 0)).1 : Int)) ∧ (pairV l)[i * 2 + 1]? = some (.int .i64 ((l.getD i (0, 0)).2 : Int))
  | [], i, h => by simp at h
  | p :: l, 0, _ => by rw [show pairV (p :: l) = pairC p ++ pairV l by simp [pairV]]; simp [pairC]
  | p :: l, i + 1, h => by
    have ih := pairV_get l i (by simpa using h)
    rw [show pairV (p :: l) = pairC p ++ pairV l by simp [pairV], List.getElem?_append_right (by simp [pairC]; omega), List.getElem?_append_right (by simp [pairC]; omega)]
    rw [show (i + 1) * 2 - (pairC p).length = i * 2 by simp [pairC]; omega, show (i + 1) * 2 + 1 - (pairC p).length = i * 2 + 1 by simp [pairC]; omega]
    simpa using ih
theorem row_pairs {w : World} {base n : Nat} {v : Value} {l : List (Nat × Nat)} (h : w.ownsRow base 42 2 v n (pairV l)) : ∃ A cap, v = .slice A (pI l).length cap ∧ (pI l).length = n ∧ cap ≤ maxLen ∧ PairsAt w A (pI l) := by
  have hn : l.length = n := by have := h.1; rw [pairV_len] at this; omega
  rcases h.2 with ⟨rfl, h0⟩ | ⟨g, cap, cur, rfl, hb, hg, hnc, hcm, hcs, ht⟩
  · exact ⟨none, 0, by rw [pI_len, hn, h0], by rw [pI_len, hn], Nat.zero_le _, fun hp => by rw [pI_len] at hp; omega⟩
  · refine ⟨some ⟨g, 0, none⟩, cap, by rw [pI_len, hn], by rw [pI_len, hn], hcm, fun _ => ⟨g, 0, rfl, (Array.getElem?_eq_some_iff.1 hg).1, fun i hi => ?_⟩⟩
    rw [pI_len] at hi
    have hc := fun j v hv => h.cells (g := g) rfl j v hv
    have hadd : ∀ j, (⟨g, 0, none⟩ : Addr).add j = ⟨g, 0 + j, none⟩ := by intro j; unfold Addr.add; split <;> simp_all
    have e1 := hc _ _ (pairV_get l i hi).1
    have e2 := hc _ _ (pairV_get l i hi).2
    rw [hadd] at e1 e2
    have hd : (pI l).getD i (0, 0) = (((l.getD i (0, 0)).1 : Int), ((l.getD i (0, 0)).2 : Int)) := by simp [pI, List.getD_eq_getElem?_getD, hi]
    rw [hd]
    exact ⟨e1, by rw [← Nat.add_assoc] at e2; exact e2⟩
theorem uPair : Tryd.prog.underlying 42 = some (.array 2 3) := by kernel_rfl
theorem run_pair_neq (a b : Int) (w : World) : (binOp .neq 42 (.agg #[.int .i64 a, .int .i64 b]) (.agg #[.int .i64 a, .int .i64 b])).run Tryd.prog w = .ok (.bool false) w := by
  obtain ⟨ti, hti⟩ := Option.isSome_iff_exists.1 (show (Tryd.prog.info? 3).isSome = true by kernel_rfl)
  have p0 : (part 3 #[Value.int .i64 a, .int .i64 b] 0).run Tryd.prog w = .ok (.int .i64 a) w := by kernel_rfl
  have p1 : (part 3 #[Value.int .i64 a, .int .i64 b] 1).run Tryd.prog w = .ok (.int .i64 b) w := by kernel_rfl
  rw [run_neq_struct, show (10000 : Nat) = 9999 + 1 from rfl, run_equalIn_array w 9999 _ _ uPair hti, show Tryd.prog.cellsOf 3 = 1 by kernel_rfl]
  simp only [show List.range 2 = [0, 1] from rfl, Op.eqItems, Sem.run_bind, Nat.zero_mul, Nat.one_mul, p0, p1, Result.andThen_ok]
  rw [run_equalIn_int w 9998 _ .i64 .i64 _ _ uInt]
  simp only [beq_self_eq_true, Bool.not_true, Bool.false_eq_true, if_false, Result.andThen_ok, Sem.run_bind, p1]
  rw [run_equalIn_int w 9998 _ .i64 .i64 _ _ uInt]
  simp
set_option maxRecDepth 100000 in
set_option maxHeartbeats 1000000 in
theorem pairs_same (A B : Option Addr) (l : List (Int × Int)) (c d : Nat) (w : World) (hl : l.length ≤ maxLen) (hA : PairsAt w A l) (hB : PairsAt w B l) :
    Calls Tryd.prog 64 #[.slice A l.length c, .slice B l.length d] w fun e w' => e = .returned (.bool true) ∧ Below w.heap.size w w' := by
  unfold maxLen at hl
  have H := Lib.hid (And.intro hA hB)
  clear hA hB
  have hne := run_pair_neq
  go_enter Tryd.func64, Tryd.ntmps64
  go_wp2_with fail
  go_loopw [13] (fun i wr => ∃ k : Nat, k ≤ l.length ∧ i = .int .i64 k ∧ Below w.heap.size w wr) (fun i _ => l.length - (intOf i).toNat)
  case atStart => exact ⟨0, Nat.zero_le _, rfl, Below.refl _ _⟩
  case round =>
    obtain ⟨k, hk, rfl, hb⟩ := hrel
    by_cases hlt : k < l.length
    · obtain ⟨b, off, hA, hbl, hc⟩ := H.out.1 (by omega)
      obtain ⟨b2, off2, hB, hbl2, hc2⟩ := H.out.2 (by omega)
      subst hA hB
      have hsz := hb.size
      have CA : ∀ W, Below wr.heap.size wr W → W.cell? ⟨b, off + k * 2, none⟩ = some (.int .i64 (l.getD k (0, 0)).1) ∧ W.cell? ⟨b, off + k * 2 + 1, none⟩ = some (.int .i64 (l.getD k (0, 0)).2) := fun W hW =>
        have h2 := hb.trans (hW.mono hb.size)
        ⟨(h2.cell (p := ⟨b, off + k * 2, none⟩) hbl).trans (hc k hlt).1, (h2.cell (p := ⟨b, off + k * 2 + 1, none⟩) hbl).trans (hc k hlt).2⟩
      have CB : ∀ W, Below wr.heap.size wr W → W.cell? ⟨b2, off2 + k * 2, none⟩ = some (.int .i64 (l.getD k (0, 0)).1) ∧ W.cell? ⟨b2, off2 + k * 2 + 1, none⟩ = some (.int .i64 (l.getD k (0, 0)).2) := fun W hW =>
        have h2 := hb.trans (hW.mono hb.size)
        ⟨(h2.cell (p := ⟨b2, off2 + k * 2, none⟩) hbl2).trans (hc2 k hlt).1, (h2.cell (p := ⟨b2, off2 + k * 2 + 1, none⟩) hbl2).trans (hc2 k hlt).2⟩
      obtain ⟨p, hp⟩ : ∃ p, p = l.getD k (0, 0) := ⟨_, rfl⟩
      rw [← hp] at CA CB
      obtain ⟨x, y⟩ := p
      have q0 : (0 : Int) ≤ (k : Int) := by omega
      have q1 : (k : Int) < (l.length : Int) := by omega
      have HC := Lib.hid (And.intro CA (And.intro CB hb))
      clear CA CB hb hp hc hc2
      go_wp2_with fail
      refine Bl.wp_region_head 8 (by kernel_rfl) (by kernel_rfl) ?_
      simp only [List.take_succ_cons, List.take_zero, List.drop_succ_cons, List.drop_zero]
      repeat (refine Bl.belO_step (by rfl) (fun W hW => by have c1 := HC.out.1 W hW; have c2 := HC.out.2.1 W hW; simp [execOp, go_sem, c1, c2, q0, q1]; exact ⟨rfl, rfl⟩) ?_; simp only [Act.put, List.setIfInBounds_toArray, List.set_cons_zero, List.set_cons_succ])
      refine Bl.belO_nil ?_
      intro w2 hb2
      have B2 := Lib.hid (HC.out.2.2.trans (hb2.mono HC.out.2.2.size))
      clear hb2
      go_wp2_with fail
      go_roundw
      case rel => exact ⟨k + 1, by omega, by go_num, B2.out⟩
      case measure => simp [intOf]; omega
    · have HB := Lib.hid hb
      clear hb
      go_wp2_with fail
      go_ret
      exact ⟨rfl, HB.out⟩
end Go.Proofs.YtknjdfgmejobfaaDoor

/- package rel: layers. -/
namespace Go.Proofs.YtknjdfgmejobfaaDoor
open Go.RowKit Go.Shelf

attribute [local go_sem] Bv.and_u Bv.or_u Bv.andNot_u Bv.wrap_sub1 Bv.eq0 Bv.ne0 Bv.wrap_pow Bv.wrap_powmin Bv.wrap_neg Bv.eq_u Bv.ne_u Bv.shr_min Bv.shr_pow Bv.tmod2 Bv.and1 Bv.wrap_add Bv.B1_eq1 Bv.B1_eq0 Bv.B1_ne1 Bv.B1_ne0

def setV (l : List (BitVec 64)) : List Value := l.map fun s => Value.int .u64 (Bv.U s)
theorem setV_snoc (l : List (BitVec 64)) (s : BitVec 64) : setV (l ++ [s]) = setV l ++ [Value.int .u64 (Bv.U s)] := by simp [setV]
theorem infoSet : (Tryd.prog.info? 23).map (fun i => (i.zero, i.size, i.bytes)) = some (some (.int .u64 0), 1, 8) := by kernel_rfl

def LayOut (o : Option (List (BitVec 64))) (w : World) (e : Ending) (w' : World) : Prop :=
  ∃ v, e = .returned (.tuple #[v, .bool o.isSome]) ∧ w'.ownsRow w.heap.size 23 1 v (o.getD []).length (setV (o.getD [])) ∧ Below w.heap.size w w'
theorem layGo_zero (f : Rl.Rows) (a k : Nat) (seen : BitVec 64) : Rl.layGo f a k 0#64 seen = none := by cases k <;> simp [Rl.layGo]
theorem layGo_hit {f : Rl.Rows} {a k : Nat} {layer seen : BitVec 64} (h : layer ≠ 0#64) (hb : layer.getLsbD a = true) : Rl.layGo f a (k + 1) layer seen = some [layer] := by simp [Rl.layGo, h, hb]
theorem layGo_miss {f : Rl.Rows} {a k : Nat} {layer seen : BitVec 64} (h : layer ≠ 0#64) (hb : layer.getLsbD a = false) :
    Rl.layGo f a (k + 1) layer seen = (Rl.layGo f a k (Rl.image f layer &&& ~~~ (seen ||| layer)) (seen ||| layer)).map (layer :: ·) := by simp [Rl.layGo, h, hb]
/-- how many are in a set that stands in a slot -/
def missOf (v : Value) : Nat := 64 - leftOf v
theorem image48 {n : Nat} {f : Rl.Rows} (hf : Rl.Ok n f) (s t : BitVec 64) (i : Nat) (h : (Rl.image f s &&& ~~~ t).getLsbD i = true) : i < 48 := by
  have h1 := ((Rl.andNot_get _ _ _).1 h).1
  obtain ⟨b, _, h2⟩ := (Rl.image_iff f s i).1 h1
  have := (hf.in_ b i h2).2
  have := hf.le
  omega
theorem card_more {layer seen : BitVec 64} (h0 : layer ≠ 0#64) (hd : ∀ i, layer.getLsbD i = true → seen.getLsbD i = false) : Bx.card seen < Bx.card (seen ||| layer) := by
  apply Rl.card_ssub (fun i hi => (Rl.or_get _ _ _).2 (.inl hi))
  intro e
  have hl := Bs.low_bit h0
  have h1 := hd _ hl
  rw [e] at h1
  rw [(Rl.or_get _ _ _).2 (.inr hl)] at h1
  cases h1

set_option maxRecDepth 100000 in
set_option maxHeartbeats 2000000 in
theorem layers_any (b n a : Nat) (f : Rl.Rows) (w : World) (hR : RelAt w b n f) (hr : Rl.Ok n f) (ha : a < n) (hT : Tab w) (hw : 0 < w.heap.size) :
    Calls Tryd.prog 79 #[.pointer (some ⟨b, 0, none⟩), .int .i64 a] w (LayOut (Rl.layL f a) w) := by
  have hn := hr.le
  obtain ⟨i0, hi, hz0, hz1, hz2⟩ := info_parts infoSet
  have hTl : ∀ W, Below w.heap.size w W → Tab W ∧ 0 < W.heap.size := fun W h => ⟨hT.below h hw, Nat.lt_of_lt_of_le hw h.size⟩
  have HT := Lib.hid hTl
  have H := Lib.hid (And.intro hR hr)
  have c0 := hR.row a (by omega)
  have q0 : (0 : Int) ≤ (a : Int) := by omega
  have q1 : (a : Int) < 48 := by omega
  have q2 : (a : Int) < 64 := by omega
  clear hR hr hTl hT
  go_enter Tryd.func79, Tryd.ntmps79
  go_wp2_with fail
  clear c0
  go_loopw [6, 7, 8] (fun v x y wr => ∃ (L : List (BitVec 64)) (k : Nat) (layer seen : BitVec 64), x = .int .u64 (Bv.U seen) ∧ y = .int .u64 (Bv.U layer) ∧ wr.ownsRow w.heap.size 23 1 v L.length (setV L) ∧ Rl.layL f a = (Rl.layGo f a k layer seen).map (L ++ ·) ∧ L.length + k = 65 ∧ 65 ≤ k + Bx.card seen ∧ (∀ i, layer.getLsbD i = true → seen.getLsbD i = false) ∧ (∀ i, layer.getLsbD i = true → i < 48) ∧ Below w.heap.size w wr) (fun _ x _ _ => missOf x)
  case atStart => exact ⟨[], 65, f a, 0#64, rfl, rfl, World.ownsRow_nil _ _ _ _, by unfold Rl.layL; simp, rfl, by omega, fun i _ => Bv.zero_get i, fun i hb => by have := (H.out.2.in_ a i hb).2; omega, Below.refl _ _⟩
  case round =>
    obtain ⟨L, k, layer, seen, rfl, rfl, hrow, hlay, hlen, hcard, hdis, h48, hb⟩ := hrel
    by_cases hz : layer = 0#64
    · subst hz
      have he : (0#64 != 0#64) = false := rfl
      have HF := Lib.hid (And.intro (show Rl.layL f a = none by rw [hlay, layGo_zero]; rfl) hb)
      clear hrow hlay hcard hdis h48 hb
      go_wp2_with fail
      go_ret2
      exact ⟨_, by rw [HF.out.1]; rfl, by rw [HF.out.1]; exact World.ownsRow_nil _ _ _ _, HF.out.2⟩
    · have he : (layer != 0#64) = true := by simpa using hz
      have hcl := Bx.card_le seen
      have hcm := card_more hz hdis
      have hc2 := Bx.card_le (seen ||| layer)
      obtain ⟨j, rfl⟩ : ∃ j, k = j + 1 := ⟨k - 1, by omega⟩
      have hsz : w.heap.size ≤ wr.heap.size := hb.size
      cases hg : Bv.G layer a
      · have hstep : Rl.layL f a = (Rl.layGo f a j (Rl.image f layer &&& ~~~ (seen ||| layer)) (seen ||| layer)).map ((L ++ [layer]) ++ ·) := by
          rw [hlay, layGo_miss hz hg, Option.map_map]
          congr 1; funext m; simp
        have HF := Lib.hid (And.intro hstep (And.intro hrow (And.intro hb (And.intro h48 hcm))))
        clear hstep hrow hb h48 hlay hdis hz hcm
        go_wp2_with (at_builtin; refine wpList_append_own _ rfl _ _ 86 rfl w.heap.size 23 i0 (.int .u64 0) 1 8 Tryd.underlying86 hi hz0 hz1 hz2 rfl (by decide) _ _ _ rfl (HF.out.2.1.alloc _) ⟨wr.heap.size, 0, none⟩ 1 1 [.int .u64 (Bv.U layer)] rfl rfl (cell_one_new _ _ _) (by simp [Value.oneCell']) (by unfold maxLen; omega) (by omega) (by simp; omega) ?_; intro v' w7 hown' hgrow hnil')
        have hbn : Below w.heap.size w w7 := (HF.out.2.2.1.alloc hsz _).grown hgrow (by simp; omega) (fun q e => (HF.out.2.1.lt q e).1)
        have HN := Lib.hid (And.intro hown' hbn)
        clear hown' hgrow hnil' hbn
        refine (image_any b n f layer w7 (H.out.1.below HN.out.2 H.out.1.lt) HF.out.2.2.2.1 (HT.out _ HN.out.2).1 (HT.out _ HN.out.2).2).mono ?_
        rintro e w8 ⟨rfl, hb8⟩
        have HM := Lib.hid (And.intro (owns_below HN.out.1 hb8 (Nat.le_refl _)) (HN.out.2.trans (hb8.mono HN.out.2.size)))
        clear hb8
        go_wp2_with fail
        go_roundw
        case rel =>
          have hcm := HF.out.2.2.2.2
          refine ⟨L ++ [layer], j, Rl.image f layer &&& ~~~ (seen ||| layer), seen ||| layer, rfl, rfl, ?_, HF.out.1, by simp; omega, by omega, fun i hi => ?_, fun i hi => image48 H.out.2 _ _ i hi, HM.out.2⟩
          · rw [setV_snoc]; simpa using HM.out.1
          · have := ((Rl.andNot_get _ _ _).1 hi).2; simpa using this
        case measure =>
          have hcm := HF.out.2.2.2.2
          unfold missOf
          rw [leftOf_eq seen]
          refine Nat.lt_of_le_of_lt (Nat.le_of_eq (congrArg (64 - ·) (leftOf_eq (seen ||| layer)))) ?_
          unfold Bx.card at hcm hc2; omega
      · have hfin : Rl.layL f a = some (L ++ [layer]) := by rw [hlay, layGo_hit hz hg]; rfl
        have HF := Lib.hid (And.intro hfin (And.intro hrow hb))
        clear hfin hrow hb h48 hlay hdis hz hcm
        go_wp2_with (at_builtin; refine wpList_append_own _ rfl _ _ 86 rfl w.heap.size 23 i0 (.int .u64 0) 1 8 Tryd.underlying86 hi hz0 hz1 hz2 rfl (by decide) _ _ _ rfl (HF.out.2.1.alloc _) ⟨wr.heap.size, 0, none⟩ 1 1 [.int .u64 (Bv.U layer)] rfl rfl (cell_one_new _ _ _) (by simp [Value.oneCell']) (by unfold maxLen; omega) (by omega) (by simp; omega) ?_; intro v' w7 hown' hgrow hnil')
        go_ret2
        have hbn : Below w.heap.size w w7 := (HF.out.2.2.alloc hsz _).grown hgrow (by simp; omega) (fun q e => (HF.out.2.1.lt q e).1)
        refine ⟨v', by rw [HF.out.1]; rfl, ?_, hbn⟩
        rw [HF.out.1]
        show w7.ownsRow _ _ _ _ (L ++ [layer]).length (setV (L ++ [layer]))
        rw [setV_snoc]; simpa using hown'
end Go.Proofs.YtknjdfgmejobfaaDoor

/- package rel: Ring. -/
namespace Go.Proofs.YtknjdfgmejobfaaDoor
open Go.RowKit Go.Shelf

attribute [local go_sem] Bv.and_u Bv.or_u Bv.andNot_u Bv.wrap_sub1 Bv.eq0 Bv.ne0 Bv.wrap_pow Bv.wrap_powmin Bv.wrap_neg Bv.eq_u Bv.ne_u Bv.shr_min Bv.shr_pow Bv.tmod2 Bv.and1 Bv.wrap_add Bv.B1_eq1 Bv.B1_eq0 Bv.B1_ne1 Bv.B1_ne0

theorem run_nil_eql (A : Option Addr) (n c : Nat) (w : World) : (binOp .eql 86 (.slice A n c) (.slice none 0 0)).run Tryd.prog w = .ok (.bool A.isNone) w := by
  simp only [binOp]
  simp [Op.equal, Op.maxDepth, Lib.run_equalIn_slice_nil w 9999 86 23 A n c 0 0 Tryd.underlying86]
theorem wpList_nil_want {ops : Array Oper} {rest : List Oper} {op : Oper} {a : Act} {w : World} {Q : Exit → Act → World → Prop} (hw : Region.wanted op (yielded ops a.tmps) = true) (x : Operand) (ho : op.op = .binOp .eql 86 x (.const (.slice none 0 0)) 86)
    (A : Option Addr) (n c : Nat) (b : Bool) (hx : a.eval x = .slice A n c) (hA : A.isNone = b)
    (h : wpList Tryd.prog ops Q rest (a.put op.dst (.bool b)) w) : wpList Tryd.prog ops Q (op :: rest) a w :=
  BigFrame.wpList_want hw fun K hK => by
    unfold Oper.wp execOp
    subst hA
    simp only [ho, hx, BigFrame.eval_const, Sem.run_bind, Sem.run_pure, run_nil_eql]
    exact hK _ _ h
/-- what the first loop has found: the start and its layers -/
def BestAt (base : Nat) (w : World) (o : Option (Nat × List (BitVec 64))) (x v : Value) : Prop := match o with
  | none => x = .int .i64 0 ∧ v = .slice none 0 0
  | some (s, l) => x = .int .i64 s ∧ 0 < l.length ∧ l.length ≤ 65 ∧ w.ownsRow base 23 1 v l.length (setV l)
theorem BestAt.below {base k : Nat} {w w' : World} {o : Option (Nat × List (BitVec 64))} {x v : Value} (h : BestAt base w o x v) (hb : Below k w w') (hk : w.heap.size ≤ k) : BestAt base w' o x v := by
  cases o with
  | none => exact h
  | some p => exact ⟨h.1, h.2.1, h.2.2.1, owns_below h.2.2.2 hb hk⟩
theorem layGo_pos {f : Rl.Rows} {a : Nat} : ∀ {k : Nat} {layer seen : BitVec 64} {l : List (BitVec 64)}, Rl.layGo f a k layer seen = some l → 0 < l.length ∧ l.length ≤ k
  | 0, _, _, _, h => by simp [Rl.layGo] at h
  | k + 1, layer, seen, l, h => by
    unfold Rl.layGo at h
    split at h
    · cases h
    · split at h
      · injection h with h; subst h; exact ⟨by simp, by simp⟩
      · rw [Option.map_eq_some_iff] at h
        obtain ⟨m, hm, rfl⟩ := h
        have := layGo_pos hm
        refine ⟨by simp, ?_⟩
        simp only [List.length_cons]; omega
theorem best_none1 {f : Rl.Rows} {k : Nat} (h : Rl.layL f k = none) : Rl.bestGo f (k + 1) = Rl.bestGo f k := by
  rw [Rl.bestGo, h]
theorem best_first {f : Rl.Rows} {k : Nat} {l : List (BitVec 64)} (h : Rl.layL f k = some l) (hb : Rl.bestGo f k = none) : Rl.bestGo f (k + 1) = some (k, l) := by
  rw [Rl.bestGo, h, hb]
theorem best_less {f : Rl.Rows} {k s : Nat} {l m : List (BitVec 64)} (h : Rl.layL f k = some l) (hb : Rl.bestGo f k = some (s, m)) (hl : l.length < m.length) : Rl.bestGo f (k + 1) = some (k, l) := by
  rw [Rl.bestGo, h, hb]; exact if_pos hl
theorem best_more {f : Rl.Rows} {k s : Nat} {l m : List (BitVec 64)} (h : Rl.layL f k = some l) (hb : Rl.bestGo f k = some (s, m)) (hl : ¬ l.length < m.length) : Rl.bestGo f (k + 1) = some (s, m) := by
  rw [Rl.bestGo, h, hb]; exact if_neg hl

/-- what Ring answers -/
def ringR (n : Int) (f : Rl.Rows) : List Nat := if Rl.rightB n f then Rl.ringL n.toNat f else []
def RingOut (l : List Nat) (w : World) (e : Ending) (w' : World) : Prop :=
  ∃ v, e = .returned v ∧ w'.ownsRow w.heap.size 3 1 v l.length (nums l) ∧ Below w.heap.size w w'
set_option maxRecDepth 100000 in
set_option maxHeartbeats 1000000 in
theorem ring_no (n : Int) (f : Rl.Rows) (w : World) (hr : Rl.rightB n f = false) :
    Calls Tryd.prog 23 #[.agg (relC n f)] w (RingOut [] w) := by
  have H := Lib.hid (And.intro (RelAt.new w n f) (And.intro ((Below.refl w.heap.size w).alloc (Nat.le_refl _) (.cells (relC n f) 26)) hr))
  clear hr
  go_enter Tryd.func23, Tryd.ntmps23
  go_wp2_with (refine wpList_load_rel (by rfl) (.tmp 1) (by rfl) w.heap.size n f (by rfl) H.out.1 ?_)
  with_reducible refine (right_is _ _ _ H.out.2.2 _).mono ?_
  rintro e w1 ⟨rfl, hb⟩
  have H1 := Lib.hid (H.out.2.1.trans (hb.mono H.out.2.1.size))
  clear hb
  go_wp2_with fail
  go_ret
  exact ⟨_, rfl, World.ownsRow_nil _ _ _ _, H1.out⟩
set_option maxRecDepth 100000 in
set_option maxHeartbeats 4000000 in
theorem ring_yes (n : Nat) (f : Rl.Rows) (w : World) (hr : Rl.Ok n f) (hT : Tab w) (hw : 0 < w.heap.size) :
    Calls Tryd.prog 23 #[.agg (relC n f)] w (RingOut (Rl.ringL n f) w) := by
  have hn := hr.le
  have hzr := zero_rel
  obtain ⟨i0, hi, hz0, hz1, hz2⟩ := info_parts infoInt
  have hTl : ∀ W, Below w.heap.size w W → Tab W ∧ 0 < W.heap.size := fun W h => ⟨hT.below h hw, Nat.lt_of_lt_of_le hw h.size⟩
  have HT := Lib.hid hTl
  have H := Lib.hid (And.intro (RelAt.new w n f) (And.intro ((Below.refl w.heap.size w).alloc (Nat.le_refl _) (.cells (relC n f) 26)) (And.intro (Rl.right_of hr) hr)))
  have hne0 : ¬ relC 0 zeroR = #[] := by intro h; have := congrArg Array.size h; rw [relC_size] at this; simp at this
  clear hr hT hTl
  go_enter Tryd.func23, Tryd.ntmps23
  go_wp2_with (refine wpList_load_rel (by rfl) (.tmp 1) (by rfl) w.heap.size n f (by rfl) H.out.1 ?_)
  with_reducible refine (right_is _ _ _ H.out.2.2.1 _).mono ?_
  rintro e w1 ⟨rfl, hb⟩
  have H1 := Lib.hid (And.intro (H.out.1.below hb (by simp)) (H.out.2.1.trans (hb.mono H.out.2.1.size)))
  clear hb
  go_wp2_with (refine wpList_load_rel (by rfl) (.tmp 1) (by rfl) w.heap.size n f (by rfl) H1.out.1 ?_)
  with_reducible refine (back_yes n f w1 H.out.2.2.2 (HT.out _ H1.out.2).1 (HT.out _ H1.out.2).2).mono ?_
  rintro e w2 ⟨rfl, hb⟩
  have H2 := Lib.hid (And.intro (H1.out.1.below hb H1.out.1.lt) (H1.out.2.trans (hb.mono H1.out.2.size)))
  clear hb
  go_wp2_with (refine wpList_store_rel (by rfl) (.tmp 3) (.tmp 17) (by rfl) w2.heap.size n 0 (Rl.backF n f) zeroR (by rfl) (by rfl) (RelAt.new w2 0 zeroR) ?_; intro w3 hR3 hg3; have K0 := (H2.out.1.alloc (.cells (relC 0 zeroR) 26)).kept hg3 (by have := H2.out.1.lt; intro e; injection e with e; omega); have KB := (H2.out.2.alloc H2.out.2.size (.cells (relC 0 zeroR) 26)).grown hg3 (by have := H2.out.2.size; simp; omega) (fun j e => by have := H2.out.2.size; injection e with e; omega); have c0 := K0.num; have H3 := Lib.hid (And.intro hR3 (And.intro K0 KB)); clear hR3 hg3 K0 KB)
  clear c0
  have hs3 : w.heap.size ≤ w3.heap.size := H3.out.2.2.size
  go_loopw [4, 5, 20] (fun x v i wr => ∃ k : Nat, k ≤ n ∧ i = .int .i64 k ∧ BestAt w3.heap.size wr (Rl.bestGo (Rl.backF n f) k) x v ∧ Below w3.heap.size w3 wr) (fun _ _ i _ => n - (intOf i).toNat)
  case atStart => exact ⟨0, Nat.zero_le _, rfl, ⟨rfl, rfl⟩, Below.refl _ _⟩
  case round =>
    obtain ⟨k, hk, rfl, hbest, hb⟩ := hrel
    by_cases hlt : k < n
    · have hbw := H3.out.2.2.trans (hb.mono hs3)
      have HR := Lib.hid (And.intro hbest (And.intro hb (And.intro hbw (H3.out.1.below hb H3.out.1.lt))))
      clear hbest hb hbw
      go_wp2_with fail
      refine (layers_any w2.heap.size n k (Rl.backF n f) _ HR.out.2.2.2 (Rl.ok_back H.out.2.2.2) hlt (HT.out _ HR.out.2.2.1).1 (HT.out _ HR.out.2.2.1).2).mono ?_
      rintro e w4 ⟨v4, rfl, hrow4, hb4⟩
      have hbest := HR.out.1.below hb4 (Nat.le_refl _)
      have hb5 := HR.out.2.1.trans (hb4.mono HR.out.2.1.size)
      have hrow5 := owns_base hrow4 HR.out.2.1.size
      clear hrow4 hb4
      cases hl : Rl.layL (Rl.backF n f) k with
      | none =>
        have HX := Lib.hid (And.intro (best_none1 hl) (And.intro hbest hb5))
        clear hrow5 hbest hb5 hl
        go_wp2_with fail
        go_roundw
        case rel => exact ⟨k + 1, by omega, by go_num, by rw [HX.out.1]; exact HX.out.2.1, HX.out.2.2⟩
        case measure => simp [intOf]; omega
      | some l =>
        have hlp := layGo_pos hl
        rw [hl] at hrow5
        obtain ⟨g4, c4, hv4, _⟩ := hrow5.form hlp.1
        change v4 = Value.slice (some ⟨g4, 0, none⟩) l.length c4 at hv4
        subst hv4
        cases hbo : Rl.bestGo (Rl.backF n f) k with
        | none =>
          rw [hbo] at hbest
          obtain ⟨e1, e2⟩ := hbest
          subst e1 e2
          have HX := Lib.hid (And.intro (best_first hl hbo) (And.intro hrow5 (And.intro hb5 hlp)))
          clear hrow5 hb5 hl hbo hlp
          go_wp2_with (refine wpList_nil_want (by rfl) (.tmp 30) (by rfl) none 0 0 true (by rfl) (by rfl) ?_)
          go_roundw
          case rel => exact ⟨k + 1, by omega, by go_num, by rw [HX.out.1]; exact ⟨rfl, HX.out.2.2.2.1, HX.out.2.2.2.2, HX.out.2.1⟩, HX.out.2.2.1⟩
          case measure => simp [intOf]; omega
        | some sm =>
          obtain ⟨s0, m⟩ := sm
          rw [hbo] at hbest
          obtain ⟨e1, hmp, hm65, hrowm⟩ := hbest
          obtain ⟨gm, cm, hvm, _⟩ := hrowm.form hmp
          subst e1 hvm
          by_cases hlm : l.length < m.length
          · have he : decide (l.length < m.length) = true := decide_eq_true hlm
            have HX := Lib.hid (And.intro (best_less hl hbo hlm) (And.intro hrow5 (And.intro hb5 hlp)))
            clear hrow5 hb5 hl hbo hlp hlm hrowm
            go_wp2_with (refine wpList_nil_want (by rfl) (.tmp 30) (by rfl) (some ⟨gm, 0, none⟩) m.length cm false (by rfl) (by rfl) ?_)
            go_roundw
            case rel => exact ⟨k + 1, by omega, by go_num, by rw [HX.out.1]; exact ⟨rfl, HX.out.2.2.2.1, HX.out.2.2.2.2, HX.out.2.1⟩, HX.out.2.2.1⟩
            case measure => simp [intOf]; omega
          · have he : decide (l.length < m.length) = false := decide_eq_false hlm
            have HX := Lib.hid (And.intro (best_more hl hbo hlm) (And.intro hrowm (And.intro hb5 (And.intro hmp hm65))))
            clear hrow5 hb5 hl hbo hlp hlm hrowm
            go_wp2_with (refine wpList_nil_want (by rfl) (.tmp 30) (by rfl) (some ⟨gm, 0, none⟩) m.length cm false (by rfl) (by rfl) ?_)
            go_roundw
            case rel => exact ⟨k + 1, by omega, by go_num, by rw [HX.out.1]; exact ⟨rfl, HX.out.2.2.2.1, HX.out.2.2.2.2, HX.out.2.1⟩, HX.out.2.2.1⟩
            case measure => simp [intOf]; omega
    · have hkn : k = n := by omega
      subst hkn
      have hbw := H3.out.2.2.trans (hb.mono hs3)
      have hRf := H3.out.2.1.below hb H3.out.2.1.lt
      cases hbo : Rl.bestGo (Rl.backF k f) k with
      | none =>
        rw [hbo] at hbest
        obtain ⟨e1, e2⟩ := hbest
        subst e1 e2
        have HX := Lib.hid (And.intro (show Rl.ringL k f = [] by unfold Rl.ringL; rw [hbo]) hbw)
        clear hbw hb hRf hbo
        go_wp2_with (refine wpList_nil_want (by rfl) (.tmp 43) (by rfl) none 0 0 true (by rfl) (by rfl) ?_)
        go_ret
        exact ⟨_, rfl, by rw [HX.out.1]; exact World.ownsRow_nil _ _ _ _, HX.out.2⟩
      | some sm =>
        obtain ⟨s0, m⟩ := sm
        rw [hbo] at hbest
        obtain ⟨e1, hmp, hm65, hrowm⟩ := hbest
        obtain ⟨gm, cm, hvm, _⟩ := hrowm.form hmp
        subst e1 hvm
        have hbs := (Rl.best_spec H.out.2.2.2 k (Nat.le_refl _)).2 s0 m hbo
        have hls := Rl.lay_some H.out.2.2.2 (by omega) hbs.2.1
        have hr0 : Rl.ringL k f = s0 :: Rl.wayGo f m (m.length - 1) s0 := by unfold Rl.ringL; rw [hbo]
        have hrowm' := owns_base hrowm hs3
        have HX := Lib.hid (And.intro hr0 (And.intro hrowm' (And.intro hbw (And.intro hRf hls))))
        clear hbw hb hRf hbo hbs hls hr0 hrowm hrowm'
        go_wp2_with (refine wpList_nil_want (by rfl) (.tmp 43) (by rfl) (some ⟨gm, 0, none⟩) m.length cm false (by rfl) (by rfl) ?_)
        obtain ⟨W0, rfl⟩ : ∃ W0, W0 = wr := ⟨wr, rfl⟩
        have hW0 : w.heap.size ≤ W0.heap.size := HX.out.2.2.1.size
        have hlit := World.ownsRow_lit (base := W0.heap.size) (e := 3) (size := 1) W0 #[.int .i64 s0] 1 (Nat.le_refl _) (by unfold maxLen; omega) rfl
        have HL := Lib.hid (And.intro hlit ((Below.refl W0.heap.size W0).alloc (Nat.le_refl _) (.cells #[.int .i64 s0] 3)))
        clear hlit
        go_loopw [9, 10] (fun v i wr => ∃ (j : Nat) (pre : List Nat) (x : Nat), i = .int .i64 ((j : Int) - 1) ∧ j < m.length ∧ pre.length + j + 1 = m.length ∧ wr.ownsRow W0.heap.size 3 1 v (pre.length + 1) (nums (pre ++ [x])) ∧ Rl.ringL k f = pre ++ x :: Rl.wayGo f m j x ∧ Rl.Dist f s0 (j + 1) x ∧ Below W0.heap.size W0 wr) (fun _ i _ => (intOf i + 1).toNat)
        case atStart => exact ⟨m.length - 1, [], s0, by rw [show (((m.length - 1 : Nat) : Int) - 1) = (m.length : Int) - 2 by omega], by omega, by simp; omega, HL.out.1, HX.out.1, by rw [show m.length - 1 + 1 = m.length by omega]; exact HX.out.2.2.2.2.1, HL.out.2⟩
        case round =>
          obtain ⟨j, pre, x, rfl, hj, hlen, hrow, hring, hd, hb⟩ := hrel
          cases j with
          | zero =>
            rw [show (((0 : Nat) : Int) - 1) = -1 from rfl]
            have hfin : Rl.ringL k f = pre ++ [x] := hring
            have hrow2 := owns_base hrow hW0
            rw [show pre.length + 1 = (pre ++ [x]).length by simp] at hrow2
            have HF := Lib.hid (And.intro hfin (And.intro hrow2 (HX.out.2.2.1.trans (hb.mono hW0))))
            clear hfin hrow2 hb hring hrow hd
            go_wp2_with fail
            go_ret
            exact ⟨_, rfl, by rw [HF.out.1]; exact HF.out.2.1, HF.out.2.2⟩
          | succ q =>
            rw [show (((q + 1 : Nat) : Int) - 1) = (q : Int) by omega]
            have hws := Rl.way_step H.out.2.2.2 HX.out.2.2.2.2.2 (k := q) (by omega) hd
            have hxk : x < k := (hd.1.path.lt H.out.2.2.2).1
            obtain ⟨s, hs⟩ : ∃ s, m[q]? = some s := ⟨_, List.getElem?_eq_getElem (by omega)⟩
            have hwg : Rl.wayGo f m (q + 1) x = Bs.low (f x &&& s) :: Rl.wayGo f m q (Bs.low (f x &&& s)) := by
              show (let y := Bs.low (f x &&& (m[q]?.getD 0#64)); y :: Rl.wayGo f m q y) = _
              rw [hs]; rfl
            rw [hs] at hws
            change Rl.bit f x (Bs.low (f x &&& s)) = true ∧ Rl.Dist f s0 (q + 1) (Bs.low (f x &&& s)) at hws
            have hnz : f x &&& s ≠ 0#64 := by
              intro e0
              obtain ⟨⟨y, h1, h2⟩, _⟩ := (Rl.dist_succ (by omega)).1 hd
              have hy := (H.out.2.2.2.in_ x y h1).2
              have h3 := (HX.out.2.2.2.2.2 q s hs y hy).2 h2
              have h4 : (f x &&& s).getLsbD y = true := by rw [BitVec.getLsbD_and, Bool.and_eq_true]; exact ⟨h1, h3⟩
              rw [e0, Bv.zero_get] at h4; cases h4
            have hfs := some_ne hnz
            rw [hwg] at hring
            obtain ⟨y, hy⟩ : ∃ y, y = Bs.low (f x &&& s) := ⟨_, rfl⟩
            rw [← hy] at hws hring hfs
            obtain ⟨g, cap, hv, hg1, hg2⟩ := hrow.form (by omega)
            subst hv
            have hrel := HX.out.2.2.2.1.below hb HX.out.2.2.2.1.lt
            have hbest := owns_below HX.out.2.1 hb (Nat.le_refl _)
            have cR := fun d os => (rel_grow hrel d os).row x (by omega)
            have cV := fun d os => (owns_below hrow (below_regrown wr d os) (Nat.le_refl _)).cellAt pre.length (by omega)
            have cM := fun d os => (owns_below hbest (below_regrown wr d os) (Nat.le_refl _)).cellAt q (by omega)
            have e1 : (nums (pre ++ [x]))[pre.length]? = some (.int .i64 (x : Int)) := by simp [nums]
            have e2 : (setV m)[q]? = some (.int .u64 (Bv.U s)) := by simp [setV, hs]
            rw [e1] at cV
            rw [e2] at cM
            have hbw := HX.out.2.2.1.trans (hb.mono hW0)
            obtain ⟨P, hP⟩ : ∃ P, P = pre.length := ⟨_, rfl⟩
            rw [← hP] at cV hlen hrow ⊢
            obtain ⟨N, hN⟩ : ∃ N, N = P + 1 := ⟨_, rfl⟩
            rw [← hN] at hrow ⊢
            have q0 : (0 : Int) ≤ (x : Int) := by omega
            have q1 : (x : Int) < 48 := by omega
            have q2 : (0 : Int) ≤ (P : Int) := by omega
            have q3 : (P : Int) < (N : Int) := by omega
            have q4 : (0 : Int) ≤ (q : Int) := by omega
            have q5 : (q : Int) < (m.length : Int) := by omega
            have q6 : IntKind.i64.wrap ((N : Int) - 1) = (P : Int) := by rw [IntWalk.i64_in _ (by omega)]; omega
            have HF := Lib.hid (And.intro hrow (And.intro hws (And.intro hring (And.intro hb (And.intro hfs (And.intro (And.intro (HT.out _ hbw).1 (HT.out _ hbw).2) (And.intro hP hN)))))))
            clear hrow hws hring hb hfs hbw hnz hwg hs hy hrel hbest hd e1 e2 hP
            go_wp2_with fail
            refine wp_region_quiet_below (by kernel_rfl) (by kernel_rfl) ?_
            repeat (first | go_big_quiet_step (first | (go_at_call 75; with_reducible exact Calls.regrown_of (first_is (f x &&& s) y true HF.out.2.2.2.2.1.1 HF.out.2.2.2.2.1.2 _ (tab_grow HF.out.2.2.2.2.2.1.1 HF.out.2.2.2.2.2.1.2 _ _).1 (tab_grow HF.out.2.2.2.2.2.1.1 HF.out.2.2.2.2.2.1.2 _ _).2)) | fail) | quiet_step (first | (go_at_call 75; with_reducible exact Calls.regrown_of (first_is (f x &&& s) y true HF.out.2.2.2.2.1.1 HF.out.2.2.2.2.1.2 _ (tab_grow HF.out.2.2.2.2.2.1.1 HF.out.2.2.2.2.2.1.2 _ _).1 (tab_grow HF.out.2.2.2.2.2.1.1 HF.out.2.2.2.2.2.1.2 _ _).2)) | fail))
            refine wpQuiet_nil ?_
            intro W1 hw1
            have hb1 : Below wr.heap.size wr W1 := by obtain ⟨⟨d, os⟩, rfl⟩ := hw1; exact below_regrown _ _ _
            have hW1 : W0.heap.size ≤ W1.heap.size := Nat.le_trans HF.out.2.2.2.1.size hb1.size
            have hrow1 := owns_below HF.out.1 hb1 (Nat.le_refl _)
            rw [HF.out.2.2.2.2.2.2.2] at hrow1
            have H1x := Lib.hid (And.intro hrow1 (HF.out.2.2.2.1.trans (hb1.mono HF.out.2.2.2.1.size)))
            clear hw1 hb1 hrow1 cR cV cM
            go_wp2_with (at_builtin; refine wpList_append_own _ rfl _ _ 35 rfl W0.heap.size 3 i0 (.int .i64 0) 1 8 Tryd.underlying35 hi hz0 hz1 hz2 rfl (by decide) _ _ _ rfl (H1x.out.1.alloc _) ⟨W1.heap.size, 0, none⟩ 1 1 [.int .i64 y] rfl rfl (cell_one_new _ _ _) (by simp [Value.oneCell']) (by unfold maxLen; omega) (by omega) (by simp; omega) ?_; intro v' w7 hown' hgrow hnil')
            go_roundw
            case rel =>
              have hbn : Below W0.heap.size W0 w7 := (H1x.out.2.alloc hW1 _).grown hgrow (by simp; omega) (fun z e => (H1x.out.1.lt z e).1)
              have hP := HF.out.2.2.2.2.2.2.1
              refine ⟨q, pre ++ [x], y, rfl, by omega, by simp; omega, ?_, by rw [HF.out.2.2.1]; simp, HF.out.2.1.2, hbn⟩
              rw [show (pre ++ [x]).length = P + 1 by simp; omega, nums_snoc (pre ++ [x]) y]
              exact hown'
            case measure => simp [intOf]
theorem ring_any (n : Int) (f : Rl.Rows) (w : World) (zf : Rl.Z f) (hT : Tab w) (hw : 0 < w.heap.size) :
    Calls Tryd.prog 23 #[.agg (relC n f)] w (RingOut (ringR n f) w) := by
  unfold ringR
  cases h : Rl.rightB n f
  · rw [if_neg (by simp)]; exact ring_no n f w h
  · obtain ⟨m, rfl, hm⟩ := Rl.right_nat zf h
    rw [if_pos rfl, Int.toNat_natCast]; exact ring_yes m f w hm hT hw
end Go.Proofs.YtknjdfgmejobfaaDoor

/- seisinlaw02: awake. -/
namespace Go.Proofs.YtknjdfgmejobfaaDoor
open Go.RowKit Go.Shelf

attribute [-go_sem] run_eql_struct run_neq_struct
attribute [local go_sem] Bv.and_u Bv.or_u Bv.andNot_u Bv.wrap_sub1 Bv.eq0 Bv.ne0 Bv.wrap_pow Bv.wrap_powmin Bv.wrap_neg Bv.eq_u Bv.ne_u Bv.shr_min Bv.shr_pow Bv.tmod2 Bv.and1 Bv.wrap_add Bv.B1_eq1 Bv.B1_eq0 Bv.B1_ne1 Bv.B1_ne0

/-! ### relations by their pairs -/
theorem addP_bit (f : Rl.Rows) (p : Int × Int) (a b : Nat) (hp : p.2.toNat < 64) : Rl.bit (addP f p) a b = (Rl.bit f a b || decide (a = p.1.toNat ∧ b = p.2.toNat)) := by
  unfold Rl.bit addP upd
  by_cases h : a = p.1.toNat
  · rw [if_pos h, BitVec.getLsbD_or, Bv.bit_get _ _ hp, ← h]; simp
  · rw [if_neg h]; simp [h]
theorem ofR_any : ∀ (l : List (Int × Int)) (f : Rl.Rows) (a b : Nat), (∀ p ∈ l, 0 ≤ p.1 ∧ 0 ≤ p.2 ∧ p.2 < 64) → (Rl.bit (l.foldl addP f) a b = true ↔ Rl.bit f a b = true ∨ ((a : Int), (b : Int)) ∈ l)
  | [], f, a, b, _ => by simp
  | p :: l, f, a, b, h => by
    have hp := h p (by simp)
    rw [List.foldl_cons, ofR_any l (addP f p) a b (fun q hq => h q (by simp [hq])), addP_bit f p a b (by omega), Bool.or_eq_true, decide_eq_true_eq, List.mem_cons]
    have e : (a = p.1.toNat ∧ b = p.2.toNat) ↔ ((a : Int), (b : Int)) = p := by
      obtain ⟨x, y⟩ := p
      simp only [Prod.mk.injEq] at *
      omega
    rw [e, or_assoc]
theorem inB_spec {n : Int} {p : Int × Int} (h : inB n p = true) : 0 ≤ p.1 ∧ p.1 < n ∧ 0 ≤ p.2 ∧ p.2 < n := of_decide_eq_true h
theorem ofB_spec {n : Int} {l : List (Int × Int)} (h : ofB n l = true) : 0 ≤ n ∧ n ≤ 48 ∧ ∀ p ∈ l, 0 ≤ p.1 ∧ p.1 < n ∧ 0 ≤ p.2 ∧ p.2 < n := by
  unfold ofB at h
  rw [Bool.and_eq_true, decide_eq_true_eq, List.all_eq_true] at h
  exact ⟨h.1.1, h.1.2, fun p hp => inB_spec (h.2 p hp)⟩
theorem ofR_bit {n : Int} {l : List (Int × Int)} (h : ofB n l = true) (a b : Nat) : Rl.bit (ofR l) a b = true ↔ ((a : Int), (b : Int)) ∈ l := by
  obtain ⟨h0, h1, h2⟩ := ofB_spec h
  unfold ofR
  rw [ofR_any l zeroR a b (fun p hp => by have := h2 p hp; omega)]
  have : Rl.bit zeroR a b = false := by unfold Rl.bit zeroR; exact Bv.zero_get b
  rw [this]; simp
theorem ok_of {n : Nat} {l : List (Int × Int)} (h : ofB n l = true) : Rl.Ok n (ofR l) := by
  obtain ⟨h0, h1, h2⟩ := ofB_spec h
  refine ⟨by omega, fun a b hb => ?_⟩
  have := h2 _ ((ofR_bit h a b).1 hb)
  simp only [] at this
  omega
theorem of_good (n : Nat) (A : Option Addr) (l : List (Int × Int)) (cap : Nat) (w : World) (hb : ofB n l = true) (hl : l.length ≤ maxLen) (hA : PairsAt w A l) :
    Calls Tryd.prog 78 #[.int .i64 n, .slice A l.length cap] w fun e w' => e = .returned (.agg (relC n (ofR l))) ∧ Below w.heap.size w w' := by
  have h := of_fn n A l cap w hl hA
  rw [(of_true hb).1, (of_true hb).2.1] at h
  exact h
/-! ### literals -/
def pairW (l : List (Int × Int)) : List Value := l.flatMap fun p => [Value.int .i64 p.1, Value.int .i64 p.2]
theorem pairW_get : ∀ (l : List (Int × Int)) (i : Nat), i < l.length → (pairW l)[i * 2]? = some (.int .i64 (l.getD i (0, 0)).1) ∧ (pairW l)[i * 2 + 1]? = some (.int .i64 (l.getD i (0, 0)).2)
  | [], i, h => by simp at h
  | p :: l, 0, _ => by rw [show pairW (p :: l) = [Value.int .i64 p.1, Value.int .i64 p.2] ++ pairW l by simp [pairW]]; simp
  | p :: l, i + 1, h => by
    have ih := pairW_get l i (by simpa using h)
    rw [show pairW (p :: l) = [Value.int .i64 p.1, Value.int .i64 p.2] ++ pairW l by simp [pairW], List.getElem?_append_right (by simp; omega), List.getElem?_append_right (by simp; omega)]
    rw [show (i + 1) * 2 - [Value.int .i64 p.1, Value.int .i64 p.2].length = i * 2 by simp; omega, show (i + 1) * 2 + 1 - [Value.int .i64 p.1, Value.int .i64 p.2].length = i * 2 + 1 by simp; omega]
    simpa using ih
theorem lit_pairs (W : World) (e : TypeId) (l : List (Int × Int)) (cs : Array Value) (hcs : cs.toList = pairW l) : PairsAt (W.alloc (.cells cs e)) (some ⟨W.heap.size, 0, none⟩) l := by
  intro _
  refine ⟨W.heap.size, 0, rfl, by simp, fun i hi => ?_⟩
  have h1 := pairW_get l i hi
  rw [← hcs] at h1
  rw [cell_of_row _ _ (0 + i * 2) _ _ _ (World.alloc_heap_new W _), cell_of_row _ _ (0 + i * 2 + 1) _ _ _ (World.alloc_heap_new W _), Nat.zero_add]
  simpa using h1
theorem lit_intsAt (W : World) (e : TypeId) (l : List Int) (cs : Array Value) (hcs : cs.toList = intsV l) : IntsAt (W.alloc (.cells cs e)) (some ⟨W.heap.size, 0, none⟩) l := by
  intro _
  refine ⟨W.heap.size, 0, rfl, by simp, fun i hi => ?_⟩
  rw [cell_of_row _ _ (0 + i) _ _ _ (World.alloc_heap_new W _), Nat.zero_add]
  have : cs[i]? = cs.toList[i]? := by simp
  rw [this, hcs]
  simp [intsV, hi, List.getD_eq_getElem?_getD]
theorem lit_pairsN (W : World) (e : TypeId) (l : List (Int × Int)) (cs : Array Value) (n : Nat) (hn : W.heap.size = n) (hcs : cs.toList = pairW l) : PairsAt (W.alloc (.cells cs e)) (some ⟨n, 0, none⟩) l := by
  subst hn; exact lit_pairs W e l cs hcs
theorem lit_intsN (W : World) (e : TypeId) (l : List Int) (cs : Array Value) (n : Nat) (hn : W.heap.size = n) (hcs : cs.toList = intsV l) : IntsAt (W.alloc (.cells cs e)) (some ⟨n, 0, none⟩) l := by
  subst hn; exact lit_intsAt W e l cs hcs
theorem ints_true (A B : Option Addr) (xs : List Int) (c d : Nat) (w : World) (hx : xs.length ≤ maxLen) (hA : IntsAt w A xs) (hB : IntsAt w B xs) :
    Calls Tryd.prog 32 #[.slice A xs.length c, .slice B xs.length d] w fun e w' => e = .returned (.bool true) ∧ Below w.heap.size w w' := by
  have h := ints_any A B xs xs c d w hx hx hA hB
  rwa [decide_eq_true rfl] at h
theorem has_is (n : Int) (f : Rl.Rows) (a b : Int) (r : Bool) (hr : pairB n f a b = r) (w : World) (zf : Rl.Z f) :
    Calls Tryd.prog 29 #[.agg (relC n f), .int .i64 a, .int .i64 b] w fun e w' => e = .returned (.bool r) ∧ Below w.heap.size w w' := by subst hr; exact has_any n f a b w zf
theorem pairB_ok {n : Nat} {f : Rl.Rows} (hf : Rl.Ok n f) (a b : Nat) : pairB n f a b = Rl.bit f a b := by
  unfold pairB
  rw [Rl.right_of hf, Bool.true_and, Int.toNat_natCast, Int.toNat_natCast]
  cases hb : Rl.bit f a b
  · simp
  · have := hf.in_ a b hb
    rw [decide_eq_true ⟨by omega, by omega, by omega, by omega⟩]; rfl

/-! ### the examples -/
def awA : List (Int × Int) := [(0, 1), (1, 2), (2, 0), (2, 3)]
def awB : List (Int × Int) := [(0, 1), (1, 2), (2, 3)]
def awC : List (Int × Int) := [(0, 1), (1, 0), (2, 2)]
theorem awOkA : Rl.Ok 4 (ofR awA) := ok_of (by decide +kernel)
theorem awOkB : Rl.Ok 4 (ofR awB) := ok_of (by decide +kernel)
theorem awOkC : Rl.Ok 3 (ofR awC) := ok_of (by decide +kernel)
theorem thenA : Rl.pairsF (Rl.thenF 4 (ofR awA) (ofR awA)) 4 = [(0, 2), (1, 0), (1, 3), (2, 1)] := by decide +kernel
theorem topA : Rl.topL 4 (ofR awA) = none := by decide +kernel
theorem topB : Rl.topL 4 (ofR awB) = some [0, 1, 2, 3] := by decide +kernel
theorem ringA : Rl.ringL 4 (ofR awA) = [0, 1, 2] := by decide +kernel
theorem ringC : Rl.ringL 3 (ofR awC) = [2] := by decide +kernel
theorem stepA (a b : Nat) (h : (((a : Nat) : Int), ((b : Nat) : Int)) ∈ awA) : Rl.bit (ofR awA) a b = true := (ofR_bit (n := 4) (by decide +kernel) a b).2 h
theorem plusA00 : Rl.bit (Rl.plusF 4 (ofR awA)) 0 0 = true := (Rl.plus_bit awOkA).2 (.step (stepA 0 1 (by decide)) (.step (stepA 1 2 (by decide)) (.one (stepA 2 0 (by decide)))))
theorem plusA03 : Rl.bit (Rl.plusF 4 (ofR awA)) 0 3 = true := (Rl.plus_bit awOkA).2 (.step (stepA 0 1 (by decide)) (.step (stepA 1 2 (by decide)) (.one (stepA 2 3 (by decide)))))
theorem plusA33 : Rl.bit (Rl.plusF 4 (ofR awA)) 3 3 = false := by
  cases h : Rl.bit (Rl.plusF 4 (ofR awA)) 3 3
  · rfl
  · obtain ⟨c, hc⟩ := ((Rl.plus_bit awOkA).1 h).fst
    have := (ofR_bit (n := 4) (by decide +kernel) 3 c).1 hc
    simp [awA] at this
end Go.Proofs.YtknjdfgmejobfaaDoor

/- seisinlaw02: awake, the walk. -/
namespace Go.Proofs.YtknjdfgmejobfaaDoor
open Go.RowKit Go.Shelf

attribute [-go_sem] run_eql_struct run_neq_struct
attribute [local go_sem] Bv.and_u Bv.or_u Bv.andNot_u Bv.wrap_sub1 Bv.eq0 Bv.ne0 Bv.wrap_pow Bv.wrap_powmin Bv.wrap_neg Bv.eq_u Bv.ne_u Bv.shr_min Bv.shr_pow Bv.tmod2 Bv.and1 Bv.wrap_add Bv.B1_eq1 Bv.B1_eq0 Bv.B1_ne1 Bv.B1_ne0

theorem Held.alloc {w W : World} {L : List (Nat × Int × Rl.Rows)} (h : Held w L W) (o : Obj) : Held w L (W.alloc o) := h.step ((Below.refl _ W).alloc (Nat.le_refl _) o)
theorem below_push {W W' : World} {o : Obj} (hg : (W.alloc o).grownBy W' (some W.heap.size)) : Below W.heap.size W W' :=
  ((Below.refl _ W).alloc (Nat.le_refl _) o).grown hg (by simp) (fun k e => by injection e with e; omega)
theorem of_lit (n : Nat) (A : Option Addr) (l : List (Int × Int)) (len cap : Nat) (w : World) (hlen : l.length = len) (hb : ofB n l = true) (hl : l.length ≤ maxLen) (hA : PairsAt w A l) :
    Calls Tryd.prog 78 #[.int .i64 n, .slice A len cap] w fun e w' => e = .returned (.agg (relC n (ofR l))) ∧ Below w.heap.size w w' := by
  subst hlen; exact of_good n A l cap w hb hl hA
theorem ofE_lit (n : Int) (A : Option Addr) (l : List (Int × Int)) (len cap : Nat) (w : World) (hlen : l.length = len) (hb : ofB n l = false) (hl : l.length ≤ maxLen) (hA : PairsAt w A l) :
    Calls Tryd.prog 41 #[.int .i64 n, .slice A len cap] w fun e w' => e = .returned (.tuple #[.agg (relC 0 zeroR), .int .i64 2]) ∧ Below w.heap.size w w' := by
  subst hlen
  have h := of_any n A l cap w hl hA
  rw [(of_false hb).1, (of_false hb).2.1, (of_false hb).2.2] at h
  exact h
theorem pairs_lit (A B : Option Addr) (l : List (Int × Int)) (m k c d : Nat) (w : World) (hm : l.length = m) (hk : l.length = k) (hl : l.length ≤ maxLen) (hA : PairsAt w A l) (hB : PairsAt w B l) :
    Calls Tryd.prog 64 #[.slice A m c, .slice B k d] w fun e w' => e = .returned (.bool true) ∧ Below w.heap.size w w' := by
  subst hm; subst hk; exact pairs_same A B l c d w hl hA hB
theorem ints_lit2 (A B : Option Addr) (l : List Int) (m k c d : Nat) (w : World) (hm : l.length = m) (hk : l.length = k) (hl : l.length ≤ maxLen) (hA : IntsAt w A l) (hB : IntsAt w B l) :
    Calls Tryd.prog 32 #[.slice A m c, .slice B k d] w fun e w' => e = .returned (.bool true) ∧ Below w.heap.size w w' := by
  subst hm; subst hk; exact ints_true A B l c d w hl hA hB
theorem topA_is (w : World) (hT : Tab w ∧ 0 < w.heap.size) : Calls Tryd.prog 27 #[.agg (relC 4 (ofR awA))] w (TopOut none w) := by
  have h := top_yes 4 (ofR awA) w awOkA hT.1 hT.2
  rw [topA] at h; exact h
theorem topB_is (w : World) (hT : Tab w ∧ 0 < w.heap.size) : Calls Tryd.prog 27 #[.agg (relC 4 (ofR awB))] w (TopOut (some [0, 1, 2, 3]) w) := by
  have h := top_yes 4 (ofR awB) w awOkB hT.1 hT.2
  rw [topB] at h; exact h
theorem acA_is (w : World) (hT : Tab w ∧ 0 < w.heap.size) : Calls Tryd.prog 26 #[.agg (relC 4 (ofR awA))] w fun e w' => e = .returned (.bool false) ∧ Below w.heap.size w w' :=
  acyclic_is ((4 : Nat) : Int) _ false (by unfold topR; rw [Rl.right_of awOkA, if_pos rfl]; show (Rl.topL 4 (ofR awA)).isSome = false; rw [topA]; rfl) w awOkA.z hT.1 hT.2
theorem ringA_is (w : World) (hT : Tab w ∧ 0 < w.heap.size) : Calls Tryd.prog 23 #[.agg (relC 4 (ofR awA))] w (RingOut [0, 1, 2] w) := by
  have h := ring_yes 4 (ofR awA) w awOkA hT.1 hT.2
  rw [ringA] at h; exact h
theorem ringC_is (w : World) (hT : Tab w ∧ 0 < w.heap.size) : Calls Tryd.prog 23 #[.agg (relC 3 (ofR awC))] w (RingOut [2] w) := by
  have h := ring_yes 3 (ofR awC) w awOkC hT.1 hT.2
  rw [ringC] at h; exact h
theorem pairsA_is (w : World) (hT : Tab w ∧ 0 < w.heap.size) : Calls Tryd.prog 28 #[.agg (relC 4 (Rl.thenF 4 (ofR awA) (ofR awA)))] w (PairsOut [(0, 2), (1, 0), (1, 3), (2, 1)] w) := by
  have h := pairs_yes 4 (Rl.thenF 4 (ofR awA) (ofR awA)) w (Rl.ok_then awOkA awOkA) hT.1 hT.2
  rw [thenA] at h; exact h
theorem thenA_is (w : World) (hT : Tab w ∧ 0 < w.heap.size) : Calls Tryd.prog 18 #[.agg (relC 4 (ofR awA)), .agg (relC 4 (ofR awA))] w fun e w' => e = .returned (.tuple #[.agg (relC 4 (Rl.thenF 4 (ofR awA) (ofR awA))), .int .i64 0]) ∧ Below w.heap.size w w' := then_ok 4 _ _ w awOkA awOkA hT
theorem plusA_is (w : World) (hT : Tab w ∧ 0 < w.heap.size) : Calls Tryd.prog 25 #[.agg (relC 4 (ofR awA))] w fun e w' => e = .returned (.agg (relC 4 (Rl.plusF 4 (ofR awA)))) ∧ Below w.heap.size w w' := plus_fine 4 _ w awOkA hT
theorem hasA_is (a b : Nat) (r : Bool) (h : Rl.bit (Rl.plusF 4 (ofR awA)) a b = r) (w : World) : Calls Tryd.prog 29 #[.agg (relC 4 (Rl.plusF 4 (ofR awA))), .int .i64 a, .int .i64 b] w fun e w' => e = .returned (.bool r) ∧ Below w.heap.size w w' :=
  has_is ((4 : Nat) : Int) _ a b r (by rw [pairB_ok (Rl.ok_plus awOkA)]; exact h) w (Rl.ok_plus awOkA).z
theorem has00_is (w : World) : Calls Tryd.prog 29 #[.agg (relC 4 (Rl.plusF 4 (ofR awA))), .int .i64 0, .int .i64 0] w fun e w' => e = .returned (.bool true) ∧ Below w.heap.size w w' := hasA_is 0 0 true plusA00 w
theorem has03_is (w : World) : Calls Tryd.prog 29 #[.agg (relC 4 (Rl.plusF 4 (ofR awA))), .int .i64 0, .int .i64 3] w fun e w' => e = .returned (.bool true) ∧ Below w.heap.size w w' := hasA_is 0 3 true plusA03 w
theorem has33_is (w : World) : Calls Tryd.prog 29 #[.agg (relC 4 (Rl.plusF 4 (ofR awA))), .int .i64 3, .int .i64 3] w fun e w' => e = .returned (.bool false) ∧ Below w.heap.size w w' := hasA_is 3 3 false plusA33 w
set_option maxRecDepth 100000 in
set_option maxHeartbeats 4000000 in
theorem awake_any (w : World) (hT : Tab w) (hw : 0 < w.heap.size) :
    Calls Tryd.prog 22 #[] w fun e w' => e = .returned (.bool true) ∧ Below w.heap.size w w' := by
  have hzr := zero_rel
  have hne0 : ¬ relC 0 zeroR = #[] := by intro h; have := congrArg Array.size h; rw [relC_size] at this; simp at this
  have hTl : ∀ W, Below w.heap.size w W → Tab W ∧ 0 < W.heap.size := fun W h => ⟨hT.below h hw, Nat.lt_of_lt_of_le hw h.size⟩
  have HT := Lib.hid hTl
  clear hTl hT
  go_enter Tryd.func22, Tryd.ntmps22
  go_wp2_with fail
  refine (of_lit 4 _ awA 4 4 _ (by rfl) (by decide +kernel) (by decide) (lit_pairsN _ _ _ _ _ (by simp) (by rfl))).mono ?_
  rintro e w1 ⟨rfl, hb⟩
  have H1 := Lib.hid (((Held.nil w).alloc _).step hb)
  clear hb
  go_wp2_with (refine wpList_store_rel (by rfl) (.tmp 1) (.tmp 17) (by rfl) w1.heap.size 4 0 (ofR awA) zeroR (by rfl) (by rfl) (RelAt.new w1 0 zeroR) ?_; intro w2 hR hg; have H2 := Lib.hid (H1.out.push hR hg); clear hR hg)
  refine (of_lit 4 _ awB 3 3 _ (by rfl) (by decide +kernel) (by decide) (lit_pairsN _ _ _ _ _ (by simp) (by rfl))).mono ?_
  rintro e w3 ⟨rfl, hb⟩
  have H3 := Lib.hid ((H2.out.alloc _).step hb)
  clear hb
  go_wp2_with (first | (refine wpList_store_rel (by rfl) (.tmp 2) (.tmp 22) (by rfl) w3.heap.size 4 0 (ofR awB) zeroR (by rfl) (by rfl) (RelAt.new w3 0 zeroR) ?_; intro w4 hR hg; have H4 := Lib.hid (H3.out.push hR hg); clear hR hg) | (refine wpList_load_rel (by rfl) (.tmp 1) (by rfl) w1.heap.size 4 (ofR awA) (by rfl) (H4.out.at 0 rfl) ?_))
  with_reducible refine (thenA_is _ (HT.out _ H4.out.bel)).mono ?_
  rintro e w5 ⟨rfl, hb⟩
  have H5 := Lib.hid (H4.out.step hb)
  clear hb
  go_wp2_with (first | (refine wpList_store_rel (by rfl) (.tmp 3) (.tmp 27) (by rfl) w5.heap.size 4 0 (Rl.thenF 4 (ofR awA) (ofR awA)) zeroR (by rfl) (by rfl) (RelAt.new w5 0 zeroR) ?_; intro w6 hR hg; have H6 := Lib.hid (H5.out.push hR hg); clear hR hg) | (refine wpList_load_rel (by rfl) (.tmp 1) (by rfl) w1.heap.size 4 (ofR awA) (by rfl) (H6.out.at 0 rfl) ?_))
  with_reducible refine (plusA_is _ (HT.out _ H6.out.bel)).mono ?_
  rintro e w7 ⟨rfl, hb⟩
  have H7 := Lib.hid (H6.out.step hb)
  clear hb
  go_wp2_with (first | (refine wpList_store_rel (by rfl) (.tmp 5) (.tmp 30) (by rfl) w7.heap.size 4 0 (Rl.plusF 4 (ofR awA)) zeroR (by rfl) (by rfl) (RelAt.new w7 0 zeroR) ?_; intro w8 hR hg; have H8 := Lib.hid (H7.out.push hR hg); clear hR hg) | (refine wpList_load_rel (by rfl) (.tmp 1) (by rfl) w1.heap.size 4 (ofR awA) (by rfl) (H8.out.at 0 rfl) ?_))
  with_reducible refine (topA_is _ (HT.out _ H8.out.bel)).mono ?_
  rintro e w9 ⟨v9, rfl, _, hb⟩
  have H9 := Lib.hid (H8.out.step hb)
  clear hb
  go_wp2_with (first | (refine wpList_load_rel (by rfl) (.tmp 2) (by rfl) w3.heap.size 4 (ofR awB) (by rfl) (H9.out.at 1 rfl) ?_))
  with_reducible refine (topB_is _ (HT.out _ H9.out.bel)).mono ?_
  rintro e w10 ⟨v10, rfl, hrow, hb⟩
  obtain ⟨A10, c10, rfl, _, _, hA10⟩ := row_nums hrow
  have H10 := Lib.hid (And.intro (H9.out.step hb) hA10)
  clear hb hrow hA10
  go_wp2_with fail
  refine (ofE_lit 2 _ [(0, 2)] 1 1 _ (by rfl) (by decide +kernel) (by decide) (lit_pairsN _ _ _ _ _ (by simp) (by rfl))).mono ?_
  rintro e w11 ⟨rfl, hb⟩
  have H11 := Lib.hid (And.intro ((H10.out.1.alloc _).step hb) ((H10.out.2.below ((Below.refl _ _).alloc (Nat.le_refl _) _) (Nat.le_refl _)).below hb (Nat.le_refl _)))
  clear hb
  go_wp2_with (first | (refine wpList_store_rel (by rfl) (.tmp 10) (.tmp 45) (by rfl) w11.heap.size 0 0 zeroR zeroR (by rfl) (by rfl) (RelAt.new w11 0 zeroR) ?_; intro w12 hR hg; have H12 := Lib.hid (And.intro (H11.out.1.push hR hg) (H11.out.2.below (below_push hg) (Nat.le_refl _))); clear hR hg) | (refine wpList_load_rel_want (by rfl) (.tmp 3) (by rfl) w5.heap.size 4 (Rl.thenF 4 (ofR awA) (ofR awA)) (by rfl) (H12.out.1.at 2 rfl) ?_))
  with_reducible refine (pairsA_is _ (HT.out _ H12.out.1.bel)).mono ?_
  rintro e w13 ⟨v13, rfl, hrow, hb⟩
  obtain ⟨A13, c13, e13, l13, _, hA13⟩ := row_pairs hrow
  rw [l13] at e13
  subst e13
  have H13 := Lib.hid (And.intro (H12.out.1.step hb) (And.intro (H12.out.2.below hb (Nat.le_refl _)) hA13))
  clear hb hrow hA13 l13
  go_wp2_with fail
  refine (pairs_lit _ _ (pI [(0, 2), (1, 0), (1, 3), (2, 1)]) 4 4 _ _ _ (by rfl) (by rfl) (by decide) (H13.out.2.2.below ((Below.refl _ _).alloc (Nat.le_refl _) _) (Nat.le_refl _)) (lit_pairsN _ _ _ _ _ (by simp) (by rfl))).mono ?_
  rintro e w14 ⟨rfl, hb⟩
  have H14 := Lib.hid (And.intro ((H13.out.1.alloc _).step hb) ((H13.out.2.1.below ((Below.refl _ _).alloc (Nat.le_refl _) _) (Nat.le_refl _)).below hb (Nat.le_refl _)))
  clear hb
  go_wp2_with (first | (refine wpList_load_rel_want (by rfl) (.tmp 5) (by rfl) w7.heap.size 4 (Rl.plusF 4 (ofR awA)) (by rfl) (H14.out.1.at 3 rfl) ?_))
  with_reducible refine (has00_is _).mono ?_
  rintro e w15 ⟨rfl, hb⟩
  have H15 := Lib.hid (And.intro ((H14.out.1).step hb) (H14.out.2.below hb (Nat.le_refl _)))
  clear hb
  go_wp2_with (first | (refine wpList_load_rel_want (by rfl) (.tmp 5) (by rfl) w7.heap.size 4 (Rl.plusF 4 (ofR awA)) (by rfl) (H15.out.1.at 3 rfl) ?_))
  with_reducible refine (has03_is _).mono ?_
  rintro e w16 ⟨rfl, hb⟩
  have H16 := Lib.hid (And.intro ((H15.out.1).step hb) (H15.out.2.below hb (Nat.le_refl _)))
  clear hb
  go_wp2_with (first | (refine wpList_load_rel_want (by rfl) (.tmp 5) (by rfl) w7.heap.size 4 (Rl.plusF 4 (ofR awA)) (by rfl) (H16.out.1.at 3 rfl) ?_))
  with_reducible refine (has33_is _).mono ?_
  rintro e w17 ⟨rfl, hb⟩
  have H17 := Lib.hid (And.intro ((H16.out.1).step hb) (H16.out.2.below hb (Nat.le_refl _)))
  clear hb
  go_wp2_with (first | (refine wpList_load_rel_want (by rfl) (.tmp 1) (by rfl) w1.heap.size 4 (ofR awA) (by rfl) (H17.out.1.at 0 rfl) ?_))
  with_reducible refine (acA_is _ (HT.out _ H17.out.1.bel)).mono ?_
  rintro e w18 ⟨rfl, hb⟩
  have H18 := Lib.hid (And.intro ((H17.out.1).step hb) (H17.out.2.below hb (Nat.le_refl _)))
  clear hb
  go_wp2_with (first | (refine wpList_load_rel_want (by rfl) (.tmp 1) (by rfl) w1.heap.size 4 (ofR awA) (by rfl) (H18.out.1.at 0 rfl) ?_))
  with_reducible refine (ringA_is _ (HT.out _ H18.out.1.bel)).mono ?_
  rintro e w19 ⟨v19, rfl, hrow, hb⟩
  obtain ⟨A19, c19, rfl, _, _, hA19⟩ := row_nums hrow
  have H19 := Lib.hid (And.intro (H18.out.1.step hb) (And.intro (H18.out.2.below hb (Nat.le_refl _)) hA19))
  clear hb hrow hA19
  go_wp2_with fail
  refine (ints_lit2 _ _ (ints [0, 1, 2]) 3 3 _ _ _ (by rfl) (by rfl) (by decide) (H19.out.2.2.below ((Below.refl _ _).alloc (Nat.le_refl _) _) (Nat.le_refl _)) (lit_intsN _ _ _ _ _ (by simp) (by rfl))).mono ?_
  rintro e w20 ⟨rfl, hb⟩
  have H20 := Lib.hid (And.intro ((H19.out.1.alloc _).step hb) ((H19.out.2.1.below ((Below.refl _ _).alloc (Nat.le_refl _) _) (Nat.le_refl _)).below hb (Nat.le_refl _)))
  clear hb
  go_wp2_with fail
  refine (ints_lit2 _ _ (ints [0, 1, 2, 3]) 4 4 _ _ _ (by rfl) (by rfl) (by decide) (H20.out.2.below ((Below.refl _ _).alloc (Nat.le_refl _) _) (Nat.le_refl _)) (lit_intsN _ _ _ _ _ (by simp) (by rfl))).mono ?_
  rintro e w21 ⟨rfl, hb⟩
  have H21 := Lib.hid ((H20.out.1.alloc _).step hb)
  clear hb
  go_wp2_with fail
  refine (of_lit 3 _ awC 3 3 _ (by rfl) (by decide +kernel) (by decide) (lit_pairsN _ _ _ _ _ (by simp) (by rfl))).mono ?_
  rintro e w22 ⟨rfl, hb⟩
  have H22 := Lib.hid ((H21.out.alloc _).step hb)
  clear hb
  go_wp2_with fail
  refine (ringC_is _ (HT.out _ H22.out.bel)).mono ?_
  rintro e w23 ⟨v23, rfl, hrow, hb⟩
  obtain ⟨A23, c23, rfl, _, _, hA23⟩ := row_nums hrow
  have H23 := Lib.hid (And.intro (H22.out.step hb) hA23)
  clear hb hrow hA23
  go_wp2_with fail
  refine (ints_lit2 _ _ (ints [2]) 1 1 _ _ _ (by rfl) (by rfl) (by decide) (H23.out.2.below ((Below.refl _ _).alloc (Nat.le_refl _) _) (Nat.le_refl _)) (lit_intsN _ _ _ _ _ (by simp) (by rfl))).mono ?_
  rintro e w24 ⟨rfl, hb⟩
  have H24 := Lib.hid ((H23.out.1.alloc _).step hb)
  clear hb
  go_wp2_with fail
  go_ret
  exact ⟨rfl, H24.out.bel⟩
end Go.Proofs.YtknjdfgmejobfaaDoor

/- operations on valid relations, the answer under a name; comparison of a relation with itself; what the laws of layer 2 share. -/
namespace Go.Proofs.YtknjdfgmejobfaaDoor
open Go.RowKit Go.Shelf

theorem relEq_self (n : Int) (f : Rl.Rows) : relEq n n f f = true := relEq_true rfl
theorem then_is (n : Nat) (f g r : Rl.Rows) (hr : r = Rl.thenF n f g) (w : World) (hf : Rl.Ok n f) (hg : Rl.Ok n g) (hT : Tab w ∧ 0 < w.heap.size) :
    Calls Tryd.prog 18 #[.agg (relC n f), .agg (relC n g)] w fun e w' => e = .returned (.tuple #[.agg (relC n r), .int .i64 0]) ∧ Below w.heap.size w w' := by subst hr; exact then_ok n f g w hf hg hT
theorem union_is (n : Nat) (f g r : Rl.Rows) (hr : r = Rl.unionF n f g) (w : World) (hf : Rl.Ok n f) (hg : Rl.Ok n g) :
    Calls Tryd.prog 19 #[.agg (relC n f), .agg (relC n g)] w fun e w' => e = .returned (.tuple #[.agg (relC n r), .int .i64 0]) ∧ Below w.heap.size w w' := by subst hr; exact union_ok n f g w hf hg
theorem both_is (n : Nat) (f g r : Rl.Rows) (hr : r = Rl.bothF n f g) (w : World) (hf : Rl.Ok n f) (hg : Rl.Ok n g) :
    Calls Tryd.prog 42 #[.agg (relC n f), .agg (relC n g)] w fun e w' => e = .returned (.tuple #[.agg (relC n r), .int .i64 0]) ∧ Below w.heap.size w w' := by subst hr; exact both_ok n f g w hf hg
theorem less_is (n : Nat) (f g r : Rl.Rows) (hr : r = Rl.lessF n f g) (w : World) (hf : Rl.Ok n f) (hg : Rl.Ok n g) :
    Calls Tryd.prog 40 #[.agg (relC n f), .agg (relC n g)] w fun e w' => e = .returned (.tuple #[.agg (relC n r), .int .i64 0]) ∧ Below w.heap.size w w' := by subst hr; exact less_ok n f g w hf hg
theorem back_is (n : Nat) (f r : Rl.Rows) (hr : r = Rl.backF n f) (w : World) (hf : Rl.Ok n f) (hT : Tab w ∧ 0 < w.heap.size) :
    Calls Tryd.prog 20 #[.agg (relC n f)] w fun e w' => e = .returned (.agg (relC n r)) ∧ Below w.heap.size w w' := by subst hr; exact back_fine n f w hf hT
theorem plus_is (n : Nat) (f r : Rl.Rows) (hr : r = Rl.plusF n f) (w : World) (hf : Rl.Ok n f) (hT : Tab w ∧ 0 < w.heap.size) :
    Calls Tryd.prog 25 #[.agg (relC n f)] w fun e w' => e = .returned (.agg (relC n r)) ∧ Below w.heap.size w w' := by subst hr; exact plus_fine n f w hf hT
theorem id_is (n : Nat) (s : BitVec 64) (x : Int) (r : Rl.Rows) (hx : Bv.U s = x) (hr : r = Rl.idF n s) (w : World) (hn : n ≤ 48) :
    Calls Tryd.prog 21 #[.int .i64 n, .int .u64 x] w fun e w' => e = .returned (.agg (relC n r)) ∧ Below w.heap.size w w' := by subst hr hx; exact id_any n s w hn
theorem cross_is (n : Nat) (s t : BitVec 64) (r : Rl.Rows) (hr : r = Rl.crossF n s t) (w : World) (hn : n ≤ 48) :
    Calls Tryd.prog 39 #[.int .i64 n, .int .u64 (Bv.U s), .int .u64 (Bv.U t)] w fun e w' => e = .returned (.agg (relC n r)) ∧ Below w.heap.size w w' := by subst hr; exact cross_any n s t w hn
theorem fine_is (n : Int) (f : Rl.Rows) (m : Nat) (mi : Int) (k : Nat) (r : Rl.Rows) (hmi : (m : Int) = mi) (hk : k = fineK n m) (hr : r = fineR k f) (w : World) (hm : m ≤ 48) (zf : Rl.Z f) :
    Calls Tryd.prog 17 #[.agg (relC n f), .int .i64 mi] w fun e w' => e = .returned (.agg (relC k r)) ∧ Below w.heap.size w w' := by subst hr; subst hk; subst hmi; exact fine_any n f m w hm zf
/-- a piece of code that ends in one frame and one world, whatever order was drawn -/
def endsAt (A : Act) (WW : World) : Exit → Act → World → Prop
  | .normal, a, w => a = A ∧ w = WW
  | _, _, _ => False
theorem wp_end {P : Program} {c : Code} {Q : Exit → Act → World → Prop} {a : Act} {w : World} {A : Act} {WW : World} (h : c.wp P (endsAt A WW) a w) (k : Q .normal A WW) : c.wp P Q a w :=
  Code.wp_mono (fun e a' w' he => by cases e <;> first | exact (he : False).elim | (obtain ⟨rfl, rfl⟩ := (he : a' = A ∧ w' = WW); exact k)) h
theorem Held.drew {w W : World} {L : List (Nat × Int × Rl.Rows)} (h : Held w L W) : Held w L W.drew := h.step ⟨rfl, rfl, rfl, Nat.le_refl _, fun _ _ => rfl⟩
theorem twenty : ((20 : Nat) : Int) = 20 := rfl
/-- a relation's number is set -/
theorem Held.setN {w W : World} {L : List (Nat × Int × Rl.Rows)} (h : Held w L W) (i : Nat) {b : Nat} {n : Int} {f : Rl.Rows} (hi : L[i]? = some (b, n, f)) (m : Int) : Held w (L.set i (b, m, f)) (W.setCell ⟨b, 0, none⟩ (.int .i64 m)) :=
  h.put i hi ((h.at i hi).setN m) ⟨rfl, rfl, rfl, by simp, fun k _ hk => Below.heap_setCell _ _ _ _ (fun e => hk (by rw [e]))⟩
end Go.Proofs.YtknjdfgmejobfaaDoor

/- what opens a relation that comes in by value. -/
namespace Go.Proofs.YtknjdfgmejobfaaDoor
open Go.ChangeShapes Go.WideShapes Go.ChangeAt Go.RowKit

theorem cellsRel : Tryd.prog.cellsOf 26 = 49 := by kernel_rfl
theorem cellsSet : Tryd.prog.cellsOf 23 = 1 := by kernel_rfl
theorem fieldsRel : (Tryd.prog.fieldsOf 26).toList.map (fun f => (f.type, f.offset, Tryd.prog.cellsOf f.type)) = [(3, 0, 1), (24, 1, 48)] := by kernel_rfl
set_option maxRecDepth 100000 in
theorem open_rel_gen {fs0 : Array Field} (uRel : Tryd.prog.underlying 26 = some (.struct fs0)) (hfs : fs0.toList.map (fun f => (f.type, f.offset, Tryd.prog.cellsOf f.type)) = [(3, 0, 1), (24, 1, 48)]) {H : Type} {enc : TypeId × Value → H} {W : World} {r : Reach} {b0 base : Nat} {spare : Nat → Bool} {held : Bool} {v : Value} {d : DataW H} {p : List MemPlace}
    (hv : Value.okWide Tryd.prog W r b0 26 v) (h : DataW.Trod enc Tryd.prog W base spare held 26 v d p) : ∃ (n : Int) (f : Rl.Rows), v = .agg (relC n f) ∧ Rl.Z f := by
  obtain ⟨cs, rfl, hsz⟩ := okWide_struct uRel hv
  rw [cellsRel] at hsz
  obtain ⟨fuel, hf⟩ := h
  obtain ⟨xs, m, _, _, _, hl, hget⟩ := DataW.trod_struct uRel hf
  have hget2 : ∀ (i : Nat) (f : Field), fs0.toList[i]? = some f → DataW.trod enc Tryd.prog W base spare held m f.type (((Value.agg cs).cells.toList.drop f.offset).take (Tryd.prog.cellsOf f.type)) = xs[i]? := fun i f hi => hget i f (by simpa using hi)
  have hl2 : xs.length = fs0.toList.length := by simpa using hl
  clear hget hl
  generalize fs0.toList = fs at hfs hget2 hl2
  obtain ⟨f0, f1, rfl⟩ : ∃ a b, fs = [a, b] := by
    rcases fs with _ | ⟨a, _ | ⟨b, _ | ⟨c, t⟩⟩⟩
    · simp at hfs
    · simp at hfs
    · exact ⟨a, b, rfl⟩
    · simp at hfs
  simp only [List.map_cons, List.map_nil, List.cons.injEq, Prod.mk.injEq, and_true] at hfs
  obtain ⟨⟨t0, o0, c0⟩, t1, o1, c1⟩ := hfs
  obtain ⟨x0, x1, rfl⟩ : ∃ a b, xs = [a, b] := by
    rcases xs with _ | ⟨a, _ | ⟨b, _ | ⟨c, t⟩⟩⟩
    · simp at hl2
    · simp at hl2
    · exact ⟨a, b, rfl⟩
    · simp at hl2
  have h0 := hget2 0 f0 rfl
  have h1 := hget2 1 f1 rfl
  rw [c0, o0, t0] at h0
  rw [c1, o1, t1] at h1
  obtain ⟨n, e0, _, _⟩ := DataW.trod_int uInt h0
  obtain ⟨ys, m1, _, _, hcl, hyl, hel⟩ := DataW.trod_array uArr h1
  rw [cellsSet] at hel
  have hcells : (Value.agg cs).cells.toList = cs.toList := rfl
  rw [hcells] at e0 hel
  have hcs : cs.toList.length = 49 := by simpa using hsz
  have hn : cs[0]? = some (.int .i64 n) := by
    have := congrArg (fun l : List Value => l[0]?) e0
    simpa [List.getElem?_take] using this
  have hrow : ∀ i, i < 48 → ∃ s : BitVec 64, cs[1 + i]? = some (.int .u64 (Bv.U s)) := by
    intro i hi
    have hi' := hel i hi
    obtain ⟨y, hy⟩ : ∃ y, ys[i]? = some y := ⟨_, List.getElem?_eq_getElem (by omega)⟩
    rw [hy] at hi'
    obtain ⟨z, ez, _, wz⟩ := DataW.trod_int uSet hi'
    obtain ⟨s, rfl⟩ := Bv.U_of z (bounds_u64 wz).1 (by have := (bounds_u64 wz).2; omega)
    refine ⟨s, ?_⟩
    have := congrArg (fun l : List Value => l[0]?) ez
    simp [List.getElem?_take, hi] at this
    rw [Nat.add_comm]; simpa using this
  refine ⟨n, fun i => if h : i < 48 then (hrow i h).choose else 0#64, ?_, fun a ha => dif_neg (by omega)⟩
  congr 1
  apply Array.ext_getElem?
  intro i
  cases i with
  | zero => rw [hn, relC_zero]
  | succ i =>
    by_cases hi : i < 48
    · rw [Nat.add_comm i 1, relC_row _ _ _ hi, dif_pos hi]; exact (hrow i hi).choose_spec
    · rw [Array.getElem?_eq_none (by omega), Array.getElem?_eq_none (by rw [relC_size]; omega)]
set_option maxRecDepth 100000 in
theorem open_rel {H : Type} {enc : TypeId × Value → H} {W : World} {r : Reach} {b0 base : Nat} {spare : Nat → Bool} {held : Bool} {v : Value} {d : DataW H} {p : List MemPlace}
    (hv : Value.okWide Tryd.prog W r b0 26 v) (h : DataW.Trod enc Tryd.prog W base spare held 26 v d p) : ∃ (n : Int) (f : Rl.Rows), v = .agg (relC n f) ∧ Rl.Z f := open_rel_gen uRel fieldsRel hv h
end Go.Proofs.YtknjdfgmejobfaaDoor

/- a row of a held relation is set; answers on relations that are not valid. -/
namespace Go.Proofs.YtknjdfgmejobfaaDoor
open Go.RowKit Go.Shelf

theorem Held.setRow {w W : World} {L : List (Nat × Int × Rl.Rows)} (h : Held w L W) (i : Nat) {b : Nat} {n : Int} {f : Rl.Rows} (hi : L[i]? = some (b, n, f)) (a : Nat) (s : BitVec 64) : Held w (L.set i (b, n, upd f a s)) (W.setCell ⟨b, 1 + a, none⟩ (.int .u64 (Bv.U s))) :=
  h.put i hi ((h.at i hi).set a s) ⟨rfl, rfl, rfl, by simp, fun k _ hk => Below.heap_setCell _ _ _ _ (fun e => hk (by rw [e]))⟩
theorem walk_load_rel {ops : Array Oper} {w0 : World} {Q : Act → Prop} {a : Act} {rest : List Oper} {o : Oper} (hc : Bm.isCall o = false) (hw : Region.wanted o (yielded ops a.tmps) = true) (x : Operand) (hop : o.op = .load 26 x)
    (b : Nat) (n : Int) (f : Rl.Rows) (hx : a.eval x = .pointer (some ⟨b, 0, none⟩)) (hR : RelAt w0 b n f) (h : Bm.walk Tryd.prog ops w0 Q rest (a.put o.dst (.agg (relC n f)))) : Bm.walk Tryd.prog ops w0 Q (o :: rest) a :=
  Bm.walk_step hc hw (fun W hW => by
    unfold execOp
    simp only [hop, hx, Instr.loadAt, Instr.sureAddr, Sem.run_bind, Sem.run_pure, Result.andThen_ok, run_loadVar_row (P := Tryd.prog) _ b 26 26 (relC n f) (0, 0) _ (hR.below hW hR.lt) uRel rfl (sRelC n f)]) h
/-- the zero relation -/
theorem walk_build0 {ops : Array Oper} {w0 : World} {Q : Act → Prop} {a : Act} {rest : List Oper} {dst : Option Tmp} {ty : TypeId} {pos : String} {after : Array Edge} {guard : Option (Nat × Bool)} (hw : Region.wanted { dst, op := .build 26 #[], type := ty, pos, after, guard } (yielded ops a.tmps) = true)
    (h : Bm.walk Tryd.prog ops w0 Q rest (a.put dst (.agg (relC 0 zeroR)))) : Bm.walk Tryd.prog ops w0 Q ({ dst, op := .build 26 #[], type := ty, pos, after, guard } :: rest) a :=
  Bm.walk_step rfl hw (fun W _ => by
    have hb := build_zero W
    simp [execOp, hb]) h
end Go.Proofs.YtknjdfgmejobfaaDoor

/- append in a region that draws: an append of a slice to itself, the old slice kept; the steps of the walk. -/
namespace Go.Bo

section
variable {P : Program}
theorem exec_append {o : Oper} {a : Act} {W W' : World} {v xv v' : Value} (s x : Operand) (t : TypeId) (ho : o.op = .call { callee := .builtin .append, args := #[s, x], argTypes := #[t, t] }) (hs : a.eval s = v) (hx : a.eval x = xv)
    (hr : (Builtin.append_ #[t, t] o.type #[v, xv]).run P W = .ok v' W') : (execOp a.eval o).run P W = .ok (.value v') W' := by
  unfold execOp
  simp only [ho, resolve, invoke, builtin, Sem.run_bind, Sem.run_pure, Result.andThen_ok, List.map_toArray, List.map_cons, List.map_nil, hs, hx, hr]
theorem ownsRow_mono {w : World} {b b' : Nat} {e : TypeId} {size n : Nat} {v : Value} {xs : List Value} (h : w.ownsRow b e size v n xs) (hb : b' ≤ b) : w.ownsRow b' e size v n xs := by
  refine ⟨h.1, ?_⟩
  rcases h.2 with h1 | ⟨g, cap, cur, h1, h2, h3⟩
  · exact .inl h1
  · exact .inr ⟨g, cap, cur, h1, Nat.le_trans hb h2, h3⟩
theorem ownsRow_front {w : World} {b : Nat} {e : TypeId} {size n m g cap : Nat} {xs ys : List Value} (h : w.ownsRow b e size (.slice (some ⟨g, 0, none⟩) (n + m) cap) (n + m) (xs ++ ys)) (hx : xs.length = n * size) : w.ownsRow b e size (.slice (some ⟨g, 0, none⟩) n cap) n xs := by
  refine ⟨hx, ?_⟩
  rcases h.2 with ⟨h1, _⟩ | ⟨g', cap', cur, h1, h2, h3, h4, h5, h6, h7⟩
  · cases h1
  · injection h1 with e1 e2 e3
    injection e1 with e1
    injection e1 with e1
    subst e1 e3
    refine .inr ⟨g, cap, cur, rfl, h2, h3, by omega, h5, h6, ?_⟩
    have : (cur.toList.take ((n + m) * size)).take (n * size) = xs := by rw [h7, ← hx]; exact List.take_left
    rw [List.take_take] at this
    rw [← this, Nat.min_eq_left (Nat.mul_le_mul_right _ (by omega))]
theorem grownBy_wide {w w' : World} {r : Option Nat} (h : w.grownBy w' none) : w.grownBy w' r := ⟨h.os, h.tape, h.output, h.size, fun k hk _ => h.block k hk (by simp)⟩
/-- a slice appended to itself: the new value, and the old one as it was -/
theorem run_append_self (w : World) (t ty : TypeId) (base : Nat) (e : TypeId) (i : TypeInfo) (z : Value) (size bytes : Nat) (ht : P.underlying t = some (.slice e)) (hi : P.info? e = some i) (hz : i.zero = some z)
    (hsize : i.size = size) (hby : i.bytes = bytes) (hzs : z.cells.size = size) (hsz : 0 < size)
    (v : Value) (n : Nat) (xs : List Value) (hown : w.ownsRow base e size v n xs) (h1 : ∀ u ∈ xs, u.oneCell' = true)
    (h63 : n + n ≤ maxLen) (hbytes : (n + n) * bytes ≤ 140737488355328) (hbase : base ≤ w.heap.size) :
    ∃ v' w', (Builtin.append_ #[t, t] ty #[v, v]).run P w = .ok v' w' ∧ w'.ownsRow base e size v' (n + n) (xs ++ xs) ∧ w'.ownsRow base e size v n xs ∧ w.grownBy w' v.ownBlock := by
  rcases hown.2 with ⟨rfl, rfl⟩ | ⟨g, cap, cur, rfl, hb, hg, hnc, _⟩
  · have hxs : xs = [] := List.eq_nil_of_length_eq_zero (by have := hown.1; simpa using this)
    subst hxs
    exact ⟨.slice none 0 0, w, by simp [Builtin.append_, run_underlying ht, sizeOf, typeInfo, hi, Builtin.firstCells, storeCells, Builtin.lenOf], hown, hown, ⟨rfl, rfl, rfl, Nat.le_refl _, fun _ _ _ => rfl⟩⟩
  · have hc := hown.cells (g := g) rfl
    by_cases hroom : n + n ≤ cap
    · obtain ⟨w', h2, h3, h4⟩ := run_append_own_spare (P := P) w base t ty e i size ht hi hsize g n cap xs hown ⟨g, 0, none⟩ n cap xs hown.1 hc h1 hroom
      exact ⟨_, w', h2, h3, ownsRow_front h3 hown.1, h4⟩
    · obtain ⟨v', w', h2, h3, h4⟩ := run_append_arg_grows (P := P) w t ty e i z size bytes ht hi hz hsize hby hzs hsz ⟨g, 0, none⟩ n cap xs hown.1 hc ⟨g, 0, none⟩ n cap xs hown.1 hc (by omega) h63 hbytes
      exact ⟨v', w', h2, ownsRow_mono h3 hbase, hown.kept h4 (.inr (by simp [Value.ownBlock])), grownBy_wide h4⟩
end

section
variable {P : Program} {ops : Array Oper} {I : World → Prop} {n0 : Option Nat}
/-- an empty slice made -/
theorem walk_make0 {Q : Act → (World → Prop) → Prop} {a : Act} {rest : List Oper} {o : Oper} (t e : TypeId) (base size : Nat) (ho : o.op = .buildSlice t 0 #[]) (hw : Region.wanted o (yielded ops a.tmps) = true) 
    (hrun : ∀ W, (execOp a.eval o).run P W = .ok (.value (.slice (some ⟨W.heap.size, 0, none⟩) 0 0)) (W.alloc (.cells #[] e)))
    (hal : ∀ W z, I W → I (W.alloc z)) (hb : ∀ W, I W → base ≤ W.heap.size)
    (h : ∀ g, walk P ops I n0 Q rest (fun W => W.ownsRow base e size (.slice (some ⟨g, 0, none⟩) 0 0) 0 []) (a.put o.dst (.slice (some ⟨g, 0, none⟩) 0 0))) : walk P ops I n0 Q (o :: rest) (fun _ => True) a :=
  walk_open (fun v R' => ∃ g, v = .slice (some ⟨g, 0, none⟩) 0 0 ∧ R' = fun W => W.ownsRow base e size (.slice (some ⟨g, 0, none⟩) 0 0) 0 []) (by unfold isOpen; rw [ho]) hw
    (fun v R' ⟨g, _, hr⟩ W z hW => by rw [hr] at hW ⊢; exact hW.alloc z) ⟨_, _, 0, rfl, rfl⟩
    (fun W hW _ => by
      rw [hrun W]
      refine ⟨_, ⟨W.heap.size, rfl, rfl⟩, hal W _ hW, World.ownsRow_made W #[] 0 (hb W hW) (Nat.zero_le _) (by simp), fun n b _ _ hlt => ?_⟩
      exact heap_alloc_old W _ b hlt)
    (fun v R' ⟨g, hv, hr⟩ => by rw [hv, hr]; exact h g)
/-- an append to a row that the region itself has made -/
theorem walk_append {Q : Act → (World → Prop) → Prop} {a : Act} {rest : List Oper} {o : Oper} (s x : Operand) (t : TypeId) (ho : o.op = .call { callee := .builtin .append, args := #[s, x], argTypes := #[t, t] }) (hw : Region.wanted o (yielded ops a.tmps) = true)
    (base : Nat) (e : TypeId) (i : TypeInfo) (z : Value) (size bytes : Nat) (ht : P.underlying t = some (.slice e)) (hi : P.info? e = some i) (hz : i.zero = some z)
    (hsize : i.size = size) (hby : i.bytes = bytes) (hzs : z.cells.size = size) (hsz : 0 < size)
    (v : Value) (n : Nat) (xs : List Value) (hs : a.eval s = v)
    (ad : Addr) (m c : Nat) (news : List Value) (hx : a.eval x = .slice (some ad) m c) (hl : news.length = m * size) (hnews : ∀ W, I W → ∀ j u, news[j]? = some u → W.cell? (ad.add j) = some u) (h1 : ∀ u ∈ news, u.oneCell' = true)
    (h63 : n + m ≤ maxLen) (hbytes : (n + m) * bytes ≤ 140737488355328) (hn : 0 < n + m) (hb : ∀ W, I W → base ≤ W.heap.size)
    (hI : ∀ W W', I W → W.ownsRow base e size v n xs → W.grownBy W' v.ownBlock → I W')
    (h : ∀ g cap, walk P ops I none Q rest (fun W => W.ownsRow base e size (.slice (some ⟨g, 0, none⟩) (n + m) cap) (n + m) (xs ++ news)) (a.put o.dst (.slice (some ⟨g, 0, none⟩) (n + m) cap))) :
    walk P ops I none Q (o :: rest) (fun W => W.ownsRow base e size v n xs) a :=
  walk_open (fun v' R' => ∃ g cap, v' = .slice (some ⟨g, 0, none⟩) (n + m) cap ∧ R' = fun W => W.ownsRow base e size (.slice (some ⟨g, 0, none⟩) (n + m) cap) (n + m) (xs ++ news)) (by unfold isOpen; rw [ho]) hw
    (fun v' R' ⟨g, cap, _, hr⟩ W z hW => by rw [hr] at hW ⊢; exact hW.alloc z) ⟨_, _, 0, 0, rfl, rfl⟩
    (fun W hW hR => by
      obtain ⟨v', W', hr, h2, h3, _⟩ := run_append_own (P := P) W base t o.type e i z size bytes ht hi hz hsize hby hzs hsz v n xs hR ad m c news hl (hnews W hW) h1 h63 hbytes (hb W hW)
      obtain ⟨g, cap, rfl, _, hlt⟩ := h2.form (by omega)
      rw [exec_append s x t ho hs hx hr]
      exact ⟨_, ⟨g, cap, rfl, rfl⟩, hI W W' hW hR h3, h2, Kept.none⟩)
    (fun v' R' ⟨g, cap, hv, hr⟩ => by rw [hv, hr]; exact h g cap)
/-- a slice of ours appended to itself, within a region that makes a variable behind it -/
theorem walk_append_self {Q : Act → (World → Prop) → Prop} {a : Act} {rest : List Oper} {o : Oper} {m0 : Nat} (s x : Operand) (t : TypeId) (ho : o.op = .call { callee := .builtin .append, args := #[s, x], argTypes := #[t, t] }) (hw : Region.wanted o (yielded ops a.tmps) = true)
    (base : Nat) (e : TypeId) (i : TypeInfo) (z : Value) (size bytes : Nat) (ht : P.underlying t = some (.slice e)) (hi : P.info? e = some i) (hz : i.zero = some z)
    (hsize : i.size = size) (hby : i.bytes = bytes) (hzs : z.cells.size = size) (hsz : 0 < size)
    (v : Value) (n : Nat) (xs : List Value) (hs : a.eval s = v) (hx : a.eval x = v) (h1 : ∀ u ∈ xs, u.oneCell' = true)
    (h63 : n + n ≤ maxLen) (hbytes : (n + n) * bytes ≤ 140737488355328) (hb : ∀ W, I W → base ≤ W.heap.size) (hrow : ∀ W, I W → W.ownsRow base e size v n xs) (hold : ∀ g, v.ownBlock = some g → g < m0)
    (hI : ∀ W W', I W → W.grownBy W' v.ownBlock → W'.ownsRow base e size v n xs → I W')
    (h : ∀ v', (∃ A cap, v' = .slice A (n + n) cap) → walk P ops I (some m0) Q rest (fun W => W.ownsRow base e size v' (n + n) (xs ++ xs)) (a.put o.dst v')) :
    walk P ops I (some m0) Q (o :: rest) (fun _ => True) a :=
  walk_open (fun v' R' => (∃ A cap, v' = .slice A (n + n) cap) ∧ R' = fun W => W.ownsRow base e size v' (n + n) (xs ++ xs)) (by unfold isOpen; rw [ho]) hw
    (fun v' R' ⟨_, hr⟩ W z hW => by rw [hr] at hW ⊢; exact hW.alloc z) ⟨_, _, ⟨none, 0, rfl⟩, rfl⟩
    (fun W hW _ => by
      obtain ⟨v', W', hr, h2, h3, h4⟩ := run_append_self (P := P) W t o.type base e i z size bytes ht hi hz hsize hby hzs hsz v n xs (hrow W hW) h1 h63 hbytes (hb W hW)
      rw [exec_append s x t ho hs hx hr]
      have hf : ∃ A cap, v' = .slice A (n + n) cap := by
        rcases h2.2 with ⟨h5, h6⟩ | ⟨g, cap, _, h5, _⟩
        · exact ⟨none, 0, by rw [h5, h6]⟩
        · exact ⟨_, cap, h5⟩
      refine ⟨_, ⟨hf, rfl⟩, hI W W' hW h4 h3, h2, fun n' b hn' hb' hlt => ?_⟩
      injection hn' with hn'
      refine h4.block b hlt (fun e => ?_)
      have := hold b e.symm
      omega)
    (fun v' R' ⟨hf, hr⟩ => by rw [hr]; exact h v' hf)
end
end Go.Bo

/- What RelPairs' walk asks: lists with the same pairs, sets of firsts and seconds, contracts with lengths. -/
namespace Go.Rl
/-- the set of the items of a list -/
def setL (l : List Nat) : BitVec 64 := l.foldl (fun s a => s ||| Bv.bit a) 0#64
theorem setL_any : ∀ (l : List Nat) (s : BitVec 64) (i : Nat), (∀ a ∈ l, a < 64) → ((l.foldl (fun s a => s ||| Bv.bit a) s).getLsbD i = true ↔ s.getLsbD i = true ∨ i ∈ l)
  | [], s, i, _ => by simp
  | a :: l, s, i, h => by
    rw [List.foldl_cons, setL_any l _ i (fun b hb => h b (by simp [hb])), BitVec.getLsbD_or, Bool.or_eq_true, Bv.bit_get a i (h a (by simp)), decide_eq_true_eq, List.mem_cons, or_assoc]
theorem setL_bit {l : List Nat} (h : ∀ a ∈ l, a < 64) (i : Nat) : (setL l).getLsbD i = true ↔ i ∈ l := by
  unfold setL; rw [setL_any l _ i h, Bv.zero_get]; simp
theorem setL_snoc (l : List Nat) (a : Nat) : setL (l ++ [a]) = setL l ||| Bv.bit a := by unfold setL; rw [List.foldl_append]; rfl
def firsts (l : List (Nat × Nat)) : BitVec 64 := setL (l.map (·.1))
def seconds (l : List (Nat × Nat)) : BitVec 64 := setL (l.map (·.2))
theorem firsts_next {l : List (Nat × Nat)} {j : Nat} {p : Nat × Nat} (h : l[j]? = some p) : firsts (l.take (j + 1)) = firsts (l.take j) ||| Bv.bit p.1 := by
  unfold firsts; rw [List.take_add_one, h]; simp only [Option.toList_some, List.map_append, List.map_cons, List.map_nil]; exact setL_snoc _ _
theorem seconds_next {l : List (Nat × Nat)} {j : Nat} {p : Nat × Nat} (h : l[j]? = some p) : seconds (l.take (j + 1)) = seconds (l.take j) ||| Bv.bit p.2 := by
  unfold seconds; rw [List.take_add_one, h]; simp only [Option.toList_some, List.map_append, List.map_cons, List.map_nil]; exact setL_snoc _ _
theorem firsts_from {n : Nat} {f : Rows} (hf : Ok n f) {l : List (Nat × Nat)} (h : ∀ p, p ∈ l ↔ bit f p.1 p.2 = true) : firsts l = fromF n f := by
  have hn := hf.le
  apply Bv.ext_get; intro i hi
  rw [Bool.eq_iff_iff, from_bit hf]
  unfold firsts
  rw [setL_bit (fun a ha => by obtain ⟨p, hp, rfl⟩ := List.mem_map.1 ha; have := hf.in_ _ _ ((h p).1 hp); omega)]
  constructor
  · intro hm; obtain ⟨p, hp, rfl⟩ := List.mem_map.1 hm; exact ⟨p.2, (h p).1 hp⟩
  · rintro ⟨b, hb⟩; exact List.mem_map.2 ⟨(i, b), (h (i, b)).2 hb, rfl⟩
theorem seconds_into {n : Nat} {f : Rows} (hf : Ok n f) {l : List (Nat × Nat)} (h : ∀ p, p ∈ l ↔ bit f p.1 p.2 = true) : seconds l = intoF n f := by
  have hn := hf.le
  apply Bv.ext_get; intro i hi
  rw [Bool.eq_iff_iff, into_bit hf]
  unfold seconds
  rw [setL_bit (fun a ha => by obtain ⟨p, hp, rfl⟩ := List.mem_map.1 ha; have := hf.in_ _ _ ((h p).1 hp); omega)]
  constructor
  · intro hm; obtain ⟨p, hp, rfl⟩ := List.mem_map.1 hm; exact ⟨p.1, (h p).1 hp⟩
  · rintro ⟨b, hb⟩; exact List.mem_map.2 ⟨(b, i), (h (b, i)).2 hb, rfl⟩
end Go.Rl
namespace Go.Proofs.YtknjdfgmejobfaaDoor
open Go.RowKit Go.Shelf
theorem of_same {n : Nat} {f : Rl.Rows} (hf : Rl.Ok n f) {l : List (Nat × Nat)} (h : ∀ p, p ∈ l ↔ Rl.bit f p.1 p.2 = true) : ofB n (pI l) = true ∧ ofR (pI l) = f := by
  have hn := hf.le
  have hb : ofB n (pI l) = true := by
    unfold ofB
    rw [Bool.and_eq_true, decide_eq_true_eq, List.all_eq_true]
    refine ⟨by omega, fun p hp => ?_⟩
    obtain ⟨q, hq, rfl⟩ := List.mem_map.1 hp
    have := hf.in_ _ _ ((h q).1 hq)
    unfold inB; simp; omega
  refine ⟨hb, Rl.rows_ext fun a b _ => ?_⟩
  rw [Bool.eq_iff_iff, ofR_bit hb]
  constructor
  · intro hm
    obtain ⟨q, hq, e⟩ := List.mem_map.1 hm
    injection e with e1 e2
    have := (h q).1 hq
    rwa [show q.1 = a by omega, show q.2 = b by omega] at this
  · intro hb2; exact List.mem_map.2 ⟨(a, b), (h (a, b)).2 hb2, rfl⟩
/-- Of, of a slice that lies in the world -/
theorem of_row {n : Nat} {f : Rl.Rows} (hf : Rl.Ok n f) {l : List (Nat × Nat)} (h : ∀ p, p ∈ l ↔ Rl.bit f p.1 p.2 = true) (N : Nat) (hN : N ≤ 100000) {base : Nat} {v : Value} {W : World} (hrow : W.ownsRow base 42 2 v N (pairV l)) :
    Calls Tryd.prog 41 #[.int .i64 n, v] W fun e w' => e = .returned (.tuple #[.agg (relC n f), .int .i64 0]) ∧ Below W.heap.size W w' := by
  obtain ⟨A, cap, rfl, hl, _, hA⟩ := row_pairs hrow
  obtain ⟨h1, h2⟩ := of_same hf h
  have hc := of_any n A (pI l) cap W (by unfold maxLen; omega) hA
  obtain ⟨e1, e2, e3⟩ := of_true h1
  rw [e1, e2, e3, h2] at hc
  exact hc
/-- Pairs, its length -/
def IsPairs (N : Nat) (v : Value) : Prop := ∃ (A : Option Addr) (c : Nat), v = .slice A N c
theorem pairs_len (n : Nat) (f : Rl.Rows) (N : Nat) (hN : (Rl.pairsF f n).length = N) (w : World) (hf : Rl.Ok n f) (hT : Tab w ∧ 0 < w.heap.size) :
    Calls Tryd.prog 28 #[.agg (relC n f)] w fun e w' => ∃ v, e = .returned v ∧ IsPairs N v ∧ Below w.heap.size w w' :=
  (pairs_yes n f w hf hT.1 hT.2).mono fun e w' ⟨v, he, hrow, hb⟩ => by
    obtain ⟨A, c, e1, e2, _⟩ := row_pairs hrow
    exact ⟨v, he, ⟨A, c, by rw [e1, e2, hN]⟩, hb⟩
theorem Held.grown {w W W' : World} {L : List (Nat × Int × Rl.Rows)} (h : Held w L W) {b : Nat} (hg : W.grownBy W' (some b)) (hw : w.heap.size ≤ b) (hne : ∀ x ∈ L, x.1 ≠ b) : Held w L W' :=
  ⟨fun i x hi => (h.rel i x hi).kept hg (fun e => by injection e with e; exact hne x (List.mem_of_getElem? hi) e), h.apart, h.new, h.bel.grown hg h.bel.size (fun k e => by injection e with e; omega)⟩
theorem ownsRow_below {w W : World} {base n : Nat} {e : TypeId} {size : Nat} {v : Value} {xs : List Value} (h : w.ownsRow base e size v n xs) (hb : Below w.heap.size w W) : W.ownsRow base e size v n xs := by
  refine ⟨h.1, ?_⟩
  rcases h.2 with hn | ⟨g, cap, cur, rfl, hb', hg, rest⟩
  · exact .inl hn
  · exact .inr ⟨g, cap, cur, rfl, hb', (hb.block g (Array.getElem?_eq_some_iff.1 hg).1).trans hg, rest⟩
theorem Held.grownRow {w W W' : World} {L : List (Nat × Int × Rl.Rows)} (h : Held w L W) {v : Value} {n : Nat} {xs : List Value} (hr : W.ownsRow w.heap.size 42 2 v n xs) (hg : W.grownBy W' v.ownBlock) : Held w L W' :=
  ⟨fun i x hi => (h.rel i x hi).kept hg (fun e => by
    obtain ⟨c, fz, hc⟩ := Go.Lib.ownsRow_kind hr x.1 e.symm
    have h2 : W.heap[x.1]? = some (.cells (relC x.2.1 x.2.2) 26) := h.rel i x hi
    rw [hc] at h2
    injection h2 with h2
    injection h2 with h3 h4
    exact absurd h4 (by decide)), h.apart, h.new, h.bel.grown hg h.bel.size (fun k e => (hr.lt k e).1)⟩
theorem pairV_one (l : List (Nat × Nat)) : ∀ u ∈ pairV l, u.oneCell' = true := by
  intro u hu
  obtain ⟨p, _, hp⟩ := List.mem_flatMap.1 hu
  simp [pairC] at hp
  rcases hp with rfl | rfl <;> rfl
theorem pairV_app (l m : List (Nat × Nat)) : pairV (l ++ m) = pairV l ++ pairV m := by simp [pairV]
theorem pairV_drop : ∀ (l : List (Nat × Nat)) (k : Nat), pairV (l.drop k) = (pairV l).drop (k * 2)
  | l, 0 => by simp
  | [], k + 1 => by simp [pairV]
  | p :: l, k + 1 => by
    rw [List.drop_succ_cons, pairV_drop l k, show pairV (p :: l) = pairC p ++ pairV l by simp [pairV], show (k + 1) * 2 = (pairC p).length + k * 2 by simp [pairC]; omega, List.drop_append]
    simp
theorem pairV_take (l : List (Nat × Nat)) (k : Nat) (hk : k ≤ l.length) : pairV (l.take k) = (pairV l).take (k * 2) := by
  have h1 : pairV l = pairV (l.take k) ++ pairV (l.drop k) := by rw [← pairV_app, List.take_append_drop]
  have h2 : (pairV (l.take k)).length = k * 2 := by rw [pairV_len, List.length_take, Nat.min_eq_left hk]
  rw [h1, ← h2, List.take_left]
theorem tail_pairs {W : World} {base : Nat} {e : TypeId} {g cap N k : Nat} {l : List (Nat × Nat)} (h : W.ownsRow base e 2 (.slice (some ⟨g, 0, none⟩) N cap) N (pairV l)) :
    ∀ j u, (pairV (l.drop k))[j]? = some u → W.cell? ((⟨g, k * 2, none⟩ : Addr).add j) = some u := by
  intro j u hu
  have hadd : (⟨g, k * 2, none⟩ : Addr).add j = ⟨g, k * 2 + j, none⟩ := by unfold Addr.add; split <;> simp_all
  rw [pairV_drop, List.getElem?_drop] at hu
  have hlt := (List.getElem?_eq_some_iff.1 hu).1
  rw [h.1] at hlt
  rw [hadd, h.cellAt _ (by omega)]; exact hu
theorem head_pairs {W : World} {base : Nat} {e : TypeId} {g cap N k : Nat} {l : List (Nat × Nat)} (hk : k ≤ l.length) (h : W.ownsRow base e 2 (.slice (some ⟨g, 0, none⟩) N cap) N (pairV l)) :
    ∀ j u, (pairV (l.take k))[j]? = some u → W.cell? ((⟨g, 0, none⟩ : Addr).add j) = some u := by
  intro j u hu
  have hadd : (⟨g, 0, none⟩ : Addr).add j = ⟨g, 0 + j, none⟩ := by unfold Addr.add; split <;> simp_all
  rw [pairV_take l k hk, List.getElem?_take] at hu
  split at hu
  · have hlt := (List.getElem?_eq_some_iff.1 hu).1
    rw [h.1] at hlt
    rw [hadd, Nat.zero_add, h.cellAt _ hlt]; exact hu
  · cases hu
theorem turned_mem {l : List (Nat × Nat)} {k : Nat} (p : Nat × Nat) : p ∈ l.drop k ++ l.take k ↔ p ∈ l := by
  rw [List.mem_append, Or.comm, ← List.mem_append, List.take_append_drop]
/-- a region's load of a relation -/
theorem bo_load_rel {ops : Array Oper} {I : World → Prop} {n0 : Option Nat} {Q : Act → (World → Prop) → Prop} {R : World → Prop} {a : Act} {rest : List Oper} {o : Oper} (hc : Bo.isOpen o = false) (hw : Region.wanted o (yielded ops a.tmps) = true) (x : Operand) (hop : o.op = .load 26 x)
    (b : Nat) (n : Int) (f : Rl.Rows) (hx : a.eval x = .pointer (some ⟨b, 0, none⟩)) (hR : ∀ W, I W → RelAt W b n f) (h : Bo.walk Tryd.prog ops I n0 Q rest R (a.put o.dst (.agg (relC n f)))) : Bo.walk Tryd.prog ops I n0 Q (o :: rest) R a :=
  Bo.walk_step hc hw (fun W hW => by
    unfold execOp
    simp only [hop, hx, Instr.loadAt, Instr.sureAddr, Sem.run_bind, Sem.run_pure, Result.andThen_ok, run_loadVar_row (P := Tryd.prog) _ b 26 26 (relC n f) (0, 0) _ (hR W hW) uRel rfl (sRelC n f)]) h
end Go.Proofs.YtknjdfgmejobfaaDoor
