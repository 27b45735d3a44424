/- reference of layer 3: Total. -/
import Derived.Test.YtknjdfgmejobfaaDoorWc
import Derived.Test.YtknjdfgmejobfaaDoorPn
import Derived.Test.YtknjdfgmejobfaaDoorLg
import Derived.Deep.RegionHeld3
import Derived.OwnWalk
import Derived.Laws.OwnMore
namespace Go.Proofs.YtknjdfgmejobfaaDoor
open Go.RowKit Go.Shelf

/-- one append of a region that draws, the value left open -/
theorem step_append_any {P : Program} {w : World} {ops : Array Oper} {o : Oper} {a : Act} {K : Act → World → Prop} {Q : Exit → Act → World → Prop} {E : Prop} (hgd : o.guard = none) (s x : Operand) (t : TypeId)
    (ho : o.op = .call { callee := .builtin .append, args := #[s, x], argTypes := #[t, t] })
    (base : Nat) (e : TypeId) (i : TypeInfo) (z : Value) (size bytes : Nat) (ht : P.underlying t = some (.slice e)) (hi : P.info? e = some i) (hz : i.zero = some z)
    (hsize : i.size = size) (hby : i.bytes = bytes) (hzs : z.cells.size = size) (hsz : 0 < size)
    (v : Value) (n : Nat) (xs : List Value) (hs : a.eval s = v) (hown : w.ownsRow base e size v n xs)
    (ad : Addr) (m c : Nat) (news : List Value) (hx : a.eval x = .slice (some ad) m c) (hl : news.length = m * size) (hnews : ∀ j u, news[j]? = some u → w.cell? (ad.add j) = some u) (h1 : ∀ u ∈ news, u.oneCell' = true)
    (h63 : n + m ≤ maxLen) (hbytes : (n + m) * bytes ≤ 140737488355328) (hbase : base ≤ w.heap.size)
    (h : ∀ v' w', w'.ownsRow base e size v' (n + m) (xs ++ news) → w.grownBy w' v.ownBlock → K (a.put o.dst v') w') :
    if Region.wanted o (yielded ops a.tmps) = true then Oper.wp P o a w K Q else E := by
  have hw : Region.wanted o (yielded ops a.tmps) = true := by simp [Region.wanted, hgd]
  rw [if_pos hw]
  exact wp_append_own w s x t ho base e i z size bytes ht hi hz hsize hby hzs hsz v n xs hs hown ad m c news hx hl hnews h1 h63 hbytes hbase fun v' w' h2 h3 _ => h v' w' h2 h3
attribute [-go_sem] run_eql_struct run_neq_struct
set_option maxRecDepth 100000 in
set_option maxHeartbeats 4000000 in
theorem rtotal_no (n : Int) (A : Option Addr) (zs : List Int) (cap : Nat) (w : World) (hlen : zs.length ≤ 1000) (hA : IntsAt w A zs) (hok : okL n zs = false) :
    Calls Tryd.prog 50 #[.int .i64 n, .slice A zs.length cap] w fun e w' => e = .returned (.tuple #[.agg (relC 0 zeroR), .bool false]) ∧ Below w.heap.size w w' := by
  have hzr := zero_rel
  have hbz := build_zero
  have hne0 : ¬ relC 0 zeroR = #[] := by intro h; have := congrArg Array.size h; rw [relC_size] at this; simp at this
  have HA := Lib.hid hA
  clear hA
  have hcase : n < 0 ∨ (¬ n < 0 ∧ 48 < n) ∨ (¬ n < 0 ∧ ¬ 48 < n ∧ listedB n zs = false) := by
    rw [okL_listed] at hok
    by_cases h1 : n < 0
    · exact .inl h1
    · by_cases h2 : 48 < n
      · exact .inr (.inl ⟨h1, h2⟩)
      · rw [decide_eq_true (show 0 ≤ n ∧ n ≤ 48 by omega), Bool.true_and] at hok
        exact .inr (.inr ⟨h1, h2, hok⟩)
  clear hok
  have H0 := Lib.hid ((Held.nil w).box 0 zeroR)
  go_enter Tryd.func50, Tryd.ntmps50
  rcases hcase with h1 | ⟨h1, h2⟩ | ⟨h1, h2, h3⟩
  · go_wp2_with (first | (refine wpList_store_rel (by rfl) (.tmp 4) (.tmp 21) (by rfl) w.heap.size 0 0 zeroR zeroR (by rfl) (by rfl) (H0.out.at 0 rfl) ?_; intro w4 hR4 hg4; have H1 := Lib.hid (H0.out.put 0 rfl hR4 hg4); clear hR4 hg4))
    refine bodyPost_ret (results_rel_tmp rfl _ _ w.heap.size 0 zeroR rfl (H1.out.at 0 rfl)) rfl ⟨rfl, H1.out.bel⟩
  · have d1 : decide (n < 0) = false := decide_eq_false h1
    go_wp2_with (first | (refine wpList_store_rel (by rfl) (.tmp 4) (.tmp 21) (by rfl) w.heap.size 0 0 zeroR zeroR (by rfl) (by rfl) (H0.out.at 0 rfl) ?_; intro w4 hR4 hg4; have H1 := Lib.hid (H0.out.put 0 rfl hR4 hg4); clear hR4 hg4))
    refine bodyPost_ret (results_rel_tmp rfl _ _ w.heap.size 0 zeroR rfl (H1.out.at 0 rfl)) rfl ⟨rfl, H1.out.bel⟩
  · have d1 : decide (n < 0) = false := decide_eq_false h1
    have d2 : decide (48 < n) = false := decide_eq_false h2
    have HL := Lib.hid h3
    clear h3
    go_wp2_with fail
    refine (listed_any n A zs cap false HL.out _ hlen (HA.out.below ((Below.refl _ _).alloc (Nat.le_refl _) _) (Nat.le_refl _))).mono ?_
    rintro e w1 ⟨rfl, hb⟩
    have H1 := Lib.hid (H0.out.step hb)
    clear hb
    go_wp2_with (first | (refine wpList_store_rel (by rfl) (.tmp 4) (.tmp 21) (by rfl) w.heap.size 0 0 zeroR zeroR (by rfl) (by rfl) (H1.out.at 0 rfl) ?_; intro w4 hR4 hg4; have H2 := Lib.hid (H1.out.put 0 rfl hR4 hg4); clear hR4 hg4))
    refine bodyPost_ret (results_rel_tmp rfl _ _ w.heap.size 0 zeroR rfl (H2.out.at 0 rfl)) rfl ⟨rfl, H2.out.bel⟩
set_option maxRecDepth 100000 in
set_option maxHeartbeats 4000000 in
theorem rtotal_yes (n : Nat) (A : Option Addr) (L : List Nat) (cap : Nat) (w : World) (hn : n ≤ 48) (fL : Full n L) (hA : IntsAt w A (ints L)) :
    Calls Tryd.prog 50 #[.int .i64 n, .slice A n cap] w fun e w' => e = .returned (.tuple #[.agg (relC n (totL L)), .bool true]) ∧ Below w.heap.size w w' := by
  have hzr := zero_rel
  have hlb : listedB n (ints L) = true := (listed_iff n _).2 ⟨by rw [ints_len, fL.len], fun z hz => by
    unfold ints at hz
    obtain ⟨a, ha, rfl⟩ := List.mem_map.1 hz
    have := fL.lt a ha; omega, by
    unfold ints; exact List.pairwise_map.2 (fL.nodup.imp fun h e => h (by omega))⟩
  obtain ⟨T, hT⟩ : ∃ T, T = totL L := ⟨_, rfl⟩
  have hof := PP_ofB hn fL
  have hor : ofR (pI (PP L n)) = T := by rw [hT, ← PP_ofR hn fL, fL.len]
  rw [fL.len] at hof
  obtain ⟨i0, hi, hz0, hz1, hz2⟩ := info_parts infoPair
  have I0 := Lib.hid (And.intro hi (And.intro hz0 (And.intro hz1 hz2)))
  have HA := Lib.hid (And.intro hA (And.intro fL (And.intro hlb (And.intro hof hor))))
  rw [← hT]
  clear hA fL hlb hof hor hi hz0 hz1 hz2 hT
  have d1 : decide ((n : Int) < 0) = false := decide_eq_false (by omega)
  have d2 : decide ((48 : Int) < (n : Int)) = false := decide_eq_false (by omega)
  have d3 : decide (48 < n) = false := decide_eq_false (by omega)
  have H0 := Lib.hid ((Held.nil w).box 0 zeroR)
  go_enter Tryd.func50, Tryd.ntmps50
  go_wp2_with fail
  have hli := listed_any n A (ints L) cap true HA.out.2.2.1 (w.alloc (.cells (relC 0 zeroR) 26)) (by rw [ints_len, HA.out.2.1.len]; omega) (HA.out.1.below ((Below.refl _ _).alloc (Nat.le_refl _) _) (Nat.le_refl _))
  rw [ints_len, HA.out.2.1.len] at hli
  refine hli.mono ?_
  clear hli
  rintro e w1 ⟨rfl, hb⟩
  have H1 := Lib.hid (And.intro (H0.out.step hb) ((HA.out.1.below ((Below.refl _ _).alloc (Nat.le_refl _) _) (Nat.le_refl _)).below hb (by simp)))
  clear hb
  go_wp2_with fail
  go_loopw [6, 7] (fun v i wr => ∃ k : Nat, k ≤ n ∧ i = .int .i64 k ∧ wr.ownsRow w1.heap.size 42 2 v (PP L k).length (pairV (PP L k)) ∧ Below w1.heap.size w1 wr) (fun _ i _ => n - (intOf i).toNat)
  case atStart => exact ⟨0, Nat.zero_le _, rfl, World.ownsRow_nil _ _ _ _, Below.refl _ _⟩
  case round =>
    obtain ⟨k, hk, rfl, hrow, hb⟩ := hrel
    by_cases hlt : k < n
    · have R0 := Lib.hid (And.intro hrow hb)
      clear hrow hb
      go_wp2_with fail
      go_loopw [6, 8] (fun v i wr2 => ∃ j : Nat, k + 1 ≤ j ∧ j ≤ n ∧ i = .int .i64 j ∧ wr2.ownsRow w1.heap.size 42 2 v (PP L k ++ rowQ L k j).length (pairV (PP L k ++ rowQ L k j)) ∧ Below w1.heap.size w1 wr2) (fun _ i _ => n - (intOf i).toNat)
      case atStart => exact ⟨k + 1, Nat.le_refl _, by omega, by go_num, by rw [rowQ_first, List.append_nil]; exact R0.out.1, R0.out.2⟩
      case round =>
        obtain ⟨j, hkj, hj, rfl, hrow, hb⟩ := hrel
        by_cases hjl : j < n
        · obtain ⟨x, hx⟩ : ∃ x, L[k]? = some x := ⟨_, List.getElem?_eq_getElem (by rw [HA.out.2.1.len]; omega)⟩
          obtain ⟨y, hy⟩ : ∃ y, L[j]? = some y := ⟨_, List.getElem?_eq_getElem (by rw [HA.out.2.1.len]; omega)⟩
          obtain ⟨b, off, rfl, hbl, hc⟩ := (H1.out.2.below hb (Nat.le_refl _)) (by rw [ints_len, HA.out.2.1.len]; omega)
          have c1 := hc k (by rw [ints_len, HA.out.2.1.len]; omega)
          have c2 := hc j (by rw [ints_len, HA.out.2.1.len]; omega)
          rw [ints_get hx] at c1
          rw [ints_get hy] at c2
          have hst : rowQ L k (j + 1) = rowQ L k j ++ [(x, y)] := by
            rw [rowQ_succ L k j hkj, List.getD_eq_getElem?_getD, List.getD_eq_getElem?_getD, hx, hy]; rfl
          have hsz : w1.heap.size ≤ wr.heap.size := hb.size
          obtain ⟨N, hN⟩ : ∃ N, (PP L k ++ rowQ L k j).length = N := ⟨_, rfl⟩
          have hNb : N ≤ 3000 := by
            have h1 := PP_le L k
            have h2 := rowQ_le L k j
            rw [HA.out.2.1.len] at h1
            have h3 : k * n ≤ 48 * 48 := Nat.mul_le_mul (by omega) hn
            rw [← hN, List.length_append]; omega
          rw [hN] at hrow
          have HI := Lib.hid (And.intro hrow (And.intro hb (And.intro hst hN)))
          have HC := Lib.hid (show ∀ W, Below w1.heap.size w1 W → W.cell? ⟨b, off + k, none⟩ = some (.int .i64 x) ∧ W.cell? ⟨b, off + j, none⟩ = some (.int .i64 y) from fun W hW => by
            obtain ⟨b', off', e, hbl', hc'⟩ := H1.out.2 (by rw [ints_len, HA.out.2.1.len]; omega)
            injection e with e; injection e with e1 e2; subst e1 e2
            have c1 := hc' k (by rw [ints_len, HA.out.2.1.len]; omega)
            have c2 := hc' j (by rw [ints_len, HA.out.2.1.len]; omega)
            rw [ints_get hx] at c1
            rw [ints_get hy] at c2
            exact ⟨(hW.cell (p := ⟨b, off + k, none⟩) hbl').trans c1, (hW.cell (p := ⟨b, off + j, none⟩) hbl').trans c2⟩)
          clear hrow hb hst hN hx hy hc hbl
          go_wp2_with fail
          have hS0 := HC.out wr HI.out.2.1
          go_region_held3 (fun W => W.cell? ⟨b, off + k, none⟩ = some (.int .i64 x) ∧ W.cell? ⟨b, off + j, none⟩ = some (.int .i64 y))
            (first | assumption | exact HC.out _ HI.out.2.1.drew | exact HC.out _ (HI.out.2.1.alloc hsz _) | exact HC.out _ (HI.out.2.1.alloc hsz _).drew | exact HC.out _ (HI.out.2.1.drew.alloc hsz _) | exact HC.out _ ((HI.out.2.1.alloc hsz _).drew.grown hgrow3 (by simp; omega) (fun q e => (HI.out.1.lt q e).1)))
            (first | (refine step_append_any (by rfl) (.tmp 34) (.tmp 44) 40 (by rfl) w1.heap.size 42 i0 _ 2 16 Tryd.underlying40 I0.out.1 I0.out.2.1 I0.out.2.2.1 I0.out.2.2.2 rfl (by decide) _ N _ (by rfl) ((HI.out.1.alloc _).drew) ⟨wr.heap.size, 0, none⟩ 1 1 [.int .i64 x, .int .i64 y] (by rfl) (by rfl) (cell_two_new _ _ _ _) (by simp [Value.oneCell']) (by unfold maxLen; omega) (by omega) (by simp; omega) ?_; intro v' w7 hown' hgrow3))
          go_wp2_with fail
          go_roundw
          case rel =>
            refine ⟨j + 1, by omega, by omega, by go_num, ?_, (HI.out.2.1.alloc hsz _).drew.grown hgrow3 (by simp; omega) (fun q e => (HI.out.1.lt q e).1)⟩
            rw [HI.out.2.2.1, ← List.append_assoc, List.length_append, HI.out.2.2.2, pairV_snoc]
            exact hown'
          case measure => simp [intOf]; omega
        · obtain rfl : j = n := by omega
          have hst := PP_succ L k
          rw [HA.out.2.1.len] at hst
          rw [← hst] at hrow
          have HI := Lib.hid (And.intro hrow hb)
          clear hrow hb hst
          go_wp2_with fail
          go_roundw
          case rel => exact ⟨k + 1, by omega, by go_num, HI.out.1, HI.out.2⟩
          case measure => simp [intOf]; omega
    · obtain rfl : k = n := by omega
      obtain ⟨B, c, rfl, hlenp, _, hP⟩ := row_pairs hrow
      have R0 := Lib.hid (And.intro (H1.out.1.step hb) hP)
      have hrof := rof_yes k B (pI (PP L k)) c wr hn (by
        have h1 := PP_le L k
        rw [HA.out.2.1.len] at h1
        have h3 : k * k ≤ 48 * 48 := Nat.mul_le_mul hn hn
        rw [pI_len]; unfold maxLen; omega) hP
      unfold ofN ofF at hrof
      rw [HA.out.2.2.2.1, if_pos rfl, if_pos rfl, HA.out.2.2.2.2] at hrof
      have HR := Lib.hid hrof
      clear hrow hb hP hlenp hrof
      go_wp2_with fail
      refine HR.out.mono ?_
      rintro e w2 ⟨rfl, hb⟩
      have R1 := Lib.hid (R0.out.1.step hb)
      clear hb
      go_wp2_with (first | (refine wpList_store_rel (by rfl) (.tmp 4) (.tmp 49) (by rfl) w.heap.size k 0 T zeroR (by rfl) (by rfl) (R1.out.at 0 rfl) ?_; intro w4 hR4 hg4; have R2 := Lib.hid (R1.out.put 0 rfl hR4 hg4); clear hR4 hg4))
      refine bodyPost_ret (results_rel_tmp rfl _ _ w.heap.size k T rfl (R2.out.at 0 rfl)) rfl ⟨rfl, R2.out.bel⟩
end Go.Proofs.YtknjdfgmejobfaaDoor
