/- reference of layer 3: Of, the walk. -/
import Derived.Test.YtknjdfgmejobfaaDoorWe
import Derived.Test.YtknjdfgmejobfaaDoorLh
import Derived.Test.YtknjdfgmejobfaaDoorLg
import Derived.OwnWalk
namespace Go.Proofs.YtknjdfgmejobfaaDoor
open Go.RowKit Go.Shelf

theorem rtotal_any (n : Int) (A : Option Addr) (zs : List Int) (cap : Nat) (w : World) (hlen : zs.length ≤ 1000) (hA : IntsAt w A zs) :
    Calls Tryd.prog 50 #[.int .i64 n, .slice A zs.length cap] w fun e w' => e = .returned (.tuple #[.agg (relC (totalN n zs) (totalF n zs)), .bool (okL n zs)]) ∧ Below w.heap.size w w' := by
  unfold totalN totalF
  cases h : okL n zs
  · exact rtotal_no n A zs cap w hlen hA h
  · obtain ⟨m, rfl, h1, h2, h3, h4, h5⟩ := okL_parts h
    have hA2 := hA
    rw [h2] at hA2
    have := rtotal_yes m A (natL zs) cap w h1 (full_of h3 h4 h5) hA2
    rw [show zs.length = m by rw [← h3]; simp [natL]]
    exact this
theorem nums_set (l : List Nat) (j x : Nat) : nums (l.set j x) = (nums l).set j (.int .i64 x) := by unfold nums; rw [List.map_set]
theorem Held.far {w W : World} {b : Nat} {n : Int} {f : Rl.Rows} (h : Held w [(b, n, f)] W) (p : Addr) (v : Value) (hne : b ≠ p.block) (hp : w.heap.size ≤ p.block) : Held w [(b, n, f)] (W.setCell p v) :=
  ⟨fun i x hi => by
    rcases i with _ | i
    · simp at hi; subst hi; exact (h.at 0 rfl).other p v hne
    · simp at hi, h.apart, h.new, h.bel.setCell hp v⟩
theorem infoOneInt3 : (Tryd.prog.info? 3).map (fun i => (i.zero, i.size, i.bytes)) = some (some (.int .i64 0), 1, 8) := by kernel_rfl
theorem nums_zero (m : Nat) : (madeCells (Value.int .i64 0).cells (m * 1)).toList = nums (List.replicate m 0) := by
  unfold nums
  rw [List.map_replicate, Nat.mul_one]
  apply List.ext_getElem?
  intro i
  by_cases h : i < m
  · simp [madeCells, Value.cells, Nat.mod_one, h, List.getElem?_replicate]
  · simp [madeCells, Value.cells, h, List.getElem?_replicate]
attribute [-go_sem] run_eql_struct run_neq_struct
attribute [local go_sem] run_rel_eql run_rel_neq
set_option maxRecDepth 100000 in
set_option maxHeartbeats 4000000 in
theorem rof_bad3 (n : Int) (f : Rl.Rows) (w : World) (zf : Rl.Z f) (hR : Rl.rightB n f = false) :
    Calls Tryd.prog 52 #[.agg (relC n f)] w (TopOut none w) := by
  have H0 := Lib.hid ((Held.nil w).box n f)
  have Z := Lib.hid (And.intro zf hR)
  clear zf hR
  go_enter Tryd.func52, Tryd.ntmps52
  go_wp2_with (first | (refine wpList_load_rel (by rfl) (.tmp 1) (by rfl) w.heap.size n f (by rfl) (H0.out.at 0 rfl) ?_))
  with_reducible refine (rright_is n f false Z.out.2 _ Z.out.1).mono ?_
  rintro e w1 ⟨rfl, hb⟩
  have H1 := Lib.hid (H0.out.step hb)
  clear hb
  go_wp2_with fail
  go_ret2
  exact ⟨_, rfl, World.ownsRow_nil _ _ _ _, H1.out.bel⟩
set_option maxRecDepth 100000 in
set_option maxHeartbeats 4000000 in
theorem rof_yes3 (m : Nat) (f : Rl.Rows) (w : World) (oF : Rl.Ok m f) (O : Option (List Nat)) (hO : rofO m f = O) :
    Calls Tryd.prog 52 #[.agg (relC m f)] w (TopOut O w) := by
  have hm48 : m ≤ 48 := oF.le
  have H0 := Lib.hid ((Held.nil w).box m f)
  have Z := Lib.hid (And.intro oF.z (And.intro (Rl.right_of oF) (And.intro oF hO)))
  clear oF hO
  obtain ⟨i0, hi, hz0, hz1, hz2⟩ := info_parts infoOneInt3
  have I0 := Lib.hid (And.intro hi (And.intro hz0 (And.intro hz1 hz2)))
  clear hi hz0 hz1 hz2
  have hmk : i0.bytes * m ≤ 281474976710656 := by rw [I0.out.2.2.2]; omega
  go_enter Tryd.func52, Tryd.ntmps52
  go_wp2_with (first | (refine wpList_load_rel (by rfl) (.tmp 1) (by rfl) w.heap.size m f (by rfl) (H0.out.at 0 rfl) ?_))
  with_reducible refine (rright_is m f true Z.out.2.1 _ Z.out.1).mono ?_
  rintro e w1 ⟨rfl, hb⟩
  have H1 := Lib.hid (H0.out.step hb)
  clear hb
  have cN := (H1.out.at 0 rfl).num
  go_wp2_with (first | (refine wpList_make_full _ rfl _ _ 35 rfl w.heap.size 3 i0 (.int .i64 0) 1 Tryd.underlying35 I0.out.1 I0.out.2.1 I0.out.2.2.1 .i64 .i64 m m m rfl rfl rfl rfl hmk (by unfold maxLen; omega) H1.out.bel.size ?_; intro w2 hrow0 hgr0))
  have H2 := Lib.hid (And.intro (H1.out.step ((Below.refl _ w1).grown hgr0 (Nat.le_refl _) (fun q e => by cases e))) (show w2.ownsRow w.heap.size 3 1 (.slice (some ⟨w1.heap.size, 0, none⟩) m m) m (nums (laid m f 0)) by rw [nums_zero] at hrow0; exact hrow0))
  have hg1 : w.heap.size ≤ w1.heap.size := H1.out.bel.size
  have hgw : w.heap.size < w1.heap.size := (H1.out.at 0 rfl).lt
  clear hrow0 hgr0 cN
  generalize w1.heap.size = g at H2 hg1 hgw ⊢
  go_loopw [5] (fun i wr => ∃ k : Nat, k ≤ m ∧ i = .int .i64 k ∧ fitK m f k = true ∧ Held w [(w.heap.size, (m : Int), f)] wr ∧ wr.ownsRow w.heap.size 3 1 (.slice (some ⟨g, 0, none⟩) m m) m (nums (laid m f k))) (fun i _ => m - (intOf i).toNat)
  case atStart => exact ⟨0, Nat.zero_le _, rfl, rfl, H2.out.1, H2.out.2⟩
  case round =>
    obtain ⟨k, hk, rfl, hfit, hh, hrow⟩ := hrel
    have cN := (hh.at 0 rfl).num
    by_cases hlt : k < m
    · have R0 := Lib.hid (And.intro hfit (And.intro hh hrow))
      clear hfit hh hrow
      go_wp2_with fail
      go_loopw [6, 7] (fun c i wr2 => ∃ j : Nat, j ≤ m ∧ i = .int .i64 j ∧ c = .int .i64 (aheadK f k j) ∧ Held w [(w.heap.size, (m : Int), f)] wr2 ∧ wr2.ownsRow w.heap.size 3 1 (.slice (some ⟨g, 0, none⟩) m m) m (nums (laid m f k))) (fun _ i _ => m - (intOf i).toNat)
      case atStart => exact ⟨0, Nat.zero_le _, rfl, rfl, R0.out.2.1, R0.out.2.2⟩
      case round =>
        obtain ⟨j, hj, rfl, rfl, hh, hrow⟩ := hrel
        clear cN
        have cN := (hh.at 0 rfl).num
        obtain ⟨c, hc⟩ : ∃ c, aheadK f k j = c := ⟨_, rfl⟩
        have hcj : c ≤ j := by rw [← hc]; exact aheadK_le f k j
        by_cases hjl : j < m
        · have hst := aheadK_succ f k j
          obtain ⟨P, hP⟩ : ∃ P, Rl.bit f j k = P := ⟨_, rfl⟩
          have hpb : pairB m f j k = P := by rw [pairB_ok Z.out.2.2.1]; exact hP
          rw [hc, hP] at hst
          rw [hc]
          have R1 := Lib.hid (And.intro hh (And.intro hrow (And.intro hst hpb)))
          clear hh hrow hst hpb hP hc
          go_wp2_with (first | (refine wpList_load_rel (by rfl) (.tmp 1) (by rfl) w.heap.size m f (by rfl) (R1.out.1.at 0 rfl) ?_))
          refine (rpair_is m f j k P R1.out.2.2.2 _ Z.out.1).mono ?_
          rintro e v1 ⟨rfl, hb⟩
          have R2 := Lib.hid (And.intro (R1.out.1.step hb) (show v1.ownsRow w.heap.size 3 1 (.slice (some ⟨g, 0, none⟩) m m) m (nums (laid m f k)) from ownsRow_below R1.out.2.1 hb))
          clear hb cN
          cases P
          · go_wp2_with fail
            go_roundw
            case rel => exact ⟨j + 1, by omega, by go_num, by rw [R1.out.2.2.1]; rfl, R2.out.1, R2.out.2⟩
            case measure => simp [intOf]; omega
          · go_wp2_with fail
            go_roundw
            case rel => exact ⟨j + 1, by omega, by go_num, by rw [R1.out.2.2.1]; go_num, R2.out.1, R2.out.2⟩
            case measure => simp [intOf]; omega
        · obtain rfl : j = m := by omega
          rw [hc]
          by_cases hcm : c < j
          · have hst := (hrow.stored c (.int .i64 (k : Int))).1
            rw [← nums_set] at hst
            have hcell := hrow.cellAt c (by omega)
            have hfz := hrow.frozenAt c
            have hxl : (laid j f k).length = j := laid_len j f k
            obtain ⟨x, hx⟩ : ∃ x, (nums (laid j f k))[c]? = some x := ⟨_, List.getElem?_eq_getElem (by unfold nums; rw [List.length_map, hxl]; exact hcm)⟩
            rw [hx] at hcell
            have hlaid : laid j f (k + 1) = (laid j f k).set c k := by
              show (laid j f k).set (aheadN j f k) k = _
              unfold aheadN; rw [hc]
            rw [← hlaid] at hst
            have hfit2 : fitK j f (k + 1) = true := by
              rw [fitK_succ, R0.out.1, Bool.true_and]; unfold aheadN; rw [hc]; exact decide_eq_true hcm
            have HY := Lib.hid (And.intro (Held.far hh ⟨g, c, none⟩ (.int .i64 (k : Int)) (by show w.heap.size ≠ g; omega) hg1) (And.intro hst hfit2))
            have d1 : decide ((j : Int) ≤ (c : Int)) = false := by simp; omega
            have e1 : (c : Int) < (j : Int) := by omega
            clear hh hrow hst hx hxl hlaid hfit2 hc
            go_wp2_with fail
            go_roundw
            case rel => exact ⟨k + 1, by omega, by go_num, HY.out.2.2, HY.out.1, HY.out.2.1⟩
            case measure => simp [intOf]; omega
          · have hres : O = none := by
              rw [← Z.out.2.2.2]
              unfold rofO
              rw [fitK_bad (a := k) (by unfold aheadN; rw [hc]; exact hcm) hlt, Bool.false_and]; rfl
            have d1 : decide ((j : Int) ≤ (c : Int)) = true := by simp; omega
            have HY := Lib.hid (And.intro hres hh)
            clear hres hh hrow hc
            go_wp2_with fail
            go_ret2
            exact ⟨_, by rw [HY.out.1]; rfl, by rw [HY.out.1]; exact World.ownsRow_nil _ _ _ _, HY.out.2.bel⟩
    · obtain rfl : k = m := by omega
      obtain ⟨L, hL⟩ : ∃ L, laid k f k = L := ⟨_, rfl⟩
      have hLl : L.length = k := by rw [← hL]; exact laid_len k f k
      rw [hL] at hrow
      obtain ⟨A, cp, eA, _, _, hI⟩ := row_nums hrow
      injection eA with eA1 eA2 eA3
      rw [← eA1] at hI
      clear eA1 eA2 eA3
      have hrt := rtotal_any k (some ⟨g, 0, none⟩) (ints L) k wr (by rw [ints_len, hLl]; omega) hI
      rw [ints_len, hLl] at hrt
      obtain ⟨ok, hok⟩ : ∃ ok, okL k (ints L) = ok := ⟨_, rfl⟩
      obtain ⟨N1, hN1⟩ : ∃ N1, totalN k (ints L) = N1 := ⟨_, rfl⟩
      obtain ⟨F1, hF1⟩ : ∃ F1, totalF k (ints L) = F1 := ⟨_, rfl⟩
      rw [hok, hN1, hF1] at hrt
      have hO : O = if ok && relEq k k (totL L) f then some L else none := by
        rw [← Z.out.2.2.2]; unfold rofO; rw [hL, hfit, Bool.true_and, hok]
      have R0 := Lib.hid (And.intro hh (And.intro hrow (And.intro hO (And.intro hok (And.intro hN1 (And.intro hF1 hLl))))))
      have HT := Lib.hid hrt
      clear hh hrow hO hok hN1 hF1 hLl hrt hI hfit hL
      go_wp2_with fail
      refine HT.out.mono ?_
      rintro e w3 ⟨rfl, hb⟩
      have R1 := Lib.hid (And.intro (R0.out.1.step hb) (show w3.ownsRow w.heap.size 3 1 (.slice (some ⟨g, 0, none⟩) k k) k (nums L) from ownsRow_below R0.out.2.1 hb))
      clear hb cN
      cases ok
      · have hres : O = none := by rw [R0.out.2.2.1]; rfl
        have HY := Lib.hid hres
        clear hres
        go_wp2_with (first | (refine wpList_store_rel (by rfl) (.tmp 8) (.tmp 47) (by rfl) w3.heap.size N1 0 F1 zeroR (by rfl) (by rfl) (RelAt.new w3 0 zeroR) ?_; intro w4 hR hg; have R2 := Lib.hid (R1.out.1.push hR hg); clear hR hg))
        go_ret2
        exact ⟨_, by rw [HY.out]; rfl, by rw [HY.out]; exact World.ownsRow_nil _ _ _ _, R2.out.bel⟩
      · have e1 : N1 = (k : Int) := by rw [← R0.out.2.2.2.2.1]; unfold totalN; rw [R0.out.2.2.2.1]; rfl
        have e2 : F1 = totL L := by rw [← R0.out.2.2.2.2.2.1]; unfold totalF; rw [R0.out.2.2.2.1, if_pos rfl, natL_ints]
        subst e1 e2
        obtain ⟨q, hq⟩ : ∃ q, relEq k k (totL L) f = q := ⟨_, rfl⟩
        have hres : O = if q then some L else none := by rw [R0.out.2.2.1, hq]; rfl
        have HY := Lib.hid hres
        have HQ := Lib.hid hq
        clear hres
        cases q
        · go_wp2_with (first | (refine wpList_store_rel (by rfl) (.tmp 8) (.tmp 47) (by rfl) w3.heap.size k 0 (totL L) zeroR (by rfl) (by rfl) (RelAt.new w3 0 zeroR) ?_; intro w4 hR hg; have R2 := Lib.hid (R1.out.1.push hR hg); clear hR hg) | (refine wpList_load_rel_want (by kernel_rfl) (.tmp 8) (by rfl) w3.heap.size k (totL L) (by rfl) (R2.out.at 1 rfl) ?_) | (refine wpList_load_rel_want (by kernel_rfl) (.tmp 1) (by rfl) w.heap.size k f (by rfl) (R2.out.at 0 rfl) ?_))
          go_ret2
          exact ⟨_, by rw [HY.out]; rfl, by rw [HY.out]; exact World.ownsRow_nil _ _ _ _, R2.out.bel⟩
        · have R3 := Lib.hid R0.out.2.2.2.2.2.2
          go_wp2_with (first | (refine wpList_store_rel (by rfl) (.tmp 8) (.tmp 47) (by rfl) w3.heap.size k 0 (totL L) zeroR (by rfl) (by rfl) (RelAt.new w3 0 zeroR) ?_; intro w4 hR hg; have R2 := Lib.hid (And.intro (R1.out.1.push hR hg) (ownsRow_below R1.out.2 (below_push hg))); clear hR hg) | (refine wpList_load_rel_want (by kernel_rfl) (.tmp 8) (by rfl) w3.heap.size k (totL L) (by rfl) (R2.out.1.at 1 rfl) ?_) | (refine wpList_load_rel_want (by kernel_rfl) (.tmp 1) (by rfl) w.heap.size k f (by rfl) (R2.out.1.at 0 rfl) ?_))
          go_ret2
          refine ⟨_, by rw [HY.out]; rfl, ?_, R2.out.1.bel⟩
          rw [HY.out]
          show World.ownsRow _ _ _ _ _ L.length (nums L)
          rw [R3.out]
          exact R2.out.2
end Go.Proofs.YtknjdfgmejobfaaDoor
