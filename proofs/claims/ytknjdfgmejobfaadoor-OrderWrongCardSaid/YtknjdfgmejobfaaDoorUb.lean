/- layer 3's law: the walk of OrderWrong. -/
import Derived.Test.YtknjdfgmejobfaaDoorUa
import Derived.Deep.CutBlock
import Derived.Deep.DeepCutAuto
namespace Go.Proofs.YtknjdfgmejobfaaDoor
open Go.RowKit Go.Shelf Go.Maps

theorem orders_bad (n : Int) (f : Rl.Rows) (most : Int) (w : World) (zf : Rl.Z f) (h : validB n f most = false) (hT : Tab w ∧ 0 < w.heap.size) :
    Calls Tryd.prog 46 #[.agg (relC n f), .int .i64 most] w fun e w' => ∃ A c, e = .returned (.tuple #[.slice A 0 c, .int .i64 2]) ∧ Below w.heap.size w w' := by
  have h1 := orders_any n f most w zf hT.1 hT.2
  unfold ordersR ordersE at h1
  rw [h] at h1
  refine h1.mono ?_
  rintro e w' ⟨v, rfl, hl, hb⟩
  obtain ⟨A, c, rfl, _⟩ := lists_at hl (fun x hx => by simp at hx)
  exact ⟨A, c, rfl, hb⟩
theorem count_bad (n : Int) (f : Rl.Rows) (most : Int) (w : World) (zf : Rl.Z f) (h : validB n f most = false) (hT : Tab w ∧ 0 < w.heap.size) :
    Calls Tryd.prog 48 #[.agg (relC n f), .int .i64 most] w fun e w' => e = .returned (.tuple #[.int .i64 0, .int .i64 2]) ∧ Below w.heap.size w w' := by
  have h1 := count_any n f most w zf hT.1 hT.2
  unfold countR ordersE at h1
  rw [h] at h1
  exact h1
theorem oof_bad (n : Int) (f : Rl.Rows) (w : World) (zf : Rl.Z f) (h : Rl.rightB n f = false) (hT : Tab w ∧ 0 < w.heap.size) :
    Calls Tryd.prog 51 #[.agg (relC n f)] w fun e w' => ∃ v, e = .returned (.tuple #[v, .bool false]) ∧ Below w.heap.size w w' := by
  have h1 := oof_any n f w zf hT.1 hT.2
  unfold ofO topR at h1
  rw [h] at h1
  refine h1.mono ?_
  rintro e w' ⟨v, rfl, _, hb⟩
  exact ⟨v, rfl, hb⟩
theorem keeps_is (n : Int) (f : Rl.Rows) (A : Option Addr) (zs : List Int) (cap : Nat) (b : Bool) (hb : keepsB n f zs = b) (w : World) (zf : Rl.Z f) (hA : IntsAt w A zs) (hT : Tab w ∧ 0 < w.heap.size) :
    Calls Tryd.prog 54 #[.agg (relC n f), .slice A zs.length cap] w fun e w' => e = .returned (.bool b) ∧ Below w.heap.size w w' := by
  subst hb; exact keeps_any n f A zs cap w zf hA hT.1 hT.2
theorem awake3_is (w : World) (hT : Tab w ∧ 0 < w.heap.size) : Calls Tryd.prog 45 #[] w fun e w' => e = .returned (.bool true) ∧ Below w.heap.size w w' := awake_any3 w hT.1 hT.2
theorem keeps_off {n : Int} {f : Rl.Rows} {zs : List Int} (h : ¬ n = (zs.length : Int)) : keepsB n f zs = false := by
  unfold keepsB okL
  rw [show decide (0 ≤ n ∧ n ≤ 48 ∧ (zs.length : Int) = n) = false from decide_eq_false (fun h2 => h h2.2.2.symm)]
  simp
theorem keeps_bad {n : Int} {f : Rl.Rows} {zs : List Int} (h : Rl.rightB n f = false) : keepsB n f zs = false := by unfold keepsB; rw [h]; rfl
def badMost (m : Int) : List Int := [-1, (if -1 < m then -1 else m), 10001]
theorem bad_most (n : Int) (f : Rl.Rows) (m : Int) (i : Nat) (hi : i < 3) : validB n f ((badMost m).getD i 0) = false := by
  unfold validB
  rw [decide_eq_false, Bool.false_and]
  rcases i with _ | _ | _ | i
  · show ¬ ((0 : Int) ≤ -1 ∧ _); omega
  · show ¬ ((0 : Int) ≤ (if -1 < m then -1 else m) ∧ _); split <;> omega
  · show ¬ (_ ∧ (10001 : Int) ≤ 10000); omega
  · omega

attribute [-go_sem] run_eql_struct run_neq_struct
attribute [local go_sem] Bv.and_u Bv.or_u Bv.andNot_u Bv.wrap_sub1 Bv.eq0 Bv.ne0 Bv.wrap_pow Bv.wrap_powmin Bv.wrap_neg Bv.eq_u Bv.ne_u run_rel_eql run_rel_neq relEq_self
set_option maxRecDepth 100000 in
set_option maxHeartbeats 4000000 in
theorem orderWrong_any (n : Int) (f : Rl.Rows) (A : Option Addr) (zs : List Int) (cap : Nat) (m : Int) (w : World) (zf : Rl.Z f) (hA : IntsAt w A zs) (hlen : zs.length ≤ maxLen) (hN : ∀ z ∈ zs, (Lit.int .i64 z).wf = true) (hT : Tab w) (hw : 0 < w.heap.size) :
    Calls Tryd.prog 11 #[.agg (relC n f), .slice A zs.length cap, .int .i64 m] w fun e w' => e = .returned (.bool true) ∧ Below w.heap.size w w' := by
  have hmm := @run_makeMap Tryd.prog
  have hzr := zero_rel
  have hbz := build_zero
  have hne0 : ¬ relC 0 zeroR = #[] := by intro h; have := congrArg Array.size h; rw [relC_size] at this; simp at this
  have hTl : ∀ W, Below w.heap.size w W → Tab W ∧ 0 < W.heap.size := fun W h => ⟨hT.below h hw, Nat.lt_of_lt_of_le hw h.size⟩
  have HT := Lib.hid hTl
  have E := Lib.hid (And.intro zf (And.intro hA (And.intro hlen hN)))
  clear hTl hT zf hA hlen hN
  have H0 := Lib.hid ((Held.nil w).box n f)
  have M0 := Lib.hid (met_made (w.alloc (.cells (relC n f) 26)))
  go_enter Tryd.func11, Tryd.ntmps11
  go_upto_region 2 with fail
  go_cut [8] (fun c wx => c = .bool (wrongK m zs 0) ∧ wx = (w.alloc (.cells (relC n f) 26)).alloc (.map #[] 0))
  case first =>
    go_wp2_with fail
    all_goals go_meet
    all_goals (refine ⟨?_, rfl⟩; rw [wrongK_zero])
    all_goals (refine congrArg Value.bool ?_; rw [Bool.eq_iff_iff]; simp; try omega)
  case rest =>
    obtain ⟨rfl, rfl⟩ := hcut
    go_wp2_with fail
    go_loopw [8, 38] (fun c i wr => ∃ k : Nat, k ≤ zs.length ∧ i = .int .i64 k ∧ c = .bool (wrongK m zs k) ∧ Met wr (w.heap.size + 1) (zs.take k) ∧ Below (w.alloc (.cells (relC n f) 26)).heap.size (w.alloc (.cells (relC n f) 26)) wr) (fun _ i _ => zs.length - (intOf i).toNat)
    case atStart => exact ⟨0, Nat.zero_le _, rfl, rfl, by have := M0.out; simpa using this, (Below.refl _ _).alloc (Nat.le_refl _) _⟩
    case round =>
      obtain ⟨k, hk, rfl, rfl, hmet, hb⟩ := hrel
      have hbw : Below w.heap.size w wr := ((Below.refl w.heap.size w).alloc (Nat.le_refl _) (.cells (relC n f) 26)).trans (hb.mono (by simp))
      by_cases hlt : k < zs.length
      · obtain ⟨b, off, rfl, hlb, hAt⟩ := E.out.2.1.below hbw (Nat.le_refl _) (by omega)
        have hc := hAt k hlt
        obtain ⟨z, hz⟩ : ∃ z, z = zs.getD k 0 := ⟨_, rfl⟩
        rw [← hz] at hc
        have hwz : (Lit.int .i64 z).wf = true := by
          rw [hz, List.getD_eq_getElem?_getD, List.getElem?_eq_getElem hlt]
          exact E.out.2.2.2 _ (List.getElem_mem _)
        obtain ⟨c, hcn⟩ : ∃ c : Int, c = ((zs.take k).count z : Int) := ⟨_, rfl⟩
        have hl1 := hmet.look z hwz
        obtain ⟨W2, hst, hm2, hgr⟩ := hmet.store z hwz (by have := E.out.2.2.1; simp; omega)
        have hl2 := hm2.look z hwz
        have hcnt : (((zs.take k ++ [z]).count z : Nat) : Int) = c + 1 := by rw [hcn]; simp [List.count_append]
        rw [hcnt] at hl2
        rw [← hcn] at hl1 hst
        obtain ⟨F, hF⟩ : ∃ F, F = wrongK m zs k := ⟨_, rfl⟩
        have hsc := wrongK_succ m zs k hlt
        have etk : zs.take (k + 1) = zs.take k ++ [z] := by
          rw [List.take_add_one, List.getElem?_eq_getElem hlt, hz, List.getD_eq_getElem?_getD, List.getElem?_eq_getElem hlt]; rfl
        have hc0 : 0 ≤ c := by rw [hcn]; omega
        have hcb : c < 9223372036854775807 := by
          have := List.count_le_length (a := z) (l := zs.take k)
          have h3 := E.out.2.2.1
          unfold maxLen at h3
          rw [List.length_take] at this
          rw [hcn]; omega
        have hw1 : (c + 1 + 9223372036854775808) % 18446744073709551616 - 9223372036854775808 = c + 1 := by omega
        have ec : (((zs.take k).count z + 1 : Nat) : Int) = c + 1 := by rw [hcn]; simp
        rw [← hz, ← hF, ec] at hsc
        have hbel : Below (w.alloc (.cells (relC n f) 26)).heap.size (w.alloc (.cells (relC n f) 26)) W2 := hb.grown hgr (by have := hb.size; exact this) (fun j e => by cases e; simp)
        rw [← hF]
        have hk1 : wrap64 ((k : Int) + 1) = ((k + 1 : Nat) : Int) := by
          have h3 := E.out.2.2.1
          unfold maxLen at h3
          unfold wrap64
          omega
        have HB := Lib.hid (And.intro hsc (And.intro hm2 (And.intro etk (And.intro hbel hk1))))
        clear hsc hm2 etk hbel hb hmet hbw hz hwz hcn hcnt hF hAt hgr hlb hk1
        cases F
        · go_wp2_with fail
          rw [HB.out.2.2.2.2]
          refine ⟨⟨k + 1, by omega, rfl, ?_, by rw [HB.out.2.2.1]; exact HB.out.2.1, HB.out.2.2.2.1⟩, by simp [intOf]; omega⟩
          rw [HB.out.1]; rfl
        · go_wp2_with fail
          all_goals rw [HB.out.2.2.2.2]
          all_goals (refine ⟨⟨k + 1, by omega, rfl, ?_, by rw [HB.out.2.2.1]; exact HB.out.2.1, HB.out.2.2.2.1⟩, by simp [intOf]; omega⟩)
          all_goals (refine congrArg Value.bool ?_; rw [HB.out.1, Bool.eq_iff_iff]; simp; omega)
      · obtain rfl : k = zs.length := by omega
        rw [wrongK_all]
        obtain ⟨ok, hok⟩ : ∃ ok, ok = okL m zs := ⟨_, rfl⟩
        have htot := total_any m A zs cap wr (E.out.2.1.below hbw (Nat.le_refl _))
        have H1 := Lib.hid (And.intro (H0.out.step hb) hok)
        rw [← hok]
        unfold totalN totalF totalE at htot
        rw [← hok] at htot
        clear hok hb hmet hbw
        obtain ⟨N1, hN1⟩ : ∃ N1 : Int, N1 = (if ok = true then m else 0) := ⟨_, rfl⟩
        obtain ⟨F1, hF1⟩ : ∃ F1 : Rl.Rows, F1 = (if ok = true then totL (natL zs) else zeroR) := ⟨_, rfl⟩
        obtain ⟨E1, hE1⟩ : ∃ E1 : Int, E1 = (if ok = true then 0 else 2) := ⟨_, rfl⟩
        rw [← hN1, ← hF1, ← hE1] at htot
        have D := Lib.hid (And.intro hN1 (And.intro hF1 hE1))
        clear hN1 hF1 hE1
        go_wp2_with fail
        refine htot.mono ?_
        clear htot
        rintro e w1 ⟨rfl, hb⟩
        have H2 := Lib.hid (H1.out.1.step hb)
        clear hb
        go_upto_region 10 with (first | (refine wpList_store_rel (by rfl) (.tmp 11) (.tmp 67) (by rfl) w1.heap.size N1 0 F1 zeroR (by rfl) (by rfl) (RelAt.new w1 0 zeroR) ?_; intro w2 hR hg; have H3 := Lib.hid (H2.out.push hR hg); clear hR hg))
        go_cut [85] (fun c wx => c = .bool false ∧ wx = w2)
        case first =>
          cases ok
          · have hN1 := D.out.1
            have hF1 := D.out.2.1
            have hE1 := D.out.2.2
            rw [if_neg Bool.false_ne_true] at hN1 hF1 hE1
            subst hN1 hF1 hE1
            go_wp2_with (first | (refine wpList_load_rel_want (by kernel_rfl) (.tmp 11) (by rfl) w1.heap.size 0 zeroR (by rfl) (H3.out.at 1 rfl) ?_))
            all_goals go_meet
            all_goals exact ⟨rfl, rfl⟩
          · have hE1 := D.out.2.2
            rw [if_pos rfl] at hE1
            subst hE1
            go_wp2_with fail
            all_goals go_meet
            all_goals exact ⟨rfl, rfl⟩
        case rest =>
          obtain ⟨rfl, rfl⟩ := hcut
          have HA := Lib.hid (lit_intsN wc 3 (badMost m) #[.int .i64 (-1), .int .i64 (if -1 < m then -1 else m), .int .i64 10001] wc.heap.size rfl rfl)
          obtain ⟨M, hM⟩ : ∃ M : Int, (if -1 < m then (-1 : Int) else m) = M := ⟨_, rfl⟩
          rw [hM] at HA
          have HB := Lib.hid hM
          go_wp2_with fail
          clear hM
          have H4 := Lib.hid (H3.out.alloc (.cells #[.int .i64 (-1), .int .i64 M, .int .i64 10001] 3))
          generalize hWl : wc.alloc (.cells #[.int .i64 (-1), .int .i64 M, .int .i64 10001] 3) = wl at H4 HA ⊢
          clear hWl
          go_loopw [90] (fun i wr => ∃ k : Nat, k ≤ 3 ∧ i = .int .i64 k ∧ Below wl.heap.size wl wr) (fun i _ => 3 - (intOf i).toNat)
          case atStart => exact ⟨0, by omega, rfl, Below.refl _ _⟩
          case round =>
            obtain ⟨k, hk, rfl, hb⟩ := hrel
            have H5 := Lib.hid (H4.out.step hb)
            by_cases hlt : k < 3
            · obtain ⟨b, off, eb, hlb, hAt⟩ := HA.out.below hb (Nat.le_refl _) (by show 0 < 3; omega)
              injection eb with eb
              injection eb with eb1 eb2
              subst eb1 eb2
              have hc := hAt k hlt
              rw [Nat.zero_add] at hc
              have hbad := bad_most n f m k hlt
              generalize (badMost m).getD k 0 = z at hc hbad
              have HD := Lib.hid (And.intro hbad hb)
              clear hAt hbad hb hlb
              go_wp2_with (first | (refine wpList_load_rel (by rfl) (.tmp 3) (by rfl) w.heap.size n f (by rfl) (H5.out.at 0 rfl) ?_))
              with_reducible refine (orders_bad n f z _ E.out.1 HD.out.1 (HT.out _ H5.out.bel)).mono ?_
              rintro e w6 ⟨A6, c6, rfl, hb⟩
              have H6 := Lib.hid (HD.out.2.trans (hb.mono (HD.out.2.size)))
              clear hb
              go_wp2_with fail
              go_roundw
              case rel => exact ⟨k + 1, by omega, by go_num, H6.out⟩
              case measure => simp [intOf]; omega
            · obtain rfl : k = 3 := by omega
              clear hb
              obtain ⟨R, hR⟩ : ∃ R, Rl.rightB n f = R := ⟨_, rfl⟩
              go_wp2_with (first | (refine wpList_load_rel (by rfl) (.tmp 3) (by rfl) w.heap.size n f (by rfl) (H5.out.at 0 rfl) ?_))
              with_reducible refine (right_is n f R hR _).mono ?_
              rintro e w6 ⟨rfl, hb⟩
              have H6 := Lib.hid (H5.out.step hb)
              have C6 := Lib.hid hR
              clear hb hR
              cases R
              · have hv := fun most => show validB n f most = false by unfold validB; rw [C6.out]; simp
                have HV := Lib.hid hv
                clear hv
                go_wp2_with (first | (refine wpList_load_rel (by rfl) (.tmp 3) (by rfl) w.heap.size n f (by rfl) (H6.out.at 0 rfl) ?_))
                with_reducible refine (orders_bad n f 5 _ E.out.1 (HV.out 5) (HT.out _ H6.out.bel)).mono ?_
                rintro e w7 ⟨A7, c7, rfl, hb⟩
                have H7 := Lib.hid (H6.out.step hb)
                clear hb
                go_wp2_with (first | (refine wpList_load_rel (by rfl) (.tmp 3) (by rfl) w.heap.size n f (by rfl) (H7.out.at 0 rfl) ?_))
                with_reducible refine (count_bad n f 5 _ E.out.1 (HV.out 5) (HT.out _ H7.out.bel)).mono ?_
                rintro e w8 ⟨rfl, hb⟩
                have H8 := Lib.hid (H7.out.step hb)
                clear hb
                go_wp2_with (first | (refine wpList_load_rel (by rfl) (.tmp 3) (by rfl) w.heap.size n f (by rfl) (H8.out.at 0 rfl) ?_))
                with_reducible refine (oof_bad n f _ E.out.1 C6.out (HT.out _ H8.out.bel)).mono ?_
                rintro e w9 ⟨v9, rfl, hb⟩
                have H9 := Lib.hid (H8.out.step hb)
                clear hb
                go_wp2_with (first | (refine wpList_load_rel (by rfl) (.tmp 3) (by rfl) w.heap.size n f (by rfl) (H9.out.at 0 rfl) ?_) | (refine wpList_load_rel_want (by kernel_rfl) (.tmp 3) (by rfl) w.heap.size n f (by rfl) (H9.out.at 0 rfl) ?_))
                refine (keeps_is n f A zs cap false (keeps_bad C6.out) _ E.out.1 (E.out.2.1.below H9.out.bel (Nat.le_refl _)) (HT.out _ H9.out.bel)).mono ?_
                rintro e w10 ⟨rfl, hb⟩
                have H10 := Lib.hid (H9.out.step hb)
                clear hb
                go_wp2_with fail
                with_reducible refine (awake3_is _ (HT.out _ H10.out.bel)).mono ?_
                rintro e w11 ⟨rfl, hb⟩
                have H11 := Lib.hid (H10.out.step hb)
                clear hb
                go_wp2_with fail
                go_ret
                exact ⟨rfl, H11.out.bel⟩
              · have cN := (H6.out.at 0 rfl).num
                by_cases hn : n = (zs.length : Int)
                · have d0 : (n == (zs.length : Int)) = true := by rw [hn]; exact beq_self_eq_true _
                  have HN := Lib.hid hn
                  clear hn
                  go_wp2_with fail
                  with_reducible refine (awake3_is _ (HT.out _ H6.out.bel)).mono ?_
                  rintro e w11 ⟨rfl, hb⟩
                  have H11 := Lib.hid (H6.out.step hb)
                  clear hb
                  go_wp2_with fail
                  go_ret
                  exact ⟨rfl, H11.out.bel⟩
                · have d0 : (n == (zs.length : Int)) = false := beq_eq_false_iff_ne.2 hn
                  have HN := Lib.hid hn
                  clear hn
                  go_wp2_with (first | (refine wpList_load_rel (by rfl) (.tmp 3) (by rfl) w.heap.size n f (by rfl) (H6.out.at 0 rfl) ?_) | (refine wpList_load_rel_want (by kernel_rfl) (.tmp 3) (by rfl) w.heap.size n f (by rfl) (H6.out.at 0 rfl) ?_))
                  refine (keeps_is n f A zs cap false (keeps_off HN.out) _ E.out.1 (E.out.2.1.below H6.out.bel (Nat.le_refl _)) (HT.out _ H6.out.bel)).mono ?_
                  rintro e w10 ⟨rfl, hb⟩
                  have H10 := Lib.hid (H6.out.step hb)
                  clear hb
                  go_wp2_with fail
                  with_reducible refine (awake3_is _ (HT.out _ H10.out.bel)).mono ?_
                  rintro e w11 ⟨rfl, hb⟩
                  have H11 := Lib.hid (H10.out.step hb)
                  clear hb
                  go_wp2_with fail
                  go_ret
                  exact ⟨rfl, H11.out.bel⟩
end Go.Proofs.YtknjdfgmejobfaaDoor
