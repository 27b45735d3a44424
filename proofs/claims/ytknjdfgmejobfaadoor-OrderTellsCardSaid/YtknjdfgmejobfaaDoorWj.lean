/- reference of layer 3: more, one item more: the walk. -/
import Derived.Test.YtknjdfgmejobfaaDoorWi
import Derived.Test.YtknjdfgmejobfaaDoorLh
import Derived.Test.YtknjdfgmejobfaaDoorWk
import Derived.Deep.CutBlock
import Derived.Deep.DeepCutAuto
namespace Go.Proofs.YtknjdfgmejobfaaDoor
open Go.RowKit Go.Shelf

attribute [-go_sem] run_eql_struct run_neq_struct
set_option maxRecDepth 100000 in
set_option maxHeartbeats 8000000 in
theorem more_step (n : Nat) (f : Rl.Rows) (m most base : Nat) (oF : Rl.Ok n f) (hm : most ≤ 10000) (ih : MoreAll n f m most base) : MoreAll n f (m + 1) most base := by
  intro B O A cb v w hBn hO hv hkeep hnil hbase
  have hn : n ≤ 48 := oF.le
  have hBl : B.length < n := by omega
  have hvlt : ∀ g, v.ownBlock = some g → g < w.heap.size := fun g hg => by
    obtain ⟨_, _, _, h⟩ := lists_form hv
    exact (h g hg).2
  have hI0 : MoreI n f m B O most base v w 0 v (w.alloc (.cells (relC n f) 26)) :=
    ⟨by rw [show allR n f m B 0 = [] from rfl, more_nil]; exact hv.below ((Below.refl _ w).alloc (Nat.le_refl _) _), grown_refl _ _, fun g hg => .inl hg⟩
  have Z := Lib.hid (And.intro hBn (And.intro hv (And.intro hkeep (And.intro hnil (And.intro hvlt (And.intro ih oF))))))
  have H0 := Lib.hid hI0
  have cN := (RelAt.new w n f).num
  have d0 : ((B.length : Int) == (n : Int)) = false := by simp; omega
  have d1 : (B.length == n) = false := by simp; omega
  obtain ⟨i0, hi, hz0, hz1, hz2⟩ := info_parts infoOneInt3
  have I0 := Lib.hid (And.intro hi (And.intro hz0 (And.intro hz1 hz2)))
  clear hi hz0 hz1 hz2
  clear hBn hv hkeep hnil hvlt ih hI0 oF
  go_enter Tryd.func93, Tryd.ntmps93
  go_wp2_with fail
  clear cN
  go_loopw [2, 9] (fun u i wr => ∃ k : Nat, k ≤ n ∧ i = .int .i64 k ∧ MoreI n f m B O most base v w k u wr) (fun _ i _ => n - (intOf i).toNat)
  case atStart => exact ⟨0, Nat.zero_le _, rfl, H0.out⟩
  case round =>
    obtain ⟨k, hk, rfl, hI⟩ := hrel
    have cN := (hI.rel Z.out.2.2.2.2.1).num
    obtain ⟨L, hL⟩ : ∃ L, moreF most O (allR n f m B k) = L := ⟨_, rfl⟩
    obtain ⟨A2, c2, hu, hublk⟩ := lists_form hI.lists
    rw [hL] at hu
    obtain ⟨N, hN⟩ : ∃ N, L.length = N := ⟨_, rfl⟩
    rw [hN] at hu
    subst hu
    have hNb : N ≤ most + 1 := by rw [← hN, ← hL]; exact more_le _ _ _ (by omega)
    by_cases hlt : k < n
    · by_cases hNm : N ≤ most
      · have e1 : decide ((N : Int) ≤ (most : Int)) = true := by simp; omega
        have e2 : (N : Int) ≤ (most : Int) := by omega
        obtain ⟨r, hr⟩ : ∃ r, placeI (ints B) (k : Int) = r := ⟨_, rfl⟩
        have hpl := place_any A (ints B) cb (k : Int) r hr wr (by rw [ints_len]; omega) (Z.out.2.2.1 wr hI.out)
        rw [ints_len] at hpl
        have hr0 := place_neg B k
        rw [hr] at hr0
        obtain ⟨b0, hb0⟩ : ∃ b0, decide (k ∉ B) = b0 := ⟨_, rfl⟩
        rw [hb0] at hr0
        have HB0 := Lib.hid hb0
        clear hb0
        have R0 := Lib.hid (And.intro hI (And.intro hL (And.intro hN (And.intro hublk (And.intro hpl hr0)))))
        clear hI hL hN hublk hpl hr hr0
        go_wp2_with fail
        refine R0.out.2.2.2.2.1.mono ?_
        rintro e w1 ⟨rfl, hb⟩
        have R1 := Lib.hid (R0.out.1.below hb)
        clear hb cN
        have cN := (R1.out.rel Z.out.2.2.2.2.1).num
        go_wp2_with fail
        rw [R0.out.2.2.2.2.2]
        go_loopw [10, 11] (fun q i wr2 => ∃ j : Nat, j ≤ n ∧ i = .int .i64 j ∧ q = .bool (mayJ f B k j) ∧ MoreI n f m B O most base v w k (.slice A2 N c2) wr2) (fun _ i _ => n - (intOf i).toNat)
        case atStart => exact ⟨0, Nat.zero_le _, rfl, by rw [mayJ_zero, HB0.out], R1.out⟩
        case round =>
          obtain ⟨j, hj, rfl, rfl, hI⟩ := hrel
          clear cN
          have cN := (hI.rel Z.out.2.2.2.2.1).num
          obtain ⟨q, hq⟩ : ∃ q, mayJ f B k j = q := ⟨_, rfl⟩
          by_cases hjl : j < n
          · obtain ⟨P, hP⟩ : ∃ P, Rl.bit f j k = P := ⟨_, rfl⟩
            have hpb : pairB n f j k = P := by rw [pairB_ok Z.out.2.2.2.2.2.2]; exact hP
            have hsc := mayJ_succ f B k j
            rw [hq, hP] at hsc
            rw [hq]
            have R2 := Lib.hid (And.intro hI (And.intro hsc hpb))
            clear hI hsc hpb hP hq
            go_wp2_with (first | (refine wpList_load_rel (by rfl) (.tmp 4) (by rfl) w.heap.size n f (by rfl) (R2.out.1.rel Z.out.2.2.2.2.1) ?_))
            refine (rpair_is n f j k P R2.out.2.2 _ Z.out.2.2.2.2.2.2.z).mono ?_
            rintro e v1 ⟨rfl, hb⟩
            have R3 := Lib.hid (R2.out.1.below hb)
            clear hb cN
            cases P
            · have hs : mayJ f B k (j + 1) = q := by rw [R2.out.2.1]; simp
              have HS := Lib.hid hs
              clear hs
              go_wp2_with fail
              go_roundw
              case rel => exact ⟨j + 1, by omega, by go_num, by rw [HS.out], R3.out⟩
              case measure => simp [intOf]; omega
            · obtain ⟨r2, hr2⟩ : ∃ r2, placeI (ints B) (j : Int) = r2 := ⟨_, rfl⟩
              have hpl := place_any A (ints B) cb (j : Int) r2 hr2 v1 (by rw [ints_len]; omega) (Z.out.2.2.1 v1 R3.out.out)
              rw [ints_len] at hpl
              have hr3 := place_neg B j
              rw [hr2] at hr3
              have R4 := Lib.hid (And.intro hpl hr3)
              clear hpl hr2 hr3
              go_wp2_with fail
              refine R4.out.1.mono ?_
              rintro e v2 ⟨rfl, hb⟩
              have R5 := Lib.hid (R3.out.below hb)
              clear hb
              by_cases hneg : r2 < 0
              · have hs : mayJ f B k (j + 1) = false := by rw [R2.out.2.1, ← R4.out.2, decide_eq_true hneg]; simp
                have HS := Lib.hid hs
                clear hs
                go_wp2_with fail
                go_roundw
                case rel => exact ⟨j + 1, by omega, by go_num, by rw [HS.out], R5.out⟩
                case measure => simp [intOf]; omega
              · have hs : mayJ f B k (j + 1) = q := by rw [R2.out.2.1, ← R4.out.2, decide_eq_false hneg]; simp
                have HS := Lib.hid hs
                clear hs
                go_wp2_with fail
                go_roundw
                case rel => exact ⟨j + 1, by omega, by go_num, by rw [HS.out], R5.out⟩
                case measure => simp [intOf]; omega
          · obtain rfl : j = n := by omega
            rw [hq]
            have R2 := Lib.hid (And.intro hI hq)
            clear hI hq
            cases q
            · have hnext : MoreI j f m B O most base v w (k + 1) (.slice A2 N c2) wr := ⟨by rw [allR_succ, R2.out.2, if_neg Bool.false_ne_true, List.append_nil]; exact R2.out.1.lists, R2.out.1.grown, R2.out.1.own⟩
              have HS := Lib.hid hnext
              clear hnext
              go_wp2_with fail
              go_roundw
              case rel => exact ⟨k + 1, by omega, by go_num, HS.out⟩
              case measure => simp [intOf]; omega
            · go_upto_region 13 with fail
              have hSI := R2.out.1
              obtain ⟨vs, hrowu, helu⟩ := hSI.lists
              rw [R0.out.2.1] at hrowu helu
              rw [R0.out.2.2.1] at hrowu
              have hwz : w.heap.size + 1 ≤ wr.heap.size := by have := hSI.grown.size; simpa using this
              have SI := Lib.hid (And.intro hSI (And.intro (show ListsV base L (.slice A2 N c2) wr by have := hSI.lists; rw [R0.out.2.1] at this; exact this) hrowu))
              clear hSI hrowu helu
              have hrel : ∀ V, Below wr.heap.size wr V → RelAt V w.heap.size j f := fun V hV => (SI.out.1.below hV).rel Z.out.2.2.2.2.1
              have HR := Lib.hid hrel
              clear hrel
              refine wp_region_held_drew (S := fun W => RelAt W w.heap.size j f) (by kernel_rfl) (HR.out _ (Below.refl _ wr).drew) ?_
              intro hS0
              refine wpAnyH_take (i := 0) (v := .agg (relC j f)) (by simp only [List.getElem?_toArray, List.getElem?_cons_succ, List.getElem?_cons_zero]; rfl) (by kernel_rfl) (by kernel_rfl) (by kernel_rfl) (by exact fun _ _ _ h => h) (.inl ⟨by rfl, fun W hW => exec_load_rel (.tmp 4) (by rfl) w.heap.size j f (by rfl) hW⟩) hS0 ?_
              simp only [Act.put, List.setIfInBounds_toArray, List.set_cons_zero, List.set_cons_succ]
              refine wpAnyH_take (i := 2) (v := .slice A B.length cb) (by simp only [List.getElem?_toArray, List.getElem?_cons_succ, List.getElem?_cons_zero]; rfl) (by kernel_rfl) (by kernel_rfl) (by kernel_rfl) (by exact fun _ _ _ h => h) (.inl ⟨by rfl, fun W _ => by rfl⟩) hS0 ?_
              simp only [Act.put, List.setIfInBounds_toArray, List.set_cons_zero, List.set_cons_succ]
              refine wpAnyH_take (i := 4) (v := .int .i64 (k : Int)) (by simp only [List.getElem?_toArray, List.getElem?_cons_succ, List.getElem?_cons_zero]; rfl) (by kernel_rfl) (by kernel_rfl) (by kernel_rfl) (by exact fun _ _ _ h => h) (.inl ⟨by rfl, fun W _ => by rfl⟩) hS0 ?_
              simp only [Act.put, List.setIfInBounds_toArray, List.set_cons_zero, List.set_cons_succ]
              refine wpAnyH_take (i := 7) (v := .slice A2 N c2) (by simp only [List.getElem?_toArray, List.getElem?_cons_succ, List.getElem?_cons_zero]; rfl) (by kernel_rfl) (by kernel_rfl) (by kernel_rfl) (by exact fun _ _ _ h => h) (.inl ⟨by rfl, fun W _ => by rfl⟩) hS0 ?_
              simp only [Act.put, List.setIfInBounds_toArray, List.set_cons_zero, List.set_cons_succ]
              refine wpAnyH_take (i := 8) (v := .int .i64 (most : Int)) (by simp only [List.getElem?_toArray, List.getElem?_cons_succ, List.getElem?_cons_zero]; rfl) (by kernel_rfl) (by kernel_rfl) (by kernel_rfl) (by exact fun _ _ _ h => h) (.inl ⟨by rfl, fun W _ => by rfl⟩) hS0 ?_
              simp only [Act.put, List.setIfInBounds_toArray, List.set_cons_zero, List.set_cons_succ]
              have P0 := Lib.hid (show Below wr.heap.size wr wr.drew from (Below.refl _ wr).drew)
              refine wpAnyH_ready (rs := [1, 5]) (by kernel_rfl) (by simp) (AllReadyH.cons (by simp only [List.getElem?_toArray, List.getElem?_cons_succ, List.getElem?_cons_zero]; rfl) (fun K1 hK1 => ?_) (AllReadyH.cons (by simp only [List.getElem?_toArray, List.getElem?_cons_succ, List.getElem?_cons_zero]; rfl) (fun K5 hK5 => ?_) AllReadyH.nil))
              · skip
                have P1 := Lib.hid (P0.out.alloc P0.out.size (.cells #[] 3))
                refine step_make0 (by rfl) (by rfl) ?_
                have T57 := Lib.hid (show (wr.drew.alloc (.cells #[] 3)).ownsRow wr.heap.size 3 1 (.slice (some ⟨wr.drew.heap.size, 0, none⟩) 0 0) 0 [] from World.ownsRow_made wr.drew #[] 0 P0.out.size (Nat.zero_le _) rfl)
                refine hK1.out _ _ (HR.out _ P1.out) fun hS1 => ?_
                clear hK1 K1
                simp only [Act.put, List.setIfInBounds_toArray, List.set_cons_zero, List.set_cons_succ]
                refine wpAnyH_ready (rs := [3, 5]) (by kernel_rfl) (by simp) (AllReadyH.cons (by simp only [List.getElem?_toArray, List.getElem?_cons_succ, List.getElem?_cons_zero]; rfl) (fun K3 hK3 => ?_) (AllReadyH.cons (by simp only [List.getElem?_toArray, List.getElem?_cons_succ, List.getElem?_cons_zero]; rfl) (fun K5 hK5 => ?_) AllReadyH.nil))
                · skip
                  have hAB := Z.out.2.2.1 (wr.drew.alloc (.cells #[] 3)) (SI.out.1.below P1.out).out
                  have H57 := T57.out
                  refine step_append_src (by rfl) (.tmp 57) (.tmp 58) 35 (by rfl) wr.heap.size 3 i0 (.int .i64 0) Tryd.underlying35 I0.out.1 I0.out.2.1 I0.out.2.2.1 I0.out.2.2.2 rfl (.slice (some ⟨wr.drew.heap.size, 0, none⟩) 0 0) 0 [] (by rfl) H57 A B.length cb (nums B) (by rfl) Z.out.2.2.2.1 (nums_length B) (all_cells hAB) (nums_cell B) (by unfold maxLen; omega) (by omega) P1.out.size ?_
                  intro u59 V59 hrow59 hgr59 hnn59
                  obtain ⟨g59, c59, rfl, hg59⟩ := made_form hrow59 hnn59
                  rw [Nat.zero_add, List.nil_append] at hrow59
                  have P2 := Lib.hid (P1.out.grown hgr59 P1.out.size (fun q e => by have e2 : some wr.drew.heap.size = some q := e; injection e2 with e2; rw [← e2]; exact (H57.lt _ rfl).1))
                  have T59 := Lib.hid hrow59
                  refine hK3.out _ _ (HR.out _ P2.out) fun hS2 => ?_
                  clear hK3 K3 hrow59 hgr59 hnn59
                  simp only [Act.put, List.setIfInBounds_toArray, List.set_cons_zero, List.set_cons_succ]
                  refine wpAnyH_ready (rs := [5]) (by kernel_rfl) (by simp) (AllReadyH.cons (by simp only [List.getElem?_toArray, List.getElem?_cons_succ, List.getElem?_cons_zero]; rfl) (fun K5 hK5 => ?_) AllReadyH.nil)
                  have P3 := Lib.hid (P2.out.alloc P2.out.size (.cells #[.int .i64 (k : Int)] 3))
                  refine step_val (v := .slice (some ⟨V59.heap.size, 0, none⟩) 1 1) (w' := (V59.alloc (.cells #[.int .i64 (k : Int)] 3))) (by rfl) (by simp [execOp, go_sem]) ?_
                  have T61 := Lib.hid (show (V59.alloc (.cells #[.int .i64 (k : Int)] 3)).ownsRow wr.heap.size 3 1 (.slice (some ⟨V59.heap.size, 0, none⟩) 1 1) 1 [.int .i64 (k : Int)] from World.ownsRow_lit V59 #[.int .i64 (k : Int)] 1 P2.out.size (by unfold maxLen; omega) rfl)
                  have U59 := Lib.hid (T59.out.alloc (.cells #[.int .i64 (k : Int)] 3))
                  refine hK5.out _ _ (HR.out _ P3.out) fun hS3 => ?_
                  clear hK5 K5
                  simp only [Act.put, List.setIfInBounds_toArray, List.set_cons_zero, List.set_cons_succ]
                  refine wpAnyH_ready (rs := [6]) (by kernel_rfl) (by simp) (AllReadyH.cons (by simp only [List.getElem?_toArray, List.getElem?_cons_succ, List.getElem?_cons_zero]; rfl) (fun K6 hK6 => ?_) AllReadyH.nil)
                  refine step_append_any (by rfl) (.tmp 59) (.tmp 61) 35 (by rfl) wr.heap.size 3 i0 (.int .i64 0) 1 8 Tryd.underlying35 I0.out.1 I0.out.2.1 I0.out.2.2.1 I0.out.2.2.2 rfl (by decide) (.slice (some ⟨g59, 0, none⟩) B.length c59) B.length (nums B) (by rfl) U59.out ⟨V59.heap.size, 0, none⟩ 1 1 [.int .i64 (k : Int)] (by rfl) rfl (T61.out.cells (g := V59.heap.size) rfl) (by simp [Value.oneCell']) (by unfold maxLen; omega) (by omega) P3.out.size ?_
                  intro v62 V62 hrow62 hgr62
                  have P6 := Lib.hid (P3.out.grown hgr62 P3.out.size (fun q e => (U59.out.lt q e).1))
                  rw [show nums B ++ [Value.int .i64 (k : Int)] = nums (B ++ [k]) by unfold nums; simp] at hrow62
                  obtain ⟨A62, c62, rfl, _, _, hnil62, _, _, hI62⟩ := row_form hrow62
                  have hcall := Z.out.2.2.2.2.2.1 (B ++ [k]) L A62 c62 (.slice A2 N c2) V62 (by rw [List.length_append, List.length_singleton]; have := Z.out.1; omega) (by rw [R0.out.2.2.1]; exact hNm) (SI.out.2.1.below P6.out) (keep_ints hrow62 (ownsRow_below SI.out.2.2 P6.out)) (fun e => by have := (hnil62 e).1; omega) (by have := P6.out.size; omega)
                  rw [List.length_append, List.length_singleton] at hcall
                  refine hK6.out _ _ (HR.out _ P6.out) fun hS6 => ?_
                  have HC := Lib.hid hcall
                  clear hK6 K6 hrow62 hgr62 hnil62 hI62 hcall
                  simp only [Act.put, List.setIfInBounds_toArray, List.set_cons_zero, List.set_cons_succ]
                  refine wpAnyH_ready (rs := [9]) (by kernel_rfl) (by simp) (AllReadyH.cons (by simp only [List.getElem?_toArray, List.getElem?_cons_succ, List.getElem?_cons_zero]; rfl) (fun K9 hK9 => ?_) AllReadyH.nil)
                  refine step_call (by rfl) 93 #[.agg (relC j f), .slice A62 (B.length + 1) c62, .slice A2 N c2, .int .i64 most] (fun v' W' => ListsV base (moreF most L (allE j f m (B ++ [k]))) v' W' ∧ V62.grownBy W' (Value.slice A2 N c2).ownBlock ∧ ∀ g, v'.ownBlock = some g → (Value.slice A2 N c2).ownBlock = some g ∨ V62.heap.size ≤ g) (by simp [execOp, go_sem]) HC.out ?_
                  rintro v65 V65 ⟨hl65, hg65, ho65⟩
                  have hnext : MoreI j f m B O most base v w (k + 1) v65 V65 := ⟨by rw [allR_succ, R2.out.2, if_pos rfl, ← more_more most O _ _ (by rw [R0.out.2.1, R0.out.2.2.1]; exact hNm) hO, R0.out.2.1]; exact hl65, grown_more (grown_below SI.out.1.grown P6.out) hg65 (fun q hq hne e => by
                      have hq2 : q < w.heap.size + 1 := by simpa using hq
                      rcases SI.out.1.own q e.symm with h | h
                      · exact hne h.symm
                      · omega), fun g hg => by
                      rcases ho65 g hg with h | h
                      · exact SI.out.1.own g h
                      · have := P6.out.size; exact .inr (by omega)⟩
                  have HN := Lib.hid hnext
                  clear hnext hl65 hg65 ho65
                  refine hK9.out _ _ (HN.out.rel Z.out.2.2.2.2.1) fun hS9 => ?_
                  clear hK9 K9
                  simp only [Act.put, List.setIfInBounds_toArray, List.set_cons_zero, List.set_cons_succ]
                  refine wpAnyH_take (i := 10) (v := v65) (by simp only [List.getElem?_toArray, List.getElem?_cons_succ, List.getElem?_cons_zero]; rfl) (by kernel_rfl) (by kernel_rfl) (by kernel_rfl) (by exact fun _ _ _ h => h) (.inl ⟨by rfl, fun W _ => by rfl⟩) hS9 ?_
                  simp only [Act.put, List.setIfInBounds_toArray, List.set_cons_zero, List.set_cons_succ]
                  refine wpAnyH_done (by kernel_rfl) ?_ _
                  go_wp2_with fail
                  go_roundw
                  case rel => exact ⟨k + 1, by omega, by go_num, HN.out⟩
                  case measure => simp [intOf]; omega
                · skip
                  have P2 := Lib.hid (P1.out.alloc P1.out.size (.cells #[.int .i64 (k : Int)] 3))
                  refine step_val (v := .slice (some ⟨(wr.drew.alloc (.cells #[] 3)).heap.size, 0, none⟩) 1 1) (w' := ((wr.drew.alloc (.cells #[] 3)).alloc (.cells #[.int .i64 (k : Int)] 3))) (by rfl) (by simp [execOp, go_sem]) ?_
                  have T61 := Lib.hid (show ((wr.drew.alloc (.cells #[] 3)).alloc (.cells #[.int .i64 (k : Int)] 3)).ownsRow wr.heap.size 3 1 (.slice (some ⟨(wr.drew.alloc (.cells #[] 3)).heap.size, 0, none⟩) 1 1) 1 [.int .i64 (k : Int)] from World.ownsRow_lit (wr.drew.alloc (.cells #[] 3)) #[.int .i64 (k : Int)] 1 P1.out.size (by unfold maxLen; omega) rfl)
                  have U57 := Lib.hid (T57.out.alloc (.cells #[.int .i64 (k : Int)] 3))
                  refine hK5.out _ _ (HR.out _ P2.out) fun hS2 => ?_
                  clear hK5 K5
                  simp only [Act.put, List.setIfInBounds_toArray, List.set_cons_zero, List.set_cons_succ]
                  refine wpAnyH_ready (rs := [3]) (by kernel_rfl) (by simp) (AllReadyH.cons (by simp only [List.getElem?_toArray, List.getElem?_cons_succ, List.getElem?_cons_zero]; rfl) (fun K3 hK3 => ?_) AllReadyH.nil)
                  have hAB := Z.out.2.2.1 ((wr.drew.alloc (.cells #[] 3)).alloc (.cells #[.int .i64 (k : Int)] 3)) (SI.out.1.below P2.out).out
                  have H57 := U57.out
                  have hne : (wr.drew.alloc (.cells #[] 3)).heap.size ≠ wr.drew.heap.size := by simp
                  refine step_append_src (by rfl) (.tmp 57) (.tmp 58) 35 (by rfl) wr.heap.size 3 i0 (.int .i64 0) Tryd.underlying35 I0.out.1 I0.out.2.1 I0.out.2.2.1 I0.out.2.2.2 rfl (.slice (some ⟨wr.drew.heap.size, 0, none⟩) 0 0) 0 [] (by rfl) H57 A B.length cb (nums B) (by rfl) Z.out.2.2.2.1 (nums_length B) (all_cells hAB) (nums_cell B) (by unfold maxLen; omega) (by omega) P2.out.size ?_
                  intro u59 V59 hrow59 hgr59 hnn59
                  obtain ⟨g59, c59, rfl, hg59⟩ := made_form hrow59 hnn59
                  rw [Nat.zero_add, List.nil_append] at hrow59
                  have P3 := Lib.hid (P2.out.grown hgr59 P2.out.size (fun q e => by have e2 : some wr.drew.heap.size = some q := e; injection e2 with e2; rw [← e2]; exact (H57.lt _ rfl).1))
                  have T59 := Lib.hid hrow59
                  have V61 := Lib.hid (T61.out.kept hgr59 (.inr (fun e => hne (by have e2 : some (wr.drew.alloc (.cells #[] 3)).heap.size = some wr.drew.heap.size := e; injection e2))))
                  refine hK3.out _ _ (HR.out _ P3.out) fun hS3 => ?_
                  clear hK3 K3 hrow59 hgr59 hnn59
                  simp only [Act.put, List.setIfInBounds_toArray, List.set_cons_zero, List.set_cons_succ]
                  refine wpAnyH_ready (rs := [6]) (by kernel_rfl) (by simp) (AllReadyH.cons (by simp only [List.getElem?_toArray, List.getElem?_cons_succ, List.getElem?_cons_zero]; rfl) (fun K6 hK6 => ?_) AllReadyH.nil)
                  refine step_append_any (by rfl) (.tmp 59) (.tmp 61) 35 (by rfl) wr.heap.size 3 i0 (.int .i64 0) 1 8 Tryd.underlying35 I0.out.1 I0.out.2.1 I0.out.2.2.1 I0.out.2.2.2 rfl (by decide) (.slice (some ⟨g59, 0, none⟩) B.length c59) B.length (nums B) (by rfl) T59.out ⟨(wr.drew.alloc (.cells #[] 3)).heap.size, 0, none⟩ 1 1 [.int .i64 (k : Int)] (by rfl) rfl (V61.out.cells (g := (wr.drew.alloc (.cells #[] 3)).heap.size) rfl) (by simp [Value.oneCell']) (by unfold maxLen; omega) (by omega) P3.out.size ?_
                  intro v62 V62 hrow62 hgr62
                  have P6 := Lib.hid (P3.out.grown hgr62 P3.out.size (fun q e => (T59.out.lt q e).1))
                  rw [show nums B ++ [Value.int .i64 (k : Int)] = nums (B ++ [k]) by unfold nums; simp] at hrow62
                  obtain ⟨A62, c62, rfl, _, _, hnil62, _, _, hI62⟩ := row_form hrow62
                  have hcall := Z.out.2.2.2.2.2.1 (B ++ [k]) L A62 c62 (.slice A2 N c2) V62 (by rw [List.length_append, List.length_singleton]; have := Z.out.1; omega) (by rw [R0.out.2.2.1]; exact hNm) (SI.out.2.1.below P6.out) (keep_ints hrow62 (ownsRow_below SI.out.2.2 P6.out)) (fun e => by have := (hnil62 e).1; omega) (by have := P6.out.size; omega)
                  rw [List.length_append, List.length_singleton] at hcall
                  refine hK6.out _ _ (HR.out _ P6.out) fun hS6 => ?_
                  have HC := Lib.hid hcall
                  clear hK6 K6 hrow62 hgr62 hnil62 hI62 hcall
                  simp only [Act.put, List.setIfInBounds_toArray, List.set_cons_zero, List.set_cons_succ]
                  refine wpAnyH_ready (rs := [9]) (by kernel_rfl) (by simp) (AllReadyH.cons (by simp only [List.getElem?_toArray, List.getElem?_cons_succ, List.getElem?_cons_zero]; rfl) (fun K9 hK9 => ?_) AllReadyH.nil)
                  refine step_call (by rfl) 93 #[.agg (relC j f), .slice A62 (B.length + 1) c62, .slice A2 N c2, .int .i64 most] (fun v' W' => ListsV base (moreF most L (allE j f m (B ++ [k]))) v' W' ∧ V62.grownBy W' (Value.slice A2 N c2).ownBlock ∧ ∀ g, v'.ownBlock = some g → (Value.slice A2 N c2).ownBlock = some g ∨ V62.heap.size ≤ g) (by simp [execOp, go_sem]) HC.out ?_
                  rintro v65 V65 ⟨hl65, hg65, ho65⟩
                  have hnext : MoreI j f m B O most base v w (k + 1) v65 V65 := ⟨by rw [allR_succ, R2.out.2, if_pos rfl, ← more_more most O _ _ (by rw [R0.out.2.1, R0.out.2.2.1]; exact hNm) hO, R0.out.2.1]; exact hl65, grown_more (grown_below SI.out.1.grown P6.out) hg65 (fun q hq hne e => by
                      have hq2 : q < w.heap.size + 1 := by simpa using hq
                      rcases SI.out.1.own q e.symm with h | h
                      · exact hne h.symm
                      · omega), fun g hg => by
                      rcases ho65 g hg with h | h
                      · exact SI.out.1.own g h
                      · have := P6.out.size; exact .inr (by omega)⟩
                  have HN := Lib.hid hnext
                  clear hnext hl65 hg65 ho65
                  refine hK9.out _ _ (HN.out.rel Z.out.2.2.2.2.1) fun hS9 => ?_
                  clear hK9 K9
                  simp only [Act.put, List.setIfInBounds_toArray, List.set_cons_zero, List.set_cons_succ]
                  refine wpAnyH_take (i := 10) (v := v65) (by simp only [List.getElem?_toArray, List.getElem?_cons_succ, List.getElem?_cons_zero]; rfl) (by kernel_rfl) (by kernel_rfl) (by kernel_rfl) (by exact fun _ _ _ h => h) (.inl ⟨by rfl, fun W _ => by rfl⟩) hS9 ?_
                  simp only [Act.put, List.setIfInBounds_toArray, List.set_cons_zero, List.set_cons_succ]
                  refine wpAnyH_done (by kernel_rfl) ?_ _
                  go_wp2_with fail
                  go_roundw
                  case rel => exact ⟨k + 1, by omega, by go_num, HN.out⟩
                  case measure => simp [intOf]; omega
              · skip
                have P1 := Lib.hid (P0.out.alloc P0.out.size (.cells #[.int .i64 (k : Int)] 3))
                refine step_val (v := .slice (some ⟨wr.drew.heap.size, 0, none⟩) 1 1) (w' := (wr.drew.alloc (.cells #[.int .i64 (k : Int)] 3))) (by rfl) (by simp [execOp, go_sem]) ?_
                have T61 := Lib.hid (show (wr.drew.alloc (.cells #[.int .i64 (k : Int)] 3)).ownsRow wr.heap.size 3 1 (.slice (some ⟨wr.drew.heap.size, 0, none⟩) 1 1) 1 [.int .i64 (k : Int)] from World.ownsRow_lit wr.drew #[.int .i64 (k : Int)] 1 P0.out.size (by unfold maxLen; omega) rfl)
                refine hK5.out _ _ (HR.out _ P1.out) fun hS1 => ?_
                clear hK5 K5
                simp only [Act.put, List.setIfInBounds_toArray, List.set_cons_zero, List.set_cons_succ]
                refine wpAnyH_ready (rs := [1]) (by kernel_rfl) (by simp) (AllReadyH.cons (by simp only [List.getElem?_toArray, List.getElem?_cons_succ, List.getElem?_cons_zero]; rfl) (fun K1 hK1 => ?_) AllReadyH.nil)
                have P2 := Lib.hid (P1.out.alloc P1.out.size (.cells #[] 3))
                refine step_make0 (by rfl) (by rfl) ?_
                have T57 := Lib.hid (show ((wr.drew.alloc (.cells #[.int .i64 (k : Int)] 3)).alloc (.cells #[] 3)).ownsRow wr.heap.size 3 1 (.slice (some ⟨(wr.drew.alloc (.cells #[.int .i64 (k : Int)] 3)).heap.size, 0, none⟩) 0 0) 0 [] from World.ownsRow_made (wr.drew.alloc (.cells #[.int .i64 (k : Int)] 3)) #[] 0 P1.out.size (Nat.zero_le _) rfl)
                have U61 := Lib.hid (T61.out.alloc (.cells #[] 3))
                refine hK1.out _ _ (HR.out _ P2.out) fun hS2 => ?_
                clear hK1 K1
                simp only [Act.put, List.setIfInBounds_toArray, List.set_cons_zero, List.set_cons_succ]
                refine wpAnyH_ready (rs := [3]) (by kernel_rfl) (by simp) (AllReadyH.cons (by simp only [List.getElem?_toArray, List.getElem?_cons_succ, List.getElem?_cons_zero]; rfl) (fun K3 hK3 => ?_) AllReadyH.nil)
                have hAB := Z.out.2.2.1 ((wr.drew.alloc (.cells #[.int .i64 (k : Int)] 3)).alloc (.cells #[] 3)) (SI.out.1.below P2.out).out
                have H57 := T57.out
                have hne : wr.drew.heap.size ≠ (wr.drew.alloc (.cells #[.int .i64 (k : Int)] 3)).heap.size := by simp
                refine step_append_src (by rfl) (.tmp 57) (.tmp 58) 35 (by rfl) wr.heap.size 3 i0 (.int .i64 0) Tryd.underlying35 I0.out.1 I0.out.2.1 I0.out.2.2.1 I0.out.2.2.2 rfl (.slice (some ⟨(wr.drew.alloc (.cells #[.int .i64 (k : Int)] 3)).heap.size, 0, none⟩) 0 0) 0 [] (by rfl) H57 A B.length cb (nums B) (by rfl) Z.out.2.2.2.1 (nums_length B) (all_cells hAB) (nums_cell B) (by unfold maxLen; omega) (by omega) P2.out.size ?_
                intro u59 V59 hrow59 hgr59 hnn59
                obtain ⟨g59, c59, rfl, hg59⟩ := made_form hrow59 hnn59
                rw [Nat.zero_add, List.nil_append] at hrow59
                have P3 := Lib.hid (P2.out.grown hgr59 P2.out.size (fun q e => by have e2 : some (wr.drew.alloc (.cells #[.int .i64 (k : Int)] 3)).heap.size = some q := e; injection e2 with e2; rw [← e2]; exact (H57.lt _ rfl).1))
                have T59 := Lib.hid hrow59
                have V61 := Lib.hid (U61.out.kept hgr59 (.inr (fun e => hne (by have e2 : some wr.drew.heap.size = some (wr.drew.alloc (.cells #[.int .i64 (k : Int)] 3)).heap.size := e; injection e2))))
                refine hK3.out _ _ (HR.out _ P3.out) fun hS3 => ?_
                clear hK3 K3 hrow59 hgr59 hnn59
                simp only [Act.put, List.setIfInBounds_toArray, List.set_cons_zero, List.set_cons_succ]
                refine wpAnyH_ready (rs := [6]) (by kernel_rfl) (by simp) (AllReadyH.cons (by simp only [List.getElem?_toArray, List.getElem?_cons_succ, List.getElem?_cons_zero]; rfl) (fun K6 hK6 => ?_) AllReadyH.nil)
                refine step_append_any (by rfl) (.tmp 59) (.tmp 61) 35 (by rfl) wr.heap.size 3 i0 (.int .i64 0) 1 8 Tryd.underlying35 I0.out.1 I0.out.2.1 I0.out.2.2.1 I0.out.2.2.2 rfl (by decide) (.slice (some ⟨g59, 0, none⟩) B.length c59) B.length (nums B) (by rfl) T59.out ⟨wr.drew.heap.size, 0, none⟩ 1 1 [.int .i64 (k : Int)] (by rfl) rfl (V61.out.cells (g := wr.drew.heap.size) rfl) (by simp [Value.oneCell']) (by unfold maxLen; omega) (by omega) P3.out.size ?_
                intro v62 V62 hrow62 hgr62
                have P6 := Lib.hid (P3.out.grown hgr62 P3.out.size (fun q e => (T59.out.lt q e).1))
                rw [show nums B ++ [Value.int .i64 (k : Int)] = nums (B ++ [k]) by unfold nums; simp] at hrow62
                obtain ⟨A62, c62, rfl, _, _, hnil62, _, _, hI62⟩ := row_form hrow62
                have hcall := Z.out.2.2.2.2.2.1 (B ++ [k]) L A62 c62 (.slice A2 N c2) V62 (by rw [List.length_append, List.length_singleton]; have := Z.out.1; omega) (by rw [R0.out.2.2.1]; exact hNm) (SI.out.2.1.below P6.out) (keep_ints hrow62 (ownsRow_below SI.out.2.2 P6.out)) (fun e => by have := (hnil62 e).1; omega) (by have := P6.out.size; omega)
                rw [List.length_append, List.length_singleton] at hcall
                refine hK6.out _ _ (HR.out _ P6.out) fun hS6 => ?_
                have HC := Lib.hid hcall
                clear hK6 K6 hrow62 hgr62 hnil62 hI62 hcall
                simp only [Act.put, List.setIfInBounds_toArray, List.set_cons_zero, List.set_cons_succ]
                refine wpAnyH_ready (rs := [9]) (by kernel_rfl) (by simp) (AllReadyH.cons (by simp only [List.getElem?_toArray, List.getElem?_cons_succ, List.getElem?_cons_zero]; rfl) (fun K9 hK9 => ?_) AllReadyH.nil)
                refine step_call (by rfl) 93 #[.agg (relC j f), .slice A62 (B.length + 1) c62, .slice A2 N c2, .int .i64 most] (fun v' W' => ListsV base (moreF most L (allE j f m (B ++ [k]))) v' W' ∧ V62.grownBy W' (Value.slice A2 N c2).ownBlock ∧ ∀ g, v'.ownBlock = some g → (Value.slice A2 N c2).ownBlock = some g ∨ V62.heap.size ≤ g) (by simp [execOp, go_sem]) HC.out ?_
                rintro v65 V65 ⟨hl65, hg65, ho65⟩
                have hnext : MoreI j f m B O most base v w (k + 1) v65 V65 := ⟨by rw [allR_succ, R2.out.2, if_pos rfl, ← more_more most O _ _ (by rw [R0.out.2.1, R0.out.2.2.1]; exact hNm) hO, R0.out.2.1]; exact hl65, grown_more (grown_below SI.out.1.grown P6.out) hg65 (fun q hq hne e => by
                    have hq2 : q < w.heap.size + 1 := by simpa using hq
                    rcases SI.out.1.own q e.symm with h | h
                    · exact hne h.symm
                    · omega), fun g hg => by
                    rcases ho65 g hg with h | h
                    · exact SI.out.1.own g h
                    · have := P6.out.size; exact .inr (by omega)⟩
                have HN := Lib.hid hnext
                clear hnext hl65 hg65 ho65
                refine hK9.out _ _ (HN.out.rel Z.out.2.2.2.2.1) fun hS9 => ?_
                clear hK9 K9
                simp only [Act.put, List.setIfInBounds_toArray, List.set_cons_zero, List.set_cons_succ]
                refine wpAnyH_take (i := 10) (v := v65) (by simp only [List.getElem?_toArray, List.getElem?_cons_succ, List.getElem?_cons_zero]; rfl) (by kernel_rfl) (by kernel_rfl) (by kernel_rfl) (by exact fun _ _ _ h => h) (.inl ⟨by rfl, fun W _ => by rfl⟩) hS9 ?_
                simp only [Act.put, List.setIfInBounds_toArray, List.set_cons_zero, List.set_cons_succ]
                refine wpAnyH_done (by kernel_rfl) ?_ _
                go_wp2_with fail
                go_roundw
                case rel => exact ⟨k + 1, by omega, by go_num, HN.out⟩
                case measure => simp [intOf]; omega
      · have e1 : decide ((N : Int) ≤ (most : Int)) = false := by simp; omega
        have e2 : ¬ (N : Int) ≤ (most : Int) := by omega
        obtain ⟨F, hF⟩ := allR_split n f m B k hk
        have hres : ListsV base (moreF most O (allE n f (m + 1) B)) (.slice A2 N c2) wr := by
          rw [hF, more_full _ _ _ _ (by rw [hL, hN]; exact hNm) hO]; exact hI.lists
        have HS := Lib.hid (And.intro hres hI)
        clear hres hF hI hublk hL hN
        go_wp2_with fail
        go_ret
        exact ⟨_, rfl, HS.out.1, HS.out.2.out, fun g hg => (HS.out.2.own g hg).imp id (fun h => by omega)⟩
    · obtain rfl : k = n := by omega
      have hres : ListsV base (moreF most O (allE k f (m + 1) B)) (.slice A2 N c2) wr := hI.lists
      have HS := Lib.hid (And.intro hres hI)
      clear hres hI hublk hL hN
      go_wp2_with fail
      go_ret
      exact ⟨_, rfl, HS.out.1, HS.out.2.out, fun g hg => (HS.out.2.own g hg).imp id (fun h => by omega)⟩
end Go.Proofs.YtknjdfgmejobfaaDoor
