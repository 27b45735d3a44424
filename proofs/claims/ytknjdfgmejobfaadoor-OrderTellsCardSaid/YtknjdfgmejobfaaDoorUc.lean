/- layer 3's law: the walk of OrderCommon. -/
import Derived.Test.YtknjdfgmejobfaaDoorSn
import Derived.Test.YtknjdfgmejobfaaDoorTf
import Derived.Test.YtknjdfgmejobfaaDoorPm
import Derived.Lib.QuietBelow
import Derived.BigQuiet
import Derived.Deep.CutBlock
import Derived.Deep.DeepCutAuto
namespace Go.Proofs.YtknjdfgmejobfaaDoor
open Go.RowKit Go.Shelf

theorem six : ((6 : Nat) : Int) = 6 := rfl
theorem awake3_it (w : World) (hT : Tab w ∧ 0 < w.heap.size) : Calls Tryd.prog 45 #[] w fun e w' => e = .returned (.bool true) ∧ Below w.heap.size w w' := awake_any3 w hT.1 hT.2
/-- Orders with the limit 720, on at most 6 items -/
theorem orders_720 (n : Nat) (f : Rl.Rows) (L : List (List Nat)) (hL : Rl.ordL n f = L) (hn : n ≤ 6) (k : Nat) (hk : L.length = k) (w : World) (hf : Rl.Ok n f) (hT : Tab w ∧ 0 < w.heap.size) :
    Calls Tryd.prog 46 #[.agg (relC n f), .int .i64 720] w fun e w' => ∃ A c, e = .returned (.tuple #[.slice A k c, .int .i64 0]) ∧ ListsAt w' A L ∧ Below w.heap.size w w' :=
  orders_gives n f 720 L k hL hk (by rw [← hk, ← hL]; exact Rl.ordL_720 hn) (by decide) w hf hT.1 hT.2
theorem total_full (n : Nat) (A : Option Addr) (x : List Nat) (cap : Nat) (r : Rl.Rows) (hr : r = totL x) (w : World) (hn : n ≤ 48) (h : Full n x) (hA : IntsAt w A (ints x)) :
    Calls Tryd.prog 49 #[.int .i64 n, .slice A n cap] w fun e w' => e = .returned (.tuple #[.agg (relC n r), .int .i64 0]) ∧ Below w.heap.size w w' := by
  subst hr; exact total_yes n A x cap w hn h.len h.lt h.nodup hA (h.okL hn)
/-- lists of the same length -/
theorem ListsAt.cell {w : World} {A : Option Addr} {l : List (List Nat)} {n : Nat} (h : ListsAt w A l) (hn : ∀ x ∈ l, x.length = n) {i : Nat} {x : List Nat} (hx : l[i]? = some x) :
    ∃ b off B c, A = some ⟨b, off, none⟩ ∧ b < w.heap.size ∧ w.cell? ⟨b, off + i, none⟩ = some (.slice B n c) ∧ IntsAt w B (ints x) := by
  obtain ⟨b, off, e, hlt, hc⟩ := h (by have := (List.getElem?_eq_some_iff.1 hx).1; omega)
  obtain ⟨B, c, h1, _, h3⟩ := hc i x hx
  rw [hn x (List.mem_of_getElem? hx)] at h1
  exact ⟨b, off, B, c, e, hlt, h1, h3⟩
def ones : BitVec 64 := 18446744073709551615#64
theorem ones_get (i : Nat) (hi : i < 64) : ones.getLsbD i = true := by
  have : ∀ j : Fin 64, ones.getLsbD j.val = true := by decide
  exact this ⟨i, hi⟩
theorem ones_u : Bv.U ones = 18446744073709551615 := by decide
theorem cross_ones (n : Nat) (r : Rl.Rows) (hr : r = Rl.crossF n ones ones) (w : World) (hn : n ≤ 48) :
    Calls Tryd.prog 39 #[.int .i64 n, .int .u64 18446744073709551615, .int .u64 18446744073709551615] w fun e w' => e = .returned (.agg (relC n r)) ∧ Below w.heap.size w w' := by
  rw [← ones_u]; exact cross_is n ones ones r hr w hn
theorem common_take {n : Nat} {c : Rl.Rows} {l : List (List Nat)} {j : Nat} {x : List Nat} (h : l[j]? = some x) : commonF n c (l.take (j + 1)) = Rl.bothF n (commonF n c (l.take j)) (totL x) := by
  unfold commonF
  rw [List.take_add_one, h, List.foldl_append]; rfl

attribute [-go_sem] run_eql_struct run_neq_struct
attribute [local go_sem] Bv.and_u Bv.or_u Bv.andNot_u Bv.wrap_sub1 Bv.eq0 Bv.ne0 Bv.wrap_pow Bv.wrap_powmin Bv.wrap_neg Bv.eq_u Bv.ne_u run_rel_eql run_rel_neq relEq_self
set_option maxRecDepth 100000 in
set_option maxHeartbeats 4000000 in
theorem common_none (n : Int) (f : Rl.Rows) (k : Nat) (A : Rl.Rows) (w : World) (hkk : k = fineK n 6) (hA : A = fineR k f) (oA : Rl.Ok k A) (zf : Rl.Z f) (ht : Rl.topL k A = none) (hT : Tab w) (hw : 0 < w.heap.size) :
    Calls Tryd.prog 16 #[.agg (relC n f)] w fun e w' => e = .returned (.bool true) ∧ Below w.heap.size w w' := by
  have hTl : ∀ W, Below w.heap.size w W → Tab W ∧ 0 < W.heap.size := fun W h => ⟨hT.below h hw, Nat.lt_of_lt_of_le hw h.size⟩
  have HT := Lib.hid hTl
  clear hTl hT
  have hk6 : k ≤ 6 := by rw [hkk]; exact fineK_le n 6
  have hk48 : k ≤ 48 := by omega
  have hL : Rl.ordL k A = [] := (Rl.ordL_nil oA).2 ht
  have hte : topR k A = none := by unfold topR; rw [Rl.right_of oA, if_pos rfl, Int.toNat_natCast, ht]
  have E := Lib.hid (And.intro hA (And.intro hkk (And.intro oA (And.intro zf (And.intro hL (And.intro hte hk6))))))
  clear hA hkk oA zf hL hte hk6 ht
  have H0 := Lib.hid ((Held.nil w).box n f)
  go_enter Tryd.func16, Tryd.ntmps16
  go_wp2_with (first | (refine wpList_load_rel (by rfl) (.tmp 1) (by rfl) w.heap.size n f (by rfl) (H0.out.at 0 rfl) ?_))
  with_reducible refine (fine_is n f 6 6 k A six E.out.2.1 E.out.1 _ (by omega) E.out.2.2.2.1).mono ?_
  rintro e w1 ⟨rfl, hb⟩
  have H1 := Lib.hid (H0.out.step hb)
  clear hb
  go_wp2_with (first | (refine wpList_store_rel (by rfl) (.tmp 1) (.tmp 15) (by rfl) w.heap.size k n A f (by rfl) (by rfl) (H1.out.at 0 rfl) ?_; intro w2 hR hg; have H2 := Lib.hid (H1.out.put 0 rfl hR hg); clear hR hg) | (refine wpList_load_rel (by rfl) (.tmp 1) (by rfl) w.heap.size k A (by rfl) (H2.out.at 0 rfl) ?_))
  with_reducible refine (orders_720 k A [] E.out.2.2.2.2.1 E.out.2.2.2.2.2.2 0 rfl _ E.out.2.2.1 (HT.out _ H2.out.bel)).mono ?_
  rintro e w3 ⟨A3, c3, rfl, _, hb⟩
  have H3 := Lib.hid (H2.out.step hb)
  clear hb
  go_wp2_with (first | (refine wpList_load_rel (by rfl) (.tmp 1) (by rfl) w.heap.size k A (by rfl) (H3.out.at 0 rfl) ?_))
  have htop := top_any k A w3 E.out.2.2.1.z (HT.out _ H3.out.bel).1 (HT.out _ H3.out.bel).2
  rw [E.out.2.2.2.2.2.1] at htop
  refine htop.mono ?_
  clear htop
  rintro e w4 ⟨v, rfl, hrow, hb⟩
  have H4 := Lib.hid (H3.out.step hb)
  clear hb hrow
  go_wp2_with fail
  with_reducible refine (awake3_it _ (HT.out _ H4.out.bel)).mono ?_
  rintro e w5 ⟨rfl, hb⟩
  have H5 := Lib.hid (H4.out.step hb)
  clear hb
  go_wp2_with fail
  go_ret
  exact ⟨rfl, H5.out.bel⟩
set_option maxRecDepth 100000 in
set_option maxHeartbeats 8000000 in
theorem common_some (n : Int) (f : Rl.Rows) (k : Nat) (A : Rl.Rows) (T : List Nat) (w : World) (hkk : k = fineK n 6) (hA : A = fineR k f) (oA : Rl.Ok k A) (zf : Rl.Z f) (ht : Rl.topL k A = some T) (hT : Tab w) (hw : 0 < w.heap.size) :
    Calls Tryd.prog 16 #[.agg (relC n f)] w fun e w' => e = .returned (.bool true) ∧ Below w.heap.size w w' := by
  have hTl : ∀ W, Below w.heap.size w W → Tab W ∧ 0 < W.heap.size := fun W h => ⟨hT.below h hw, Nat.lt_of_lt_of_le hw h.size⟩
  have HT := Lib.hid hTl
  clear hTl hT
  have hk6 : k ≤ 6 := by rw [hkk]; exact fineK_le n 6
  have hk48 : k ≤ 48 := by omega
  obtain ⟨l, hL⟩ : ∃ l, Rl.ordL k A = l := ⟨_, rfl⟩
  obtain ⟨m, hm⟩ : ∃ m, l.length = m := ⟨_, rfl⟩
  obtain ⟨X, hX⟩ : ∃ R, R = Rl.plusF k A := ⟨_, rfl⟩
  obtain ⟨C, hC⟩ : ∃ R, R = Rl.crossF k ones ones := ⟨_, rfl⟩
  have oC : Rl.Ok k C := by rw [hC]; exact Rl.ok_cross (by omega) _ _
  have hfull : ∀ x ∈ l, Full k x := fun x hx => full_ordL oA (by rw [hL]; exact hx)
  have hfirst : l[0]? = some T := by
    obtain ⟨r, hr⟩ := Rl.ordL_first ht
    rw [← hL, hr]; rfl
  have hac : ∀ a, ¬ Rl.Path A a a := (Rl.top_iff oA).1 (by rw [ht]; rfl)
  have hcom : commonF k C l = X := by
    rw [hC, ← hL, hX]; exact common_plus oA hac _ _ (fun i hi => ones_get i (by omega)) (fun i hi => ones_get i (by omega))
  have hm0 : 0 < m := by rw [← hm]; exact (List.getElem?_eq_some_iff.1 hfirst).1
  have hm720 : m ≤ 720 := by rw [← hm, ← hL]; exact Rl.ordL_720 hk6
  have fT : Full k T := hfull T (List.mem_of_getElem? hfirst)
  have E := Lib.hid (And.intro hA (And.intro hkk (And.intro oA (And.intro zf hk6))))
  have L := Lib.hid (And.intro hL (And.intro hm (And.intro hfull (And.intro hfirst (And.intro ht fT)))))
  have P := Lib.hid (And.intro hX (And.intro hC (And.intro oC hcom)))
  clear hA hkk oA zf hL hm hk6 ht hX hC oC hcom hfull hfirst hac fT
  have H0 := Lib.hid ((Held.nil w).box n f)
  go_enter Tryd.func16, Tryd.ntmps16
  go_wp2_with (first | (refine wpList_load_rel (by rfl) (.tmp 1) (by rfl) w.heap.size n f (by rfl) (H0.out.at 0 rfl) ?_))
  with_reducible refine (fine_is n f 6 6 k A six E.out.2.1 E.out.1 _ (by omega) E.out.2.2.2.1).mono ?_
  rintro e w1 ⟨rfl, hb⟩
  have H1 := Lib.hid (H0.out.step hb)
  clear hb
  go_wp2_with (first | (refine wpList_store_rel (by rfl) (.tmp 1) (.tmp 15) (by rfl) w.heap.size k n A f (by rfl) (by rfl) (H1.out.at 0 rfl) ?_; intro w2 hR hg; have H2 := Lib.hid (H1.out.put 0 rfl hR hg); clear hR hg) | (refine wpList_load_rel (by rfl) (.tmp 1) (by rfl) w.heap.size k A (by rfl) (H2.out.at 0 rfl) ?_))
  with_reducible refine (orders_720 k A l L.out.1 E.out.2.2.2.2 m L.out.2.1 _ E.out.2.2.1 (HT.out _ H2.out.bel)).mono ?_
  rintro e w3 ⟨A3, c3, rfl, hl, hb⟩
  have H3 := Lib.hid (And.intro (H2.out.step hb) hl)
  clear hb hl
  go_wp2_with (first | (refine wpList_load_rel (by rfl) (.tmp 1) (by rfl) w.heap.size k A (by rfl) (H3.out.1.at 0 rfl) ?_))
  with_reducible refine (top_gives k A w3 E.out.2.2.1 (HT.out _ H3.out.1.bel).1 (HT.out _ H3.out.1.bel).2 T L.out.2.2.2.2.1 L.out.2.2.2.2.2.len).mono ?_
  rintro e w4 ⟨A4, c4, rfl, hi, _, hb⟩
  have H4 := Lib.hid (And.intro (H3.out.1.step hb) (And.intro (H3.out.2.below hb (Nat.le_refl _)) hi))
  clear hb hi
  have cN := (H4.out.1.at 0 rfl).num
  have d0 : ((0 : Int) < (m : Int)) := by omega
  go_wp2_with fail
  with_reducible refine (cross_ones k C P.out.2.1 _ (by omega)).mono ?_
  rintro e w5 ⟨rfl, hb⟩
  have H5 := Lib.hid (And.intro (H4.out.1.step hb) (And.intro (H4.out.2.1.below hb (Nat.le_refl _)) (H4.out.2.2.below hb (Nat.le_refl _))))
  clear hb
  go_wp2_with (first | (refine wpList_store_rel (by rfl) (.tmp 7) (.tmp 40) (by rfl) w5.heap.size k 0 C zeroR (by rfl) (by rfl) (RelAt.new w5 0 zeroR) ?_; intro w6 hR hg; have H6 := Lib.hid (And.intro (H5.out.1.push hR hg) (below_push hg)); clear hR hg))
  go_loopw [43] (fun i wr => ∃ j : Nat, j ≤ m ∧ i = .int .i64 j ∧ Held w [(w.heap.size, (k : Int), A), (w5.heap.size, (k : Int), commonF k C (l.take j))] wr ∧ Below w5.heap.size w5 wr) (fun i _ => m - (intOf i).toNat)
  case atStart => exact ⟨0, Nat.zero_le _, rfl, H6.out.1, H6.out.2⟩
  case round =>
    obtain ⟨j, hj, rfl, hh, hb⟩ := hrel
    by_cases hlt : j < m
    · obtain ⟨x, hx⟩ : ∃ x, l[j]? = some x := ⟨_, List.getElem?_eq_getElem (by rw [L.out.2.1]; exact hlt)⟩
      obtain ⟨b, off, B, c, rfl, hbl, hc, hBx⟩ := (H5.out.2.1.below hb (Nat.le_refl _)).cell (fun y hy => (L.out.2.2.1 y hy).len) hx
      obtain ⟨F, hF⟩ : ∃ F, F = commonF k C (l.take j) := ⟨_, rfl⟩
      obtain ⟨t, htt⟩ : ∃ t, t = totL x := ⟨_, rfl⟩
      obtain ⟨G, hG⟩ : ∃ G, G = Rl.bothF k F t := ⟨_, rfl⟩
      have fx := L.out.2.2.1 x (List.mem_of_getElem? hx)
      have ot : Rl.Ok k t := by rw [htt]; exact tot_ok hk48 fx
      have oF : Rl.Ok k F := by rw [hF]; exact common_ok _ P.out.2.2.1
      have hstep : commonF k C (l.take (j + 1)) = G := by rw [common_take hx, ← hF, ← htt, ← hG]
      rw [← hF] at hh
      have cN := (hh.at 0 rfl).num
      have R0 := Lib.hid (And.intro hh (And.intro hb hBx))
      have Q := Lib.hid (And.intro htt (And.intro hG (And.intro fx (And.intro ot (And.intro oF hstep)))))
      clear hh hb hBx hF htt hG fx ot oF hstep hx hbl
      go_wp2_with fail
      with_reducible refine (total_full k B x c t Q.out.1 _ hk48 Q.out.2.2.1 R0.out.2.2).mono ?_
      rintro e v1 ⟨rfl, hb⟩
      have R1 := Lib.hid (And.intro (R0.out.1.step hb) (R0.out.2.1.trans (hb.mono R0.out.2.1.size)))
      clear hb
      go_wp2_with (first | (refine wpList_store_rel (by rfl) (.tmp 10) (.tmp 52) (by rfl) v1.heap.size k 0 t zeroR (by rfl) (by rfl) (RelAt.new v1 0 zeroR) ?_; intro v2 hR hg; have R2 := Lib.hid (And.intro (R1.out.1.push hR hg) (R1.out.2.trans ((below_push hg).mono R1.out.2.size))); clear hR hg) | (refine wpList_load_rel (by rfl) (.tmp 7) (by rfl) w5.heap.size k F (by rfl) (R2.out.1.at 1 rfl) ?_) | (refine wpList_load_rel (by rfl) (.tmp 10) (by rfl) v1.heap.size k t (by rfl) (R2.out.1.at 2 rfl) ?_))
      with_reducible refine (both_is k F t G Q.out.2.1 _ Q.out.2.2.2.2.1 Q.out.2.2.2.1).mono ?_
      rintro e v3 ⟨rfl, hb⟩
      have R3 := Lib.hid (And.intro (R2.out.1.step hb) (R2.out.2.trans (hb.mono R2.out.2.size)))
      clear hb
      go_wp2_with (first | (refine wpList_store_rel (by rfl) (.tmp 12) (.tmp 58) (by rfl) v3.heap.size k 0 G zeroR (by rfl) (by rfl) (RelAt.new v3 0 zeroR) ?_; intro v4 hR hg; have R4 := Lib.hid (And.intro (R3.out.1.push hR hg) (R3.out.2.trans ((below_push hg).mono R3.out.2.size))); clear hR hg) | (refine wpList_store_rel (by rfl) (.tmp 7) (.tmp 66) (by rfl) w5.heap.size k k G F (by rfl) (by rfl) (R4.out.1.at 1 rfl) ?_; intro v5 hR hg; have R5 := Lib.hid (And.intro (R4.out.1.put 1 rfl hR hg) (R4.out.2.grown hg R4.out.2.size (fun q e => by injection e with e; rw [← e]; exact Nat.le_refl _))); clear hR hg) | (refine wpList_load_rel (by rfl) (.tmp 12) (by rfl) v3.heap.size k G (by rfl) (R4.out.1.at 3 rfl) ?_))
      go_roundw
      case rel => exact ⟨j + 1, by omega, by go_num, by rw [Q.out.2.2.2.2.2]; exact Held.front (L := [(w.heap.size, (k : Int), A), (w5.heap.size, (k : Int), G)]) R5.out.1, R5.out.2⟩
      case measure => simp [intOf]; omega
    · obtain rfl : j = m := by omega
      have hall : l.take j = l := by rw [← L.out.2.1]; exact List.take_length
      rw [hall, P.out.2.2.2] at hh
      obtain ⟨b, off, B, c, rfl, hbl, hc, hBx⟩ := (H5.out.2.1.below hb (Nat.le_refl _)).cell (fun y hy => (L.out.2.2.1 y hy).len) L.out.2.2.2.1
      have R0 := Lib.hid (And.intro hh (And.intro (H5.out.2.2.below hb (Nat.le_refl _)) hBx))
      have g1 : ∀ (d : Nat) (os : Array Obj), (Go.Sort.grow (redrawn wr d) os).cell? ⟨b, off, none⟩ = some (.slice B k c) := fun d os => ((below_regrown wr d os).cell (p := ⟨b, off, none⟩) hbl).trans hc
      have Q := Lib.hid (And.intro (show (ints T).length = k by rw [ints_len]; exact L.out.2.2.2.2.2.len) (show (ints T).length ≤ maxLen by rw [ints_len, L.out.2.2.2.2.2.len]; unfold maxLen; omega))
      have GA := Lib.hid (And.intro (rel_class (hh.at 0 rfl)) (rel_class (hh.at 1 rfl)))
      clear hh hb hBx hc hall hbl
      go_wp2_with fail
      refine wp_region_quiet_below (by kernel_rfl) (by kernel_rfl) ?_
      repeat (first | (refine wpQuiet_load_rel (by rfl) _ (by rfl) w.heap.size k A (by rfl) GA.out.1 ?_) | (refine wpQuiet_load_rel (by rfl) _ (by rfl) w5.heap.size k X (by rfl) GA.out.2 ?_) | go_big_quiet_step (first | (go_at_call 25; with_reducible exact Calls.regrown_of (plus_is k A X P.out.1 _ E.out.2.2.1 (HT.out _ (R0.out.1.step (below_regrown _ _ _)).bel))) | (go_at_call 32; with_reducible exact Calls.regrown_of (ints_lit2 _ _ (ints T) k k _ _ _ Q.out.1 Q.out.1 Q.out.2 (R0.out.2.2.below (below_regrown _ _ _) (Nat.le_refl _)) (R0.out.2.1.below (below_regrown _ _ _) (Nat.le_refl _)))) | (go_at_call 45; with_reducible exact Calls.regrown_of (awake3_it _ (HT.out _ (R0.out.1.step (below_regrown _ _ _)).bel))) | fail) | quiet_step (first | (go_at_call 25; with_reducible exact Calls.regrown_of (plus_is k A X P.out.1 _ E.out.2.2.1 (HT.out _ (R0.out.1.step (below_regrown _ _ _)).bel))) | (go_at_call 32; with_reducible exact Calls.regrown_of (ints_lit2 _ _ (ints T) k k _ _ _ Q.out.1 Q.out.1 Q.out.2 (R0.out.2.2.below (below_regrown _ _ _) (Nat.le_refl _)) (R0.out.2.1.below (below_regrown _ _ _) (Nat.le_refl _)))) | (go_at_call 45; with_reducible exact Calls.regrown_of (awake3_it _ (HT.out _ (R0.out.1.step (below_regrown _ _ _)).bel))) | fail))
      refine wpQuiet_nil ?_
      intro W1 hw1
      have R1 := Lib.hid (R0.out.1.step (below_of_regrown hw1))
      clear hw1
      go_wp2_with fail
      go_ret
      exact ⟨rfl, R1.out.bel⟩
theorem orderCommon_any (n : Int) (f : Rl.Rows) (w : World) (z0 : Rl.Z f) (hT : Tab w) (hw : 0 < w.heap.size) :
    Calls Tryd.prog 16 #[.agg (relC n f)] w fun e w' => e = .returned (.bool true) ∧ Below w.heap.size w w' := by
  have oA : Rl.Ok (fineK n 6) (fineR (fineK n 6) f) := ok_fine (by have := fineK_le n 6; omega) f
  cases ht : Rl.topL (fineK n 6) (fineR (fineK n 6) f) with
  | none => exact common_none n f _ _ w rfl rfl oA z0 ht hT hw
  | some T => exact common_some n f _ _ T w rfl rfl oA z0 ht hT hw
end Go.Proofs.YtknjdfgmejobfaaDoor
