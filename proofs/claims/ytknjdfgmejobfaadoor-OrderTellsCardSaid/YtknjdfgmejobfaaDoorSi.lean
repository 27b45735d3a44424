/- package order: Total. -/
import Derived.Test.YtknjdfgmejobfaaDoorSh
namespace Go.Proofs.YtknjdfgmejobfaaDoor
open Go.RowKit Go.Shelf

/-! ### the relation of an order -/
theorem full_list {n : Nat} {L : List Nat} (hd : L.Nodup) (hr : ∀ a ∈ L, a < n) (hl : L.length = n) (a : Nat) (ha : a < n) : a ∈ L := by
  apply Classical.byContradiction
  intro hm
  have h1 : (a :: L).length ≤ (List.range n).length := List.Nodup.length_le_of_subset (List.nodup_cons.2 ⟨hm, hd⟩) fun x hx => by
    rcases List.mem_cons.1 hx with rfl | hx
    · exact List.mem_range.2 ha
    · exact List.mem_range.2 (hr x hx)
  simp at h1; omega
theorem setOf_ext {l : List Nat} (h : ∀ a ∈ l, a < 64) {S : BitVec 64} (hS : ∀ j, j < 64 → (S.getLsbD j = true ↔ j ∈ l)) : S = setOf l := by
  apply Bv.ext_get
  intro j hj
  rw [Bool.eq_iff_iff, hS j hj, setOf_bit h]
def totL (L : List Nat) : Rl.Rows := fun a => setOf (L.drop (L.idxOf a + 1))
/-- the rows of the first k items -/
def totK (L : List Nat) (k : Nat) : Rl.Rows := fun a => if L.idxOf a < k then setOf (L.drop (L.idxOf a + 1)) else 0#64
theorem totK_zero (L : List Nat) : totK L 0 = zeroR := by
  funext a
  unfold totK zeroR
  rw [if_neg (by omega)]
theorem totK_all (L : List Nat) : totK L L.length = totL L := by
  funext a
  unfold totK totL
  by_cases h : L.idxOf a < L.length
  · rw [if_pos h]
  · rw [if_neg h, List.drop_eq_nil_of_le (by omega)]; rfl
theorem idxOf_at {L : List Nat} (hd : L.Nodup) {k a : Nat} (h : L[k]? = some a) : L.idxOf a = k := by
  obtain ⟨hk, e⟩ := List.getElem?_eq_some_iff.1 h
  rw [← e]; exact hd.idxOf_getElem k hk
theorem totK_succ {L : List Nat} (hd : L.Nodup) {k a : Nat} (h : L[k]? = some a) : upd (totK L k) a (setOf (L.drop (k + 1))) = totK L (k + 1) := by
  have hi := idxOf_at hd h
  funext i
  unfold upd totK
  by_cases e : i = a
  · subst e; rw [if_pos rfl, hi, if_pos (by omega)]
  · rw [if_neg e]
    have hne : L.idxOf i ≠ k := by
      intro e2
      have hlt : L.idxOf i < L.length := by rw [e2]; exact (List.getElem?_eq_some_iff.1 h).1
      have h2 : L[L.idxOf i] = i := List.getElem_idxOf hlt
      have h3 := (List.getElem?_eq_some_iff.1 h).2
      apply e
      rw [← h2, ← h3]
      congr 1
    by_cases h2 : L.idxOf i < k
    · rw [if_pos h2, if_pos (by omega)]
    · rw [if_neg h2, if_neg (by omega)]
theorem setOf_drop {L : List Nat} (hd : L.Nodup) (hr : ∀ a ∈ L, a < 64) {k a : Nat} (h : L[k]? = some a) : setOf (L.drop k) &&& ~~~ Bv.bit a = setOf (L.drop (k + 1)) := by
  obtain ⟨hk, e⟩ := List.getElem?_eq_some_iff.1 h
  have hdr := List.drop_eq_getElem_cons hk
  rw [e] at hdr
  have hnd : (a :: L.drop (k + 1)).Nodup := by rw [← hdr]; exact hd.sublist (List.drop_sublist _ _)
  have ha : a < 64 := hr a (by rw [← e]; exact List.getElem_mem _)
  have h1 : ∀ x ∈ L.drop k, x < 64 := fun x hx => hr x (List.mem_of_mem_drop hx)
  have h2 : ∀ x ∈ L.drop (k + 1), x < 64 := fun x hx => hr x (List.mem_of_mem_drop hx)
  apply setOf_ext h2
  intro j hj
  rw [BitVec.getLsbD_and, Bool.and_eq_true, setOf_bit h1, BitVec.getLsbD_not, Bv.bit_get a j ha, hdr]
  simp only [List.mem_cons, Bool.and_eq_true, decide_eq_true_eq, Bool.not_eq_true', decide_eq_false_iff_not]
  constructor
  · rintro ⟨h3 | h3, _, h4⟩
    · exact absurd h3 h4
    · exact h3
  · intro h3
    refine ⟨.inr h3, hj, fun e => ?_⟩
    subst e
    exact (List.nodup_cons.1 hnd).1 h3
theorem setOf_below {n : Nat} {L : List Nat} (hn : n ≤ 48) (hd : L.Nodup) (hr : ∀ a ∈ L, a < n) (hl : L.length = n) : Rl.below (n : Int) = setOf L := by
  apply setOf_ext fun a ha => by have := hr a ha; omega
  intro j hj
  rw [Rl.below_getN n j hj, decide_eq_true_eq]
  exact ⟨full_list hd hr hl j, hr j⟩

def TotalOut (n : Int) (f : Rl.Rows) (err : Int) (w : World) (e : Ending) (w' : World) : Prop :=
  e = .returned (.tuple #[.agg (relC n f), .int .i64 err]) ∧ Below w.heap.size w w'

attribute [local go_sem] Bv.and_u Bv.or_u Bv.andNot_u Bv.wrap_sub1 Bv.eq0 Bv.ne0 Bv.wrap_pow Bv.wrap_powmin Bv.wrap_neg Bv.eq_u Bv.ne_u Bv.shr_min Bv.shr_pow Bv.tmod2 Bv.and1 Bv.wrap_add Bv.B1_eq1 Bv.B1_eq0 Bv.B1_ne1 Bv.B1_ne0
set_option maxRecDepth 100000 in
set_option maxHeartbeats 2000000 in
theorem total_no (n : Int) (A : Option Addr) (zs : List Int) (cap : Nat) (w : World) (hA : IntsAt w A zs) (hok : okL n zs = false) :
    Calls Tryd.prog 49 #[.int .i64 n, .slice A zs.length cap] w (TotalOut 0 zeroR 2 w) := by
  have hza := zero_arr
  have hzr := zero_rel
  have hbz := build_zero
  have H := Lib.hid (And.intro (RelAt.new w 0 zeroR) (And.intro ((Below.refl w.heap.size w).alloc (Nat.le_refl _) (.cells (relC 0 zeroR) 26)) (And.intro hA hok)))
  clear hA hok
  go_enter Tryd.func49, Tryd.ntmps49
  go_wp2_with fail
  have hpl := places_any n A zs cap _ (H.out.2.2.1.below H.out.2.1 (Nat.le_refl _))
  rw [H.out.2.2.2] at hpl
  refine hpl.mono ?_
  clear hpl
  rintro e w1 ⟨g, rfl, -, hb⟩
  have H1 := Lib.hid (And.intro (H.out.1.below hb H.out.1.lt) (And.intro (H.out.2.1.trans (hb.mono H.out.2.1.size)) (ArrAt.new w1 zeroI)))
  clear hb
  go_wp2_with (first | (refine wpList_store_arr (by rfl) (.tmp 6) (.tmp 16) (by rfl) w1.heap.size g zeroI (by rfl) (by rfl) H1.out.2.2 ?_; intro w2 hR2 hg2; have H2 := Lib.hid (And.intro ((H1.out.1.alloc (.cells (arrC zeroI) 100)).kept hg2 (fun e => by injection e with e; have := H1.out.1.lt; omega)) ((H1.out.2.1.alloc H1.out.2.1.size (.cells (arrC zeroI) 100)).grown hg2 (by have := H1.out.2.1.size; simp; omega) (fun j e => by injection e with e; rw [← e]; exact H1.out.2.1.size))); clear hR2 hg2) | (refine wpList_store_rel (by rfl) (.tmp 4) (.tmp 20) (by rfl) w.heap.size 0 0 zeroR zeroR (by rfl) (by rfl) H2.out.1 ?_; intro w3 hR3 hg3))
  refine bodyPost_ret (results_rel_tmp rfl _ _ w.heap.size 0 zeroR rfl hR3) rfl ⟨rfl, H2.out.2.grown hg3 H2.out.2.size (fun j e => by injection e with e; omega)⟩
set_option maxRecDepth 100000 in
set_option maxHeartbeats 4000000 in
theorem total_yes (n : Nat) (A : Option Addr) (L : List Nat) (cap : Nat) (w : World) (hn : n ≤ 48) (hl : L.length = n) (hr : ∀ a ∈ L, a < n) (hd : L.Nodup) (hA : IntsAt w A (ints L)) (hok : okL n (ints L) = true) :
    Calls Tryd.prog 49 #[.int .i64 n, .slice A n cap] w (TotalOut n (totL L) 0 w) := by
  have hza := zero_arr
  have hzr := zero_rel
  have hbr := build_rel
  have H := Lib.hid (And.intro (RelAt.new w 0 zeroR) (And.intro ((Below.refl w.heap.size w).alloc (Nat.le_refl _) (.cells (relC 0 zeroR) 26)) (And.intro hA (And.intro hok (And.intro hr (And.intro hd hl))))))
  clear hA hok hr hd hl
  go_enter Tryd.func49, Tryd.ntmps49
  go_wp2_with fail
  have hpl := places_any n A (ints L) cap _ (H.out.2.2.1.below H.out.2.1 (Nat.le_refl _))
  rw [H.out.2.2.2.1, ints_len, H.out.2.2.2.2.2.2] at hpl
  refine hpl.mono ?_
  clear hpl
  rintro e w1 ⟨g, rfl, -, hb⟩
  have H1 := Lib.hid (And.intro (H.out.1.below hb H.out.1.lt) (And.intro (H.out.2.1.trans (hb.mono H.out.2.1.size)) (ArrAt.new w1 zeroI)))
  clear hb
  go_wp2_with (first | (refine wpList_store_arr (by rfl) (.tmp 6) (.tmp 16) (by rfl) w1.heap.size g zeroI (by rfl) (by rfl) H1.out.2.2 ?_; intro w2 hR2 hg2; have H2 := Lib.hid (And.intro ((H1.out.1.alloc (.cells (arrC zeroI) 100)).kept hg2 (fun e => by injection e with e; have := H1.out.1.lt; omega)) (And.intro ((H1.out.2.1.alloc H1.out.2.1.size (.cells (arrC zeroI) 100)).grown hg2 (by have := H1.out.2.1.size; simp; omega) (fun j e => by injection e with e; rw [← e]; exact H1.out.2.1.size)) (RelAt.new w2 0 zeroR))); clear hR2 hg2) | (refine wpList_store_rel (by rfl) (.tmp 8) (.tmp 22) (by rfl) w2.heap.size n 0 zeroR zeroR (by rfl) (by rfl) H2.out.2.2 ?_; intro w3 hR3 hg3; have H3 := Lib.hid (And.intro ((H2.out.1.alloc (.cells (relC 0 zeroR) 26)).kept hg3 (fun e => by injection e with e; have := H2.out.1.lt; omega)) (And.intro ((H2.out.2.1.alloc H2.out.2.1.size (.cells (relC 0 zeroR) 26)).grown hg3 (by have := H2.out.2.1.size; simp; omega) (fun j e => by injection e with e; rw [← e]; exact H2.out.2.1.size)) (And.intro hR3 (show w.heap.size < w2.heap.size from H2.out.1.lt)))); clear hR3 hg3))
  refine (all_is _ _ (allS_below n) _).mono ?_
  rintro e w4 ⟨rfl, rfl⟩
  go_wp2_with fail
  go_loopw [9, 27] (fun s i wr => ∃ k : Nat, k ≤ n ∧ i = .int .i64 k ∧ s = .int .u64 (Bv.U (setOf (L.drop k))) ∧ RelAt wr w.heap.size 0 zeroR ∧ RelAt wr w2.heap.size n (totK L k) ∧ Below w.heap.size w wr) (fun _ i _ => n - (intOf i).toNat)
  case atStart => exact ⟨0, Nat.zero_le _, rfl, by rw [List.drop_zero, setOf_below hn H.out.2.2.2.2.2.1 H.out.2.2.2.2.1 H.out.2.2.2.2.2.2], H3.out.1, by rw [totK_zero]; exact H3.out.2.2.1, H3.out.2.1⟩
  case round =>
    obtain ⟨k, hk, rfl, rfl, hR0, hR1, hb⟩ := hrel
    by_cases hlt : k < n
    · have hlen : k < (ints L).length := by rw [ints_len, H.out.2.2.2.2.2.2]; exact hlt
      obtain ⟨b, off, hAe, hbl, hc⟩ := (H.out.2.2.1.below hb (Nat.le_refl _)) (by omega)
      subst hAe
      have c1 := hc k hlen
      obtain ⟨a, ha⟩ : ∃ a, L[k]? = some a := ⟨L[k]'(by rw [H.out.2.2.2.2.2.2]; exact hlt), List.getElem?_eq_getElem _⟩
      rw [ints_get ha] at c1
      have han : a < n := H.out.2.2.2.2.1 a (List.mem_of_getElem? ha)
      have q0 : ¬ ((a : Int) < 0) := by omega
      have q1 : (a : Int) < 64 := by omega
      have q2 : (a : Int) < 48 := by omega
      have q3 : a < 48 := by omega
      have q4 : (0 : Int) ≤ (a : Int) := by omega
      have c2 := hR1.row a q3
      have f2 := hR1.free (1 + a)
      obtain ⟨S, hS⟩ : ∃ S, S = setOf (L.drop k) := ⟨_, rfl⟩
      have hset := hR1.set a (S &&& ~~~ Bv.bit a)
      have hS2 : S &&& ~~~ Bv.bit a = setOf (L.drop (k + 1)) := by rw [hS]; exact setOf_drop H.out.2.2.2.2.2.1 (fun x hx => by have := H.out.2.2.2.2.1 x hx; omega) ha
      rw [← hS]
      have hset2 : RelAt (wr.setCell ⟨w2.heap.size, 1 + a, none⟩ (.int .u64 (Bv.U (S &&& ~~~ Bv.bit a)))) w2.heap.size n (totK L (k + 1)) := by
        have h9 := hset
        rw [show upd (totK L k) a (S &&& ~~~ Bv.bit a) = totK L (k + 1) by rw [hS2]; exact totK_succ H.out.2.2.2.2.2.1 ha] at h9
        exact h9
      have HH := Lib.hid (And.intro (hR0.other ⟨w2.heap.size, 1 + a, none⟩ (.int .u64 (Bv.U (S &&& ~~~ Bv.bit a))) (by show w.heap.size ≠ w2.heap.size; have := H3.out.2.2.2; omega)) (And.intro hset2 (And.intro (hb.setCell (p := ⟨w2.heap.size, 1 + a, none⟩) (by show w.heap.size ≤ w2.heap.size; have := H3.out.2.2.2; omega) (.int .u64 (Bv.U (S &&& ~~~ Bv.bit a)))) hS2)))
      clear hR0 hR1 hb hc hset hset2 hS hS2 ha hbl hlen
      go_wp2_with fail
      go_roundw
      case rel => exact ⟨k + 1, by omega, by go_num, by rw [HH.out.2.2.2], HH.out.1, HH.out.2.1, HH.out.2.2.1⟩
      case measure => simp [intOf]; omega
    · obtain rfl : k = n := by omega
      have hfin : totK L k = totL L := by rw [← totK_all L, H.out.2.2.2.2.2.2]
      rw [hfin] at hR1
      have HH := Lib.hid (And.intro hR0 (And.intro hR1 hb))
      clear hR0 hR1 hb hfin
      go_wp2_with (first | (refine wpList_load_rel (by rfl) (.tmp 8) (by rfl) w2.heap.size k (totL L) (by rfl) HH.out.2.1 ?_) | (refine wpList_store_rel (by rfl) (.tmp 4) (.tmp 40) (by rfl) w.heap.size k 0 (totL L) zeroR (by rfl) (by rfl) HH.out.1 ?_; intro w5 hR5 hg5))
      refine bodyPost_ret (results_rel_tmp rfl _ _ w.heap.size k (totL L) rfl hR5) rfl ⟨rfl, HH.out.2.2.grown hg5 HH.out.2.2.size (fun j e => by injection e with e; omega)⟩
/-- the items of a list, as numbers -/
def natL (zs : List Int) : List Nat := zs.map Int.toNat
theorem ints_natL {zs : List Int} (h : ∀ z ∈ zs, 0 ≤ z) : ints (natL zs) = zs := by
  unfold ints natL
  rw [List.map_map]
  have : ∀ z ∈ zs, ((fun k : Nat => (k : Int)) ∘ Int.toNat) z = z := fun z hz => by have := h z hz; simp; omega
  rw [List.map_congr_left this, List.map_id']
theorem okL_nat (n : Int) (L : List Nat) : okL n (ints L) = true ↔ ∃ m : Nat, n = m ∧ m ≤ 48 ∧ L.length = m ∧ (∀ a ∈ L, a < m) ∧ L.Nodup := by
  unfold okL
  rw [Bool.and_eq_true, decide_eq_true_eq, decide_eq_true_eq, ints_len]
  constructor
  · rintro ⟨⟨h0, h1, h2⟩, h3, h4⟩
    refine ⟨L.length, h2.symm, by omega, rfl, fun a ha => ?_, ?_⟩
    · have := h3 (a : Int) (List.mem_map.2 ⟨a, ha, rfl⟩); omega
    · unfold ints at h4
      exact (List.pairwise_map.1 h4).imp fun h e => h (by rw [e])
  · rintro ⟨m, rfl, h1, h2, h3, h4⟩
    refine ⟨⟨by omega, by omega, by omega⟩, fun z hz => ?_, ?_⟩
    · obtain ⟨a, ha, rfl⟩ := List.mem_map.1 hz
      have := h3 a ha; omega
    · unfold ints
      exact List.pairwise_map.2 (h4.imp fun h e => h (by omega))
theorem okL_parts {n : Int} {zs : List Int} (h : okL n zs = true) : ∃ m : Nat, n = m ∧ m ≤ 48 ∧ zs = ints (natL zs) ∧ (natL zs).length = m ∧ (∀ a ∈ natL zs, a < m) ∧ (natL zs).Nodup := by
  have h2 := h
  unfold okL at h2
  rw [Bool.and_eq_true, decide_eq_true_eq, decide_eq_true_eq] at h2
  have e := ints_natL (zs := zs) fun z hz => (h2.2.1 z hz).1
  rw [← e] at h
  obtain ⟨m, h3⟩ := (okL_nat n (natL zs)).1 h
  exact ⟨m, h3.1, h3.2.1, e.symm, h3.2.2⟩
def totalN (n : Int) (zs : List Int) : Int := if okL n zs then n else 0
def totalF (n : Int) (zs : List Int) : Rl.Rows := if okL n zs then totL (natL zs) else zeroR
def totalE (n : Int) (zs : List Int) : Int := if okL n zs then 0 else 2
theorem total_any (n : Int) (A : Option Addr) (zs : List Int) (cap : Nat) (w : World) (hA : IntsAt w A zs) :
    Calls Tryd.prog 49 #[.int .i64 n, .slice A zs.length cap] w (TotalOut (totalN n zs) (totalF n zs) (totalE n zs) w) := by
  unfold totalN totalF totalE
  cases h : okL n zs
  · exact total_no n A zs cap w hA h
  · obtain ⟨m, rfl, h1, h2, h3, h4, h5⟩ := okL_parts h
    have hA2 := hA
    rw [h2] at hA2
    have hh := h
    rw [h2] at hh
    have := total_yes m A (natL zs) cap w h1 h3 h4 h5 hA2 hh
    rw [show zs.length = m by rw [← h3]; simp [natL]]
    exact this
end Go.Proofs.YtknjdfgmejobfaaDoor
