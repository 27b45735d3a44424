/- layer 1's law: the walk of MarksAll. -/
import Derived.Test.YtjnoiahkbdoejaaDoorMw
import Derived.Deep.AppendLies
import Derived.Deep.RegionLawGrows
import Derived.OwnWalk
import Derived.Laws.AppendOwnNone
import Derived.Laws.OwnMore
import Derived.Deep.RegionHeld3
import Derived.Lib.QuietBelow
namespace Go.Proofs.YtjnoiahkbdoejaaDoor
open Go.RowKit Go.Shelf

attribute [local go_sem] Bv.and_u Bv.or_u Bv.andNot_u Bv.wrap_sub1 Bv.eq0 Bv.ne0 Bv.wrap_pow Bv.wrap_powmin Bv.wrap_neg Bv.eq_u Bv.ne_u
theorem allS_card (n : Int) : ((Bx.card (allS n) : Nat) : Int) = min (max n 0) 64 := by
  have h : Bx.card (allS n) = min n.toNat 64 := by
    have e : Bx.card (allS n) = Bx.rank (allS n) 64 := rfl
    rw [e]
    have key : ∀ k, k ≤ 64 → Bx.rank (allS n) k = min n.toNat k := by
      intro k
      induction k with
      | zero => intro _; simp [Bx.rank_zero]
      | succ k ih =>
        intro hk
        have hg := allS_get n k (by omega)
        by_cases hkn : (k : Int) < n
        · rw [decide_eq_true hkn] at hg
          rw [Bx.rank_hit _ k hg, ih (by omega)]; omega
        · rw [decide_eq_false hkn] at hg
          rw [Bx.rank_miss _ k hg, ih (by omega)]; omega
    exact key 64 (Nat.le_refl _)
  rw [h]; omega
theorem allS_succ (n : Int) (h0 : 0 ≤ n) (h : n < 64) : allS (n + 1) = allS n ||| Bv.bit n.toNat := by
  apply Bv.ext_get
  intro i hi
  rw [BitVec.getLsbD_or, allS_get _ _ hi, allS_get _ _ hi, Bv.bit_get n.toNat i (by omega), Bool.eq_iff_iff]
  simp; omega


theorem oneCell_ints (zs : List Int) : ∀ u ∈ intsV zs, u.oneCell' = true := by
  intro u hu
  obtain ⟨z, _, rfl⟩ := List.mem_map.1 hu
  rfl
theorem IntsAt.add {w : World} {ad : Addr} {zs : List Int} (h : IntsAt w (some ad) zs) : ∀ j u, (intsV zs)[j]? = some u → w.cell? (ad.add j) = some u := by
  intro j u hu
  have hj : j < zs.length := by have := (List.getElem?_eq_some_iff.1 hu).1; simpa [intsV] using this
  obtain ⟨b, off, e, _, hc⟩ := h (by omega)
  cases e
  have hadd : (⟨b, off, none⟩ : Addr).add j = ⟨b, off + j, none⟩ := by unfold Addr.add; split <;> simp_all
  rw [hadd, hc j hj]
  simp [intsV, hj] at hu
  subst hu
  simp [List.getD_eq_getElem?_getD, hj]
theorem tail_cells {W : World} {base : Nat} {e : TypeId} {g cap k : Nat} {zs : List Int} (hk : k ≤ zs.length) (h : W.ownsRow base e 1 (.slice (some ⟨g, 0, none⟩) zs.length cap) zs.length (intsV zs)) :
    ∀ j u, (intsV (zs.drop k))[j]? = some u → W.cell? ((⟨g, k, none⟩ : Addr).add j) = some u := by
  intro j u hu
  have hadd : (⟨g, k, none⟩ : Addr).add j = ⟨g, k + j, none⟩ := by unfold Addr.add; split <;> simp_all
  have hj : j < zs.length - k := by have := (List.getElem?_eq_some_iff.1 hu).1; simpa [intsV] using this
  rw [hadd, h.cellAt (k + j) (by omega)]
  rw [← hu]
  simp [intsV, List.getElem?_drop]
theorem head_cells {W : World} {base : Nat} {e : TypeId} {g cap k : Nat} {zs : List Int} (hk : k ≤ zs.length) (h : W.ownsRow base e 1 (.slice (some ⟨g, 0, none⟩) zs.length cap) zs.length (intsV zs)) :
    ∀ b : Addr, some (⟨g, 0, none⟩ : Addr) = some b → ∀ j u, (intsV (zs.take k))[j]? = some u → W.cell? (b.add j) = some u := by
  intro b hb j u hu
  cases hb
  have hadd : (⟨g, 0, none⟩ : Addr).add j = ⟨g, 0 + j, none⟩ := by unfold Addr.add; split <;> simp_all
  have hj : j < k := by have := (List.getElem?_eq_some_iff.1 hu).1; simp [intsV] at this; omega
  rw [hadd, h.cellAt (0 + j) (by omega), ← hu]
  simp [intsV, List.getElem?_take, hj]
theorem one_cons (x : Int) (zs : List Int) : ∀ u ∈ [Value.int .i64 x] ++ intsV zs, u.oneCell' = true := by
  intro u hu
  rcases List.mem_append.1 hu with h | h
  · simp at h; subst h; rfl
  · exact oneCell_ints zs u h
theorem ofOk_bad (a b : List Int) (x : Int) (h : inB x = false) : ofOk (a ++ x :: b) = false := by
  unfold ofOk; rw [List.all_append, List.all_cons, h]; simp
/-- append of ints that lie somewhere, nil or not -/
theorem wpList_append_src {P : Program} {w : World} {ops : Array Oper} {rest : List Oper} {o : Oper} {a : Act} {Q : Exit → Act → World → Prop} (hgd : o.guard = none) (s x : Operand) (t : TypeId)
    (ho : o.op = .call { callee := .builtin .append, args := #[s, x], argTypes := #[t, t] })
    (base : Nat) (e : TypeId) (i : TypeInfo) (z : Value) (ht : P.underlying t = some (.slice e)) (hi : P.info? e = some i) (hz : i.zero = some z)
    (hsize : i.size = 1) (hby : i.bytes = 8) (hzs : z.cells.size = 1)
    (v : Value) (n : Nat) (xs : List Value) (hs : a.eval s = v) (hown : w.ownsRow base e 1 v n xs)
    (A : Option Addr) (zs : List Int) (c : Nat) (hx : a.eval x = .slice A zs.length c) (hnil : A = none → zs.length = 0 ∧ c = 0) (hA : IntsAt w A zs)
    (h63 : n + zs.length ≤ maxLen) (hbytes : (n + zs.length) * 8 ≤ 140737488355328) (hbase : base ≤ w.heap.size)
    (h : ∀ v' w', w'.ownsRow base e 1 v' (n + zs.length) (xs ++ intsV zs) → w.grownBy w' v.ownBlock → (v' = .slice none 0 0 ↔ v = .slice none 0 0 ∧ zs.length = 0) → wpList P ops Q rest (a.put o.dst v') w') : wpList P ops Q (o :: rest) a w := by
  cases A with
  | none =>
    obtain ⟨h0, rfl⟩ := hnil rfl
    obtain rfl : zs = [] := List.eq_nil_of_length_eq_zero h0
    refine wpList_append_own_none hgd s x t ho base e i 1 ht hi v n xs hs hown hx (h v w (by simpa [intsV] using hown) ⟨rfl, rfl, rfl, Nat.le_refl _, fun _ _ _ => rfl⟩ (by simp))
  | some ad =>
    exact wpList_append_own w hgd s x t ho base e i z 1 8 ht hi hz hsize hby hzs (by decide) v n xs hs hown ad zs.length c (intsV zs) hx (by simp [intsV]) hA.add (oneCell_ints zs) h63 hbytes hbase h
/-- one append of a region that draws, the value left open -/
theorem step_append_own {P : Program} {w : World} {ops : Array Oper} {o : Oper} {a : Act} {K : Act → World → Prop} {Q : Exit → Act → World → Prop} {E : Prop} (hgd : o.guard = none) (s x : Operand) (t : TypeId)
    (ho : o.op = .call { callee := .builtin .append, args := #[s, x], argTypes := #[t, t] })
    (base : Nat) (e : TypeId) (i : TypeInfo) (z : Value) (size bytes : Nat) (ht : P.underlying t = some (.slice e)) (hi : P.info? e = some i) (hz : i.zero = some z)
    (hsize : i.size = size) (hby : i.bytes = bytes) (hzs : z.cells.size = size) (hsz : 0 < size)
    (v : Value) (n : Nat) (xs : List Value) (hs : a.eval s = v) (hown : w.ownsRow base e size v n xs)
    (ad : Addr) (m c : Nat) (news : List Value) (hx : a.eval x = .slice (some ad) m c) (hl : news.length = m * size) (hnews : ∀ j u, news[j]? = some u → w.cell? (ad.add j) = some u) (h1 : ∀ u ∈ news, u.oneCell' = true)
    (h63 : n + m ≤ maxLen) (hbytes : (n + m) * bytes ≤ 140737488355328) (hbase : base ≤ w.heap.size) (hn : 0 < n)
    (h : ∀ g cap w', w'.ownsRow base e size (.slice (some ⟨g, 0, none⟩) (n + m) cap) (n + m) (xs ++ news) → w.grownBy w' v.ownBlock → g < w'.heap.size → K (a.put o.dst (.slice (some ⟨g, 0, none⟩) (n + m) cap)) w') :
    if Region.wanted o (yielded ops a.tmps) = true then Oper.wp P o a w K Q else E := by
  have hw : Region.wanted o (yielded ops a.tmps) = true := by simp [Region.wanted, hgd]
  rw [if_pos hw]
  exact wp_append_own w s x t ho base e i z size bytes ht hi hz hsize hby hzs hsz v n xs hs hown ad m c news hx hl hnews h1 h63 hbytes hbase fun v' w' h2 h3 _ => by
    obtain ⟨g, cap, rfl, _, hlt⟩ := h2.form (by omega)
    exact h g cap w' h2 h3 hlt

set_option maxRecDepth 100000 in
set_option maxHeartbeats 4000000 in
theorem marksAll_neg (n : Int) (A : Option Addr) (zs : List Int) (cap : Nat) (c : Int) (w : World) (hn : n < 0) (hA : IntsAt w A zs) (hm : zs.length ≤ maxLen) (hnil : A = none → zs.length = 0 ∧ cap = 0) (c0 : 0 ≤ c) (c1 : c ≤ 255) (hT : Tab w) (hw : 0 < w.heap.size) :
    Calls Tryd.prog 9 #[.int .i64 n, .slice A zs.length cap, .int .u8 c] w fun e w' => e = .returned (.bool true) ∧ Below w.heap.size w w' := by
  have hTl : ∀ W, Below w.heap.size w W → Tab W ∧ 0 < W.heap.size := fun W h => ⟨hT.below h hw, Nat.lt_of_lt_of_le hw h.size⟩
  have HT := Lib.hid hTl
  have B0 := Lib.hid (Below.refl w.heap.size w)
  clear hTl hT
  obtain ⟨t, ht⟩ : ∃ t, allS n = t := ⟨_, rfl⟩
  obtain ⟨N, hcard⟩ : ∃ N, Bx.card t = N := ⟨_, rfl⟩
  have hne : ((N : Int) != 0) = false := by
    have h1 := allS_card n
    rw [ht, hcard] at h1
    have h2 : (N : Int) = 0 := by omega
    rw [h2]; rfl
  have H := Lib.hid (And.intro ht (And.intro hcard ht))
  have d1 : decide (n < 64) = true := decide_eq_true (by omega)
  have d2 : decide (0 ≤ n) = false := decide_eq_false (by omega)
  clear ht hcard
  obtain ⟨i0, hi, hz0, hz1, hz2⟩ := info_parts infoInt
  have HA := Lib.hid hA
  clear hA
  unfold maxLen at hm
  by_cases hlong : 50 < zs.length
  all_goals
    go_enter Tryd.func9, Tryd.ntmps9
    go_wp2_with fail
    refine (all_is _ _ H.out.1 _).mono ?_
    rintro e w' ⟨rfl, rfl⟩
    go_wp2_with fail
    refine wp_region_quiet_below (by kernel_rfl) (by kernel_rfl) ?_
    repeat (first | go_big_quiet_step (first | (go_at_call 18; exact Calls.regrown_of (len_card _ _ H.out.2.1 _ (HT.out _ (B0.out.trans (below_regrown _ _ _))).1 (HT.out _ (B0.out.trans (below_regrown _ _ _))).2)) | (go_at_call 13; exact Calls.regrown_of ((all_is _ _ H.out.2.2 _).mono fun e w' h => ⟨h.1, by rw [h.2]; exact Below.refl _ _⟩))) | quiet_step (first | (go_at_call 18; exact Calls.regrown_of (len_card _ _ H.out.2.1 _ (HT.out _ (B0.out.trans (below_regrown _ _ _))).1 (HT.out _ (B0.out.trans (below_regrown _ _ _))).2)) | (go_at_call 13; exact Calls.regrown_of ((all_is _ _ H.out.2.2 _).mono fun e w' h => ⟨h.1, by rw [h.2]; exact Below.refl _ _⟩))))
    refine wpQuiet_nil ?_
    intro W1 hw1
    have B1 : Hid (Below w.heap.size w W1) := by obtain ⟨⟨d, os⟩, rfl⟩ := hw1; exact Lib.hid (below_regrown _ _ _)
    clear hw1
  · go_wp2_with fail
    refine (awake_any _ (HT.out _ B1.out).1 (HT.out _ B1.out).2).mono ?_
    rintro e w2 ⟨rfl, hb⟩
    have B2 := Lib.hid (B1.out.trans (hb.mono B1.out.size))
    clear hb B1
    go_wp2_with fail
    go_ret
    exact ⟨rfl, B2.out⟩
  · have hs1 : w.heap.size ≤ W1.heap.size := B1.out.size
    have hrow0 : (W1.alloc (.cells #[] 3)).ownsRow w.heap.size 3 1 (.slice (some ⟨W1.heap.size, 0, none⟩) 0 0) 0 [] := World.ownsRow_made W1 #[] 0 hs1 (Nat.zero_le _) rfl
    have hA1 : IntsAt (W1.alloc (.cells #[] 3)) A zs := HA.out.below (B1.out.alloc hs1 _) (Nat.le_refl _)
    obtain ⟨k, hk⟩ : ∃ k : Nat, k = (c % ((zs.length : Int) + 1)).toNat := ⟨_, rfl⟩
    have hkz : c % ((zs.length : Int) + 1) = (k : Int) := by rw [hk]; have := Int.emod_nonneg c (show (zs.length : Int) + 1 ≠ 0 by omega); omega
    have hkn : k ≤ zs.length := by have := Int.emod_lt_of_pos c (show (0 : Int) < (zs.length : Int) + 1 by omega); omega
    have HL := Lib.hid (And.intro hrow0 hA1)
    clear hk hrow0 hA1
    go_wp2_with (at_builtin; refine wpList_append_src rfl _ _ 24 rfl w.heap.size 3 i0 (.int .i64 0) Tryd.underlying24 hi hz0 hz1 hz2 rfl _ 0 [] rfl HL.out.1 A zs cap rfl hnil HL.out.2 (by unfold maxLen; omega) (by omega) (by simp; omega) ?_; intro v' w2 hown hgrow hnn)
    have hvn : v' ≠ .slice none 0 0 := fun e => by have h1 := (hnn.1 e).1; injection h1 with h2; cases h2
    obtain ⟨g, capb, hv, hcap⟩ : ∃ g capb, v' = .slice (some ⟨g, 0, none⟩) (0 + zs.length) capb ∧ 0 + zs.length ≤ capb := by
      rcases hown.2 with ⟨h1, _⟩ | ⟨g, cp, _, h1, _, _, h2, _⟩
      · exact absurd h1 hvn
      · exact ⟨g, cp, h1, h2⟩
    subst hv
    rw [hkz]
    have hcap' : zs.length ≤ capb := by omega
    have hsz2 : w.heap.size ≤ w2.heap.size := by have := hgrow.size; simp at this; omega
    have hbw2 : Below w.heap.size w w2 := (B1.out.alloc hs1 _).grown hgrow (by simp; omega) (fun j e => by injection e with e; subst e; exact hs1)
    have q0 : (0 : Int) ≤ (k : Int) := by omega
    have q1 : (k : Int) ≤ (zs.length : Int) := by omega
    have q2 : (k : Int) ≤ (capb : Int) := by omega
    have q3 : (zs.length : Int) ≤ (capb : Int) := by omega
    have q4 : IntKind.i64.wrap (64 + (k : Int)) = 64 + (k : Int) := IntWalk.i64_in _ (by omega)
    simp only [Nat.zero_add, List.nil_append] at hown
    have HO := Lib.hid hown
    have HB2 := Lib.hid hbw2
    have hS0 : w2.ownsRow w.heap.size 3 1 (.slice (some ⟨g, 0, none⟩) zs.length capb) zs.length (intsV zs) := HO.out
    clear hgrow hnn hvn hkz hown hbw2
    simp only [Nat.zero_add]
    have hlit := World.ownsRow_lit (base := w.heap.size) (e := 3) (size := 1) w2 #[.int .i64 (64 + (k : Int))] 1 hsz2 (by unfold maxLen; omega) rfl
    have HLIT := Lib.hid hlit
    clear hlit
    have hgl : g < w2.heap.size := by
      rcases HO.out.2 with ⟨h1, _⟩ | ⟨g', _, _, h1, _, h2, _⟩
      · cases h1
      · injection h1 with h3; injection h3 with h4; injection h4 with h5; subst h5; exact (Array.getElem?_eq_some_iff.1 h2).1
    obtain ⟨ad, had, hnews⟩ : ∃ ad : Addr, (if capb = k then some (⟨g, 0, none⟩ : Addr) else some ⟨g, k, none⟩) = some ad ∧ ∀ W : World, W.ownsRow w.heap.size 3 1 (.slice (some ⟨g, 0, none⟩) zs.length capb) zs.length (intsV zs) → ∀ j u, (intsV (zs.drop k))[j]? = some u → W.cell? (ad.add j) = some u := by
      by_cases e : capb = k
      · refine ⟨⟨g, 0, none⟩, by rw [if_pos e], fun W _ j u hu => ?_⟩
        have : zs.drop k = [] := List.drop_eq_nil_of_le (by omega)
        rw [this] at hu; simp [intsV] at hu
      · exact ⟨⟨g, k, none⟩, by rw [if_neg e], fun _ h => tail_cells hkn h⟩
    have HN := Lib.hid hnews
    clear hnews
    go_region_held3 (fun w' => w'.ownsRow w.heap.size 3 1 (.slice (some ⟨g, 0, none⟩) zs.length capb) zs.length (intsV zs))
      (first | assumption | exact World.ownsRow.kept (by assumption) hgrow3 (.inr (by simp [Value.ownBlock]; omega)) | exact World.ownsRow.drew (by assumption) | exact World.ownsRow.alloc (by assumption) _ | exact World.ownsRow.kept (by assumption) hgrow4 (.inr (by simp [Value.ownBlock])))
      (first | (refine step_append_own (by rfl) (.tmp 59) (.tmp 62) 24 (by rfl) w.heap.size 3 i0 _ 1 8 Tryd.underlying24 hi hz0 hz1 hz2 rfl (by decide) (.slice (some ⟨w2.heap.size, 0, none⟩) 1 1) 1 [.int .i64 (64 + (k : Int))] (by rfl) (HLIT.out.drew) ad (zs.length - k) (capb - k) (intsV (zs.drop k)) (by rfl) (by simp [intsV]) (HN.out _ (HO.out.alloc _).drew) (oneCell_ints _) (by unfold maxLen; omega) (by omega) (by simp; omega) (by omega) ?_; intro g1 cap1 w3 hown3 hgrow3 hlt3) | (refine step_append_grows (by rfl) (.tmp 56) (.tmp 63) 24 (by rfl) 3 i0 _ 1 8 Tryd.underlying24 hi hz0 hz1 hz2 rfl (by decide) (some ⟨g, 0, none⟩) k k (intsV (zs.take k)) (by rfl) (fun h => by cases h) (by simp [intsV]; omega) (head_cells hkn (by assumption)) ⟨g1, 0, none⟩ (1 + (zs.length - k)) cap1 ([.int .i64 (64 + (k : Int))] ++ intsV (zs.drop k)) (by rfl) (by simp [intsV]; omega) (hown3.cells rfl) (one_cons _ _) (by omega) (by unfold maxLen; omega) (by omega) ?_; intro v4 w4 hown4 hgrow4; obtain ⟨g4, cap4, rfl, hg4, hlt4⟩ := hown4.form (by omega)))
    obtain ⟨bads, hbads⟩ : ∃ bads : List Int, bads = zs.take k ++ (64 + (k : Int)) :: zs.drop k := ⟨_, rfl⟩
    have hblen : bads.length = k + (1 + (zs.length - k)) := by rw [hbads]; simp; omega
    have hbok : ofOk bads = false := by rw [hbads]; exact ofOk_bad _ _ _ (by unfold inB; simp; omega)
    have hbok2 : ofOk (bads.set k (-1 - (k : Int))) = false := by
      rw [hbads, List.set_append_right _ _ (by simp; omega)]
      have : k - (zs.take k).length = 0 := by simp; omega
      rw [this]; exact ofOk_bad _ _ _ (by unfold inB; simp; omega)
    have hvs : intsV (zs.take k) ++ ([Value.int .i64 (64 + (k : Int))] ++ intsV (zs.drop k)) = intsV bads := by rw [hbads]; simp [intsV]
    rw [hvs] at hown4
    have hB4 : Below w.heap.size w w4 := ((HB2.out.alloc hsz2 (.cells #[.int .i64 (64 + (k : Int))] 3)).drew.grown hgrow3 (by simp; omega) (fun j e => by injection e with e; subst e; exact hsz2)).grown hgrow4 (by have := hgrow3.size; simp at this; omega) (fun j e => by cases e)
    have hg4' : w.heap.size ≤ g4 := by have := hgrow3.size; simp at this; omega
    obtain ⟨m, hm4⟩ : ∃ m, m = k + (1 + (zs.length - k)) := ⟨_, rfl⟩
    rw [← hm4] at hown4 hblen ⊢
    have hkm : (k : Int) < (m : Int) := by omega
    have hstored := hown4.stored k (.int .i64 (-1 - (k : Int)))
    have hcell := hown4.cellAt k (by omega)
    have hfroz := hown4.frozenAt k
    have hck : (intsV bads)[k]? = some (.int .i64 (64 + (k : Int))) := by
      rw [hbads]; unfold intsV
      rw [List.getElem?_map, List.getElem?_append_right (by simp; omega)]
      have : k - (zs.take k).length = 0 := by simp; omega
      rw [this]; rfl
    rw [hck] at hcell
    have hat4 : IntsAt w4 (some ⟨g4, 0, none⟩) bads := by
      obtain ⟨A', cap', e1, e2, _, e3⟩ := row_zs hown4
      injection e1 with e4; rw [e4]; exact e3
    have hset : (intsV bads).set k (.int .i64 (-1 - (k : Int))) = intsV (bads.set k (-1 - (k : Int))) := by simp [intsV]
    have hat5 : IntsAt (w4.setCell ⟨g4, k, none⟩ (.int .i64 (-1 - (k : Int)))) (some ⟨g4, 0, none⟩) (bads.set k (-1 - (k : Int))) := by
      have h5 := hstored.1
      rw [hset] at h5
      obtain ⟨A', cap', e1, e2, _, e3⟩ := row_zs h5
      injection e1 with e4; rw [e4]; exact e3
    have hB5 : Below w.heap.size w (w4.setCell ⟨g4, k, none⟩ (.int .i64 (-1 - (k : Int)))) := hB4.setCell (p := ⟨g4, k, none⟩) hg4' _
    have hmm : m ≤ 51 := by omega
    have q6 : IntKind.i64.wrap (-1 - (k : Int)) = -1 - (k : Int) := IntWalk.i64_in _ (by omega)
    have HX := Lib.hid (And.intro hblen (And.intro hbok (And.intro hbok2 (And.intro hat4 (And.intro hat5 hB5)))))
    clear hblen hbok hbok2 hat4 hat5 hB5 hB4 hstored hset hvs hbads hck hm4 hown4 hown3 hgrow3 hgrow4 HO HN HLIT HB2 had B1 HL
    go_wp2_with fail
    refine (of_is _ bads m cap4 HX.out.1 (by unfold maxLen; omega) 0#64 2 (by unfold ofS; rw [HX.out.2.1]; rfl) (by unfold ofE; rw [HX.out.2.1]; rfl) _ HX.out.2.2.2.1).mono ?_
    rintro e w5 ⟨rfl, rfl⟩
    go_wp2_with fail
    refine (of_is _ (bads.set k (-1 - (k : Int))) m cap4 (by rw [List.length_set]; exact HX.out.1) (by unfold maxLen; omega) 0#64 2 (by unfold ofS; rw [HX.out.2.2.1]; rfl) (by unfold ofE; rw [HX.out.2.2.1]; rfl) _ HX.out.2.2.2.2.1).mono ?_
    rintro e w6 ⟨rfl, rfl⟩
    go_wp2_with fail
    refine (awake_any _ (HT.out _ HX.out.2.2.2.2.2).1 (HT.out _ HX.out.2.2.2.2.2).2).mono ?_
    rintro e w7 ⟨rfl, hb⟩
    have B7 := Lib.hid (HX.out.2.2.2.2.2.trans (hb.mono HX.out.2.2.2.2.2.size))
    clear hb
    go_wp2_with fail
    go_ret
    exact ⟨rfl, B7.out⟩
set_option maxRecDepth 100000 in
set_option maxHeartbeats 4000000 in
theorem marksAll_big (n : Int) (A : Option Addr) (zs : List Int) (cap : Nat) (c : Int) (w : World) (hn : 64 ≤ n) (hA : IntsAt w A zs) (hm : zs.length ≤ maxLen) (hnil : A = none → zs.length = 0 ∧ cap = 0) (c0 : 0 ≤ c) (c1 : c ≤ 255) (hT : Tab w) (hw : 0 < w.heap.size) :
    Calls Tryd.prog 9 #[.int .i64 n, .slice A zs.length cap, .int .u8 c] w fun e w' => e = .returned (.bool true) ∧ Below w.heap.size w w' := by
  have hTl : ∀ W, Below w.heap.size w W → Tab W ∧ 0 < W.heap.size := fun W h => ⟨hT.below h hw, Nat.lt_of_lt_of_le hw h.size⟩
  have HT := Lib.hid hTl
  have B0 := Lib.hid (Below.refl w.heap.size w)
  clear hTl hT
  obtain ⟨t, ht⟩ : ∃ t, allS n = t := ⟨_, rfl⟩
  obtain ⟨N, hcard⟩ : ∃ N, Bx.card t = N := ⟨_, rfl⟩
  obtain ⟨M2, hM2⟩ : ∃ M2, (if (64 : Int) < n then (64 : Int) else n) = M2 := ⟨_, rfl⟩
  have hne : ((N : Int) != M2) = false := by
    have h1 := allS_card n
    rw [ht, hcard] at h1
    have h2 : M2 = min (max n 0) 64 := by rw [← hM2]; split <;> omega
    rw [h1, h2]; simp
  have H := Lib.hid (And.intro ht (And.intro hcard ht))
  have d1 : decide (n < 64) = false := decide_eq_false (by omega)
  clear ht hcard
  obtain ⟨i0, hi, hz0, hz1, hz2⟩ := info_parts infoInt
  have HA := Lib.hid hA
  clear hA
  unfold maxLen at hm
  by_cases hlong : 50 < zs.length
  all_goals
    go_enter Tryd.func9, Tryd.ntmps9
    go_wp2_with fail
    refine (all_is _ _ H.out.1 _).mono ?_
    rintro e w' ⟨rfl, rfl⟩
    go_wp2_with fail
    refine wp_region_quiet_below (by kernel_rfl) (by kernel_rfl) ?_
    repeat (first | go_big_quiet_step (first | (go_at_call 18; exact Calls.regrown_of (len_card _ _ H.out.2.1 _ (HT.out _ (B0.out.trans (below_regrown _ _ _))).1 (HT.out _ (B0.out.trans (below_regrown _ _ _))).2)) | (go_at_call 13; exact Calls.regrown_of ((all_is _ _ H.out.2.2 _).mono fun e w' h => ⟨h.1, by rw [h.2]; exact Below.refl _ _⟩))) | quiet_step (first | (go_at_call 18; exact Calls.regrown_of (len_card _ _ H.out.2.1 _ (HT.out _ (B0.out.trans (below_regrown _ _ _))).1 (HT.out _ (B0.out.trans (below_regrown _ _ _))).2)) | (go_at_call 13; exact Calls.regrown_of ((all_is _ _ H.out.2.2 _).mono fun e w' h => ⟨h.1, by rw [h.2]; exact Below.refl _ _⟩))))
    refine wpQuiet_nil ?_
    intro W1 hw1
    have B1 : Hid (Below w.heap.size w W1) := by obtain ⟨⟨d, os⟩, rfl⟩ := hw1; exact Lib.hid (below_regrown _ _ _)
    clear hw1
  · go_wp2_with fail
    refine (awake_any _ (HT.out _ B1.out).1 (HT.out _ B1.out).2).mono ?_
    rintro e w2 ⟨rfl, hb⟩
    have B2 := Lib.hid (B1.out.trans (hb.mono B1.out.size))
    clear hb B1
    go_wp2_with fail
    go_ret
    exact ⟨rfl, B2.out⟩
  · have hs1 : w.heap.size ≤ W1.heap.size := B1.out.size
    have hrow0 : (W1.alloc (.cells #[] 3)).ownsRow w.heap.size 3 1 (.slice (some ⟨W1.heap.size, 0, none⟩) 0 0) 0 [] := World.ownsRow_made W1 #[] 0 hs1 (Nat.zero_le _) rfl
    have hA1 : IntsAt (W1.alloc (.cells #[] 3)) A zs := HA.out.below (B1.out.alloc hs1 _) (Nat.le_refl _)
    obtain ⟨k, hk⟩ : ∃ k : Nat, k = (c % ((zs.length : Int) + 1)).toNat := ⟨_, rfl⟩
    have hkz : c % ((zs.length : Int) + 1) = (k : Int) := by rw [hk]; have := Int.emod_nonneg c (show (zs.length : Int) + 1 ≠ 0 by omega); omega
    have hkn : k ≤ zs.length := by have := Int.emod_lt_of_pos c (show (0 : Int) < (zs.length : Int) + 1 by omega); omega
    have HL := Lib.hid (And.intro hrow0 hA1)
    clear hk hrow0 hA1
    go_wp2_with (at_builtin; refine wpList_append_src rfl _ _ 24 rfl w.heap.size 3 i0 (.int .i64 0) Tryd.underlying24 hi hz0 hz1 hz2 rfl _ 0 [] rfl HL.out.1 A zs cap rfl hnil HL.out.2 (by unfold maxLen; omega) (by omega) (by simp; omega) ?_; intro v' w2 hown hgrow hnn)
    have hvn : v' ≠ .slice none 0 0 := fun e => by have h1 := (hnn.1 e).1; injection h1 with h2; cases h2
    obtain ⟨g, capb, hv, hcap⟩ : ∃ g capb, v' = .slice (some ⟨g, 0, none⟩) (0 + zs.length) capb ∧ 0 + zs.length ≤ capb := by
      rcases hown.2 with ⟨h1, _⟩ | ⟨g, cp, _, h1, _, _, h2, _⟩
      · exact absurd h1 hvn
      · exact ⟨g, cp, h1, h2⟩
    subst hv
    rw [hkz]
    have hcap' : zs.length ≤ capb := by omega
    have hsz2 : w.heap.size ≤ w2.heap.size := by have := hgrow.size; simp at this; omega
    have hbw2 : Below w.heap.size w w2 := (B1.out.alloc hs1 _).grown hgrow (by simp; omega) (fun j e => by injection e with e; subst e; exact hs1)
    have q0 : (0 : Int) ≤ (k : Int) := by omega
    have q1 : (k : Int) ≤ (zs.length : Int) := by omega
    have q2 : (k : Int) ≤ (capb : Int) := by omega
    have q3 : (zs.length : Int) ≤ (capb : Int) := by omega
    have q4 : IntKind.i64.wrap (64 + (k : Int)) = 64 + (k : Int) := IntWalk.i64_in _ (by omega)
    simp only [Nat.zero_add, List.nil_append] at hown
    have HO := Lib.hid hown
    have HB2 := Lib.hid hbw2
    have hS0 : w2.ownsRow w.heap.size 3 1 (.slice (some ⟨g, 0, none⟩) zs.length capb) zs.length (intsV zs) := HO.out
    clear hgrow hnn hvn hkz hown hbw2
    simp only [Nat.zero_add]
    have hlit := World.ownsRow_lit (base := w.heap.size) (e := 3) (size := 1) w2 #[.int .i64 (64 + (k : Int))] 1 hsz2 (by unfold maxLen; omega) rfl
    have HLIT := Lib.hid hlit
    clear hlit
    have hgl : g < w2.heap.size := by
      rcases HO.out.2 with ⟨h1, _⟩ | ⟨g', _, _, h1, _, h2, _⟩
      · cases h1
      · injection h1 with h3; injection h3 with h4; injection h4 with h5; subst h5; exact (Array.getElem?_eq_some_iff.1 h2).1
    obtain ⟨ad, had, hnews⟩ : ∃ ad : Addr, (if capb = k then some (⟨g, 0, none⟩ : Addr) else some ⟨g, k, none⟩) = some ad ∧ ∀ W : World, W.ownsRow w.heap.size 3 1 (.slice (some ⟨g, 0, none⟩) zs.length capb) zs.length (intsV zs) → ∀ j u, (intsV (zs.drop k))[j]? = some u → W.cell? (ad.add j) = some u := by
      by_cases e : capb = k
      · refine ⟨⟨g, 0, none⟩, by rw [if_pos e], fun W _ j u hu => ?_⟩
        have : zs.drop k = [] := List.drop_eq_nil_of_le (by omega)
        rw [this] at hu; simp [intsV] at hu
      · exact ⟨⟨g, k, none⟩, by rw [if_neg e], fun _ h => tail_cells hkn h⟩
    have HN := Lib.hid hnews
    clear hnews
    go_region_held3 (fun w' => w'.ownsRow w.heap.size 3 1 (.slice (some ⟨g, 0, none⟩) zs.length capb) zs.length (intsV zs))
      (first | assumption | exact World.ownsRow.kept (by assumption) hgrow3 (.inr (by simp [Value.ownBlock]; omega)) | exact World.ownsRow.drew (by assumption) | exact World.ownsRow.alloc (by assumption) _ | exact World.ownsRow.kept (by assumption) hgrow4 (.inr (by simp [Value.ownBlock])))
      (first | (refine step_append_own (by rfl) (.tmp 59) (.tmp 62) 24 (by rfl) w.heap.size 3 i0 _ 1 8 Tryd.underlying24 hi hz0 hz1 hz2 rfl (by decide) (.slice (some ⟨w2.heap.size, 0, none⟩) 1 1) 1 [.int .i64 (64 + (k : Int))] (by rfl) (HLIT.out.drew) ad (zs.length - k) (capb - k) (intsV (zs.drop k)) (by rfl) (by simp [intsV]) (HN.out _ (HO.out.alloc _).drew) (oneCell_ints _) (by unfold maxLen; omega) (by omega) (by simp; omega) (by omega) ?_; intro g1 cap1 w3 hown3 hgrow3 hlt3) | (refine step_append_grows (by rfl) (.tmp 56) (.tmp 63) 24 (by rfl) 3 i0 _ 1 8 Tryd.underlying24 hi hz0 hz1 hz2 rfl (by decide) (some ⟨g, 0, none⟩) k k (intsV (zs.take k)) (by rfl) (fun h => by cases h) (by simp [intsV]; omega) (head_cells hkn (by assumption)) ⟨g1, 0, none⟩ (1 + (zs.length - k)) cap1 ([.int .i64 (64 + (k : Int))] ++ intsV (zs.drop k)) (by rfl) (by simp [intsV]; omega) (hown3.cells rfl) (one_cons _ _) (by omega) (by unfold maxLen; omega) (by omega) ?_; intro v4 w4 hown4 hgrow4; obtain ⟨g4, cap4, rfl, hg4, hlt4⟩ := hown4.form (by omega)))
    obtain ⟨bads, hbads⟩ : ∃ bads : List Int, bads = zs.take k ++ (64 + (k : Int)) :: zs.drop k := ⟨_, rfl⟩
    have hblen : bads.length = k + (1 + (zs.length - k)) := by rw [hbads]; simp; omega
    have hbok : ofOk bads = false := by rw [hbads]; exact ofOk_bad _ _ _ (by unfold inB; simp; omega)
    have hbok2 : ofOk (bads.set k (-1 - (k : Int))) = false := by
      rw [hbads, List.set_append_right _ _ (by simp; omega)]
      have : k - (zs.take k).length = 0 := by simp; omega
      rw [this]; exact ofOk_bad _ _ _ (by unfold inB; simp; omega)
    have hvs : intsV (zs.take k) ++ ([Value.int .i64 (64 + (k : Int))] ++ intsV (zs.drop k)) = intsV bads := by rw [hbads]; simp [intsV]
    rw [hvs] at hown4
    have hB4 : Below w.heap.size w w4 := ((HB2.out.alloc hsz2 (.cells #[.int .i64 (64 + (k : Int))] 3)).drew.grown hgrow3 (by simp; omega) (fun j e => by injection e with e; subst e; exact hsz2)).grown hgrow4 (by have := hgrow3.size; simp at this; omega) (fun j e => by cases e)
    have hg4' : w.heap.size ≤ g4 := by have := hgrow3.size; simp at this; omega
    obtain ⟨m, hm4⟩ : ∃ m, m = k + (1 + (zs.length - k)) := ⟨_, rfl⟩
    rw [← hm4] at hown4 hblen ⊢
    have hkm : (k : Int) < (m : Int) := by omega
    have hstored := hown4.stored k (.int .i64 (-1 - (k : Int)))
    have hcell := hown4.cellAt k (by omega)
    have hfroz := hown4.frozenAt k
    have hck : (intsV bads)[k]? = some (.int .i64 (64 + (k : Int))) := by
      rw [hbads]; unfold intsV
      rw [List.getElem?_map, List.getElem?_append_right (by simp; omega)]
      have : k - (zs.take k).length = 0 := by simp; omega
      rw [this]; rfl
    rw [hck] at hcell
    have hat4 : IntsAt w4 (some ⟨g4, 0, none⟩) bads := by
      obtain ⟨A', cap', e1, e2, _, e3⟩ := row_zs hown4
      injection e1 with e4; rw [e4]; exact e3
    have hset : (intsV bads).set k (.int .i64 (-1 - (k : Int))) = intsV (bads.set k (-1 - (k : Int))) := by simp [intsV]
    have hat5 : IntsAt (w4.setCell ⟨g4, k, none⟩ (.int .i64 (-1 - (k : Int)))) (some ⟨g4, 0, none⟩) (bads.set k (-1 - (k : Int))) := by
      have h5 := hstored.1
      rw [hset] at h5
      obtain ⟨A', cap', e1, e2, _, e3⟩ := row_zs h5
      injection e1 with e4; rw [e4]; exact e3
    have hB5 : Below w.heap.size w (w4.setCell ⟨g4, k, none⟩ (.int .i64 (-1 - (k : Int)))) := hB4.setCell (p := ⟨g4, k, none⟩) hg4' _
    have hmm : m ≤ 51 := by omega
    have q6 : IntKind.i64.wrap (-1 - (k : Int)) = -1 - (k : Int) := IntWalk.i64_in _ (by omega)
    have HX := Lib.hid (And.intro hblen (And.intro hbok (And.intro hbok2 (And.intro hat4 (And.intro hat5 hB5)))))
    clear hblen hbok hbok2 hat4 hat5 hB5 hB4 hstored hset hvs hbads hck hm4 hown4 hown3 hgrow3 hgrow4 HO HN HLIT HB2 had B1 HL
    go_wp2_with fail
    refine (of_is _ bads m cap4 HX.out.1 (by unfold maxLen; omega) 0#64 2 (by unfold ofS; rw [HX.out.2.1]; rfl) (by unfold ofE; rw [HX.out.2.1]; rfl) _ HX.out.2.2.2.1).mono ?_
    rintro e w5 ⟨rfl, rfl⟩
    go_wp2_with fail
    refine (of_is _ (bads.set k (-1 - (k : Int))) m cap4 (by rw [List.length_set]; exact HX.out.1) (by unfold maxLen; omega) 0#64 2 (by unfold ofS; rw [HX.out.2.2.1]; rfl) (by unfold ofE; rw [HX.out.2.2.1]; rfl) _ HX.out.2.2.2.2.1).mono ?_
    rintro e w6 ⟨rfl, rfl⟩
    go_wp2_with fail
    refine (awake_any _ (HT.out _ HX.out.2.2.2.2.2).1 (HT.out _ HX.out.2.2.2.2.2).2).mono ?_
    rintro e w7 ⟨rfl, hb⟩
    have B7 := Lib.hid (HX.out.2.2.2.2.2.trans (hb.mono HX.out.2.2.2.2.2.size))
    clear hb
    go_wp2_with fail
    go_ret
    exact ⟨rfl, B7.out⟩
set_option maxRecDepth 100000 in
set_option maxHeartbeats 4000000 in
theorem marksAll_mid (n : Int) (A : Option Addr) (zs : List Int) (cap : Nat) (c : Int) (w : World) (hn : 0 ≤ n) (hn1 : n < 64) (hA : IntsAt w A zs) (hm : zs.length ≤ maxLen) (hnil : A = none → zs.length = 0 ∧ cap = 0) (c0 : 0 ≤ c) (c1 : c ≤ 255) (hT : Tab w) (hw : 0 < w.heap.size) :
    Calls Tryd.prog 9 #[.int .i64 n, .slice A zs.length cap, .int .u8 c] w fun e w' => e = .returned (.bool true) ∧ Below w.heap.size w w' := by
  have hTl : ∀ W, Below w.heap.size w W → Tab W ∧ 0 < W.heap.size := fun W h => ⟨hT.below h hw, Nat.lt_of_lt_of_le hw h.size⟩
  have HT := Lib.hid hTl
  have B0 := Lib.hid (Below.refl w.heap.size w)
  clear hTl hT
  obtain ⟨t, ht⟩ : ∃ t, allS n = t := ⟨_, rfl⟩
  obtain ⟨N, hcard⟩ : ∃ N, Bx.card t = N := ⟨_, rfl⟩
  have hne : ((N : Int) != n) = false := by
    have h1 := allS_card n
    rw [ht, hcard] at h1
    have h2 : (N : Int) = n := by omega
    rw [h2]; simp
  have hsucc := allS_succ n hn hn1
  rw [ht] at hsucc
  have hsame : (t ||| Bv.bit n.toNat != t ||| Bv.bit n.toNat) = false := by simp
  have H := Lib.hid (And.intro ht (And.intro hcard hsucc))
  have d1 : decide (n < 64) = true := decide_eq_true (by omega)
  have d2 : decide (0 ≤ n) = true := decide_eq_true (by omega)
  have gs : IntKind.i64.wrap (n + 1) = n + 1 := IntWalk.i64_in _ (by omega)
  clear ht hcard hsucc
  obtain ⟨i0, hi, hz0, hz1, hz2⟩ := info_parts infoInt
  have HA := Lib.hid hA
  clear hA
  unfold maxLen at hm
  by_cases hlong : 50 < zs.length
  all_goals
    go_enter Tryd.func9, Tryd.ntmps9
    go_wp2_with fail
    refine (all_is _ _ H.out.1 _).mono ?_
    rintro e w' ⟨rfl, rfl⟩
    go_wp2_with fail
    refine wp_region_quiet_below (by kernel_rfl) (by kernel_rfl) ?_
    repeat (first | go_big_quiet_step (first | (go_at_call 18; exact Calls.regrown_of (len_card _ _ H.out.2.1 _ (HT.out _ (B0.out.trans (below_regrown _ _ _))).1 (HT.out _ (B0.out.trans (below_regrown _ _ _))).2)) | (go_at_call 13; exact Calls.regrown_of ((all_is _ _ H.out.2.2 _).mono fun e w' h => ⟨h.1, by rw [h.2]; exact Below.refl _ _⟩))) | quiet_step (first | (go_at_call 18; exact Calls.regrown_of (len_card _ _ H.out.2.1 _ (HT.out _ (B0.out.trans (below_regrown _ _ _))).1 (HT.out _ (B0.out.trans (below_regrown _ _ _))).2)) | (go_at_call 13; exact Calls.regrown_of ((all_is _ _ H.out.2.2 _).mono fun e w' h => ⟨h.1, by rw [h.2]; exact Below.refl _ _⟩))))
    refine wpQuiet_nil ?_
    intro W1 hw1
    have B1 : Hid (Below w.heap.size w W1) := by obtain ⟨⟨d, os⟩, rfl⟩ := hw1; exact Lib.hid (below_regrown _ _ _)
    clear hw1
  · go_wp2_with fail
    refine (awake_any _ (HT.out _ B1.out).1 (HT.out _ B1.out).2).mono ?_
    rintro e w2 ⟨rfl, hb⟩
    have B2 := Lib.hid (B1.out.trans (hb.mono B1.out.size))
    clear hb B1
    go_wp2_with fail
    go_ret
    exact ⟨rfl, B2.out⟩
  · have hs1 : w.heap.size ≤ W1.heap.size := B1.out.size
    have hrow0 : (W1.alloc (.cells #[] 3)).ownsRow w.heap.size 3 1 (.slice (some ⟨W1.heap.size, 0, none⟩) 0 0) 0 [] := World.ownsRow_made W1 #[] 0 hs1 (Nat.zero_le _) rfl
    have hA1 : IntsAt (W1.alloc (.cells #[] 3)) A zs := HA.out.below (B1.out.alloc hs1 _) (Nat.le_refl _)
    obtain ⟨k, hk⟩ : ∃ k : Nat, k = (c % ((zs.length : Int) + 1)).toNat := ⟨_, rfl⟩
    have hkz : c % ((zs.length : Int) + 1) = (k : Int) := by rw [hk]; have := Int.emod_nonneg c (show (zs.length : Int) + 1 ≠ 0 by omega); omega
    have hkn : k ≤ zs.length := by have := Int.emod_lt_of_pos c (show (0 : Int) < (zs.length : Int) + 1 by omega); omega
    have HL := Lib.hid (And.intro hrow0 hA1)
    clear hk hrow0 hA1
    go_wp2_with (at_builtin; refine wpList_append_src rfl _ _ 24 rfl w.heap.size 3 i0 (.int .i64 0) Tryd.underlying24 hi hz0 hz1 hz2 rfl _ 0 [] rfl HL.out.1 A zs cap rfl hnil HL.out.2 (by unfold maxLen; omega) (by omega) (by simp; omega) ?_; intro v' w2 hown hgrow hnn)
    have hvn : v' ≠ .slice none 0 0 := fun e => by have h1 := (hnn.1 e).1; injection h1 with h2; cases h2
    obtain ⟨g, capb, hv, hcap⟩ : ∃ g capb, v' = .slice (some ⟨g, 0, none⟩) (0 + zs.length) capb ∧ 0 + zs.length ≤ capb := by
      rcases hown.2 with ⟨h1, _⟩ | ⟨g, cp, _, h1, _, _, h2, _⟩
      · exact absurd h1 hvn
      · exact ⟨g, cp, h1, h2⟩
    subst hv
    rw [hkz]
    have hcap' : zs.length ≤ capb := by omega
    have hsz2 : w.heap.size ≤ w2.heap.size := by have := hgrow.size; simp at this; omega
    have hbw2 : Below w.heap.size w w2 := (B1.out.alloc hs1 _).grown hgrow (by simp; omega) (fun j e => by injection e with e; subst e; exact hs1)
    have q0 : (0 : Int) ≤ (k : Int) := by omega
    have q1 : (k : Int) ≤ (zs.length : Int) := by omega
    have q2 : (k : Int) ≤ (capb : Int) := by omega
    have q3 : (zs.length : Int) ≤ (capb : Int) := by omega
    have q4 : IntKind.i64.wrap (64 + (k : Int)) = 64 + (k : Int) := IntWalk.i64_in _ (by omega)
    simp only [Nat.zero_add, List.nil_append] at hown
    have HO := Lib.hid hown
    have HB2 := Lib.hid hbw2
    have hS0 : w2.ownsRow w.heap.size 3 1 (.slice (some ⟨g, 0, none⟩) zs.length capb) zs.length (intsV zs) := HO.out
    clear hgrow hnn hvn hkz hown hbw2
    simp only [Nat.zero_add]
    have hlit := World.ownsRow_lit (base := w.heap.size) (e := 3) (size := 1) w2 #[.int .i64 (64 + (k : Int))] 1 hsz2 (by unfold maxLen; omega) rfl
    have HLIT := Lib.hid hlit
    clear hlit
    have hgl : g < w2.heap.size := by
      rcases HO.out.2 with ⟨h1, _⟩ | ⟨g', _, _, h1, _, h2, _⟩
      · cases h1
      · injection h1 with h3; injection h3 with h4; injection h4 with h5; subst h5; exact (Array.getElem?_eq_some_iff.1 h2).1
    obtain ⟨ad, had, hnews⟩ : ∃ ad : Addr, (if capb = k then some (⟨g, 0, none⟩ : Addr) else some ⟨g, k, none⟩) = some ad ∧ ∀ W : World, W.ownsRow w.heap.size 3 1 (.slice (some ⟨g, 0, none⟩) zs.length capb) zs.length (intsV zs) → ∀ j u, (intsV (zs.drop k))[j]? = some u → W.cell? (ad.add j) = some u := by
      by_cases e : capb = k
      · refine ⟨⟨g, 0, none⟩, by rw [if_pos e], fun W _ j u hu => ?_⟩
        have : zs.drop k = [] := List.drop_eq_nil_of_le (by omega)
        rw [this] at hu; simp [intsV] at hu
      · exact ⟨⟨g, k, none⟩, by rw [if_neg e], fun _ h => tail_cells hkn h⟩
    have HN := Lib.hid hnews
    clear hnews
    go_region_held3 (fun w' => w'.ownsRow w.heap.size 3 1 (.slice (some ⟨g, 0, none⟩) zs.length capb) zs.length (intsV zs))
      (first | assumption | exact World.ownsRow.kept (by assumption) hgrow3 (.inr (by simp [Value.ownBlock]; omega)) | exact World.ownsRow.drew (by assumption) | exact World.ownsRow.alloc (by assumption) _ | exact World.ownsRow.kept (by assumption) hgrow4 (.inr (by simp [Value.ownBlock])))
      (first | (refine step_append_own (by rfl) (.tmp 59) (.tmp 62) 24 (by rfl) w.heap.size 3 i0 _ 1 8 Tryd.underlying24 hi hz0 hz1 hz2 rfl (by decide) (.slice (some ⟨w2.heap.size, 0, none⟩) 1 1) 1 [.int .i64 (64 + (k : Int))] (by rfl) (HLIT.out.drew) ad (zs.length - k) (capb - k) (intsV (zs.drop k)) (by rfl) (by simp [intsV]) (HN.out _ (HO.out.alloc _).drew) (oneCell_ints _) (by unfold maxLen; omega) (by omega) (by simp; omega) (by omega) ?_; intro g1 cap1 w3 hown3 hgrow3 hlt3) | (refine step_append_grows (by rfl) (.tmp 56) (.tmp 63) 24 (by rfl) 3 i0 _ 1 8 Tryd.underlying24 hi hz0 hz1 hz2 rfl (by decide) (some ⟨g, 0, none⟩) k k (intsV (zs.take k)) (by rfl) (fun h => by cases h) (by simp [intsV]; omega) (head_cells hkn (by assumption)) ⟨g1, 0, none⟩ (1 + (zs.length - k)) cap1 ([.int .i64 (64 + (k : Int))] ++ intsV (zs.drop k)) (by rfl) (by simp [intsV]; omega) (hown3.cells rfl) (one_cons _ _) (by omega) (by unfold maxLen; omega) (by omega) ?_; intro v4 w4 hown4 hgrow4; obtain ⟨g4, cap4, rfl, hg4, hlt4⟩ := hown4.form (by omega)))
    obtain ⟨bads, hbads⟩ : ∃ bads : List Int, bads = zs.take k ++ (64 + (k : Int)) :: zs.drop k := ⟨_, rfl⟩
    have hblen : bads.length = k + (1 + (zs.length - k)) := by rw [hbads]; simp; omega
    have hbok : ofOk bads = false := by rw [hbads]; exact ofOk_bad _ _ _ (by unfold inB; simp; omega)
    have hbok2 : ofOk (bads.set k (-1 - (k : Int))) = false := by
      rw [hbads, List.set_append_right _ _ (by simp; omega)]
      have : k - (zs.take k).length = 0 := by simp; omega
      rw [this]; exact ofOk_bad _ _ _ (by unfold inB; simp; omega)
    have hvs : intsV (zs.take k) ++ ([Value.int .i64 (64 + (k : Int))] ++ intsV (zs.drop k)) = intsV bads := by rw [hbads]; simp [intsV]
    rw [hvs] at hown4
    have hB4 : Below w.heap.size w w4 := ((HB2.out.alloc hsz2 (.cells #[.int .i64 (64 + (k : Int))] 3)).drew.grown hgrow3 (by simp; omega) (fun j e => by injection e with e; subst e; exact hsz2)).grown hgrow4 (by have := hgrow3.size; simp at this; omega) (fun j e => by cases e)
    have hg4' : w.heap.size ≤ g4 := by have := hgrow3.size; simp at this; omega
    obtain ⟨m, hm4⟩ : ∃ m, m = k + (1 + (zs.length - k)) := ⟨_, rfl⟩
    rw [← hm4] at hown4 hblen ⊢
    have hkm : (k : Int) < (m : Int) := by omega
    have hstored := hown4.stored k (.int .i64 (-1 - (k : Int)))
    have hcell := hown4.cellAt k (by omega)
    have hfroz := hown4.frozenAt k
    have hck : (intsV bads)[k]? = some (.int .i64 (64 + (k : Int))) := by
      rw [hbads]; unfold intsV
      rw [List.getElem?_map, List.getElem?_append_right (by simp; omega)]
      have : k - (zs.take k).length = 0 := by simp; omega
      rw [this]; rfl
    rw [hck] at hcell
    have hat4 : IntsAt w4 (some ⟨g4, 0, none⟩) bads := by
      obtain ⟨A', cap', e1, e2, _, e3⟩ := row_zs hown4
      injection e1 with e4; rw [e4]; exact e3
    have hset : (intsV bads).set k (.int .i64 (-1 - (k : Int))) = intsV (bads.set k (-1 - (k : Int))) := by simp [intsV]
    have hat5 : IntsAt (w4.setCell ⟨g4, k, none⟩ (.int .i64 (-1 - (k : Int)))) (some ⟨g4, 0, none⟩) (bads.set k (-1 - (k : Int))) := by
      have h5 := hstored.1
      rw [hset] at h5
      obtain ⟨A', cap', e1, e2, _, e3⟩ := row_zs h5
      injection e1 with e4; rw [e4]; exact e3
    have hB5 : Below w.heap.size w (w4.setCell ⟨g4, k, none⟩ (.int .i64 (-1 - (k : Int)))) := hB4.setCell (p := ⟨g4, k, none⟩) hg4' _
    have hmm : m ≤ 51 := by omega
    have q6 : IntKind.i64.wrap (-1 - (k : Int)) = -1 - (k : Int) := IntWalk.i64_in _ (by omega)
    have HX := Lib.hid (And.intro hblen (And.intro hbok (And.intro hbok2 (And.intro hat4 (And.intro hat5 hB5)))))
    clear hblen hbok hbok2 hat4 hat5 hB5 hB4 hstored hset hvs hbads hck hm4 hown4 hown3 hgrow3 hgrow4 HO HN HLIT HB2 had B1 HL
    go_wp2_with fail
    refine (of_is _ bads m cap4 HX.out.1 (by unfold maxLen; omega) 0#64 2 (by unfold ofS; rw [HX.out.2.1]; rfl) (by unfold ofE; rw [HX.out.2.1]; rfl) _ HX.out.2.2.2.1).mono ?_
    rintro e w5 ⟨rfl, rfl⟩
    go_wp2_with fail
    refine (of_is _ (bads.set k (-1 - (k : Int))) m cap4 (by rw [List.length_set]; exact HX.out.1) (by unfold maxLen; omega) 0#64 2 (by unfold ofS; rw [HX.out.2.2.1]; rfl) (by unfold ofE; rw [HX.out.2.2.1]; rfl) _ HX.out.2.2.2.2.1).mono ?_
    rintro e w6 ⟨rfl, rfl⟩
    go_wp2_with fail
    refine (awake_any _ (HT.out _ HX.out.2.2.2.2.2).1 (HT.out _ HX.out.2.2.2.2.2).2).mono ?_
    rintro e w7 ⟨rfl, hb⟩
    have B7 := Lib.hid (HX.out.2.2.2.2.2.trans (hb.mono HX.out.2.2.2.2.2.size))
    clear hb
    go_wp2_with fail
    go_ret
    exact ⟨rfl, B7.out⟩
theorem marksAll_any (n : Int) (A : Option Addr) (zs : List Int) (cap : Nat) (c : Int) (w : World) (hA : IntsAt w A zs) (hm : zs.length ≤ maxLen) (hnil : A = none → zs.length = 0 ∧ cap = 0) (c0 : 0 ≤ c) (c1 : c ≤ 255) (hT : Tab w) (hw : 0 < w.heap.size) :
    Calls Tryd.prog 9 #[.int .i64 n, .slice A zs.length cap, .int .u8 c] w fun e w' => e = .returned (.bool true) ∧ Below w.heap.size w w' := by
  by_cases h0 : n < 0
  · exact marksAll_neg n A zs cap c w h0 hA hm hnil c0 c1 hT hw
  · by_cases h1 : 64 ≤ n
    · exact marksAll_big n A zs cap c w h1 hA hm hnil c0 c1 hT hw
    · exact marksAll_mid n A zs cap c w (by omega) (by omega) hA hm hnil c0 c1 hT hw
end Go.Proofs.YtjnoiahkbdoejaaDoor
