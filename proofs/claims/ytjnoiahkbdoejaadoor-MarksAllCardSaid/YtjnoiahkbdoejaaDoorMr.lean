/- layer 1's law: the walk of MarksBack. -/
import Derived.Test.YtjnoiahkbdoejaaDoorMo
namespace Go.Proofs.YtjnoiahkbdoejaaDoor
open Go.RowKit Go.Shelf

theorem ofAcc_get (zs : List Int) (i : Nat) (hi : i < 64) : (ofAcc zs).getLsbD i = zs.any (fun z => decide (z.toNat = i)) := by
  unfold ofAcc
  have key : ∀ (l : List Int) (s : BitVec 64), (l.foldl (fun s z => s ||| Bv.bit z.toNat) s).getLsbD i = (s.getLsbD i || l.any (fun z => decide (z.toNat = i))) := by
    intro l
    induction l with
    | nil => intro s; simp
    | cons a l ih =>
      intro s
      rw [List.foldl_cons, ih, BitVec.getLsbD_or, List.any_cons, Bool.or_assoc]
      congr 2
      by_cases h : a.toNat < 64
      · rw [Bv.bit_get _ _ h, Bool.eq_iff_iff]; simp; omega
      · rw [Bv.bit_big _ (by omega), Bv.zero_get]
        symm; apply decide_eq_false; omega
  rw [key zs 0#64, Bv.zero_get, Bool.false_or]
theorem ofOk_ints (s : BitVec 64) : ofOk (ints (Bs.elems s)) = true := by
  unfold ofOk ints
  rw [List.all_map, List.all_eq_true]
  intro x hx
  have := Bx.lt64 (Bs.mem_elems.1 hx)
  simp [inB]; omega
theorem ofS_ints (s : BitVec 64) : ofS (ints (Bs.elems s)) = s ∧ ofE (ints (Bs.elems s)) = 0 := by
  unfold ofS ofE
  rw [ofOk_ints]
  refine ⟨?_, rfl⟩
  apply Bv.ext_get
  intro i hi
  show (ofAcc (ints (Bs.elems s))).getLsbD i = _
  rw [ofAcc_get _ _ hi, Bool.eq_iff_iff, List.any_eq_true]
  unfold ints
  constructor
  · rintro ⟨z, hz, h⟩
    obtain ⟨x, hx, rfl⟩ := List.mem_map.1 hz
    simp at h; subst h
    exact Bs.mem_elems.1 hx
  · intro h
    exact ⟨(i : Int), List.mem_map.2 ⟨i, Bs.mem_elems.2 h, rfl⟩, by simp⟩
theorem nth_nat (s : BitVec 64) {k : Nat} (hk : k < (Bs.elems s).length) : ∃ x : Nat, nthN s k = (x : Int) ∧ x < 64 ∧ Bv.G s x = true ∧ (Bs.elems s)[k]? = some x := by
  have hg : (Bs.elems s)[k]? = some (Bs.elems s)[k] := List.getElem?_eq_getElem hk
  have hb := Bx.elems_bit hg
  exact ⟨(Bs.elems s)[k], by unfold nthN; rw [hg]; rfl, Bx.lt64 hb, hb, hg⟩
theorem nth_lt (s : BitVec 64) {j k : Nat} (hjk : j < k) (hk : k < (Bs.elems s).length) : nthN s j < nthN s k := by
  have hp := Bs.elems_sorted s
  rw [List.pairwise_iff_getElem] at hp
  have := hp j k (by omega) hk hjk
  unfold nthN
  rw [List.getElem?_eq_getElem hk, List.getElem?_eq_getElem (show j < _ by omega)]
  simp only [Option.getD_some]; omega

def intsV (zs : List Int) : List Value := zs.map (Value.int .i64)
theorem intsV_snoc (zs : List Int) (x : Int) : intsV (zs ++ [x]) = intsV zs ++ [Value.int .i64 x] := by simp [intsV]
theorem row_zs {w : World} {base n : Nat} {e : TypeId} {v : Value} {zs : List Int} (h : w.ownsRow base e 1 v n (intsV zs)) : ∃ A cap, v = .slice A zs.length cap ∧ zs.length = n ∧ cap ≤ maxLen ∧ IntsAt w A zs := by
  obtain ⟨A, cap, e1, e2, e3, h4⟩ := row_at h
  have hl : (intsV zs).length = zs.length := by simp [intsV]
  rw [hl] at e1 h4 e2
  refine ⟨A, cap, e1, e2, e3, fun hp => ?_⟩
  obtain ⟨b, rfl, _, hb, hc⟩ := h4 hp
  exact ⟨b, 0, rfl, hb, fun i hi => hc i _ (by simp [intsV, hi])⟩
/-- the bytes' remainders -/
def remK (zs : List Int) (k : Nat) : List Int := (List.range k).map (fun j => zs.getD j 0 % 64)
theorem remK_succ (zs : List Int) (k : Nat) : remK zs (k + 1) = remK zs k ++ [zs.getD k 0 % 64] := by simp [remK, List.range_succ]
theorem remK_len (zs : List Int) (k : Nat) : (remK zs k).length = k := by simp [remK]
theorem remK_of (zs : List Int) (k : Nat) : ofS (remK zs k) = ofAcc (remK zs k) ∧ ofE (remK zs k) = 0 := by
  have h : ofOk (remK zs k) = true := by
    unfold ofOk remK
    rw [List.all_map, List.all_eq_true]
    intro j _
    simp [inB]
    omega
  unfold ofS ofE; rw [h]; exact ⟨rfl, rfl⟩
/-- the bytes zs lie from A on -/
def BytesAt (w : World) (A : Option Addr) (n : Nat) (zs : List Int) : Prop :=
  0 < n → ∃ b off, A = some ⟨b, off, none⟩ ∧ b < w.heap.size ∧ ∀ i, i < n → w.cell? ⟨b, off + i, none⟩ = some (.int .u8 (zs.getD i 0))
theorem BytesAt.below {n : Nat} {w w' : World} {A : Option Addr} {k : Nat} {zs : List Int} (h : BytesAt w A k zs) (hb : Below n w w') (hn : w.heap.size ≤ n) : BytesAt w' A k zs := by
  intro hp
  obtain ⟨b, off, e, hlt, hc⟩ := h hp
  exact ⟨b, off, e, Nat.lt_of_lt_of_le hlt hb.size, fun i hi => (hb.cell (p := ⟨b, off + i, none⟩) (by show b < n; omega)).trans (hc i hi)⟩

theorem of_is (A : Option Addr) (zs : List Int) (n cap : Nat) (hn : zs.length = n) (hl : n ≤ maxLen) (s : BitVec 64) (e : Int) (hs : ofS zs = s) (he : ofE zs = e) (w : World) (hA : IntsAt w A zs) :
    Calls Tryd.prog 11 #[.slice A n cap] w fun e' w' => e' = .returned (.tuple #[.int .u64 (Bv.U s), .int .i64 e]) ∧ w = w' := by
  subst hn hs he; exact (of_any A zs cap w hl hA).mono fun e w' ⟨h1, h2⟩ => ⟨h1, h2.symm⟩
attribute [local go_sem] Bv.and_u Bv.or_u Bv.andNot_u Bv.wrap_sub1 Bv.eq0 Bv.ne0 Bv.wrap_pow Bv.wrap_powmin Bv.wrap_neg Bv.eq_u Bv.ne_u Bv.shr_min Bv.shr_pow Bv.and1 Bv.B1_eq1 Bv.B1_eq0 Bv.B1_ne1 Bv.B1_ne0
set_option maxRecDepth 100000 in
set_option maxHeartbeats 4000000 in
theorem back_long (s : BitVec 64) (A : Option Addr) (n cap : Nat) (w : World) (hT : Tab w) (hw : 0 < w.heap.size) (hn : 100 < n) :
    Calls Tryd.prog 4 #[.int .u64 (Bv.U s), .slice A n cap] w fun e w' => e = .returned (.bool true) ∧ Below w.heap.size w w' := by
  have hTl : ∀ W, Below w.heap.size w W → Tab W ∧ 0 < W.heap.size := fun W h => ⟨hT.below h hw, Nat.lt_of_lt_of_le hw h.size⟩
  have HT := Lib.hid hTl
  have B0 := Lib.hid (Below.refl w.heap.size w)
  clear hTl hT
  have hL := Bs.elems_le s
  obtain ⟨L, hLe⟩ : ∃ L, L = (Bs.elems s).length := ⟨_, rfl⟩
  have hself : (s == s) = true := by simp
  have hself2 : (s != s) = false := by simp
  go_enter Tryd.func4, Tryd.ntmps4
  go_wp2_with fail
  refine (list_any _ _ (HT.out _ B0.out).1 (HT.out _ B0.out).2).mono ?_
  rintro e w1 ⟨v, rfl, hrow, _, hb⟩
  obtain ⟨A1, cap1, rfl, _, _, hat⟩ := row_nums hrow
  have B1 := Lib.hid (B0.out.trans (hb.mono B0.out.size))
  have HA1 := Lib.hid hat
  clear hb B0 hrow hat
  rw [← hLe] at hL ⊢
  have HL := Lib.hid hLe
  clear hLe
  go_wp2_with fail
  refine (of_is A1 (ints (Bs.elems s)) L cap1 (by rw [ints_len, ← HL.out]) (by unfold maxLen; omega) s 0 (ofS_ints s).1 (ofS_ints s).2 _ HA1.out).mono ?_
  rintro e w' ⟨rfl, rfl⟩
  go_wp2_with fail
  refine (len_card _ L (by rw [HL.out]; rfl) _ (HT.out _ B1.out).1 (HT.out _ B1.out).2).mono ?_
  rintro e w2 ⟨rfl, hb⟩
  have B2 := Lib.hid (B1.out.trans (hb.mono B1.out.size))
  clear hb B1
  go_wp2_with fail
  refine (awake_any _ (HT.out _ B2.out).1 (HT.out _ B2.out).2).mono ?_
  rintro e w3 ⟨rfl, hb⟩
  have B3 := Lib.hid (B2.out.trans (hb.mono B2.out.size))
  clear hb B2
  go_wp2_with fail
  go_ret
  exact ⟨rfl, B3.out⟩

theorem infoInt' : (Tryd.prog.info? 3).map (fun i => (i.zero, i.size, i.bytes)) = some (some (.int .i64 0), 1, 8) := infoInt
set_option maxRecDepth 100000 in
set_option maxHeartbeats 4000000 in
theorem back_short (s : BitVec 64) (A : Option Addr) (n cap : Nat) (zs : List Int) (w : World) (hT : Tab w) (hw : 0 < w.heap.size) (hn : n ≤ 100) (hz : ∀ i, 0 ≤ zs.getD i 0 ∧ zs.getD i 0 ≤ 255) (hA : BytesAt w A n zs) :
    Calls Tryd.prog 4 #[.int .u64 (Bv.U s), .slice A n cap] w fun e w' => e = .returned (.bool true) ∧ Below w.heap.size w w' := by
  have hTl : ∀ W, Below w.heap.size w W → Tab W ∧ 0 < W.heap.size := fun W h => ⟨hT.below h hw, Nat.lt_of_lt_of_le hw h.size⟩
  have HT := Lib.hid hTl
  have B0 := Lib.hid (Below.refl w.heap.size w)
  clear hTl hT
  obtain ⟨i0, hi, hz0, hz1, hz2⟩ := info_parts infoInt
  have hL := Bs.elems_le s
  obtain ⟨L, hLe⟩ : ∃ L, L = (Bs.elems s).length := ⟨_, rfl⟩
  have hself : (s == s) = true := by simp
  have hself2 : (s != s) = false := by simp
  have HZ := Lib.hid hz
  have HA := Lib.hid hA
  clear hz hA
  go_enter Tryd.func4, Tryd.ntmps4
  go_wp2_with fail
  refine (list_any _ _ (HT.out _ B0.out).1 (HT.out _ B0.out).2).mono ?_
  rintro e w1 ⟨v, rfl, hrow, _, hb⟩
  obtain ⟨A1, cap1, rfl, _, _, hat⟩ := row_nums hrow
  have B1 := Lib.hid (B0.out.trans (hb.mono B0.out.size))
  have HA1 := Lib.hid hat
  clear hb B0 hrow hat
  rw [← hLe] at hL ⊢
  have HL := Lib.hid hLe
  clear hLe
  go_wp2_with fail
  refine (of_is A1 (ints (Bs.elems s)) L cap1 (by rw [ints_len, ← HL.out]) (by unfold maxLen; omega) s 0 (ofS_ints s).1 (ofS_ints s).2 _ HA1.out).mono ?_
  rintro e w' ⟨rfl, rfl⟩
  go_wp2_with fail
  refine (len_card _ L (by rw [HL.out]; rfl) _ (HT.out _ B1.out).1 (HT.out _ B1.out).2).mono ?_
  rintro e w2 ⟨rfl, hb⟩
  have B2 := Lib.hid (B1.out.trans (hb.mono B1.out.size))
  have HA2 := Lib.hid (HA1.out.below hb (Nat.le_refl _))
  clear hb B1 HA1
  go_wp2_with fail
  go_loopw [59] (fun c wr => ∃ k : Nat, k ≤ L ∧ c = .int .i64 k ∧ Below w2.heap.size w2 wr) (fun c _ => L - (intOf c).toNat)
  case atStart => exact ⟨0, Nat.zero_le _, rfl, Below.refl _ _⟩
  case round =>
    obtain ⟨k, hk, rfl, hbr⟩ := hrel
    by_cases hlt : k < L
    · have hltE : k < (Bs.elems s).length := by rw [← HL.out]; exact hlt
      have HA3 := Lib.hid (HA2.out.below hbr (Nat.le_refl _))
      obtain ⟨x, hx, hx64, hxb, _⟩ := nth_nat s hltE
      have HR := Lib.hid hbr
      clear hbr
      cases k with
      | zero =>
        obtain ⟨b, off, rfl, hcell⟩ := HA3.out.nth hltE
        rw [hx] at hcell
        rw [Nat.add_zero] at hcell
        clear hx hltE
        go_wp2_with fail
        go_roundw
        case rel => exact ⟨1, by omega, rfl, HR.out⟩
        case measure => simp [intOf]; omega
      | succ j =>
        obtain ⟨y, hy, hy64, hyb, _⟩ := nth_nat s (show j < (Bs.elems s).length by omega)
        have hyx : y < x := by have := nth_lt s (show j < j + 1 by omega) hltE; omega
        obtain ⟨b, off, hA1e, hcell⟩ := HA3.out.nth hltE
        obtain ⟨b', off', hA2e, hcell'⟩ := HA3.out.nth (show j < (Bs.elems s).length by omega)
        rw [hA1e] at hA2e
        simp only [Option.some.injEq, Addr.mk.injEq, and_true] at hA2e
        obtain ⟨rfl, rfl⟩ := hA2e
        subst hA1e
        rw [hx] at hcell
        rw [hy] at hcell'
        clear hx hy hltE hyb
        go_wp2_with fail
        go_roundw
        case rel => exact ⟨j + 1 + 1, by omega, by go_num, HR.out⟩
        case measure => simp [intOf]; omega
    · have B3 := Lib.hid (B2.out.trans (hbr.mono B2.out.size))
      have hs3 : w.heap.size ≤ wr.heap.size := B3.out.size
      clear hbr HA2 B2
      obtain ⟨wo, rfl⟩ : ∃ wo : World, wo = wr := ⟨_, rfl⟩
      go_wp2_with fail
      go_loopw [10, 11, 93] (fun v t c wr => ∃ k : Nat, k ≤ n ∧ c = .int .i64 k ∧ t = .int .u64 (Bv.U (ofAcc (remK zs k))) ∧ wr.ownsRow w.heap.size 3 1 v k (intsV (remK zs k)) ∧ Below w.heap.size w wr) (fun _ _ c _ => n - (intOf c).toNat)
      case atStart => exact ⟨0, Nat.zero_le _, rfl, rfl, World.ownsRow_nil _ _ _ _, B3.out⟩
      case round =>
        obtain ⟨k2, hk2, rfl, rfl, hrow, hbl⟩ := hrel
        by_cases hlt2 : k2 < n
        · obtain ⟨b, off, rfl, _, hcs⟩ := (HA.out.below hbl (Nat.le_refl _)) (by omega)
          have hcell := hcs k2 hlt2
          have hrng := HZ.out k2
          have hsucc := remK_succ zs k2
          obtain ⟨z, hz⟩ : ∃ z, z = zs.getD k2 0 := ⟨_, rfl⟩
          rw [← hz] at hcell hrng hsucc
          obtain ⟨hz0', hz1'⟩ := hrng
          obtain ⟨m, hm, hm64⟩ : ∃ m : Nat, z % 64 = (m : Int) ∧ m < 64 := ⟨(z % 64).toNat, by omega, by omega⟩
          rw [hm] at hsucc
          have HS := Lib.hid hsucc
          have hs1 : w.heap.size ≤ wr.heap.size := hbl.size
          have HBl := Lib.hid hbl
          clear hcs hz hsucc hbl
          go_wp2_with (at_builtin; refine wpList_append_own _ rfl _ _ 24 rfl w.heap.size 3 i0 (.int .i64 0) 1 8 Tryd.underlying24 hi hz0 hz1 hz2 rfl (by decide) _ _ _ rfl (hrow.alloc _) ⟨wr.heap.size, 0, none⟩ 1 1 [.int .i64 m] rfl rfl (cell_one_new _ _ _) (by simp [Value.oneCell']) (by unfold maxLen; omega) (by omega) (by simp; omega) ?_; intro v' w1 hown' hgrow hnil')
          go_roundw
          case rel =>
            have hbn : Below w.heap.size w w1 := (HBl.out.alloc hs1 _).grown hgrow (by simp; omega) (fun j e => (hrow.lt j e).1)
            refine ⟨k2 + 1, by omega, by go_num, ?_, ?_, hbn⟩
            · rw [HS.out, ofAcc_snoc]; simp
            · rw [HS.out, intsV_snoc]; exact hown'
          case measure => simp [intOf]; omega
        · have hkn : k2 = n := by omega
          subst hkn
          obtain ⟨A4, cap4, rfl, hlen4, _, hat4⟩ := row_zs hrow
          have hof := remK_of zs k2
          rw [hlen4]
          have B4 := Lib.hid hbl
          have HA4 := Lib.hid (And.intro hat4 (And.intro hlen4 hof))
          obtain ⟨u, hu⟩ : ∃ u, u = ofAcc (remK zs k2) := ⟨_, rfl⟩
          rw [← hu]
          have HU := Lib.hid hu
          have hself3 : (u == u) = true := by simp
          clear hrow hbl hat4 hlen4 hof hu
          go_wp2_with fail
          refine (of_is A4 (remK zs k2) k2 cap4 HA4.out.2.1 (by unfold maxLen; omega) u 0 (by rw [HU.out]; exact HA4.out.2.2.1) HA4.out.2.2.2 _ HA4.out.1).mono ?_
          rintro e w' ⟨rfl, rfl⟩
          go_wp2_with fail
          refine (awake_any _ (HT.out _ B4.out).1 (HT.out _ B4.out).2).mono ?_
          rintro e w5 ⟨rfl, hb⟩
          have B5 := Lib.hid (B4.out.trans (hb.mono B4.out.size))
          clear hb B4
          go_wp2_with fail
          go_ret
          exact ⟨rfl, B5.out⟩
theorem marksBack_any (s : BitVec 64) (A : Option Addr) (n cap : Nat) (zs : List Int) (w : World) (hz : ∀ i, 0 ≤ zs.getD i 0 ∧ zs.getD i 0 ≤ 255) (hA : BytesAt w A n zs) (hT : Tab w) (hw : 0 < w.heap.size) :
    Calls Tryd.prog 4 #[.int .u64 (Bv.U s), .slice A n cap] w fun e w' => e = .returned (.bool true) ∧ Below w.heap.size w w' := by
  by_cases h : 100 < n
  · exact back_long s A n cap w hT hw h
  · exact back_short s A n cap zs w hT hw (by omega) hz hA
end Go.Proofs.YtjnoiahkbdoejaaDoor
