/- the reference of layer 1: Has, With, List, All, Of, Next, Pick, Rank. -/
import Derived.Test.YtjnoiahkbdoejaaDoorMs
namespace Go.Proofs.YtjnoiahkbdoejaaDoor
open Go.RowKit Go.Shelf

attribute [local go_sem] Bv.and_u Bv.or_u Bv.andNot_u Bv.wrap_sub1 Bv.eq0 Bv.ne0 Bv.wrap_pow Bv.wrap_powmin Bv.wrap_neg Bv.eq_u Bv.ne_u Bv.shr_min Bv.shr_pow Bv.tmod2 Bv.wrap_add Bv.B1_eq1 Bv.B1_eq0 Bv.B1_ne1 Bv.B1_ne0

/-- is a number in a set? -/
def hasB (s : BitVec 64) (i : Int) : Bool := decide (0 ≤ i ∧ i < 64) && Bv.G s i.toNat
set_option maxHeartbeats 400000 in
theorem rhas_any (s : BitVec 64) (i : Int) (w : World) :
    Calls Tryd.prog 32 #[.int .u64 (Bv.U s), .int .i64 i] w fun e w' => e = .returned (.bool (hasB s i)) ∧ w = w' := by
  by_cases h0 : 0 ≤ i
  · by_cases h1 : i < 64
    · have hd : hasB s i = Bv.G s i.toNat := by unfold hasB; simp [h0, h1]
      rw [hd]
      cases hb : Bv.G s i.toNat
      all_goals
        go_enter Tryd.func32, Tryd.ntmps32
        go_wp2
        go_ret
        exact ⟨rfl, rfl⟩
    · have hd : hasB s i = false := by unfold hasB; simp [h1]
      rw [hd]
      go_enter Tryd.func32, Tryd.ntmps32
      go_wp2
      go_ret
      exact ⟨rfl, rfl⟩
  · have hd : hasB s i = false := by unfold hasB; simp [h0]
    rw [hd]
    go_enter Tryd.func32, Tryd.ntmps32
    go_wp2
    go_ret
    exact ⟨rfl, rfl⟩
theorem hasB_nat (s : BitVec 64) (k : Nat) (hk : k < 64) : hasB s (k : Int) = Bv.G s k := by unfold hasB; simp; omega
theorem rhas_is (s : BitVec 64) (i : Int) (b : Bool) (hb : hasB s i = b) (w : World) :
    Calls Tryd.prog 32 #[.int .u64 (Bv.U s), .int .i64 i] w fun e w' => e = .returned (.bool b) ∧ w = w' := by subst hb; exact rhas_any s i w

/-- a set and a number -/
def withS (s : BitVec 64) (i : Int) : BitVec 64 := if 0 ≤ i ∧ i < 64 then s ||| Bv.bit i.toNat else s
set_option maxHeartbeats 400000 in
theorem rwith_any (s : BitVec 64) (i : Int) (w : World) :
    Calls Tryd.prog 30 #[.int .u64 (Bv.U s), .int .i64 i] w fun e w' => e = .returned (.int .u64 (Bv.U (withS s i))) ∧ w = w' := by
  by_cases h : 0 ≤ i ∧ i < 64
  · obtain ⟨h0, h1⟩ := h
    obtain ⟨k, rfl⟩ : ∃ k : Nat, i = (k : Int) := ⟨i.toNat, by omega⟩
    have hd := hasB_nat s k (by omega)
    cases hb : Bv.G s k
    · have he : withS s (k : Int) = s + Bv.bit k := by
        unfold withS; rw [if_pos ⟨h0, h1⟩, Int.toNat_natCast]; exact (Bv.add_bit s k hb).symm
      rw [he]
      rw [hb] at hd
      have H := Lib.hid hd
      clear hd hb he
      go_enter Tryd.func30, Tryd.ntmps30
      go_wp2_with fail
      refine (rhas_is _ _ _ H.out _).mono ?_
      rintro e w' ⟨rfl, rfl⟩
      go_wp2_with fail
      go_ret
      exact ⟨rfl, rfl⟩
    · have he : withS s (k : Int) = s := by
        unfold withS; rw [if_pos ⟨h0, h1⟩, Int.toNat_natCast]; exact Bv.or_bit_same s k hb
      rw [he]
      rw [hb] at hd
      have H := Lib.hid hd
      clear hd hb he
      go_enter Tryd.func30, Tryd.ntmps30
      go_wp2_with fail
      refine (rhas_is _ _ _ H.out _).mono ?_
      rintro e w' ⟨rfl, rfl⟩
      go_wp2_with fail
      go_ret
      exact ⟨rfl, rfl⟩
  · have he : withS s i = s := by unfold withS; rw [if_neg h]
    have hd : hasB s i = false := by unfold hasB; rw [decide_eq_false h]; rfl
    rw [he]
    have H := Lib.hid hd
    have hc : i < 0 ∨ 63 < i := by omega
    clear hd he h
    rcases hc with h0 | h0
    all_goals
      go_enter Tryd.func30, Tryd.ntmps30
      go_wp2_with fail
      refine (rhas_is _ _ _ H.out _).mono ?_
      rintro e w' ⟨rfl, rfl⟩
      go_wp2_with fail
      go_ret
      exact ⟨rfl, rfl⟩
theorem rwith_is (s : BitVec 64) (i : Int) (t : BitVec 64) (ht : withS s i = t) (w : World) :
    Calls Tryd.prog 30 #[.int .u64 (Bv.U s), .int .i64 i] w fun e w' => e = .returned (.int .u64 (Bv.U t)) ∧ w = w' := by subst ht; exact rwith_any s i w
theorem withS_nat (s : BitVec 64) (k : Nat) (hk : k < 64) : withS s (k : Int) = s ||| Bv.bit k := by unfold withS; rw [if_pos ⟨by omega, by omega⟩, Int.toNat_natCast]

set_option maxRecDepth 100000 in
set_option maxHeartbeats 1000000 in
theorem rlist_any (s : BitVec 64) (w : World) :
    Calls Tryd.prog 17 #[.int .u64 (Bv.U s)] w fun e W' => ∃ v, e = .returned v ∧ W'.ownsRow w.heap.size 3 1 v (Bs.elems s).length (nums (Bs.elems s)) ∧ Below w.heap.size w W' := by
  obtain ⟨i0, hi, hz0, hz1, hz2⟩ := info_parts infoInt
  go_enter Tryd.func17, Tryd.ntmps17
  go_wp2_with fail
  go_loopw [3, 4] (fun v c wr => ∃ k : Nat, k ≤ 64 ∧ c = .int .i64 k ∧ wr.ownsRow w.heap.size 3 1 v (Bs.upto s k).length (nums (Bs.upto s k)) ∧ Below w.heap.size w wr) (fun _ c _ => 64 - (intOf c).toNat)
  case atStart => exact ⟨0, Nat.zero_le _, rfl, World.ownsRow_nil _ _ _ _, Below.refl _ _⟩
  case round =>
    obtain ⟨k, hk, rfl, hrow, hbl⟩ := hrel
    have hul := Bs.upto_le s k
    have hs1 : w.heap.size ≤ wr.heap.size := hbl.size
    by_cases hlt : k < 64
    · have hh := hasB_nat s k hlt
      cases hb : Bv.G s k
      · rw [hb] at hh
        have H := Lib.hid hh
        have HU := Lib.hid (And.intro (Bs.upto_miss s k hb) (And.intro hrow hbl))
        clear hh hb hrow hbl
        go_wp2_with fail
        refine (rhas_is _ _ _ H.out _).mono ?_
        rintro e w' ⟨rfl, rfl⟩
        go_wp2_with fail
        go_roundw
        case rel => exact ⟨k + 1, by omega, by go_num, by rw [HU.out.1]; exact HU.out.2.1, HU.out.2.2⟩
        case measure => simp [intOf]; omega
      · rw [hb] at hh
        have H := Lib.hid hh
        have HU := Lib.hid (And.intro (Bs.upto_hit s k hb) hbl)
        clear hh hb hbl
        obtain ⟨U, hU⟩ : ∃ U, U = Bs.upto s k := ⟨_, rfl⟩
        rw [← hU] at hrow hul
        have HV := Lib.hid hU
        clear hU
        go_wp2_with fail
        refine (rhas_is _ _ _ H.out _).mono ?_
        rintro e w' ⟨rfl, rfl⟩
        go_wp2_with (at_builtin; refine wpList_append_own _ rfl _ _ 24 rfl w.heap.size 3 i0 (.int .i64 0) 1 8 Tryd.underlying24 hi hz0 hz1 hz2 rfl (by decide) _ _ _ rfl (hrow.alloc _) ⟨wr.heap.size, 0, none⟩ 1 1 [.int .i64 k] rfl rfl (cell_one_new _ _ _) (by simp [Value.oneCell']) (by unfold maxLen; omega) (by omega) (by simp; omega) ?_; intro v' w1 hown' hgrow hnil')
        go_roundw
        case rel =>
          have hbn : Below w.heap.size w w1 := (HU.out.2.alloc hs1 _).grown hgrow (by simp; omega) (fun j e => (hrow.lt j e).1)
          refine ⟨k + 1, by omega, by go_num, ?_, hbn⟩
          rw [HU.out.1, nums_snoc, ← HV.out]
          simpa using hown'
        case measure => simp [intOf]; omega
    · have hk64 : k = 64 := by omega
      subst hk64
      have HU := Lib.hid (And.intro hrow hbl)
      clear hrow hbl
      go_wp2_with fail
      go_ret
      exact ⟨_, rfl, HU.out.1, HU.out.2⟩

/-- the integers below n among those below k -/
theorem allS_upto (n : Int) (k : Nat) (hk : k < 64) : Bx.mk (fun i => decide (i < k + 1) && decide ((i : Int) < n)) = if (k : Int) < n then Bx.mk (fun i => decide (i < k) && decide ((i : Int) < n)) ||| Bv.bit k else Bx.mk (fun i => decide (i < k) && decide ((i : Int) < n)) := by
  apply Bv.ext_get
  intro i hi
  rw [Bx.mk_get _ i hi]
  split
  · rename_i h
    rw [BitVec.getLsbD_or, Bx.mk_get _ i hi, Bv.bit_get k i hk, Bool.eq_iff_iff]
    simp; omega
  · rename_i h
    rw [Bx.mk_get _ i hi, Bool.eq_iff_iff]
    simp; omega
set_option maxRecDepth 100000 in
set_option maxHeartbeats 1000000 in
theorem rall_any (n : Int) (w : World) :
    Calls Tryd.prog 14 #[.int .i64 n] w fun e w' => e = .returned (.int .u64 (Bv.U (allS n))) ∧ w = w' := by
  go_enter Tryd.func14, Tryd.ntmps14
  go_wp2_with fail
  go_loop [3, 4] (fun v c => ∃ k : Nat, k ≤ 64 ∧ c = .int .i64 k ∧ v = .int .u64 (Bv.U (Bx.mk (fun i => decide (i < k) && decide ((i : Int) < n))))) (fun _ c => 64 - (intOf c).toNat)
  case atStart => exact ⟨0, Nat.zero_le _, rfl, by simp; rfl⟩
  case round =>
    obtain ⟨k, hk, rfl, rfl⟩ := hrel
    by_cases hlt : k < 64
    · have hs := allS_upto n k hlt
      obtain ⟨t, ht⟩ : ∃ t, t = Bx.mk (fun i => decide (i < k) && decide ((i : Int) < n)) := ⟨_, rfl⟩
      rw [← ht] at hs ⊢
      clear ht
      by_cases hkn : (k : Int) < n
      · rw [if_pos hkn] at hs
        have H := Lib.hid hs
        clear hs
        go_wp2_with fail
        refine (rwith_is _ _ _ (withS_nat t k hlt) _).mono ?_
        rintro e w' ⟨rfl, rfl⟩
        go_wp2_with fail
        go_round
        case rel => exact ⟨k + 1, by omega, by go_num, by rw [H.out]⟩
        case measure => simp [intOf]; omega
      · rw [if_neg hkn] at hs
        have H := Lib.hid hs
        clear hs
        go_wp2_with fail
        go_round
        case rel => exact ⟨k + 1, by omega, by go_num, by rw [H.out]⟩
        case measure => simp [intOf]; omega
    · have hk64 : k = 64 := by omega
      subst hk64
      have he : Bx.mk (fun i => decide (i < 64) && decide ((i : Int) < n)) = allS n := by
        apply Bv.ext_get
        intro i hi
        rw [Bx.mk_get _ i hi, allS_get n i hi]
        simp [hi]
      rw [he]
      clear he
      go_wp2_with fail
      go_ret
      exact ⟨rfl, rfl⟩

set_option maxRecDepth 100000 in
set_option maxHeartbeats 1000000 in
theorem rof_any (A : Option Addr) (zs : List Int) (cap : Nat) (w : World) (hl : zs.length ≤ maxLen) (hA : IntsAt w A zs) :
    Calls Tryd.prog 12 #[.slice A zs.length cap] w fun e w' => e = .returned (.tuple #[.int .u64 (Bv.U (ofS zs)), .bool (ofOk zs)]) ∧ w = w' := by
  unfold maxLen at hl
  go_enter Tryd.func12, Tryd.ntmps12
  go_wp2_with fail
  go_loop [4, 5] (fun s i => ∃ k : Nat, k ≤ zs.length ∧ i = .int .i64 k ∧ s = .int .u64 (Bv.U (ofAcc (zs.take k))) ∧ ofOk (zs.take k) = true) (fun _ i => zs.length - (intOf i).toNat)
  case atStart => exact ⟨0, Nat.zero_le _, rfl, rfl, rfl⟩
  case round =>
    obtain ⟨k, hk, rfl, rfl, hok⟩ := hrel
    by_cases hlt : k < zs.length
    · obtain ⟨b, off, rfl, _, hc⟩ := hA (by omega)
      have hcell := hc k hlt
      have ht := take_snoc_getD zs k hlt
      obtain ⟨z, hz⟩ : ∃ z, z = zs.getD k 0 := ⟨_, rfl⟩
      rw [← hz] at hcell ht
      have HT := Lib.hid ht
      have HK := Lib.hid hok
      clear hA hc hz ht hok
      by_cases hb : inB z = true
      · have h0 : 0 ≤ z := by simp [inB] at hb; omega
        have h1 : z < 64 := by simp [inB] at hb; omega
        have HB := Lib.hid hb
        have hw : ∀ t, withS t z = t ||| Bv.bit z.toNat := fun t => by unfold withS; rw [if_pos ⟨h0, h1⟩]
        have HW := Lib.hid hw
        clear hb hw
        go_wp2_with fail
        refine (rwith_is _ _ _ (HW.out _) _).mono ?_
        rintro e w' ⟨rfl, rfl⟩
        go_wp2_with fail
        go_round
        case rel => exact ⟨k + 1, by omega, by go_num, by rw [HT.out, ofAcc_snoc], by rw [HT.out, ofOk_snoc, HK.out, HB.out]; rfl⟩
        case measure => simp [intOf]; omega
      · have hbf : inB z = false := by simpa using hb
        have hr : ofOk (zs.take (k + 1)) = false := by rw [HT.out, ofOk_snoc, hbf]; simp
        have hr2 := ofOk_take_mono zs (k + 1) hr
        have hS : ofS zs = 0#64 := by unfold ofS; rw [hr2]; rfl
        have HS := Lib.hid (And.intro hS hr2)
        have hcase : z < 0 ∨ 63 < z := by simp [inB] at hbf; omega
        clear hb hbf hr hr2 hS
        rcases hcase with h0 | h0
        all_goals
          go_wp2_with fail
          go_ret2
          exact ⟨by rw [HS.out.1, HS.out.2]; rfl, rfl⟩
    · have hkl : k = zs.length := by omega
      have hall : zs.take k = zs := by rw [hkl]; exact List.take_length
      rw [hall] at hok ⊢
      have hS : ofS zs = ofAcc zs := by unfold ofS; rw [hok]; rfl
      have HS := Lib.hid (And.intro hS hok)
      clear hA hok hS hall hkl
      go_wp2_with fail
      go_ret2
      exact ⟨by rw [HS.out.1, HS.out.2]; rfl, rfl⟩
end Go.Proofs.YtjnoiahkbdoejaaDoor
