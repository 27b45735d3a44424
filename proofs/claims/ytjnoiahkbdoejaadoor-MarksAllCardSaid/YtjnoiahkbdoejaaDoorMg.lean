/- package marks: Of. -/
import Derived.Test.YtjnoiahkbdoejaaDoorMf
namespace Go.Proofs.YtjnoiahkbdoejaaDoor
open Go.RowKit Go.Shelf

attribute [local go_sem] Bv.and_u Bv.or_u Bv.andNot_u Bv.wrap_sub1 Bv.eq0 Bv.ne0 Bv.wrap_pow Bv.wrap_powmin Bv.wrap_neg

/-- the numbers zs lie from A on -/
def IntsAt (w : World) (A : Option Addr) (zs : List Int) : Prop :=
  0 < zs.length → ∃ b off, A = some ⟨b, off, none⟩ ∧ b < w.heap.size ∧ ∀ i, i < zs.length → w.cell? ⟨b, off + i, none⟩ = some (.int .i64 (zs.getD i 0))
theorem IntsAt.below {n : Nat} {w w' : World} {A : Option Addr} {zs : List Int} (h : IntsAt w A zs) (hb : Below n w w') (hn : w.heap.size ≤ n) : IntsAt w' A zs := by
  intro hp
  obtain ⟨b, off, e, hlt, hc⟩ := h hp
  exact ⟨b, off, e, Nat.lt_of_lt_of_le hlt hb.size, fun i hi => (hb.cell (p := ⟨b, off + i, none⟩) (by show b < n; omega)).trans (hc i hi)⟩

def inB (z : Int) : Bool := decide (0 ≤ z ∧ z < 64)
def ofOk (zs : List Int) : Bool := zs.all inB
def ofAcc (zs : List Int) : BitVec 64 := zs.foldl (fun s z => s ||| Bv.bit z.toNat) 0#64
theorem ofOk_snoc (l : List Int) (z : Int) : ofOk (l ++ [z]) = (ofOk l && inB z) := by simp [ofOk]
theorem ofAcc_snoc (l : List Int) (z : Int) : ofAcc (l ++ [z]) = ofAcc l ||| Bv.bit z.toNat := by simp [ofAcc]
/-- what Of returns: the set, the error -/
def ofS (zs : List Int) : BitVec 64 := if ofOk zs then ofAcc zs else 0#64
def ofE (zs : List Int) : Int := if ofOk zs then 0 else 2

theorem take_snoc_getD (zs : List Int) (k : Nat) (h : k < zs.length) : zs.take (k + 1) = zs.take k ++ [zs.getD k 0] := by
  rw [List.take_succ_eq_append_getElem h]
  simp [List.getD_eq_getElem?_getD, List.getElem?_eq_getElem h]
theorem ofOk_take_mono (zs : List Int) (k : Nat) (h : ofOk (zs.take k) = false) : ofOk zs = false := by
  have : zs = zs.take k ++ zs.drop k := (List.take_append_drop k zs).symm
  rw [this]
  unfold ofOk at h ⊢
  rw [List.all_append, h]; rfl

set_option maxHeartbeats 1000000 in
theorem of_any (A : Option Addr) (zs : List Int) (cap : Nat) (w : World) (hl : zs.length ≤ maxLen) (hA : IntsAt w A zs) :
    Calls Tryd.prog 11 #[.slice A zs.length cap] w fun e w' => e = .returned (.tuple #[.int .u64 (Bv.U (ofS zs)), .int .i64 (ofE zs)]) ∧ w' = w := by
  unfold maxLen at hl
  go_enter Tryd.func11, Tryd.ntmps11
  go_wp2
  go_loop [4, 9] (fun s i => ∃ k : Nat, k ≤ zs.length ∧ i = .int .i64 k ∧ s = .int .u64 (Bv.U (ofAcc (zs.take k))) ∧ ofOk (zs.take k) = true) (fun _ i => zs.length - (intOf i).toNat)
  case atStart => exact ⟨0, Nat.zero_le _, rfl, rfl, rfl⟩
  case round =>
    obtain ⟨k, hk, rfl, rfl, hok⟩ := hrel
    by_cases hlt : k < zs.length
    · obtain ⟨b, off, rfl, _, hc⟩ := hA (by omega)
      have hcell := hc k hlt
      have ht := take_snoc_getD zs k hlt
      obtain ⟨z, hz⟩ : ∃ z, z = zs.getD k 0 := ⟨_, rfl⟩
      rw [← hz] at hcell ht
      have HT := Lib.hid ht
      have HK := Lib.hid hok
      clear hA hc hz ht hok
      by_cases hb : inB z = true
      · have h0 : 0 ≤ z := by simp [inB] at hb; omega
        have h1 : z < 64 := by simp [inB] at hb; omega
        have HB := Lib.hid hb
        clear hb
        go_wp2
        go_round
        case rel => exact ⟨k + 1, by omega, by go_num, by rw [HT.out, ofAcc_snoc], by rw [HT.out, ofOk_snoc, HK.out, HB.out]; rfl⟩
        case measure => simp [intOf]; omega
      · have hbf : inB z = false := by simpa using hb
        have hr : ofOk (zs.take (k + 1)) = false := by rw [HT.out, ofOk_snoc, hbf]; simp
        have hr2 := ofOk_take_mono zs (k + 1) hr
        have hS : ofS zs = 0#64 := by unfold ofS; rw [hr2]; rfl
        have hE : ofE zs = 2 := by unfold ofE; rw [hr2]; rfl
        have HS := Lib.hid (And.intro hS hE)
        have hcase : z < 0 ∨ 64 ≤ z := by simp [inB] at hbf; omega
        clear hb hbf hr hr2 hS hE
        rcases hcase with h0 | h0
        all_goals
          go_wp2
          go_ret2
          exact ⟨by rw [HS.out.1, HS.out.2]; rfl, rfl⟩
    · have hkl : k = zs.length := by omega
      have hall : zs.take k = zs := by rw [hkl]; exact List.take_length
      rw [hall] at hok ⊢
      have hS : ofS zs = ofAcc zs := by unfold ofS; rw [hok]; rfl
      have hE : ofE zs = 0 := by unfold ofE; rw [hok]; rfl
      have HS := Lib.hid (And.intro hS hE)
      clear hA hok hS hE hall hkl
      go_wp2
      go_ret2
      exact ⟨by rw [HS.out.1, HS.out.2]; rfl, rfl⟩
end Go.Proofs.YtjnoiahkbdoejaaDoor
