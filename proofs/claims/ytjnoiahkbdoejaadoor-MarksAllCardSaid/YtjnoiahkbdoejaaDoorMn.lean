/- layer 1's law: the walk of MarksNext. -/
import Derived.Test.YtjnoiahkbdoejaaDoorMl
namespace Go.Proofs.YtjnoiahkbdoejaaDoor
open Go.RowKit Go.Shelf

attribute [local go_sem] Bv.and_u Bv.or_u Bv.andNot_u Bv.wrap_sub1 Bv.eq0 Bv.ne0 Bv.wrap_pow Bv.wrap_powmin Bv.wrap_neg Bv.eq_u Bv.ne_u

theorem row_nums {w : World} {base n : Nat} {e : TypeId} {v : Value} {l : List Nat} (h : w.ownsRow base e 1 v n (nums l)) : ∃ A cap, v = .slice A n cap ∧ l.length = n ∧ cap ≤ maxLen ∧ IntsAt w A (ints l) := by
  obtain ⟨A, cap, e1, e2, e3, h4⟩ := row_ints h
  exact ⟨A, cap, by rw [e1, ints_len, e2], e2, e3, h4⟩
/-- one cell of the list of a set -/
theorem IntsAt.nth {w : World} {A : Option Addr} {s : BitVec 64} (h : IntsAt w A (ints (Bs.elems s))) {k : Nat} (hk : k < (Bs.elems s).length) :
    ∃ b off, A = some ⟨b, off, none⟩ ∧ w.cell? ⟨b, off + k, none⟩ = some (.int .i64 (nthN s k)) := by
  obtain ⟨b, off, e, _, hc⟩ := h (by rw [ints_len]; omega)
  refine ⟨b, off, e, ?_⟩
  rw [hc k (by rw [ints_len]; exact hk), ints_getD]; rfl
theorem next_is (s : BitVec 64) (i n : Int) (b : Bool) (hn : firstN (aboveS s i) = n) (hb : someB (aboveS s i) = b) (w : World) (hT : Tab w) (hw : 0 < w.heap.size) :
    Calls Tryd.prog 23 #[.int .u64 (Bv.U s), .int .i64 i] w fun e W' => e = .returned (.tuple #[.int .i64 n, .bool b]) ∧ Below w.heap.size w W' := by
  subst hn hb; exact next_any s i w hT hw

set_option maxRecDepth 100000 in
set_option maxHeartbeats 4000000 in
theorem marksNext_any (s : BitVec 64) (i : Int) (w : World) (hT : Tab w) (hw : 0 < w.heap.size) :
    Calls Tryd.prog 5 #[.int .u64 (Bv.U s), .int .i64 i] w fun e w' => e = .returned (.bool true) ∧ Below w.heap.size w w' := by
  have hTl : ∀ W, Below w.heap.size w W → Tab W ∧ 0 < W.heap.size := fun W h => ⟨hT.below h hw, Nat.lt_of_lt_of_le hw h.size⟩
  have HT := Lib.hid hTl
  have B0 := Lib.hid (Below.refl w.heap.size w)
  have hL := Bs.elems_le s
  clear hTl hT
  go_enter Tryd.func5, Tryd.ntmps5
  go_wp2_with fail
  refine (list_any _ _ (HT.out _ B0.out).1 (HT.out _ B0.out).2).mono ?_
  rintro e w1 ⟨v, rfl, hrow, _, hb⟩
  obtain ⟨A, cap, rfl, _, _, hat⟩ := row_nums hrow
  have B1 := Lib.hid (B0.out.trans (hb.mono B0.out.size))
  have HA1 := Lib.hid hat
  clear hb B0 hrow hat
  obtain ⟨L, hLe⟩ : ∃ L, L = (Bs.elems s).length := ⟨_, rfl⟩
  rw [← hLe] at hL ⊢
  have HL := Lib.hid hLe
  clear hLe
  go_wp2_with fail
  refine (first_is _ _ _ (nth_first s).1 (nth_first s).2 _ (HT.out _ B1.out).1 (HT.out _ B1.out).2).mono ?_
  rintro e w2 ⟨rfl, hb⟩
  have B2 := Lib.hid (B1.out.trans (hb.mono B1.out.size))
  have HA2 := Lib.hid (HA1.out.below hb (Nat.le_refl _))
  clear hb B1 HA1
  go_wp2_with fail
  go_loopw [6, 7, 23] (fun x y c wr => ∃ k : Nat, k ≤ L ∧ c = .int .i64 k ∧ x = .int .i64 (nthN s k) ∧ y = .bool (nthB s k) ∧ Below w2.heap.size w2 wr) (fun _ _ c _ => L - (intOf c).toNat)
  case atStart => exact ⟨0, Nat.zero_le _, rfl, rfl, rfl, Below.refl _ _⟩
  case round =>
    obtain ⟨k, hk, rfl, rfl, rfl, hbr⟩ := hrel
    have B3 := Lib.hid (B2.out.trans (hbr.mono B2.out.size))
    have HA3 := Lib.hid (HA2.out.below hbr (Nat.le_refl _))
    by_cases hlt : k < L
    · have hltE : k < (Bs.elems s).length := by rw [← HL.out]; exact hlt
      obtain ⟨b, off, rfl, hcell⟩ := HA3.out.nth hltE
      have hB : nthB s k = true := by unfold nthB; simpa using hltE
      have hnx := nth_next s k hltE
      have hr := nth_range s k
      obtain ⟨x, hx⟩ : ∃ x, x = nthN s k := ⟨_, rfl⟩
      rw [← hx] at hcell hnx hr ⊢
      rw [hB]
      have HN := Lib.hid hnx
      have HR := Lib.hid hbr
      clear hB hnx hx hbr hltE
      go_wp2_with fail
      refine (next_is _ _ _ _ HN.out.1 HN.out.2 _ (HT.out _ B3.out).1 (HT.out _ B3.out).2).mono ?_
      rintro e w4 ⟨rfl, hb⟩
      have HR4 := Lib.hid (HR.out.trans (hb.mono HR.out.size))
      clear hb HR B3
      go_wp2_with fail
      go_roundw
      case rel => exact ⟨k + 1, by omega, by go_num, rfl, rfl, HR4.out⟩
      case measure => simp [intOf]; omega
    · have hkL : k = L := by omega
      have hB : nthB s k = false := by unfold nthB; rw [← HL.out]; simpa using hlt
      have hz : nthN s k = 0 := by unfold nthN; rw [List.getElem?_eq_none (by rw [← HL.out]; omega)]; rfl
      rw [hB, hz]
      clear hB hz hbr hkL
      obtain ⟨n, hn⟩ : ∃ n, firstN (aboveS s i) = n := ⟨_, rfl⟩
      obtain ⟨bb, hbb⟩ : ∃ b, someB (aboveS s i) = b := ⟨_, rfl⟩
      have HN := Lib.hid (And.intro hn hbb)
      clear hn hbb
      go_wp2_with fail
      refine (next_is _ _ _ _ HN.out.1 HN.out.2 _ (HT.out _ B3.out).1 (HT.out _ B3.out).2).mono ?_
      rintro e w4 ⟨rfl, hb⟩
      have B4 := Lib.hid (B3.out.trans (hb.mono B3.out.size))
      have HA4 := Lib.hid (HA3.out.below hb (Nat.le_refl _))
      clear hb B3 HA3 HA2 B2
      go_wp2_with fail
      go_loop [50] (fun c => ∃ k : Nat, k ≤ L ∧ c = .int .i64 k ∧ ∀ j, j < k → nthN s j ≤ i) (fun c => L - (intOf c).toNat)
      case atStart => exact ⟨0, Nat.zero_le _, rfl, fun j hj => by omega⟩
      case round =>
        obtain ⟨k2, hk2, rfl, hlow⟩ := hrel
        by_cases hlt2 : k2 < L
        · have hltE : k2 < (Bs.elems s).length := by rw [← HL.out]; exact hlt2
          obtain ⟨b, off, rfl, hcell⟩ := HA4.out.nth hltE
          have hh := above_hit s i k2 hltE hlow
          rw [HN.out.1, HN.out.2] at hh
          obtain ⟨x, hx⟩ : ∃ x, x = nthN s k2 := ⟨_, rfl⟩
          rw [← hx] at hcell hh
          have HX := Lib.hid (And.intro hx hlow)
          clear hx hlow hltE
          by_cases hxi : i < x
          · obtain ⟨h1, h2⟩ := hh hxi
            subst h1 h2
            clear hh
            go_wp2_with fail
            refine (awake_any _ (HT.out _ B4.out).1 (HT.out _ B4.out).2).mono ?_
            rintro e w5 ⟨rfl, hb⟩
            have B5 := Lib.hid (B4.out.trans (hb.mono B4.out.size))
            clear hb B4
            go_wp2_with fail
            go_ret
            exact ⟨rfl, B5.out⟩
          · have hxi' : x ≤ i := by omega
            clear hh hxi
            go_wp2_with fail
            go_round
            case rel =>
              refine ⟨k2 + 1, by omega, by go_num, fun j hj => ?_⟩
              by_cases e : j = k2
              · subst e; rw [← HX.out.1]; exact hxi'
              · exact HX.out.2 j (by omega)
            case measure => simp [intOf]; omega
        · have hno := above_none s i (fun j hj => hlow j (by rw [← HL.out] at hj; omega))
          rw [HN.out.1, HN.out.2] at hno
          obtain ⟨h1, h2⟩ := hno
          subst h1 h2
          clear hlow
          go_wp2_with fail
          refine (awake_any _ (HT.out _ B4.out).1 (HT.out _ B4.out).2).mono ?_
          rintro e w5 ⟨rfl, hb⟩
          have B5 := Lib.hid (B4.out.trans (hb.mono B4.out.size))
          clear hb B4
          go_wp2_with fail
          go_ret
          exact ⟨rfl, B5.out⟩
end Go.Proofs.YtjnoiahkbdoejaaDoor
