/- package marks: Subsets. -/
import Derived.Test.YtjnoiahkbdoejaaDoorMg
import Derived.Test.YtjnoiahkbdoejaaDoorBx
import Derived.Laws.MakeOwn
namespace Go.Proofs.YtjnoiahkbdoejaaDoor
open Go.RowKit Go.Shelf

attribute [local go_sem] Bv.and_u Bv.or_u Bv.andNot_u Bv.wrap_sub1 Bv.eq0 Bv.ne0 Bv.wrap_pow Bv.wrap_powmin Bv.wrap_neg Bv.wrap_sub Bv.eq_u

set_option maxRecDepth 100000 in
set_option maxHeartbeats 400000 in
theorem len64_any (w : World) : Calls Tryd.prog 39 #[.int .u64 65536] w fun e w' => e = .returned (.int .i64 17) ∧ w' = w := by
  go_enter Tryd.func39, Tryd.ntmps39
  go_wp2
  go_ret
  exact ⟨by kernel_rfl, rfl⟩
set_option maxHeartbeats 400000 in
theorem blen_any (w : World) : Calls Tryd.prog 34 #[.int .u64 65536] w fun e w' => e = .returned (.int .i64 17) ∧ w' = w := by
  go_enter Tryd.func34, Tryd.ntmps34
  go_wp2_with (go_at_call 39; refine (len64_any _).mono ?_; rintro e w' ⟨rfl, rfl⟩)
  go_ret
  exact ⟨rfl, rfl⟩

theorem infoSet : (Tryd.prog.info? 23).map (fun i => (i.zero, i.size, i.bytes)) = some (some (.int .u64 0), 1, 8) := by kernel_rfl

/-- sets as cells -/
def sets (l : List (BitVec 64)) : List Value := l.map (fun s => Value.int .u64 (Bv.U s))
theorem sets_snoc (l : List (BitVec 64)) (x : BitVec 64) : sets (l ++ [x]) = sets l ++ [Value.int .u64 (Bv.U x)] := by simp [sets]
/-- the first k subsets -/
def subsK (s : BitVec 64) (k : Nat) : List (BitVec 64) := (List.range k).map (Bx.dep s)
theorem subsK_succ (s : BitVec 64) (k : Nat) : subsK s (k + 1) = subsK s k ++ [Bx.dep s k] := by simp [subsK, List.range_succ]
theorem subsK_len (s : BitVec 64) (k : Nat) : (subsK s k).length = k := by simp [subsK]

theorem subsets_arg (s most : Int) (w : World) (h : 65536 < most) :
    Calls Tryd.prog 26 #[.int .u64 s, .int .i64 most] w fun e w' => e = .returned (.tuple #[.slice none 0 0, .int .i64 2]) ∧ w' = w := by
  go_enter Tryd.func26, Tryd.ntmps26
  go_wp2
  go_ret2
  exact ⟨rfl, rfl⟩
theorem subsets_low (s most : Int) (w : World) (h : most < 1) :
    Calls Tryd.prog 26 #[.int .u64 s, .int .i64 most] w fun e w' => e = .returned (.tuple #[.slice none 0 0, .int .i64 5]) ∧ w' = w := by
  go_enter Tryd.func26, Tryd.ntmps26
  go_wp2
  go_ret2
  exact ⟨rfl, rfl⟩
set_option maxHeartbeats 400000 in
theorem subsets_big (s : BitVec 64) (most : Int) (w : World) (h0 : 1 ≤ most) (h1 : most ≤ 65536) (hn : 17 ≤ (Bs.elems s).length) (hT : Tab w) (hw : 0 < w.heap.size) :
    Calls Tryd.prog 26 #[.int .u64 (Bv.U s), .int .i64 most] w fun e w' => e = .returned (.tuple #[.slice none 0 0, .int .i64 5]) ∧ Below w.heap.size w w' := by
  have hle := Bs.elems_le s
  go_enter Tryd.func26, Tryd.ntmps26
  go_wp2_with fail
  refine (len_any _ _ hT hw).mono ?_
  rintro e w1 ⟨rfl, hb⟩
  have HB := Lib.hid hb
  clear hb
  go_wp2_with (go_at_call 34; refine (blen_any _).mono ?_; rintro e w' ⟨rfl, rfl⟩)
  go_ret2
  exact ⟨rfl, HB.out⟩
theorem pow_hid (n : Nat) (hn : n ≤ 16) : ∃ p : Nat, p = 2 ^ n ∧ 1 ≤ p ∧ p ≤ 65536 ∧ (2 : Int) ^ n = (p : Int) := by
  refine ⟨2 ^ n, rfl, Nat.two_pow_pos n, ?_, by simp⟩
  have := Nat.pow_le_pow_right (show 0 < 2 by decide) hn
  omega
set_option maxHeartbeats 400000 in
theorem subsets_many (s : BitVec 64) (most : Int) (w : World) (h0 : 1 ≤ most) (h1 : most ≤ 65536) (hn : (Bs.elems s).length ≤ 16) (hm : most < (Bx.size s : Nat)) (hT : Tab w) (hw : 0 < w.heap.size) :
    Calls Tryd.prog 26 #[.int .u64 (Bv.U s), .int .i64 most] w fun e w' => e = .returned (.tuple #[.slice none 0 0, .int .i64 5]) ∧ Below w.heap.size w w' := by
  obtain ⟨p, hp, hp1, hp2, hpz⟩ := pow_hid _ hn
  unfold Bx.size at hm
  rw [← hp] at hm
  clear hp
  go_enter Tryd.func26, Tryd.ntmps26
  go_wp2_with fail
  refine (len_any _ _ hT hw).mono ?_
  rintro e w1 ⟨rfl, hb⟩
  have HB := Lib.hid hb
  clear hb
  go_wp2_with (go_at_call 34; refine (blen_any _).mono ?_; rintro e w' ⟨rfl, rfl⟩)
  go_ret2
  exact ⟨rfl, HB.out⟩

/-- which subset stands in a slot -/
noncomputable def depOf (s : BitVec 64) (v : Value) : Nat := open Classical in if h : ∃ k, k < Bx.size s ∧ v = .int .u64 (Bv.U (Bx.dep s k)) then h.choose else 0
theorem depOf_eq (s : BitVec 64) (k : Nat) (hk : k < Bx.size s) : depOf s (.int .u64 (Bv.U (Bx.dep s k))) = k := by
  unfold depOf
  have hex : ∃ j, j < Bx.size s ∧ Value.int .u64 (Bv.U (Bx.dep s k)) = .int .u64 (Bv.U (Bx.dep s j)) := ⟨k, hk, rfl⟩
  rw [dif_pos hex]
  obtain ⟨h1, h2⟩ := hex.choose_spec
  injection h2 with _ h3
  exact (Bx.dep_inj s hk h1 (Bv.U_inj.1 h3)).symm
set_option maxRecDepth 100000 in
set_option maxHeartbeats 2000000 in
theorem subsets_yes (s : BitVec 64) (most : Int) (w : World) (h0 : 1 ≤ most) (h1 : most ≤ 65536) (hn : (Bs.elems s).length ≤ 16) (hm : (Bx.size s : Nat) ≤ most) (hT : Tab w) (hw : 0 < w.heap.size) :
    Calls Tryd.prog 26 #[.int .u64 (Bv.U s), .int .i64 most] w fun e w' => ∃ v, e = .returned (.tuple #[v, .int .i64 0]) ∧ w'.ownsRow w.heap.size 23 1 v (Bx.size s) (sets (subsK s (Bx.size s))) ∧ v ≠ .slice none 0 0 ∧ Below w.heap.size w w' := by
  obtain ⟨p, hp, hp1, hp2, hpz⟩ := pow_hid _ hn
  have hsz : Bx.size s = p := hp.symm
  rw [hsz] at hm ⊢
  have HZ := Lib.hid hsz
  clear hp hsz
  obtain ⟨i0, hi, hz0, hz1, hz2⟩ := info_parts infoSet
  go_enter Tryd.func26, Tryd.ntmps26
  go_wp2_with fail
  refine (len_any _ _ hT hw).mono ?_
  rintro e w1 ⟨rfl, hb⟩
  have hs1 : w.heap.size ≤ w1.heap.size := hb.size
  have HB := Lib.hid hb
  clear hb
  go_wp2_with (first
    | (go_at_call 34; refine (blen_any _).mono ?_; rintro e w' ⟨rfl, rfl⟩)
    | (at_make; refine wpList_make_own _ rfl _ _ 39 rfl w.heap.size 23 i0 (.int .u64 0) 1 Tryd.underlying39 hi hz0 hz1 .i64 .i64 _ p rfl rfl (by first | rfl | (simp; done) | omega) (by rw [hz2]; omega) (by unfold maxLen; omega) hs1 ?_; intro w0 hown0 hgrow0))
  have hb0 := HB.out.grown hgrow0 HB.out.size (fun k e => by cases e)
  have H0 := Lib.hid (And.intro hown0 hb0)
  clear hown0 hgrow0 hb0 hs1
  go_loopw [7, 8] (fun v t wr => ∃ k : Nat, k < p ∧ t = .int .u64 (Bv.U (Bx.dep s k)) ∧ wr.ownsRow w.heap.size 23 1 v k (sets (subsK s k)) ∧ Below w.heap.size w wr ∧ v ≠ .slice none 0 0) (fun _ t _ => p - (depOf s t))
  case atStart => exact ⟨0, by omega, by rw [Bx.dep_zero]; rfl, H0.out.1, H0.out.2, by simp⟩
  case round =>
    obtain ⟨k, hk, rfl, hrow, hbl, hnn⟩ := hrel
    have hkz : k < Bx.size s := by rw [HZ.out]; exact hk
    have heq := Bx.dep_eq s hkz
    rw [HZ.out] at heq
    have hs1 : w.heap.size ≤ wr.heap.size := hbl.size
    have hstep := Bx.dep_step s k
    obtain ⟨d, hd⟩ : ∃ d, d = Bx.dep s k := ⟨_, rfl⟩
    rw [← hd] at heq hstep ⊢
    have HD := Lib.hid (And.intro hd (And.intro hstep (And.intro hkz hnn)))
    clear hd hstep hkz hnn
    by_cases hlast : k + 1 = p
    · have he : (d == s) = true := by rw [heq]; simpa using hlast
      have HL := Lib.hid hlast
      clear heq hlast
      go_wp2_with (at_builtin; refine wpList_append_own _ rfl _ _ 39 rfl w.heap.size 23 i0 (.int .u64 0) 1 8 Tryd.underlying39 hi hz0 hz1 hz2 rfl (by decide) _ _ _ rfl (hrow.alloc _) ⟨wr.heap.size, 0, none⟩ 1 1 [.int .u64 (Bv.U d)] rfl rfl (cell_one_new _ _ _) (by simp [Value.oneCell']) (by unfold maxLen; omega) (by omega) (by simp; omega) ?_; intro v' w1 hown' hgrow hnil')
      go_ret2
      have hbn : Below w.heap.size w w1 := (hbl.alloc hs1 _).grown hgrow (by simp; omega) (fun j e => (hrow.lt j e).1)
      refine ⟨v', rfl, ?_, fun e => by have := hnil'.1 e; omega, hbn⟩
      rw [← HL.out, subsK_succ, sets_snoc, ← HD.out.1]
      exact hown'
    · have he : (d == s) = false := by rw [heq]; simpa using hlast
      have HL := Lib.hid hlast
      clear heq hlast
      go_wp2_with (at_builtin; refine wpList_append_own _ rfl _ _ 39 rfl w.heap.size 23 i0 (.int .u64 0) 1 8 Tryd.underlying39 hi hz0 hz1 hz2 rfl (by decide) _ _ _ rfl (hrow.alloc _) ⟨wr.heap.size, 0, none⟩ 1 1 [.int .u64 (Bv.U d)] rfl rfl (cell_one_new _ _ _) (by simp [Value.oneCell']) (by unfold maxLen; omega) (by omega) (by simp; omega) ?_; intro v' w1 hown' hgrow hnil')
      go_roundw
      case rel =>
        have hbn : Below w.heap.size w w1 := (hbl.alloc hs1 _).grown hgrow (by simp; omega) (fun j e => (hrow.lt j e).1)
        have hkl := HL.out
        refine ⟨k + 1, by omega, by rw [HD.out.2.1], ?_, hbn, fun e => by have := hnil'.1 e; omega⟩
        rw [subsK_succ, sets_snoc, ← HD.out.1]
        exact hown'
      case measure =>
        have hkl := HL.out
        have hz := HZ.out
        simp only [HD.out.2.1]
        have e1 := depOf_eq s k HD.out.2.2.1
        have e2 := depOf_eq s (k + 1) (by omega)
        rw [← HD.out.1] at e1
        first
          | (show p - depOf s (.int .u64 (Bv.U (Bx.dep s (k + 1)))) < p - depOf s (.int .u64 (Bv.U d)); rw [e1, e2]; omega)

/-- what Subsets returns: the error -/
def subsE (s : BitVec 64) (most : Int) : Int := if 65536 < most then 2 else if most < 1 then 5 else if 17 ≤ (Bs.elems s).length then 5 else if most < (Bx.size s : Nat) then 5 else 0
/-- and the list -/
def subsL (s : BitVec 64) (most : Int) : List (BitVec 64) := if subsE s most = 0 then subsK s (Bx.size s) else []
theorem subsets_any (s : BitVec 64) (most : Int) (w : World) (hT : Tab w) (hw : 0 < w.heap.size) :
    Calls Tryd.prog 26 #[.int .u64 (Bv.U s), .int .i64 most] w fun e w' => ∃ v, e = .returned (.tuple #[v, .int .i64 (subsE s most)]) ∧ w'.ownsRow w.heap.size 23 1 v (subsL s most).length (sets (subsL s most)) ∧ Below w.heap.size w w' := by
  have hno : ∀ x : Int, x ≠ 0 → subsE s most = x → (Calls Tryd.prog 26 #[.int .u64 (Bv.U s), .int .i64 most] w fun e w' => e = .returned (.tuple #[.slice none 0 0, .int .i64 x]) ∧ Below w.heap.size w w') →
      Calls Tryd.prog 26 #[.int .u64 (Bv.U s), .int .i64 most] w fun e w' => ∃ v, e = .returned (.tuple #[v, .int .i64 (subsE s most)]) ∧ w'.ownsRow w.heap.size 23 1 v (subsL s most).length (sets (subsL s most)) ∧ Below w.heap.size w w' := by
    intro x hx he h
    refine h.mono fun e w' ⟨h1, h2⟩ => ⟨_, by rw [he]; exact h1, ?_, h2⟩
    have hl : subsL s most = [] := by unfold subsL; rw [he, if_neg hx]
    rw [hl]
    exact World.ownsRow_nil _ _ _ _
  by_cases h1 : 65536 < most
  · exact hno 2 (by omega) (by unfold subsE; rw [if_pos h1]) ((subsets_arg _ _ w h1).mono fun e w' ⟨a, b⟩ => ⟨a, by rw [b]; exact Below.refl _ _⟩)
  · by_cases h2 : most < 1
    · exact hno 5 (by omega) (by unfold subsE; rw [if_neg h1, if_pos h2]) ((subsets_low _ _ w h2).mono fun e w' ⟨a, b⟩ => ⟨a, by rw [b]; exact Below.refl _ _⟩)
    · by_cases h3 : 17 ≤ (Bs.elems s).length
      · exact hno 5 (by omega) (by unfold subsE; rw [if_neg h1, if_neg h2, if_pos h3]) (subsets_big s most w (by omega) (by omega) h3 hT hw)
      · by_cases h4 : most < (Bx.size s : Nat)
        · exact hno 5 (by omega) (by unfold subsE; rw [if_neg h1, if_neg h2, if_neg h3, if_pos h4]) (subsets_many s most w (by omega) (by omega) (by omega) h4 hT hw)
        · have he : subsE s most = 0 := by unfold subsE; rw [if_neg h1, if_neg h2, if_neg h3, if_neg h4]
          have hl : subsL s most = subsK s (Bx.size s) := by unfold subsL; rw [if_pos he]
          refine (subsets_yes s most w (by omega) (by omega) (by omega) (by omega) hT hw).mono fun e w' ⟨v, a, b, _, c⟩ => ⟨v, by rw [he]; exact a, ?_, c⟩
          rw [hl, subsK_len]; exact b
end Go.Proofs.YtjnoiahkbdoejaaDoor
