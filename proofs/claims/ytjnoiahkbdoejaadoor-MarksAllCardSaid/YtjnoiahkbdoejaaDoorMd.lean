/- package marks: Len, Rank. -/
import Derived.Test.YtjnoiahkbdoejaaDoorMc
namespace Go.Proofs.YtjnoiahkbdoejaaDoor
open Go.RowKit Go.Shelf

attribute [local go_sem] Bv.and_u Bv.or_u Bv.andNot_u Bv.wrap_sub1 Bv.eq0 Bv.ne0 Bv.wrap_pow Bv.wrap_powmin Bv.wrap_neg

set_option maxHeartbeats 400000 in
theorem count_any (x : Int) (b k : Nat) (w : World) (hk : k ≤ 64) (hb : Boxed w b 3 (.int .i64 k)) :
    Calls Tryd.prog 33 #[.int .i64 x, .pointer (some ⟨b, 0, none⟩)] w fun e w' => e = .returned (.bool true) ∧ w' = w.setCell ⟨b, 0, none⟩ (.int .i64 ((k + 1 : Nat) : Int)) := by
  have hc := hb.cell
  have hf := hb.frozen
  have e : ((k + 1 : Nat) : Int) = (k : Int) + 1 := by omega
  rw [e]
  clear e hb
  go_enter Tryd.func33, Tryd.ntmps33
  go_wp2
  go_ret
  exact ⟨rfl, rfl⟩

set_option maxRecDepth 100000 in
set_option maxHeartbeats 1000000 in
theorem elements_count (s : BitVec 64) (Bx cb n₀ : Nat) (w : World) (hB : w.cell? ⟨Bx, 0, none⟩ = some (.int .u64 (Bv.U s))) (hc : Boxed w cb 3 (.int .i64 (0 : Nat))) (hn : n₀ ≤ cb) (h0 : 0 < n₀) (hT : Tab w) :
    Calls Tryd.prog 36 #[.func (.func 33) #[] #[.pointer (some ⟨cb, 0, none⟩)], .pointer (some ⟨Bx, 0, none⟩)] w fun e w' => (∃ v, e = .returned v) ∧ Boxed w' cb 3 (.int .i64 (Bs.elems s).length) ∧ Below n₀ w w' := by
  have hle := Bs.elems_le s
  go_enter Tryd.func36, Tryd.ntmps36
  go_wp2
  go_loopw [3] (fun p wr => ∃ (k : Nat) (t : BitVec 64), p = .int .u64 (Bv.U t) ∧ k + (Bs.elems t).length = (Bs.elems s).length ∧ Boxed wr cb 3 (.int .i64 k) ∧ Below n₀ w wr) (fun p _ => countOf p)
  case atStart => exact ⟨0, s, rfl, by simp, hc, Below.refl _ _⟩
  case round =>
    obtain ⟨k, t, rfl, hkt, hbox, hbl⟩ := hrel
    by_cases hz : t = 0#64
    · have hz1 : (t != 0#64) = false := by simp [hz]
      have hz2 : (t == 0#64) = true := by simp [hz]
      have hnil : k = (Bs.elems s).length := by rw [← hkt, hz]; simp [Bs.elems]
      have HN := Lib.hid (And.intro hnil (And.intro hbox hbl))
      clear hz hnil hkt hbox hbl hc hB
      go_wp2
      go_end0
      exact ⟨⟨_, rfl⟩, by rw [← HN.out.1]; exact HN.out.2.1, HN.out.2.2⟩
    · have hz1 : (t != 0#64) = true := by simp [hz]
      have hz2 : (t == 0#64) = false := by simp [hz]
      have hne : t ≠ 0 := hz
      have hstep := Bs.elems_step hne
      have hlow := Bs.low_lt hne
      have hlt := Bs.rest_lt hne
      have hk1 : k + 1 + (Bs.elems (Bs.rest t)).length = (Bs.elems s).length := by rw [← hkt, hstep]; simp; omega
      have hk64 : k ≤ 64 := by omega
      have htab := hT.below hbl h0
      have HH := Lib.hid (And.intro hk1 (And.intro hlt (And.intro hbox hbl)))
      clear hz hstep hlt hkt hk1 hbl hc hB hle
      go_wp2_with fail
      refine (tz_any _ _ hne htab).mono ?_
      rintro e w' ⟨rfl, rfl⟩
      go_wp2_with fail
      refine (count_any _ cb k _ hk64 hbox).mono ?_
      rintro e w' ⟨rfl, rfl⟩
      clear hbox htab
      go_wp2
      go_roundw
      case rel => exact ⟨k + 1, Bs.rest t, rfl, HH.out.1, HH.out.2.2.1.set _, HH.out.2.2.2.setCell (p := ⟨cb, 0, none⟩) hn _⟩
      case measure => rw [countOf_eq t]; exact Nat.lt_of_le_of_lt (Nat.le_of_eq (countOf_eq (Bs.rest t))) HH.out.2.1

set_option maxRecDepth 100000 in
set_option maxHeartbeats 1000000 in
theorem len_any (s : BitVec 64) (w : World) (hT : Tab w) (hw : 0 < w.heap.size) :
    Calls Tryd.prog 18 #[.int .u64 (Bv.U s)] w fun e w' => e = .returned (.int .i64 (Bs.elems s).length) ∧ Below w.heap.size w w' := by
  have hb1 : Below w.heap.size w ((w.alloc (.cells #[.int .i64 (0 : Nat)] 3)).alloc (.cells #[.int .u64 (Bv.U s)] 23)) := ((Below.refl _ _).alloc (Nat.le_refl _) _).alloc (by simp) _
  have hT1 := hT.below hb1 hw
  have bN := Boxed.new (w.alloc (.cells #[.int .i64 (0 : Nat)] 3)) 23 (.int .u64 (Bv.U s))
  rw [World.size_alloc] at bN
  have bC := (Boxed.new w 3 (.int .i64 (0 : Nat))).alloc (.cells #[.int .u64 (Bv.U s)] 23)
  have HB := Lib.hid (And.intro hb1 (And.intro bN (And.intro bC hT1)))
  clear hb1 bN bC hT1
  go_enter Tryd.func18, Tryd.ntmps18
  go_wp2_with fail
  refine (elements_any _ _).mono ?_
  rintro e w1 ⟨rfl, rfl⟩
  go_wp2_with fail
  refine (elements_count s (w.heap.size + 1) w.heap.size w.heap.size _ HB.out.2.1.cell HB.out.2.2.1 (Nat.le_refl _) hw HB.out.2.2.2).mono ?_
  rintro e w2 ⟨⟨v, rfl⟩, hbox, hbl⟩
  have hc := hbox.cell
  have H2 := Lib.hid (HB.out.1.trans hbl)
  clear hbox hbl
  go_wp2
  go_ret
  exact ⟨rfl, H2.out⟩
end Go.Proofs.YtjnoiahkbdoejaaDoor
