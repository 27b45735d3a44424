/- package view: the iterator elements. -/
import Derived.Test.YtjijgncahonfhaaDoorVb
import Derived.Test.YtjijgncahonfhaaDoorRf
import Derived.Lib.Hide
namespace Go.Proofs.YtjijgncahonfhaaDoor
open Go.RowKit Go.Shelf

attribute [local go_sem] Oper.semAt_some
attribute [local go_sem] Bv.and_u Bv.or_u Bv.andNot_u Bv.wrap_sub1 Bv.eq0 Bv.ne0 Bv.wrap_pow Bv.wrap_powmin Bv.wrap_neg

/-- the elements of what stands in a cell -/
def countIn : Value → Nat
  | .int _ z => (Bs.elems (BitVec.ofInt 64 z)).length
  | _ => 0
/-- how many elements are still to come, read off the box -/
def leftIn (B : Nat) (W : World) : Nat :=
  match W.cell? ⟨B, 0, none⟩ with
  | some v => countIn v
  | _ => 0
theorem leftIn_eq {B : Nat} {W : World} {s : BitVec 64} {t : TypeId} (h : W.heap[B]? = some (.cells #[.int .u64 (Bv.U s)] t (0, 0))) : leftIn B W = (Bs.elems s).length := by
  unfold leftIn; rw [cell_of_one h]; simp [countIn, Bv.ofInt_U]

set_option maxHeartbeats 400000 in
theorem elements_any (s : BitVec 64) (w : World) :
    Calls Tryd.prog 24 #[.int .u64 (Bv.U s)] w fun e w' => e = .returned (.func (.func 33) #[] #[.pointer (some ⟨w.heap.size, 0, none⟩)]) ∧ w' = w.alloc (.cells #[.int .u64 (Bv.U s)] 23) := by
  go_enter Tryd.func24, Tryd.ntmps24
  go_wp2
  go_ret
  exact ⟨rfl, rfl⟩

set_option maxRecDepth 100000 in
set_option maxHeartbeats 1000000 in
theorem elements_in (n : Nat) (Bx : Nat) (s : BitVec 64) :
    Rf.Gives Fence.wide n Tryd.prog 33 #[.pointer (some ⟨Bx, 0, none⟩)] (fun x : Nat => #[Value.int .u8 x]) Bx (Bs.elems s) (.cells #[.int .u64 (Bv.U s)] 23 (0, 0)) Tab := by
  intro l J W hbx hT hJb hY h0
  refine callsIn_of_wp Tryd.func33 rfl trivial ?_ rfl
  simp only [Tryd.ntmps33, List.size_toArray, List.length_cons, List.length_nil, Nat.reduceAdd, Nat.reduceSub, Array.replicate_succ, Array.replicate_zero, List.push_toArray, List.append_toArray, List.nil_append, List.cons_append]
  gi_wp2
  gi_loopw [] (fun wr => ∃ (pre : List Nat) (t : BitVec 64), wr.heap[Bx]? = some (.cells #[.int .u64 (Bv.U t)] 23 (0, 0)) ∧ pre ++ Bs.elems t = Bs.elems s ∧ J pre wr) (fun wr => leftIn Bx wr)
  case atStart => exact ⟨[], s, hbx, rfl, h0⟩
  case round =>
    obtain ⟨pre, t, hb, hpt, hJs⟩ := hrel
    have hc := cell_of_one hb
    have hfz := free_of_one hb
    by_cases hz : t = 0#64
    · have hz1 : (t != 0#64) = false := by simp [hz]
      have hz2 : (t == 0#64) = true := by simp [hz]
      have hnil : pre = Bs.elems s := by rw [← hpt, hz]; simp [Bs.elems]
      have HN := Lib.hid hnil
      clear hz hnil hpt hY
      gi_wp2
      go_end0
      exact ⟨⟨_, rfl⟩, by rw [← HN.out]; exact hJs⟩
    · have hz1 : (t != 0#64) = true := by simp [hz]
      have hz2 : (t == 0#64) = false := by simp [hz]
      have hne : t ≠ 0 := hz
      have hstep := Bs.elems_step hne
      have hlow := Bs.low_lt hne
      have hpre : pre ++ [Bs.low t] <+: Bs.elems s := ⟨Bs.elems (Bs.rest t), by rw [← hpt, hstep]; simp⟩
      have htab := hT _ _ hJs
      have hlt := Bs.rest_lt hne
      have hleft := leftIn_eq hb
      obtain ⟨fn, tmps, assign, body, hy, hR⟩ := hY pre (Bs.low t) wr hJs hpre
      have HH := Lib.hid (And.intro hpt (And.intro hstep hleft))
      clear hY hpt hstep hleft hpre hz
      gi_wp2_with fail
      refine ⟨trivial, fun h => (by cases h), ?_⟩
      refine (callsIn_wide.2 (tz_any _ _ hne htab)).mono ?_
      rintro e w' ⟨rfl, rfl⟩
      gi_wp2_with fail
      try (refine ⟨fun h => (by cases h), ?_⟩)
      refine hR.mono ?_
      rintro e W3 ⟨rfl, hJ3, hk3⟩
      have hb3 := hk3.trans hb
      have hc3 := cell_of_one hb3
      have hfz3 := free_of_one hb3
      have HB := Lib.hid (And.intro hb3 hk3)
      clear hb3 hk3 hR hy hb hc hfz
      gi_wp2
      go_roundw
      case rel => exact ⟨pre ++ [Bs.low t], Bs.rest t, one_setCell HB.out.1, by rw [← HH.out.1, HH.out.2.1]; simp, hJb _ _ _ hJ3⟩
      case measure => rw [HH.out.2.2]; have := leftIn_eq (one_setCell (u := .int .u64 (Bv.U (Bs.rest t))) HB.out.1); exact Nat.lt_of_le_of_lt (Nat.le_of_eq this) hlt
end Go.Proofs.YtjijgncahonfhaaDoor
