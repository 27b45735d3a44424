/- package marks: the iterator elements. -/
import Derived.Test.YtknjdfgmejobfaaDoorMa
import Derived.Test.YtknjdfgmejobfaaDoorRf
import Derived.Lib.Hide
import Derived.Maps.AppendAt
namespace Go.Proofs.YtknjdfgmejobfaaDoor
open Go.RowKit Go.Shelf

attribute [local go_sem] Oper.semAt_some
attribute [local go_sem] Bv.and_u Bv.or_u Bv.andNot_u Bv.wrap_sub1 Bv.eq0 Bv.ne0 Bv.wrap_pow Bv.wrap_powmin Bv.wrap_neg

/-- the elements of what stands in a slot -/
def countOf : Value → Nat
  | .int _ z => (Bs.elems (BitVec.ofInt 64 z)).length
  | _ => 0
theorem countOf_eq (s : BitVec 64) : countOf (.int .u64 (Bv.U s)) = (Bs.elems s).length := by simp [countOf, Bv.ofInt_U]

set_option maxHeartbeats 400000 in
theorem elements_any (s : BitVec 64) (w : World) :
    Calls Tryd.prog 99 #[.int .u64 (Bv.U s)] w fun e w' => e = .returned (.func (.func 102) #[] #[.pointer (some ⟨w.heap.size, 0, none⟩)]) ∧ w' = w.alloc (.cells #[.int .u64 (Bv.U s)] 23) := by
  go_enter Tryd.func99, Tryd.ntmps99
  go_wp2
  go_ret
  exact ⟨rfl, rfl⟩

set_option maxRecDepth 100000 in
set_option maxHeartbeats 1000000 in
theorem elements_in (n : Nat) (l Bx n₀ : Nat) (s : BitVec 64) (hn₀ : 0 < n₀) (J Jx : List Nat → World → Prop)
    (hY : ∀ pre (x : Nat) W, J pre W → pre.length < (Bs.elems s).length → YieldAt Fence.wide (n - 1) Tryd.prog l #[.int .i64 x] W fun e W' =>
      (e = .returned (.bool true) ∧ J (pre ++ [x]) W' ∧ Below n₀ W W') ∨ (e = .returned (.bool false) ∧ Jx (pre ++ [x]) W'))
    (W : World) (hB : W.cell? ⟨Bx, 0, none⟩ = some (.int .u64 (Bv.U s))) (hT : Tab W) (h0 : J [] W) :
    CallsIn Fence.wide n Tryd.prog 102 #[.func (.yield l) #[] #[], .pointer (some ⟨Bx, 0, none⟩)] W fun e W' => (∃ v, e = .returned v) ∧
      ((∃ ys, ys = Bs.elems s ∧ J ys W') ∨ (∃ pre, pre <+: Bs.elems s ∧ Jx pre W')) := by
  refine callsIn_of_wp Tryd.func102 rfl trivial ?_ rfl
  simp only [Tryd.ntmps102, List.size_toArray, List.length_cons, List.length_nil, Nat.reduceAdd, Nat.reduceSub, Array.replicate_succ, Array.replicate_zero, List.push_toArray, List.append_toArray, List.nil_append, List.cons_append]
  gi_wp2
  gi_loopw [3] (fun p wr => ∃ (pre : List Nat) (t : BitVec 64), p = .int .u64 (Bv.U t) ∧ pre ++ Bs.elems t = Bs.elems s ∧ J pre wr ∧ Tab wr) (fun p _ => countOf p)
  case atStart => exact ⟨[], s, rfl, rfl, h0, hT⟩
  case round =>
    obtain ⟨pre, t, rfl, hpt, hJs, htab⟩ := hrel
    by_cases hz : t = 0#64
    · have hz1 : (t != 0#64) = false := by simp [hz]
      have hz2 : (t == 0#64) = true := by simp [hz]
      have hnil : pre = Bs.elems s := by rw [← hpt, hz]; simp [Bs.elems]
      have HN := Lib.hid hnil
      clear hz hnil hpt hY
      gi_wp2
      go_end0
      exact ⟨⟨_, rfl⟩, .inl ⟨_, HN.out, hJs⟩⟩
    · have hz1 : (t != 0#64) = true := by simp [hz]
      have hz2 : (t == 0#64) = false := by simp [hz]
      have hne : t ≠ 0 := hz
      have hstep := Bs.elems_step hne
      have hlow := Bs.low_lt hne
      have hpre : pre ++ [Bs.low t] <+: Bs.elems s := ⟨Bs.elems (Bs.rest t), by rw [← hpt, hstep]; simp⟩
      have hlen : pre.length < (Bs.elems s).length := by rw [← hpt, hstep]; simp
      have hlt := Bs.rest_lt hne
      obtain ⟨fn, tmps, assign, body, hy, hR⟩ := hY pre (Bs.low t) wr hJs hlen
      have HH := Lib.hid (And.intro hpt (And.intro hstep (And.intro hpre hlt)))
      have HT := Lib.hid htab
      clear hY hpt hstep hpre hz hlen hlt
      gi_wp2_with fail
      refine ⟨trivial, fun h => (by cases h), ?_⟩
      refine (callsIn_wide.2 (tz_any _ _ hne htab)).mono ?_
      rintro e w' ⟨rfl, rfl⟩
      gi_wp2_with fail
      try (refine ⟨fun h => (by cases h), ?_⟩)
      refine hR.mono ?_
      rintro e W3 (⟨rfl, hJ3, hk3⟩ | ⟨rfl, hJx3⟩)
      · have hT3 := HT.out.below hk3 hn₀
        have HB := Lib.hid (And.intro hk3 hT3)
        clear hk3 hT3 hR hy htab
        gi_wp2
        go_roundw
        case rel => exact ⟨pre ++ [Bs.low t], Bs.rest t, rfl, by rw [← HH.out.1, HH.out.2.1]; simp, hJ3, HB.out.2⟩
        case measure => rw [countOf_eq t]; exact Nat.lt_of_le_of_lt (Nat.le_of_eq (countOf_eq (Bs.rest t))) HH.out.2.2.2
      · clear hR hy htab
        gi_wp2
        refine bodyPost_ret (results_none rfl _ _ _) rfl ?_
        exact ⟨⟨_, rfl⟩, .inr ⟨pre ++ [Bs.low t], HH.out.2.2.1, hJx3⟩⟩

theorem elements_stops (n : Nat) (Bx n₀ : Nat) (s : BitVec 64) (w : World) (hBx : Bx < w.heap.size) (hn₀ : 0 < n₀) (hn1 : n₀ ≤ w.heap.size)
    (hc : w.cell? ⟨Bx, 0, none⟩ = some (.int .u64 (Bv.U s))) (hT : Tab w) :
    SeqStopsK Fence.wide n Tryd.prog 102 #[.pointer (some ⟨Bx, 0, none⟩)] (fun x : Nat => #[Value.int .i64 x]) (Below n₀) (fun ys => ys = Bs.elems s) (fun pre => pre <+: Bs.elems s) (Bs.elems s).length w := fun l J Jx W hW _ _ hY h0 =>
  elements_in n l Bx n₀ s hn₀ J Jx hY W ((hW.cell (p := ⟨Bx, 0, none⟩) hBx).trans hc) (hT.below hW (by omega)) h0
end Go.Proofs.YtknjdfgmejobfaaDoor
