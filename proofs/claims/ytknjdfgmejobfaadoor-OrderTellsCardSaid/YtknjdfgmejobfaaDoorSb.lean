/- package order: extend, the iterator's own recursion. -/
import Derived.Test.YtknjdfgmejobfaaDoorSa
import Derived.Test.YtknjdfgmejobfaaDoorRg
import Derived.Test.YtknjdfgmejobfaaDoorLi
import Derived.Test.YtknjdfgmejobfaaDoorPm
import Derived.Deep.DeepAppendRoom
import Derived.Stop.RegionWithIn
import Derived.Lib.QuietBelowIn
import Derived.Sort.BigQuietIn
namespace Go.Proofs.YtknjdfgmejobfaaDoor
open Go.RowKit Go.Shelf

attribute [local go_sem] Oper.semAt_some
attribute [local go_sem] Bv.and_u Bv.or_u Bv.andNot_u Bv.wrap_sub1 Bv.eq0 Bv.ne0 Bv.wrap_pow Bv.wrap_powmin Bv.wrap_neg Bv.eq_u Bv.ne_u

/-- a shorter part of a row -/
theorem ownsRow_front {w : World} {base g n cap : Nat} {e : TypeId} {xs : List Value} {x : Value} (h : w.ownsRow base e 1 (.slice (some ⟨g, 0, none⟩) (n + 1) cap) (n + 1) (xs ++ [x])) (hx : xs.length = n) :
    w.ownsRow base e 1 (.slice (some ⟨g, 0, none⟩) n cap) n xs := by
  refine ⟨by omega, .inr ?_⟩
  rcases h.2 with ⟨h0, _⟩ | ⟨g', cap', cur, hv, hb, hg, hnc, hcm, hcs, htake⟩
  · cases h0
  · injection hv with e1 e2 e3
    subst e3
    refine ⟨g, cap, cur, rfl, ?_, ?_, by omega, hcm, hcs, ?_⟩
    · injection e1 with e1; injection e1 with e1; rw [e1]; exact hb
    · injection e1 with e1; injection e1 with e1; rw [e1]; exact hg
    · have := congrArg (List.take n) htake
      simpa [List.take_take, hx] using this
/-- what is handed to a round: a list that is not nil, its items in memory -/
def ListV (x : List Nat) (v : Value) (W : World) : Prop := ∃ g c, v = .slice (some ⟨g, 0, none⟩) x.length c ∧ IntsAt W (some ⟨g, 0, none⟩) (ints x)
/-- what the recursion has of its own in memory -/
structure Mine (B : Nat) (bb g N : Nat) (n : Int) (before : Rl.Rows) (l : List Nat) (fp : List Nat) (W : World) : Prop where
  ne : bb ≠ g
  nb : bb ∉ fp
  ng : g ∉ fp
  bs : B ≤ W.heap.size
  rel : RelAt W bb n before
  row : W.ownsRow B 3 1 (.slice (some ⟨g, 0, none⟩) l.length N) l.length (nums l)
theorem Mine.glt {B bb g N : Nat} {n : Int} {before : Rl.Rows} {l fp : List Nat} {W : World} (h : Mine B bb g N n before l fp W) : B ≤ g ∧ g < W.heap.size ∧ l.length ≤ N ∧ N ≤ maxLen := by
  rcases h.row.2 with ⟨h0, _⟩ | ⟨g', cap', cur, hv, hb, hg, hnc, hcm, hcs, htake⟩
  · cases h0
  · injection hv with e1 e2 e3
    injection e1 with e1; injection e1 with e1
    subst e1 e3
    exact ⟨hb, (Array.getElem?_eq_some_iff.1 hg).1, hnc, hcm⟩
/-- behind a round -/
theorem Mine.grew {B bb g N : Nat} {n : Int} {before : Rl.Rows} {l fp fp' : List Nat} {W W' : World} (h : Mine B bb g N n before l fp W) (hB : B ≤ bb) (hg : Rg.Grew B fp fp' W W') : Mine B bb g N n before l fp' W' := by
  obtain ⟨g1, g2, _, _⟩ := h.glt
  refine ⟨h.ne, fun hm => ?_, fun hm => ?_, Nat.le_trans h.bs hg.size, (hg.keep bb hB h.rel.lt h.nb).trans h.rel, ?_⟩
  · rcases hg.new _ hm with h1 | h1
    · exact h.nb h1
    · have := h.rel.lt; omega
  · rcases hg.new _ hm with h1 | h1
    · exact h.ng h1
    · omega
  · refine ⟨h.row.1, .inr ?_⟩
    rcases h.row.2 with ⟨h0, _⟩ | ⟨g', cap', cur, hv, hb, hgc, rest⟩
    · cases h0
    · injection hv with e1 e2 e3
      injection e1 with e1; injection e1 with e1
      subst e1 e3
      exact ⟨g, N, cur, rfl, hb, (hg.keep g g1 g2 h.ng).trans hgc, rest⟩

theorem wpIn_op_append_fits {F : Fence} {n : Nat} {P : Program} (w : World) {o : Oper} {a : Act} {K : Act → World → Prop} {Q : Exit → Act → World → Prop}
    (s x : Operand) (t : TypeId) (hop : o.op = Op.call { callee := Callee.builtin Builtin.append, args := #[s, x], argTypes := #[t, t] })
    (base : Nat) (e : TypeId) (i : TypeInfo) (size : Nat) (h1 : P.underlying t = some (.slice e)) (h2 : P.info? e = some i) (h4 : i.size = size)
    (g k cap : Nat) (xs : List Value) (hs : a.eval s = .slice (some ⟨g, 0, none⟩) k cap) (hown : w.ownsRow base e size (.slice (some ⟨g, 0, none⟩) k cap) k xs) (ad : Addr) (m c : Nat) (news : List Value) (hx : a.eval x = .slice (some ad) m c) (hn : news.length = m * size)
    (hc : ∀ j u, news[j]? = some u → w.cell? (ad.add j) = some u) (h1c : ∀ u ∈ news, u.oneCell' = true) (b1 : k + m ≤ cap)
    (hK : ∀ w', w'.ownsRow base e size (.slice (some ⟨g, 0, none⟩) (k + m) cap) (k + m) (xs ++ news) → w.grownBy w' (some g) → K (a.put o.dst (.slice (some ⟨g, 0, none⟩) (k + m) cap)) w') :
    Oper.wpIn F n P o a w K Q := by
  obtain ⟨w', hrun, r1, r2⟩ := run_append_fits (P := P) w base t o.type e i size h1 h2 h4 g k cap xs hown ad m c news hn hc h1c b1
  unfold Oper.wpIn
  refine ⟨?_, ?_⟩
  · simp [Oper.about, hop, resolve, Target.leads, Sem.run_pure]
  · rw [Oper.semAt_plain F _ _ (by rw [hop]; intro c hc'; cases hc')]
    simp [execOp, hop, resolve, invoke, builtin, hs, hx, hrun, Result.andThen]
    exact hK w' r1 r2
theorem wpIn_op_call {n : Nat} {P : Program} {w : World} {o : Oper} {a : Act} {K : Act → World → Prop} {Q : Exit → Act → World → Prop} (f : FuncId) (args : Array Value) (hnd : ∀ c, o.op ≠ .defer c)
    (hv : (execOp a.eval o).run P w = .ok (.enter f args) w) (h : CallsIn Fence.wide (n - 1) P f args w fun e w' => ∃ v, e = .returned v ∧ K (a.put o.dst v) w') : Oper.wpIn Fence.wide n P o a w K Q := by
  unfold Oper.wpIn
  refine ⟨fun _ _ => trivial, ?_⟩
  rw [Oper.semAt_plain Fence.wide _ _ hnd, hv, Oper.uponIn_enter]
  exact ⟨fun h => (by cases h), h.mono fun e w' ⟨v, he, hk⟩ => by subst he; exact hk⟩
/-- the round at a whole order -/
abbrev Yields (lp B : Nat) (xs : List (List Nat)) (J : List (List Nat) → List Nat → World → Prop) (Jx : List (List Nat) → World → Prop) : Prop :=
  ∀ m pre fp x v W1, J pre fp W1 → B ≤ W1.heap.size → pre ++ [x] <+: xs → ListV x v W1 → YieldAt Fence.wide m Tryd.prog lp #[v] W1 fun e W' =>
      (e = .returned (.bool true) ∧ ∃ fp', J (pre ++ [x]) fp' W' ∧ Rg.Grew B fp fp' W1 W') ∨ (e = .returned (.bool false) ∧ Jx (pre ++ [x]) W')
set_option maxRecDepth 100000 in
set_option maxHeartbeats 1000000 in
theorem extend_zero (lp B : Nat) (xs : List (List Nat)) (n : Int) (before : Rl.Rows) (bb g N : Nat) (J : List (List Nat) → List Nat → World → Prop) (Jx : List (List Nat) → World → Prop)
    (hY : Yields lp B xs J Jx) (hbb : B ≤ bb) (l : List Nat) (m : Nat) (pre : List (List Nat)) (fp : List Nat) (W : World) (hpre : pre ++ [l] <+: xs) (hj : J pre fp W) (hm : Mine B bb g N n before l fp W) :
      CallsIn Fence.wide m Tryd.prog 101 #[.pointer (some ⟨bb, 0, none⟩), .int .u64 (Bv.U 0#64), .slice (some ⟨g, 0, none⟩) l.length N, .func (.yield lp) #[] #[]] W fun e W' =>
        ∃ b, e = .returned (.bool b) ∧ (b = true → ∃ fp', J (pre ++ [l]) fp' W' ∧ Mine B bb g N n before l fp' W' ∧ W.heap.size ≤ W'.heap.size) ∧ (b = false → ∃ q, q <+: xs ∧ Jx q W') := by
  obtain ⟨A1, c1, e1, _, _, hA⟩ := row_nums hm.row
  obtain ⟨fn, tmps, assign, body, hy, hR⟩ := hY (m - 1) pre fp l (.slice (some ⟨g, 0, none⟩) l.length N) W hj hm.bs hpre ⟨g, N, rfl, by injection e1 with e1 _ _; rw [e1]; exact hA⟩
  have hz : (0#64 == 0#64) = true := rfl
  have HM := Lib.hid (And.intro hm hpre)
  clear hY hm hpre hj e1 hA
  refine callsIn_of_wp Tryd.func101 rfl trivial ?_ rfl
  simp only [Tryd.ntmps101, List.size_toArray, List.length_cons, List.length_nil, Nat.reduceAdd, Nat.reduceSub, Array.replicate_succ, Array.replicate_zero, List.push_toArray, List.append_toArray, List.nil_append, List.cons_append]
  gi_wp2_with fail
  try (refine ⟨fun h => (by cases h), ?_⟩)
  refine hR.mono ?_
  rintro e W3 (⟨rfl, fp', hJ3, hg3⟩ | ⟨rfl, hJx3⟩)
  · have HG := Lib.hid (And.intro hJ3 hg3)
    clear hJ3 hg3 hR hy
    gi_wp2
    refine bodyPost_ret (results_tmp rfl _ _ _) rfl ?_
    exact ⟨true, rfl, fun _ => ⟨fp', HG.out.1, HM.out.1.grew hbb HG.out.2, HG.out.2.size⟩, fun h => by cases h⟩
  · have HG := Lib.hid hJx3
    clear hJx3 hR hy
    gi_wp2
    refine bodyPost_ret (results_tmp rfl _ _ _) rfl ?_
    exact ⟨false, rfl, fun h => (by cases h), fun _ => ⟨_, HM.out.2, HG.out⟩⟩
theorem Mine.below {B bb g N : Nat} {n : Int} {before : Rl.Rows} {l fp : List Nat} {W W' : World} (h : Mine B bb g N n before l fp W) (hb : Below W.heap.size W W') : Mine B bb g N n before l fp W' :=
  ⟨h.ne, h.nb, h.ng, Nat.le_trans h.bs hb.size, h.rel.below hb h.rel.lt, ownsRow_below2 h.row hb⟩
theorem may_bit (before : Rl.Rows) (left : BitVec 64) (a : Nat) : (before a &&& left == 0#64) = Rl.mayB before left a := rfl
theorem rest_in {s : BitVec 64} (h : s ≠ 0#64) {i : Nat} (hi : (Bs.rest s).getLsbD i = true) : s.getLsbD i = true := by
  rw [Bs.rest_bit h, Bool.and_eq_true] at hi; exact hi.1
set_option maxRecDepth 100000 in
set_option maxHeartbeats 1000000 in
theorem extend_in (lp B : Nat) (xs : List (List Nat)) (n : Int) (before : Rl.Rows) (bb g N : Nat) (J : List (List Nat) → List Nat → World → Prop) (Jx : List (List Nat) → World → Prop)
    (hT : ∀ pre fp W, J pre fp W → Tab W ∧ 0 < W.heap.size)
    (hJ : ∀ pre fp W1 W2, J pre fp W1 → Rg.Steps B fp W1 W2 → J pre fp W2)
    (hY : Yields lp B xs J Jx) (hbb : B ≤ bb) :
    ∀ (k : Nat) (left : BitVec 64) (l : List Nat) (m : Nat) (pre : List (List Nat)) (fp : List Nat) (W : World), Bx.card left ≤ k → l.length + Bx.card left ≤ N → (∀ i, left.getLsbD i = true → i < 48) →
      pre ++ Rl.ext before k left l <+: xs → J pre fp W → Mine B bb g N n before l fp W →
      CallsIn Fence.wide m Tryd.prog 101 #[.pointer (some ⟨bb, 0, none⟩), .int .u64 (Bv.U left), .slice (some ⟨g, 0, none⟩) l.length N, .func (.yield lp) #[] #[]] W fun e W' =>
        ∃ b, e = .returned (.bool b) ∧ (b = true → ∃ fp', J (pre ++ Rl.ext before k left l) fp' W' ∧ Mine B bb g N n before l fp' W' ∧ W.heap.size ≤ W'.heap.size) ∧ (b = false → ∃ q, q <+: xs ∧ Jx q W') := by
  obtain ⟨i0, hi, hz0, hz1, hz2⟩ := info_parts infoInt
  intro k
  induction k with
  | zero =>
    intro left l m pre fp W hk hN h48 hpre hj hm
    have h0 : left = 0#64 := Rl.card_zero (by omega)
    subst h0
    exact extend_zero lp B xs n before bb g N J Jx hY hbb l m pre fp W hpre hj hm
  | succ k ih =>
    intro left l m pre fp W hk hN h48 hpre hj hm
    by_cases h0 : left = 0#64
    · subst h0
      rw [Rl.ext_nil] at hpre ⊢
      exact extend_zero lp B xs n before bb g N J Jx hY hbb l m pre fp W hpre hj hm
    rw [Rl.ext_step h0] at hpre ⊢
    have hz : (left == 0#64) = false := by simp [h0]
    have hTW := hT _ _ _ hj
    have HI := Lib.hid (And.intro ih (And.intro hT (And.intro hJ hpre)))
    have HM := Lib.hid (And.intro hj (And.intro hm (And.intro hTW (And.intro hk (And.intro hN h48)))))
    have hsome := some_ne h0
    have HS := Lib.hid hsome
    clear ih hT hJ hpre hj hm hTW hY hk hN h48 hsome
    refine callsIn_of_wp Tryd.func101 rfl trivial ?_ rfl
    simp only [Tryd.ntmps101, List.size_toArray, List.length_cons, List.length_nil, Nat.reduceAdd, Nat.reduceSub, Array.replicate_succ, Array.replicate_zero, List.push_toArray, List.append_toArray, List.nil_append, List.cons_append]
    gi_wp2_with fail
    first | refine ⟨trivial, fun h => (by cases h), ?_⟩ | refine ⟨trivial, ?_⟩
    refine (callsIn_wide.2 (first_is left (Bs.low left : Nat) true HS.out.1 HS.out.2 W HM.out.2.2.1.1 HM.out.2.2.1.2)).mono ?_
    rintro e w1 ⟨rfl, hb⟩
    have H1 := Lib.hid (And.intro (HI.out.2.2.1 _ _ _ _ HM.out.1 (.of_below hb)) (And.intro (HM.out.2.1.below hb) hb.size))
    clear hb
    gi_wp2_with fail
    gi_loopw [9, 10, 11] (fun r a ok wr => ∃ (rest : BitVec 64) (pre' : List (List Nat)) (fp' : List Nat), r = .int .u64 (Bv.U rest) ∧ a = .int .i64 (firstN rest) ∧ ok = .bool (someB rest) ∧ (∀ i, rest.getLsbD i = true → left.getLsbD i = true) ∧
      pre' ++ Rl.extR before k left l rest = pre ++ Rl.extR before k left l left ∧ J pre' fp' wr ∧ Mine B bb g N n before l fp' wr ∧ W.heap.size ≤ wr.heap.size) (fun r _ _ _ => countOf r)
    case atStart => exact ⟨left, pre, fp, rfl, by rw [HS.out.1], by rw [HS.out.2], fun _ h => h, rfl, H1.out.1, H1.out.2.1, H1.out.2.2⟩
    case round =>
      obtain ⟨rest, pre', fp', rfl, rfl, rfl, hin, hpre', hj, hm, hsz⟩ := hrel
      by_cases hr0 : rest = 0#64
      · subst hr0
        rw [Rl.extR_zero, List.append_nil] at hpre'
        rw [some_zero.1, some_zero.2]
        have HE := Lib.hid (And.intro hj (And.intro hm (And.intro hpre' hsz)))
        clear hj hm hpre' hin hsz
        gi_wp2_with fail
        refine bodyPost_ret (results_tmp rfl _ _ _) rfl ?_
        exact ⟨true, rfl, fun _ => ⟨fp', by rw [← HE.out.2.2.1]; exact HE.out.1, HE.out.2.1, HE.out.2.2.2⟩, fun h => by cases h⟩
      · have hs := some_ne hr0
        rw [hs.1, hs.2]
        have hlow := Bs.low_bit (show rest ≠ 0 from hr0)
        have hlow48 := HM.out.2.2.2.2.2 _ (hin _ hlow)
        obtain ⟨a, ha⟩ : ∃ a, a = Bs.low rest := ⟨_, rfl⟩
        have hTW := HI.out.2.1 _ _ _ hj
        have hrl := Bs.rest_lt (show rest ≠ 0 from hr0)
        cases hmay : Rl.mayB before left (Bs.low rest)
        · have h1 : (before a &&& left == 0#64) = false := by rw [may_bit, ha]; exact hmay
          rw [Rl.extR_miss hr0 hmay] at hpre'
          have cR := fun d os => (rel_grow hm.rel d os).row a (by omega)
          have q0 : (0 : Int) ≤ (a : Int) := by omega
          have q1 : (a : Int) < 48 := by omega
          have HN := Lib.hid (And.intro hj (And.intro hm (And.intro hpre' (And.intro hin (And.intro hsz (And.intro hTW hrl))))))
          have HR0 := Lib.hid hr0
          rw [← ha]
          clear hj hm hpre' hin hsz hTW hs hlow hmay ha hrl
          gi_wp2_with fail
          refine wpIn_region_quiet_below rfl (by kernel_rfl) (by kernel_rfl) ?_
          repeat (refine wpQuietIn_step (fun _ _ _ _ => trivial) (fun K hK => ?_); go_simp; refine hK _ ?_; clear hK K)
          refine wpQuietIn_nil ?_
          intro W2 hw2
          have H2 := Lib.hid (And.intro (HI.out.2.2.1 _ _ _ _ HN.out.1 (.of_below (below_of_regrown hw2))) (And.intro (HN.out.2.1.below (below_of_regrown hw2)) (Nat.le_trans HN.out.2.2.2.2.1 (below_of_regrown hw2).size)))
          clear hw2 cR
          gi_wp2_with fail
          first | refine ⟨trivial, fun h => (by cases h), ?_⟩ | refine ⟨trivial, ?_⟩
          refine (callsIn_wide.2 (first_any (Bs.rest rest) W2 (HI.out.2.1 _ _ _ H2.out.1).1 (HI.out.2.1 _ _ _ H2.out.1).2)).mono ?_
          rintro e w3 ⟨rfl, hb⟩
          have H3 := Lib.hid (And.intro (HI.out.2.2.1 _ _ _ _ H2.out.1 (.of_below hb)) (And.intro (H2.out.2.1.below hb) (Nat.le_trans H2.out.2.2 hb.size)))
          clear hb
          gi_wp2_with fail
          go_roundw
          case rel => exact ⟨Bs.rest rest, pre', fp', rfl, rfl, rfl, fun i hi => HN.out.2.2.2.1 i (rest_in HR0.out hi), HN.out.2.2.1, H3.out.1, H3.out.2.1, H3.out.2.2⟩
          case measure => rw [countOf_eq rest]; exact Nat.lt_of_le_of_lt (Nat.le_of_eq (countOf_eq (Bs.rest rest))) HN.out.2.2.2.2.2.2
        · have h1 : (before a &&& left == 0#64) = true := by rw [may_bit, ha]; exact hmay
          rw [Rl.extR_hit hr0 hmay, ← List.append_assoc, ← ha] at hpre'
          have hcard := Rl.card_minus left a (by rw [ha]; exact hin _ hlow)
          obtain ⟨gl1, gl2, gl3, gl4⟩ := hm.glt
          have hmin : ∀ i, (left &&& ~~~ Bv.bit a).getLsbD i = true → i < 48 := fun i hi => HM.out.2.2.2.2.2 i ((Rl.minus_iff left a i (by omega)).1 hi).1
          have cR := hm.rel.row a (by omega)
          have q0 : (0 : Int) ≤ (a : Int) := by omega
          have q1 : (a : Int) < 48 := by omega
          have hroom : l.length + 1 ≤ N := by have := HM.out.2.2.2.2.1; omega
          have HN := Lib.hid (And.intro hpre' (And.intro hin (And.intro hsz (And.intro hrl (And.intro hj (And.intro hm (And.intro gl1 (And.intro hmin hcard))))))))
          have HR0 := Lib.hid hr0
          rw [← ha]
          clear hj hm hpre' hin hsz hTW hs hlow hmay ha hrl hmin gl1 gl2 gl3 gl4 hcard
          gi_wp2_with fail
          refine wpIn_region_any (by kernel_rfl) ?_
          change wpAnyIn _ _ _ _ _ _ _ _ _ (World.drew _)
          refine wpAnyIn_take (i := 0) (v := ?_) rfl (by simp only [List.getElem?_toArray, List.getElem?_cons_succ, List.getElem?_cons_zero]; rfl) (by kernel_rfl) (by kernel_rfl) (by kernel_rfl) (by exact fun _ _ _ h => h) ⟨Or.inl ⟨by rfl, ?_⟩, by exact fun _ => rfl⟩ ?_
          rotate_left
          · intro w; go_simp; try (with_reducible rfl)
          try simp only [Act.put, List.setIfInBounds_toArray, List.set_cons_zero, List.set_cons_succ]
          refine wpAnyIn_take (i := 1) (v := ?_) rfl (by simp only [List.getElem?_toArray, List.getElem?_cons_succ, List.getElem?_cons_zero]; rfl) (by kernel_rfl) (by kernel_rfl) (by kernel_rfl) (by exact fun _ _ _ h => h) ⟨Or.inl ⟨by rfl, ?_⟩, by exact fun _ => rfl⟩ ?_
          rotate_left
          · intro w; go_simp; try (with_reducible rfl)
          try simp only [Act.put, List.setIfInBounds_toArray, List.set_cons_zero, List.set_cons_succ]
          refine wpAnyIn_take (i := 2) (v := ?_) rfl (by simp only [List.getElem?_toArray, List.getElem?_cons_succ, List.getElem?_cons_zero]; rfl) (by kernel_rfl) (by kernel_rfl) (by kernel_rfl) (by exact fun _ _ _ h => h) ⟨Or.inl ⟨by rfl, ?_⟩, by exact fun _ => rfl⟩ ?_
          rotate_left
          · intro w; go_simp; try (with_reducible rfl)
          try simp only [Act.put, List.setIfInBounds_toArray, List.set_cons_zero, List.set_cons_succ]
          refine wpAnyIn_take (i := 3) (v := ?_) rfl (by simp only [List.getElem?_toArray, List.getElem?_cons_succ, List.getElem?_cons_zero]; rfl) (by kernel_rfl) (by kernel_rfl) (by kernel_rfl) (by exact fun _ _ _ h => h) ⟨Or.inl ⟨by rfl, ?_⟩, by exact fun _ => rfl⟩ ?_
          rotate_left
          · intro w; go_simp; try (with_reducible rfl)
          try simp only [Act.put, List.setIfInBounds_toArray, List.set_cons_zero, List.set_cons_succ]
          refine wpAnyIn_take (i := 4) (v := ?_) rfl (by simp only [List.getElem?_toArray, List.getElem?_cons_succ, List.getElem?_cons_zero]; rfl) (by kernel_rfl) (by kernel_rfl) (by kernel_rfl) (by exact fun _ _ _ h => h) ⟨Or.inl ⟨by rfl, ?_⟩, by exact fun _ => rfl⟩ ?_
          rotate_left
          · intro w; go_simp; try (with_reducible rfl)
          try simp only [Act.put, List.setIfInBounds_toArray, List.set_cons_zero, List.set_cons_succ]
          refine wpAnyIn_take (i := 6) (v := ?_) rfl (by simp only [List.getElem?_toArray, List.getElem?_cons_succ, List.getElem?_cons_zero]; rfl) (by kernel_rfl) (by kernel_rfl) (by kernel_rfl) (by exact fun _ _ _ h => h) ⟨Or.inl ⟨by rfl, ?_⟩, by exact fun _ => rfl⟩ ?_
          rotate_left
          · intro w; go_simp; try (with_reducible rfl)
          try simp only [Act.put, List.setIfInBounds_toArray, List.set_cons_zero, List.set_cons_succ]
          refine wpAnyIn_ready (rs := [5]) (by kernel_rfl) (by simp) ?_
          refine AllReadyIn.cons (by simp only [List.getElem?_toArray, List.getElem?_cons_succ, List.getElem?_cons_zero]; rfl) (fun K hK => ?_) AllReadyIn.nil
          go_simp
          refine hK _ _ ?_
          clear hK K
          try simp only [Act.put, List.setIfInBounds_toArray, List.set_cons_zero, List.set_cons_succ]
          refine wpAnyIn_take (i := 7) (v := ?_) rfl (by simp only [List.getElem?_toArray, List.getElem?_cons_succ, List.getElem?_cons_zero]; rfl) (by kernel_rfl) (by kernel_rfl) (by kernel_rfl) (by exact fun _ _ _ h => h) ⟨Or.inl ⟨by rfl, ?_⟩, by exact fun _ => rfl⟩ ?_
          rotate_left
          · intro w; go_simp; try (with_reducible rfl)
          try simp only [Act.put, List.setIfInBounds_toArray, List.set_cons_zero, List.set_cons_succ]
          refine wpAnyIn_take (i := 8) (v := ?_) rfl (by simp only [List.getElem?_toArray, List.getElem?_cons_succ, List.getElem?_cons_zero]; rfl) (by kernel_rfl) (by kernel_rfl) (by kernel_rfl) (by exact fun _ _ _ h => h) ⟨Or.inl ⟨by rfl, ?_⟩, by exact fun _ => rfl⟩ ?_
          rotate_left
          · intro w; go_simp; try (with_reducible rfl)
          try simp only [Act.put, List.setIfInBounds_toArray, List.set_cons_zero, List.set_cons_succ]
          refine wpAnyIn_take (i := 9) (v := ?_) rfl (by simp only [List.getElem?_toArray, List.getElem?_cons_succ, List.getElem?_cons_zero]; rfl) (by kernel_rfl) (by kernel_rfl) (by kernel_rfl) (by exact fun _ _ _ h => h) ⟨Or.inl ⟨by rfl, ?_⟩, by exact fun _ => rfl⟩ ?_
          rotate_left
          · intro w; go_simp; try (with_reducible rfl)
          try simp only [Act.put, List.setIfInBounds_toArray, List.set_cons_zero, List.set_cons_succ]
          refine wpAnyIn_take (i := 10) (v := ?_) rfl (by simp only [List.getElem?_toArray, List.getElem?_cons_succ, List.getElem?_cons_zero]; rfl) (by kernel_rfl) (by kernel_rfl) (by kernel_rfl) (by exact fun _ _ _ h => h) ⟨Or.inl ⟨by rfl, ?_⟩, by exact fun _ => rfl⟩ ?_
          rotate_left
          · intro w; go_simp; try (with_reducible rfl)
          try simp only [Act.put, List.setIfInBounds_toArray, List.set_cons_zero, List.set_cons_succ]
          refine wpAnyIn_take (i := 11) (v := ?_) rfl (by simp only [List.getElem?_toArray, List.getElem?_cons_succ, List.getElem?_cons_zero]; rfl) (by kernel_rfl) (by kernel_rfl) (by kernel_rfl) (by exact fun _ _ _ h => h) ⟨Or.inl ⟨by rfl, ?_⟩, by exact fun _ => rfl⟩ ?_
          rotate_left
          · intro w; go_simp; try (with_reducible rfl)
          try simp only [Act.put, List.setIfInBounds_toArray, List.set_cons_zero, List.set_cons_succ]
          refine wpAnyIn_take (i := 12) (v := ?_) rfl (by simp only [List.getElem?_toArray, List.getElem?_cons_succ, List.getElem?_cons_zero]; rfl) (by kernel_rfl) (by kernel_rfl) (by kernel_rfl) (by exact fun _ _ _ h => h) ⟨Or.inl ⟨by rfl, ?_⟩, by exact fun _ => rfl⟩ ?_
          rotate_left
          · intro w; go_simp; try (with_reducible rfl)
          try simp only [Act.put, List.setIfInBounds_toArray, List.set_cons_zero, List.set_cons_succ]
          refine wpAnyIn_take (i := 13) (v := ?_) rfl (by simp only [List.getElem?_toArray, List.getElem?_cons_succ, List.getElem?_cons_zero]; rfl) (by kernel_rfl) (by kernel_rfl) (by kernel_rfl) (by exact fun _ _ _ h => h) ⟨Or.inl ⟨by rfl, ?_⟩, by exact fun _ => rfl⟩ ?_
          rotate_left
          · intro w; go_simp; try (with_reducible rfl)
          try simp only [Act.put, List.setIfInBounds_toArray, List.set_cons_zero, List.set_cons_succ]
          refine wpAnyIn_take (i := 14) (v := ?_) rfl (by simp only [List.getElem?_toArray, List.getElem?_cons_succ, List.getElem?_cons_zero]; rfl) (by kernel_rfl) (by kernel_rfl) (by kernel_rfl) (by exact fun _ _ _ h => h) ⟨Or.inl ⟨by rfl, ?_⟩, by exact fun _ => rfl⟩ ?_
          rotate_left
          · intro w; go_simp; try (with_reducible rfl)
          try simp only [Act.put, List.setIfInBounds_toArray, List.set_cons_zero, List.set_cons_succ]
          refine wpAnyIn_take (i := 15) (v := ?_) rfl (by simp only [List.getElem?_toArray, List.getElem?_cons_succ, List.getElem?_cons_zero]; rfl) (by kernel_rfl) (by kernel_rfl) (by kernel_rfl) (by exact fun _ _ _ h => h) ⟨Or.inl ⟨by rfl, ?_⟩, by exact fun _ => rfl⟩ ?_
          rotate_left
          · intro w; go_simp; try (with_reducible rfl)
          try simp only [Act.put, List.setIfInBounds_toArray, List.set_cons_zero, List.set_cons_succ]
          refine wpAnyIn_take (i := 16) (v := ?_) rfl (by simp only [List.getElem?_toArray, List.getElem?_cons_succ, List.getElem?_cons_zero]; rfl) (by kernel_rfl) (by kernel_rfl) (by kernel_rfl) (by exact fun _ _ _ h => h) ⟨Or.inl ⟨by rfl, ?_⟩, by exact fun _ => rfl⟩ ?_
          rotate_left
          · intro w; go_simp; try (with_reducible rfl)
          try simp only [Act.put, List.setIfInBounds_toArray, List.set_cons_zero, List.set_cons_succ]
          refine wpAnyIn_take (i := 19) (v := ?_) rfl (by simp only [List.getElem?_toArray, List.getElem?_cons_succ, List.getElem?_cons_zero]; rfl) (by kernel_rfl) (by kernel_rfl) (by kernel_rfl) (by exact fun _ _ _ h => h) ⟨Or.inl ⟨by rfl, ?_⟩, by exact fun _ => rfl⟩ ?_
          rotate_left
          · intro w; go_simp; try (with_reducible rfl)
          try simp only [Act.put, List.setIfInBounds_toArray, List.set_cons_zero, List.set_cons_succ]
          refine wpAnyIn_ready (rs := [17]) (by kernel_rfl) (by simp) ?_
          refine AllReadyIn.cons (by simp only [List.getElem?_toArray, List.getElem?_cons_succ, List.getElem?_cons_zero]; rfl) (fun K hK => ?_) AllReadyIn.nil
          go_simp
          refine hK _ _ ?_
          clear hK K
          try simp only [Act.put, List.setIfInBounds_toArray, List.set_cons_zero, List.set_cons_succ]
          refine wpAnyIn_ready (rs := [18]) (by kernel_rfl) (by simp) ?_
          refine AllReadyIn.cons (by simp only [List.getElem?_toArray, List.getElem?_cons_succ, List.getElem?_cons_zero]; rfl) (fun K hK => ?_) AllReadyIn.nil
          rw [if_pos (by rfl)]
          refine wpIn_op_append_fits _ (.tmp 44) (.tmp 46) 35 rfl B 3 i0 1 Tryd.underlying35 hi hz1 g l.length N (nums l) rfl ((HN.out.2.2.2.2.2.1.row.alloc _).drew) ⟨wr.heap.size, 0, none⟩ 1 1 [.int .i64 (a : Int)] rfl rfl (cell_one_new _ _ _) (by simp [Value.oneCell']) hroom ?_
          intro Wa hown hgrow
          refine hK _ _ ?_
          clear hK K
          try simp only [Act.put, List.setIfInBounds_toArray, List.set_cons_zero, List.set_cons_succ]
          have hba : Below wr.heap.size wr ((wr.alloc (.cells #[.int .i64 (a : Int)] 3)).drew) := ((Below.refl _ wr).alloc (Nat.le_refl _) (.cells #[.int .i64 (a : Int)] 3)).trans ⟨rfl, rfl, rfl, Nat.le_refl _, fun _ _ => rfl⟩
          have hm := HN.out.2.2.2.2.2.1
          have hstep : Rg.Steps B fp' wr Wa := (Rg.Steps.of_below hba).trans ⟨hgrow.os, hgrow.tape, hgrow.output, hgrow.size, fun j hj hc => hgrow.block j hj (fun e => by
            injection e with e; subst e
            rcases hc with hc | hc
            · have := HN.out.2.2.2.2.2.2.1; omega
            · exact hm.ng hc)⟩
          have hma : Mine B bb g N n before (l ++ [a]) fp' Wa := ⟨hm.ne, hm.nb, hm.ng, Nat.le_trans hm.bs (Nat.le_trans hba.size hgrow.size), ((hm.rel.below hba hm.rel.lt).kept hgrow (fun e => hm.ne (by injection e))), by
            rw [List.length_append, nums_snoc]; exact hown⟩
          have hsz2 := Nat.le_trans HN.out.2.2.1 (Nat.le_trans hba.size hgrow.size)
          have hcall := HI.out.1 (left &&& ~~~ Bv.bit a) (l ++ [a]) (m - 1) pre' fp' Wa (by have := HM.out.2.2.2.1; have := HN.out.2.2.2.2.2.2.2.2; omega) (by rw [List.length_append]; have := HM.out.2.2.2.2.1; have := HN.out.2.2.2.2.2.2.2.2; simp; omega) HN.out.2.2.2.2.2.2.2.1 (by
            have h9 := HI.out.2.2.2
            rw [← HN.out.1] at h9
            exact (List.prefix_append _ _).trans h9) (HI.out.2.2.1 _ _ _ _ HN.out.2.2.2.2.1 hstep) hma
          rw [List.length_append] at hcall
          clear hown hgrow hba hstep hma hm
          refine wpAnyIn_ready (rs := [20]) (by kernel_rfl) (by simp) ?_
          refine AllReadyIn.cons (by simp only [List.getElem?_toArray, List.getElem?_cons_succ, List.getElem?_cons_zero]; rfl) (fun K hK => ?_) AllReadyIn.nil
          rw [if_pos (by rfl)]
          refine wpIn_op_call 101 #[.pointer (some ⟨bb, 0, none⟩), .int .u64 (Bv.U (left &&& ~~~ Bv.bit a)), .slice (some ⟨g, 0, none⟩) (l.length + 1) N, .func (.yield lp) #[] #[]] (by intro c h; cases h) (by simp [execOp, go_sem]) ?_
          refine hcall.mono ?_
          rintro e W2 ⟨b, rfl, hb1, hb2⟩
          refine ⟨_, rfl, ?_⟩
          refine hK _ _ ?_
          clear hK K hcall
          try simp only [Act.put, List.setIfInBounds_toArray, List.set_cons_zero, List.set_cons_succ]
          refine wpAnyIn_take (i := 21) (v := ?_) rfl (by simp only [List.getElem?_toArray, List.getElem?_cons_succ, List.getElem?_cons_zero]; rfl) (by kernel_rfl) (by kernel_rfl) (by kernel_rfl) (by exact fun _ _ _ h => h) ⟨Or.inl ⟨by rfl, ?_⟩, by exact fun _ => rfl⟩ ?_
          rotate_left
          · intro w; go_simp; try (with_reducible rfl)
          try simp only [Act.put, List.setIfInBounds_toArray, List.set_cons_zero, List.set_cons_succ]
          refine wpAnyIn_take (i := 22) (v := ?_) rfl (by simp only [List.getElem?_toArray, List.getElem?_cons_succ, List.getElem?_cons_zero]; rfl) (by kernel_rfl) (by kernel_rfl) (by kernel_rfl) (by exact fun _ _ _ h => h) ⟨Or.inl ⟨by rfl, ?_⟩, by exact fun _ => rfl⟩ ?_
          rotate_left
          · intro w; go_simp; try (with_reducible rfl)
          try simp only [Act.put, List.setIfInBounds_toArray, List.set_cons_zero, List.set_cons_succ]
          refine wpAnyIn_done (by kernel_rfl) ?_ _
          cases b
          · obtain ⟨q, hq1, hq2⟩ := hb2 rfl
            have HQ := Lib.hid (And.intro hq1 hq2)
            clear hb1 hb2 hq1 hq2
            gi_wp2_with fail
            refine bodyPost_ret (results_tmp rfl _ _ _) rfl ?_
            exact ⟨false, rfl, fun h => (by cases h), fun _ => ⟨q, HQ.out.1, HQ.out.2⟩⟩
          · obtain ⟨fq, hj2, hm2, hs2⟩ := hb1 rfl
            have hm3 : Mine B bb g N n before l fq W2 := ⟨hm2.ne, hm2.nb, hm2.ng, hm2.bs, hm2.rel, ownsRow_front (by have h := hm2.row; rw [List.length_append, nums_snoc] at h; exact h) (by simp [nums])⟩
            have HQ := Lib.hid (And.intro hj2 (And.intro hm3 (Nat.le_trans hsz2 hs2)))
            clear hb1 hb2 hj2 hm2 hs2 hm3 hsz2
            gi_wp2_with fail
            first | refine ⟨trivial, fun h => (by cases h), ?_⟩ | refine ⟨trivial, ?_⟩
            refine (callsIn_wide.2 (first_any (Bs.rest rest) W2 (HI.out.2.1 _ _ _ HQ.out.1).1 (HI.out.2.1 _ _ _ HQ.out.1).2)).mono ?_
            rintro e w3 ⟨rfl, hb⟩
            have H3 := Lib.hid (And.intro (HI.out.2.2.1 _ _ _ _ HQ.out.1 (.of_below hb)) (And.intro (HQ.out.2.1.below hb) (Nat.le_trans HQ.out.2.2 hb.size)))
            clear hb
            gi_wp2_with fail
            go_roundw
            case rel => exact ⟨Bs.rest rest, _, fq, rfl, rfl, rfl, fun i hi => HN.out.2.1 i (rest_in HR0.out hi), HN.out.1, H3.out.1, H3.out.2.1, H3.out.2.2⟩
            case measure => rw [countOf_eq rest]; exact Nat.lt_of_le_of_lt (Nat.le_of_eq (countOf_eq (Bs.rest rest))) HN.out.2.2.2.1
end Go.Proofs.YtknjdfgmejobfaaDoor
