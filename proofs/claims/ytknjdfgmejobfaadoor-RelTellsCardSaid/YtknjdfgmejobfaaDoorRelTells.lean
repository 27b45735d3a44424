/- seisinlaw02.RelTells: for any two relations, valid or not, any integer, any sets and any list of pairs (lists longer than 60, and relations on more than 12 items, are passed over as the law does): Right, Of, Id, Cross, the four operations, Has, Pairs, Back, Plus, Star, From and Into answer as the document's definitions: the law returns true and leaves its input as it was. The table of math/bits.TrailingZeros64 is tied to the program's text. -/
import Derived.Test.YtknjdfgmejobfaaDoorOs
import Derived.Test.YtknjdfgmejobfaaDoorQe
namespace Go.Proofs.YtknjdfgmejobfaaDoor.relTells
open Go.ChangeShapes Go.WideShapes Go.ChangeAt Go.RowKit Go.Joins

set_option maxRecDepth 100000 in
theorem contract (H : Type) (enc : TypeId × Value → H) (W : World) (base : Nat) (args : Array Value) (ds gs : List (DataW H)) (before : List MemPlace)
    (hval : ∀ (j : Nat) t v, Tryd.f12.params[j]? = some t → args[j]? = some v → Value.okWide Tryd.prog W .any base t v)
    (hW : DataW.Whole enc Tryd.prog Tryd.f12.params.toList Rows.relTellsSpec.vars false W args.toList ds gs before) (hL : laidMetH Tryd.prog Rows.relTellsRow.laid W) :
    Calls Tryd.prog 12 args W fun e W' => ∃ v, e = .returned v ∧ Rows.relTellsSpec.post enc Tryd.prog Tryd.f12 false true false false W args v W' := by
  have hT := tab_of hL
  have hz : 0 < W.heap.size := World.block_lt_of_cell? W _ (hT 0 (by decide))
  have hW' := hW
  obtain ⟨p, q, hA0, hV, rfl, hfz, hnd⟩ := hW
  have hA : DataW.TrodAll enc Tryd.prog W 0 (fun _ => true) true Tryd.f12.params.toList args.toList ds p := hA0
  rw [Tryd.params12] at hA hval
  obtain ⟨v0, vs0, d0, ds0, p0, q0, hargs, rfl, rfl, h0, r0⟩ := trodAll_cons hA
  obtain ⟨v1, vs1, d1, ds1, p1, q1, rfl, rfl, rfl, h1, r1⟩ := trodAll_cons r0
  obtain ⟨v2, vs2, d2, ds2, p2, q2, rfl, rfl, rfl, h2, r2⟩ := trodAll_cons r1
  obtain ⟨v3, vs3, d3, ds3, p3, q3, rfl, rfl, rfl, h3, r3⟩ := trodAll_cons r2
  obtain ⟨v4, vs4, d4, ds4, p4, q4, rfl, rfl, rfl, h4, r4⟩ := trodAll_cons r3
  obtain ⟨v5, vs5, d5, ds5, p5, q5, rfl, rfl, rfl, h5, r5⟩ := trodAll_cons r4
  obtain ⟨rfl, rfl, rfl⟩ := trodAll_nil r5
  obtain rfl : args = #[v0, v1, v2, v3, v4, v5] := by cases args; simp_all
  obtain ⟨rfl, rfl⟩ := trodVars_none hV
  have h0k := h0
  obtain ⟨n0, f0, rfl, z0⟩ := open_rel (hval 0 26 v0 rfl rfl) h0
  have h1k := h1
  obtain ⟨n1, f1, rfl, z1⟩ := open_rel (hval 1 26 v1 rfl rfl) h1
  obtain ⟨x2, rfl, rfl, rfl, wx2⟩ := open_int Tryd.underlying3 (hval 2 3 v2 rfl rfl) h2
  obtain ⟨s3, rfl, rfl, rfl, wx3⟩ := open_int Tryd.underlying23 (hval 3 23 v3 rfl rfl) h3
  obtain ⟨s4, rfl, rfl, rfl, wx4⟩ := open_int Tryd.underlying23 (hval 4 23 v4 rfl rfl) h4
  have h5k := h5
  obtain ⟨A5, L5, C5, rfl⟩ := okWide_slice Tryd.underlying40 (hval 5 40 v5 rfl rfl)
  obtain ⟨fuel5, hf5⟩ := h5
  obtain ⟨zs5, rfl, hm5, hA5⟩ := open_pairsl hf5
  clear hA0
  simp only [List.append_nil, List.nil_append] at hW'
  have hlt := hW'.lt
  have hlt := hW'.lt
  obtain ⟨t3, rfl⟩ := Bv.U_of s3 (bounds_u64 wx3).1 (by have := (bounds_u64 wx3).2; omega)
  obtain ⟨t4, rfl⟩ := Bv.U_of s4 (bounds_u64 wx4).1 (by have := (bounds_u64 wx4).2; omega)
  have hlt := hW'.lt
  refine (relTells_con n0 f0 n1 f1 x2 t3 t4 A5 zs5 C5 W z0 z1 hA5 hT hz).mono fun e W' ⟨he, hg⟩ => ?_
  subst he
  exact ⟨_, rfl, _, _, _, [], _, [], hW', trodAll_cons_mk (shut_bool Tryd.underlying4 _) trodAll_mk0,
    trodAll_cons_mk (Below.trod (by kernel_rfl) (by kernel_rfl) (of_decide_eq_true (by kernel_rfl)) h0k hg (fun x hx => hlt x (by simp [hx]))) (trodAll_cons_mk (Below.trod (by kernel_rfl) (by kernel_rfl) (of_decide_eq_true (by kernel_rfl)) h1k hg (fun x hx => hlt x (by simp [hx]))) (trodAll_cons_mk (shut_int Tryd.underlying3 wx2) (trodAll_cons_mk (shut_int Tryd.underlying23 wx3) (trodAll_cons_mk (shut_int Tryd.underlying23 wx4) (trodAll_cons_mk (Below.trod (by kernel_rfl) (by kernel_rfl) (of_decide_eq_true (by kernel_rfl)) h5k hg (fun x hx => hlt x (by simp [hx]))) trodAll_mk0))))), rfl,
    hg.frame _, fun h => by cases h⟩

theorem laid_met (os : Os) : laidMet Tryd.prog Rows.relTellsRow.laid ((laidWorld os).forCall (fun _ _ => 0) ⟨#[], #[.agg (relC 0 zeroR), .agg (relC 0 zeroR), .int .i64 0, .int .u64 0, .int .u64 0, .slice none 0 0], []⟩).memory :=
  laidMet_of_run' 8 (by kernel_rfl) (by kernel_rfl)
theorem reads (os : Os) {H : Type} (enc : TypeId × Value → H) : ∃ places, DataW.whole enc Tryd.prog ((laidWorld os).forCall (fun _ _ => 0) ⟨#[], #[.agg (relC 0 zeroR), .agg (relC 0 zeroR), .int .i64 0, .int .u64 0, .int .u64 0, .slice none 0 0], []⟩).memory Tryd.f12.params.toList Rows.relTellsSpec.vars false #[Value.agg (relC 0 zeroR), .agg (relC 0 zeroR), .int .i64 0, .int .u64 0, .int .u64 0, .slice none 0 0].toList 8 = some ([.agg [.lit (.int .i64 0), .agg (List.replicate 48 (.lit (.int .u64 0)))], .agg [.lit (.int .i64 0), .agg (List.replicate 48 (.lit (.int .u64 0)))], .lit (.int .i64 0), .lit (.int .u64 0), .lit (.int .u64 0), .nil], [], places) :=
  ⟨[], by kernel_rfl⟩

set_option maxRecDepth 100000 in
theorem lifted (os : Os) (started : os.Started) (H : Type) (enc : TypeId × Value → H) (F : Stop.Interp) :
    ReturnsInHanded {} Tryd.checked os 12 .any ((OpenSpec.ofChange Rows.relTellsSpec).preRow enc Tryd.prog Tryd.f12 Rows.relTellsRow.domain false Rows.relTellsRow.laid) (((OpenSpec.ofChange Rows.relTellsSpec).at F).post enc Tryd.prog Tryd.f12 false true false false) := by
  obtain ⟨places, hx⟩ := reads os enc
  refine returnsInHanded_of_row (C := Tryd.checked) (s := OpenSpec.ofChange Rows.relTellsSpec) own started (by kernel_rfl) Tryd.func12
    (witness_row_at (enc := enc) (C := Tryd.checked) false (laidWorld os) #[.agg (relC 0 zeroR), .agg (relC 0 zeroR), .int .i64 0, .int .u64 0, .int .u64 0, .slice none 0 0] rfl (by kernel_rfl) (by kernel_rfl) (by kernel_rfl)
      (OpenSpec.preRow_of_cond 8 hx (by kernel_rfl) (fun k hk => by cases hk) (by kernel_rfl) (laid_met os))) ?_
  intro W base args ds gs before hval hW _ _ _ hL _ _
  exact contract H enc W base args ds gs before hval hW hL

theorem said : Rows.RelTellsSaid :=
  OpenClaim.holds_of_cond 12 Tryd.f12 rfl rfl rfl rfl rfl rfl rfl ⟨rfl, rfl, rfl, rfl, rfl⟩ rfl rfl rfl rfl rfl (by kernel_rfl) Tryd.func12 (by kernel_rfl)
    (of_decide_eq_true (by kernel_rfl)) (by unfold Func.isWrapper; first | (rw [if_pos (by decide +kernel)]; kernel_rfl) | (rw [if_neg (by decide +kernel)]; exact ⟨rfl, rfl⟩))
    (fun os started H enc _ F => by rw [OpenClaim.pre_eq_preRow]; exact lifted os started H enc F)

theorem plain (f : FuncId) (fn : Func) (hf : Tryd.pinned.checked.prog.funcNamed "seisin/seisinlaw02.RelTells" = some f) (hfn : Tryd.pinned.checked.prog.funcs[f]? = some fn) :
    false = Tryd.pinned.checked.prog.looks [] ∧ ∀ (j : Nat) t, fn.params[j]? = some t → Tryd.pinned.checked.prog.wantsStandIn t = false := by
  obtain rfl : f = 12 := Option.some.inj ((show Tryd.prog.funcNamed "seisin/seisinlaw02.RelTells" = some 12 by kernel_rfl).symm.trans hf) |>.symm
  obtain rfl : fn = Tryd.f12 := (Option.some.inj (Tryd.func12.symm.trans hfn)).symm
  refine ⟨by kernel_rfl, fun j t ht => ?_⟩
  rw [Tryd.params12] at ht
  have hm : t ∈ [26, 3, 23, 40] := by first | (simpa using Array.mem_of_getElem? ht) | (have h := Array.mem_of_getElem? ht; simp at h; simp; rcases h with h | h | h | h <;> simp [h])
  have hall : ([26, 3, 23, 40].all fun u => !Tryd.prog.wantsStandIn u) = true := by kernel_rfl
  exact (show Tryd.prog.wantsStandIn t = false by simpa using List.all_eq_true.1 hall t hm)

theorem card : Rows.RelTellsCardSaid :=
  Claim7.holds_tied_plain_at .later [] _ _ _ _ said (fun _ h => by cases h) (by kernel_rfl) (fun _ h => by cases h) relTells_row_tie rfl ⟨rfl, rfl⟩ (by kernel_rfl) rfl plain (by kernel_rfl)
end Go.Proofs.YtknjdfgmejobfaaDoor.relTells
