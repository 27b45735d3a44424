/- package rel: layers. -/
import Derived.Test.YtknjdfgmejobfaaDoorNo
namespace Go.Proofs.YtknjdfgmejobfaaDoor
open Go.RowKit Go.Shelf

attribute [local go_sem] Bv.and_u Bv.or_u Bv.andNot_u Bv.wrap_sub1 Bv.eq0 Bv.ne0 Bv.wrap_pow Bv.wrap_powmin Bv.wrap_neg Bv.eq_u Bv.ne_u Bv.shr_min Bv.shr_pow Bv.tmod2 Bv.and1 Bv.wrap_add Bv.B1_eq1 Bv.B1_eq0 Bv.B1_ne1 Bv.B1_ne0

def setV (l : List (BitVec 64)) : List Value := l.map fun s => Value.int .u64 (Bv.U s)
theorem setV_snoc (l : List (BitVec 64)) (s : BitVec 64) : setV (l ++ [s]) = setV l ++ [Value.int .u64 (Bv.U s)] := by simp [setV]
theorem infoSet : (Tryd.prog.info? 23).map (fun i => (i.zero, i.size, i.bytes)) = some (some (.int .u64 0), 1, 8) := by kernel_rfl

def LayOut (o : Option (List (BitVec 64))) (w : World) (e : Ending) (w' : World) : Prop :=
  ∃ v, e = .returned (.tuple #[v, .bool o.isSome]) ∧ w'.ownsRow w.heap.size 23 1 v (o.getD []).length (setV (o.getD [])) ∧ Below w.heap.size w w'
theorem layGo_zero (f : Rl.Rows) (a k : Nat) (seen : BitVec 64) : Rl.layGo f a k 0#64 seen = none := by cases k <;> simp [Rl.layGo]
theorem layGo_hit {f : Rl.Rows} {a k : Nat} {layer seen : BitVec 64} (h : layer ≠ 0#64) (hb : layer.getLsbD a = true) : Rl.layGo f a (k + 1) layer seen = some [layer] := by simp [Rl.layGo, h, hb]
theorem layGo_miss {f : Rl.Rows} {a k : Nat} {layer seen : BitVec 64} (h : layer ≠ 0#64) (hb : layer.getLsbD a = false) :
    Rl.layGo f a (k + 1) layer seen = (Rl.layGo f a k (Rl.image f layer &&& ~~~ (seen ||| layer)) (seen ||| layer)).map (layer :: ·) := by simp [Rl.layGo, h, hb]
/-- how many are in a set that stands in a slot -/
def missOf (v : Value) : Nat := 64 - leftOf v
theorem image48 {n : Nat} {f : Rl.Rows} (hf : Rl.Ok n f) (s t : BitVec 64) (i : Nat) (h : (Rl.image f s &&& ~~~ t).getLsbD i = true) : i < 48 := by
  have h1 := ((Rl.andNot_get _ _ _).1 h).1
  obtain ⟨b, _, h2⟩ := (Rl.image_iff f s i).1 h1
  have := (hf.in_ b i h2).2
  have := hf.le
  omega
theorem card_more {layer seen : BitVec 64} (h0 : layer ≠ 0#64) (hd : ∀ i, layer.getLsbD i = true → seen.getLsbD i = false) : Bx.card seen < Bx.card (seen ||| layer) := by
  apply Rl.card_ssub (fun i hi => (Rl.or_get _ _ _).2 (.inl hi))
  intro e
  have hl := Bs.low_bit h0
  have h1 := hd _ hl
  rw [e] at h1
  rw [(Rl.or_get _ _ _).2 (.inr hl)] at h1
  cases h1

set_option maxRecDepth 100000 in
set_option maxHeartbeats 2000000 in
theorem layers_any (b n a : Nat) (f : Rl.Rows) (w : World) (hR : RelAt w b n f) (hr : Rl.Ok n f) (ha : a < n) (hT : Tab w) (hw : 0 < w.heap.size) :
    Calls Tryd.prog 79 #[.pointer (some ⟨b, 0, none⟩), .int .i64 a] w (LayOut (Rl.layL f a) w) := by
  have hn := hr.le
  obtain ⟨i0, hi, hz0, hz1, hz2⟩ := info_parts infoSet
  have hTl : ∀ W, Below w.heap.size w W → Tab W ∧ 0 < W.heap.size := fun W h => ⟨hT.below h hw, Nat.lt_of_lt_of_le hw h.size⟩
  have HT := Lib.hid hTl
  have H := Lib.hid (And.intro hR hr)
  have c0 := hR.row a (by omega)
  have q0 : (0 : Int) ≤ (a : Int) := by omega
  have q1 : (a : Int) < 48 := by omega
  have q2 : (a : Int) < 64 := by omega
  clear hR hr hTl hT
  go_enter Tryd.func79, Tryd.ntmps79
  go_wp2_with fail
  clear c0
  go_loopw [6, 7, 8] (fun v x y wr => ∃ (L : List (BitVec 64)) (k : Nat) (layer seen : BitVec 64), x = .int .u64 (Bv.U seen) ∧ y = .int .u64 (Bv.U layer) ∧ wr.ownsRow w.heap.size 23 1 v L.length (setV L) ∧ Rl.layL f a = (Rl.layGo f a k layer seen).map (L ++ ·) ∧ L.length + k = 65 ∧ 65 ≤ k + Bx.card seen ∧ (∀ i, layer.getLsbD i = true → seen.getLsbD i = false) ∧ (∀ i, layer.getLsbD i = true → i < 48) ∧ Below w.heap.size w wr) (fun _ x _ _ => missOf x)
  case atStart => exact ⟨[], 65, f a, 0#64, rfl, rfl, World.ownsRow_nil _ _ _ _, by unfold Rl.layL; simp, rfl, by omega, fun i _ => Bv.zero_get i, fun i hb => by have := (H.out.2.in_ a i hb).2; omega, Below.refl _ _⟩
  case round =>
    obtain ⟨L, k, layer, seen, rfl, rfl, hrow, hlay, hlen, hcard, hdis, h48, hb⟩ := hrel
    by_cases hz : layer = 0#64
    · subst hz
      have he : (0#64 != 0#64) = false := rfl
      have HF := Lib.hid (And.intro (show Rl.layL f a = none by rw [hlay, layGo_zero]; rfl) hb)
      clear hrow hlay hcard hdis h48 hb
      go_wp2_with fail
      go_ret2
      exact ⟨_, by rw [HF.out.1]; rfl, by rw [HF.out.1]; exact World.ownsRow_nil _ _ _ _, HF.out.2⟩
    · have he : (layer != 0#64) = true := by simpa using hz
      have hcl := Bx.card_le seen
      have hcm := card_more hz hdis
      have hc2 := Bx.card_le (seen ||| layer)
      obtain ⟨j, rfl⟩ : ∃ j, k = j + 1 := ⟨k - 1, by omega⟩
      have hsz : w.heap.size ≤ wr.heap.size := hb.size
      cases hg : Bv.G layer a
      · have hstep : Rl.layL f a = (Rl.layGo f a j (Rl.image f layer &&& ~~~ (seen ||| layer)) (seen ||| layer)).map ((L ++ [layer]) ++ ·) := by
          rw [hlay, layGo_miss hz hg, Option.map_map]
          congr 1; funext m; simp
        have HF := Lib.hid (And.intro hstep (And.intro hrow (And.intro hb (And.intro h48 hcm))))
        clear hstep hrow hb h48 hlay hdis hz hcm
        go_wp2_with (at_builtin; refine wpList_append_own _ rfl _ _ 86 rfl w.heap.size 23 i0 (.int .u64 0) 1 8 Tryd.underlying86 hi hz0 hz1 hz2 rfl (by decide) _ _ _ rfl (HF.out.2.1.alloc _) ⟨wr.heap.size, 0, none⟩ 1 1 [.int .u64 (Bv.U layer)] rfl rfl (cell_one_new _ _ _) (by simp [Value.oneCell']) (by unfold maxLen; omega) (by omega) (by simp; omega) ?_; intro v' w7 hown' hgrow hnil')
        have hbn : Below w.heap.size w w7 := (HF.out.2.2.1.alloc hsz _).grown hgrow (by simp; omega) (fun q e => (HF.out.2.1.lt q e).1)
        have HN := Lib.hid (And.intro hown' hbn)
        clear hown' hgrow hnil' hbn
        refine (image_any b n f layer w7 (H.out.1.below HN.out.2 H.out.1.lt) HF.out.2.2.2.1 (HT.out _ HN.out.2).1 (HT.out _ HN.out.2).2).mono ?_
        rintro e w8 ⟨rfl, hb8⟩
        have HM := Lib.hid (And.intro (owns_below HN.out.1 hb8 (Nat.le_refl _)) (HN.out.2.trans (hb8.mono HN.out.2.size)))
        clear hb8
        go_wp2_with fail
        go_roundw
        case rel =>
          have hcm := HF.out.2.2.2.2
          refine ⟨L ++ [layer], j, Rl.image f layer &&& ~~~ (seen ||| layer), seen ||| layer, rfl, rfl, ?_, HF.out.1, by simp; omega, by omega, fun i hi => ?_, fun i hi => image48 H.out.2 _ _ i hi, HM.out.2⟩
          · rw [setV_snoc]; simpa using HM.out.1
          · have := ((Rl.andNot_get _ _ _).1 hi).2; simpa using this
        case measure =>
          have hcm := HF.out.2.2.2.2
          unfold missOf
          rw [leftOf_eq seen]
          refine Nat.lt_of_le_of_lt (Nat.le_of_eq (congrArg (64 - ·) (leftOf_eq (seen ||| layer)))) ?_
          unfold Bx.card at hcm hc2; omega
      · have hfin : Rl.layL f a = some (L ++ [layer]) := by rw [hlay, layGo_hit hz hg]; rfl
        have HF := Lib.hid (And.intro hfin (And.intro hrow hb))
        clear hfin hrow hb h48 hlay hdis hz hcm
        go_wp2_with (at_builtin; refine wpList_append_own _ rfl _ _ 86 rfl w.heap.size 23 i0 (.int .u64 0) 1 8 Tryd.underlying86 hi hz0 hz1 hz2 rfl (by decide) _ _ _ rfl (HF.out.2.1.alloc _) ⟨wr.heap.size, 0, none⟩ 1 1 [.int .u64 (Bv.U layer)] rfl rfl (cell_one_new _ _ _) (by simp [Value.oneCell']) (by unfold maxLen; omega) (by omega) (by simp; omega) ?_; intro v' w7 hown' hgrow hnil')
        go_ret2
        have hbn : Below w.heap.size w w7 := (HF.out.2.2.alloc hsz _).grown hgrow (by simp; omega) (fun q e => (HF.out.2.1.lt q e).1)
        refine ⟨v', by rw [HF.out.1]; rfl, ?_, hbn⟩
        rw [HF.out.1]
        show w7.ownsRow _ _ _ _ (L ++ [layer]).length (setV (L ++ [layer]))
        rw [setV_snoc]; simpa using hown'
end Go.Proofs.YtknjdfgmejobfaaDoor
