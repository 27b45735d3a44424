/- seisinlaw03: mixed, the walk. -/
import Derived.Test.YtknjdfgmejobfaaDoorUf
import Derived.Deep.CutBlock
import Derived.Deep.DeepCutAuto
namespace Go.Proofs.YtknjdfgmejobfaaDoor
open Go.RowKit Go.Shelf

theorem infoOneInt : (Tryd.prog.info? 3).map (fun i => (i.zero, i.size, i.bytes)) = some (some (.int .i64 0), 1, 8) := by kernel_rfl
/-- bytes that lie somewhere -/
def BytAt (w : World) (A : Option Addr) (n : Nat) (zs : List Int) : Prop := 0 < n → ∃ b off, A = some ⟨b, off, none⟩ ∧ b < w.heap.size ∧ ∀ i, i < n → w.cell? ⟨b, off + i, none⟩ = some (.int .u8 (zs.getD i 0))
theorem BytAt.below {n : Nat} {w w' : World} {A : Option Addr} {l : Nat} {zs : List Int} (h : BytAt w A l zs) (hb : Below n w w') (hn : w.heap.size ≤ n) : BytAt w' A l zs := by
  intro hp
  obtain ⟨b, off, e, hlt, hc⟩ := h hp
  exact ⟨b, off, e, Nat.lt_of_lt_of_le hlt hb.size, fun i hi => (hb.cell (p := ⟨b, off + i, none⟩) (by show b < n; omega)).trans (hc i hi)⟩
set_option maxRecDepth 100000 in
set_option maxHeartbeats 4000000 in
theorem mixed_any (n : Nat) (A : Option Addr) (l cap : Nat) (zs : List Int) (w : World) (hn : n ≤ 48) (hz : ∀ i, 0 ≤ zs.getD i 0 ∧ zs.getD i 0 ≤ 255) (hB : BytAt w A l zs) :
    Calls Tryd.prog 56 #[.int .i64 n, .slice A l cap] w fun e w' => ∃ v, e = .returned v ∧ w'.ownsRow w.heap.size 3 1 v n (nums (mixL (placeF l zs) n)) ∧ Below w.heap.size w w' := by
  have H := Lib.hid (And.intro trivial (And.intro hz hB))
  clear hz hB
  obtain ⟨i0, hi, hz0, hz1, hz2⟩ := info_parts infoOneInt
  go_enter Tryd.func56, Tryd.ntmps56
  go_wp2_with fail
  go_loopw [5, 9] (fun v i wr => ∃ k : Nat, k ≤ n ∧ i = .int .i64 k ∧ wr.ownsRow w.heap.size 3 1 v k (nums (mixL (placeF l zs) k)) ∧ Below w.heap.size w wr) (fun _ i _ => n - (intOf i).toNat)
  case atStart => exact ⟨0, Nat.zero_le _, rfl, World.ownsRow_nil _ _ _ _, Below.refl _ _⟩
  case round =>
    obtain ⟨k, hk, rfl, hrow, hb⟩ := hrel
    by_cases hlt : k < n
    · obtain ⟨B, c, rfl, hkc, hcm, hnil, hblk, hlen, hI⟩ := row_form hrow
      obtain ⟨p, hp⟩ : ∃ p, p = placeF l zs k := ⟨_, rfl⟩
      have hpk : p ≤ k := by rw [hp]; exact placeF_le l zs k
      have R0 := Lib.hid (And.intro hrow (And.intro hb (And.intro hnil (And.intro hblk (And.intro hlen (And.intro hI hp))))))
      clear hrow hb hnil hblk hlen hI hp
      go_upto_if 15 with (fail)
      go_cut [7] (fun s wx => s = .int .i64 p ∧ wx = wr)
      case first =>
        by_cases hl : 0 < l
        · obtain ⟨b, off, rfl, hlb, hc⟩ := (H.out.2.2.below R0.out.2.1 (Nat.le_refl _)) hl
          obtain ⟨j, hj⟩ : ∃ j, k % l = j := ⟨_, rfl⟩
          have hjl : j < l := by rw [← hj]; exact Nat.mod_lt _ hl
          have hm1 : ((k : Int) % (l : Int)) = (j : Int) := by rw [← hj]; rfl
          have hm2 : Int.tmod (k : Int) (l : Int) = (j : Int) := by rw [Int.tmod_eq_emod_of_nonneg (by omega)]; exact hm1
          have c1 := hc j hjl
          have hq := H.out.2.1 j
          obtain ⟨q, hq0⟩ : ∃ q, zs.getD j 0 = q := ⟨_, rfl⟩
          rw [hq0] at c1 hq
          have hpe : p = q.toNat % (k + 1) := by rw [R0.out.2.2.2.2.2.2]; unfold placeF; rw [if_pos hl, hj, hq0]
          obtain ⟨q2, rfl⟩ : ∃ q2 : Nat, q = (q2 : Int) := ⟨q.toNat, by omega⟩
          rw [Int.toNat_natCast] at hpe
          have hp1 : (q2 : Int) % ((k : Int) + 1) = (p : Int) := by rw [hpe]; rfl
          have hp2 : Int.tmod (q2 : Int) ((k : Int) + 1) = (p : Int) := by rw [Int.tmod_eq_emod_of_nonneg (by omega)]; exact hp1
          obtain ⟨q0, q1⟩ := hq
          have l0 : ¬ ((l : Int) = 0) := by omega
          have l1 : ¬ (l = 0) := by omega
          have k0 : ¬ ((k : Int) + 1 = 0) := by omega
          have w1 : wrap64 ((k : Int) + 1) = (k : Int) + 1 := by unfold wrap64; omega
          have HX := Lib.hid (And.intro hj (And.intro hpe (And.intro hq0 hlb)))
          clear hj hpe hc hq0 hlb hcm hn hi hz0 hz1 hz2
          go_wp2_with fail
          go_meet
          exact ⟨rfl, rfl⟩
        · obtain rfl : l = 0 := by omega
          have hpe : p = k := by rw [R0.out.2.2.2.2.2.2]; unfold placeF; rw [if_neg (by omega)]
          have HX := Lib.hid hpe
          clear hpe
          go_wp2_with fail
          go_meet
          exact ⟨by rw [HX.out], rfl⟩
      case rest =>
        obtain ⟨rfl, rfl⟩ := hcut
        have q0 : (0 : Int) ≤ (p : Int) := by omega
        have q1 : (p : Int) ≤ (k : Int) := by omega
        have q2 : (k : Int) ≤ (c : Int) := by omega
        have q3 : (p : Int) ≤ (c : Int) := by omega
        have q4 : p ≤ c := by omega
        have hsz0 : w.heap.size ≤ wc.heap.size := R0.out.2.1.size
        go_wp2_with fail
        cases B with
        | none =>
          obtain ⟨rfl, rfl⟩ := R0.out.2.2.1 rfl
          obtain rfl : p = 0 := by omega
          refine Bo.wp_region_head (fun W => Below wc.heap.size wc W) ⟨fun W z h => h.alloc h.size z, fun W W' n b e => (by cases e), fun W n e => (by cases e)⟩ ⟨rfl, rfl, rfl, Nat.le_refl _, fun _ _ => rfl⟩ 11 (by kernel_rfl) (by kernel_rfl) ?_
          simp only [List.append_eq, List.cons_append, List.nil_append, List.take_succ_cons, List.take_zero, List.drop_succ_cons, List.drop_zero]
          repeat (refine Bo.walk_st (by rfl) (by rfl) (fun W hW => by simp [execOp, go_sem, q0, q1, q2, q3]; exact ⟨rfl, rfl⟩) ?_; simp only [Act.put, List.setIfInBounds_toArray, List.set_cons_zero, List.set_cons_succ])
          refine Bo.walk_lit 35 3 wc.heap.size (.int .i64 0) (.tmp 31) (by rfl) (by rfl) (fun W => by simp [execOp, go_sem]) (fun W z h => h.alloc h.size z) (fun W h => h.size) ?_
          intro g1
          simp only [Act.put, List.setIfInBounds_toArray, List.set_cons_zero, List.set_cons_succ]
          repeat (refine Bo.walk_st (by rfl) (by rfl) (fun W hW => by simp [execOp, go_sem, q0, q1, q2, q3]; exact ⟨rfl, rfl⟩) ?_; simp only [Act.put, List.setIfInBounds_toArray, List.set_cons_zero, List.set_cons_succ])
          refine Bo.walk_append_src (.tmp 32) (.tmp 35) 35 (by rfl) (by rfl) wc.heap.size 3 i0 _ 1 8 Tryd.underlying35 hi hz0 hz1 hz2 rfl (by decide) (.slice (some ⟨g1, 0, none⟩) 1 1) 1 [.int .i64 0] (by rfl) none 0 0 (nums (([] : List Nat))) (by rfl) (fun _ => ⟨rfl, rfl⟩) (by rw [nums_len]; rfl) (fun W hW ad e => by cases e) (nums_one _) (by unfold maxLen; omega) (by omega) (by omega) (fun W h => h.size) (fun W W' h hr hg => h.grown hg h.size (fun k e => (hr.lt k e).1)) ?_
          intro g2 cap2
          simp only [Act.put, List.setIfInBounds_toArray, List.set_cons_zero, List.set_cons_succ]
          refine @Bo.walk_append_full _ _ _ _ _ _ _ (.tmp 30) (.tmp 36) 35 ?_ ?_ wc.heap.size 3 i0 (.int .i64 0) 1 8 Tryd.underlying35 hi hz0 hz1 hz2 rfl (by decide) none 0 (nums (([] : List Nat))) ?_ ?_ ?_ ?_ g2 (1 + 0) cap2 ([.int .i64 0] ++ (nums (([] : List Nat)))) ?_ ?_ ?_ ?_ ?_ ?_ ?_ ?_
          · exact rfl
          · exact rfl
          · exact rfl
          · exact fun _ => rfl
          · exact by rw [nums_len]; rfl
          · exact fun W hW b e => by cases e
          · exact rfl
          · exact by intro u hu; rcases List.mem_append.1 hu with h | h; (· simp at h; subst h; rfl); exact nums_one _ u h
          · exact by unfold maxLen; omega
          · exact by omega
          · exact by omega
          · exact fun W h => h.size
          · exact fun W W' h hg => h.grown hg h.size (fun k e => by cases e)
          intro g3 cap3
          simp only [Act.put, List.setIfInBounds_toArray, List.set_cons_zero, List.set_cons_succ]
          refine Bo.walk_nil ?_
          intro w2 hb2 hrow3
          have R1 := Lib.hid (And.intro hb2 hrow3)
          clear hb2 hrow3
          go_wp2_with fail
          have hrow := Bo.ownsRow_mono R1.out.2 hsz0
          have e : nums (mixL (placeF l zs) 1) = nums ([] : List Nat) ++ ([.int .i64 0] ++ nums ([] : List Nat)) := by simp [mixL, nums]
          refine ⟨⟨1, by omega, rfl, ?_, R0.out.2.1.trans (R1.out.1.mono hsz0)⟩, by simp [intOf]; omega⟩
          rw [e]; exact hrow
        | some ad =>
          obtain ⟨g, rfl, hg⟩ := R0.out.2.2.2.1 ad rfl
          obtain ⟨L, hL⟩ : ∃ L, L = mixL (placeF l zs) k := ⟨_, rfl⟩
          have hI := R0.out.2.2.2.2.2.1
          have hlen := R0.out.2.2.2.2.1
          rw [← hL] at hI hlen
          obtain ⟨ad, had, hnews⟩ : ∃ ad : Addr, (if c = p then some (⟨g, 0, none⟩ : Addr) else some ⟨g, p, none⟩) = some ad ∧ ∀ W, Below wc.heap.size wc W → ∀ j u, (nums (L.drop p))[j]? = some u → W.cell? (ad.add j) = some u := by
            by_cases e : c = p
            · refine ⟨⟨g, 0, none⟩, by rw [if_pos e], fun W _ j u hu => ?_⟩
              rw [List.drop_eq_nil_of_le (by omega)] at hu; simp [nums] at hu
            · exact ⟨⟨g, p, none⟩, by rw [if_neg e], fun W hW => drop_cells (hI.below hW (Nat.le_refl _))⟩
          have holds : ∀ W, Below wc.heap.size wc W → ∀ j u, (nums (L.take p))[j]? = some u → W.cell? ((⟨g, 0, none⟩ : Addr).add j) = some u := fun W hW => take_cells (hI.below hW (Nat.le_refl _))
          have HX := Lib.hid (And.intro hnews (And.intro holds (And.intro hL hlen)))
          clear hnews holds hL hI
          refine Bo.wp_region_head (fun W => Below wc.heap.size wc W) ⟨fun W z h => h.alloc h.size z, fun W W' n b e => (by cases e), fun W n e => (by cases e)⟩ ⟨rfl, rfl, rfl, Nat.le_refl _, fun _ _ => rfl⟩ 11 (by kernel_rfl) (by kernel_rfl) ?_
          simp only [List.append_eq, List.cons_append, List.nil_append, List.take_succ_cons, List.take_zero, List.drop_succ_cons, List.drop_zero]
          repeat (refine Bo.walk_st (by rfl) (by rfl) (fun W hW => by simp [execOp, go_sem, q0, q1, q2, q3, q4, hpk, hkc, had]; exact ⟨rfl, rfl⟩) ?_; simp only [Act.put, List.setIfInBounds_toArray, List.set_cons_zero, List.set_cons_succ])
          refine Bo.walk_lit 35 3 wc.heap.size (.int .i64 k) (.tmp 31) (by rfl) (by rfl) (fun W => by simp [execOp, go_sem]) (fun W z h => h.alloc h.size z) (fun W h => h.size) ?_
          intro g1
          simp only [Act.put, List.setIfInBounds_toArray, List.set_cons_zero, List.set_cons_succ]
          repeat (refine Bo.walk_st (by rfl) (by rfl) (fun W hW => by simp [execOp, go_sem, q0, q1, q2, q3, q4, hpk, hkc, had]; exact ⟨rfl, rfl⟩) ?_; simp only [Act.put, List.setIfInBounds_toArray, List.set_cons_zero, List.set_cons_succ])
          refine Bo.walk_append_src (.tmp 32) (.tmp 35) 35 (by rfl) (by rfl) wc.heap.size 3 i0 _ 1 8 Tryd.underlying35 hi hz0 hz1 hz2 rfl (by decide) (.slice (some ⟨g1, 0, none⟩) 1 1) 1 [.int .i64 k] (by rfl) (some ad) (k - p) (c - p) (nums (L.drop p)) (by rfl) (fun e => by cases e) (by rw [nums_len]; rw [List.length_drop]; omega) (fun W hW ad2 e => by cases e; exact HX.out.1 W hW) (nums_one _) (by unfold maxLen; omega) (by omega) (by omega) (fun W h => h.size) (fun W W' h hr hg => h.grown hg h.size (fun k e => (hr.lt k e).1)) ?_
          intro g2 cap2
          simp only [Act.put, List.setIfInBounds_toArray, List.set_cons_zero, List.set_cons_succ]
          refine @Bo.walk_append_full _ _ _ _ _ _ _ (.tmp 30) (.tmp 36) 35 ?_ ?_ wc.heap.size 3 i0 (.int .i64 0) 1 8 Tryd.underlying35 hi hz0 hz1 hz2 rfl (by decide) (some ⟨g, 0, none⟩) p (nums (L.take p)) ?_ ?_ ?_ ?_ g2 (1 + (k - p)) cap2 ([.int .i64 k] ++ (nums (L.drop p))) ?_ ?_ ?_ ?_ ?_ ?_ ?_ ?_
          · exact rfl
          · exact rfl
          · exact rfl
          · exact fun e => by cases e
          · exact by rw [nums_len, List.length_take]; omega
          · exact fun W hW b e => by cases e; exact HX.out.2.1 W hW
          · exact rfl
          · exact by intro u hu; rcases List.mem_append.1 hu with h | h; (· simp at h; subst h; rfl); exact nums_one _ u h
          · exact by unfold maxLen; omega
          · exact by omega
          · exact by omega
          · exact fun W h => h.size
          · exact fun W W' h hg => h.grown hg h.size (fun k e => by cases e)
          intro g3 cap3
          simp only [Act.put, List.setIfInBounds_toArray, List.set_cons_zero, List.set_cons_succ]
          refine Bo.walk_nil ?_
          intro w2 hb2 hrow3
          have R1 := Lib.hid (And.intro hb2 hrow3)
          clear hb2 hrow3
          go_wp2_with fail
          have hrow := Bo.ownsRow_mono R1.out.2 hsz0
          have e : nums (mixL (placeF l zs) (k + 1)) = nums (L.take p) ++ ([.int .i64 k] ++ nums (L.drop p)) := by
            show nums ((mixL (placeF l zs) k).take (placeF l zs k) ++ k :: (mixL (placeF l zs) k).drop (placeF l zs k)) = _
            rw [← HX.out.2.2.1, ← R0.out.2.2.2.2.2.2]; simp [nums]
          have hkp : p + (1 + (k - p)) = k + 1 := by omega
          rw [hkp] at hrow ⊢
          refine ⟨⟨k + 1, by omega, rfl, ?_, R0.out.2.1.trans (R1.out.1.mono hsz0)⟩, by simp [intOf]; omega⟩
          rw [e]; exact hrow
    · obtain rfl : k = n := by omega
      have R0 := Lib.hid (And.intro hrow hb)
      clear hrow hb
      go_wp2_with fail
      go_ret
      exact ⟨_, rfl, R0.out.1, R0.out.2⟩
end Go.Proofs.YtknjdfgmejobfaaDoor
