/- layer 19: the walk of ViewTold. -/
import Derived.Test.YtjijgncahonfhaaDoorVv
namespace Go.Proofs.YtjijgncahonfhaaDoor
open Go.RowKit Go.Shelf

attribute [local go_sem] Bv.and_u Bv.or_u Bv.andNot_u Bv.wrap_sub1 Bv.eq0 Bv.ne0 Bv.wrap_pow Bv.wrap_powmin Bv.wrap_neg Bv.eq_u Bv.ne_u Bv.shr_min Bv.shr_pow Bv.and1 Bv.B1_eq1

/-- the view that is built: nothing below has turned -/
def Tol (w : World) (b : Nat) (k : Int) (x : BitVec 64 × Bool) (wr : World) : Prop :=
  Below w.heap.size w wr ∧ w.heap.size ≤ b ∧ b < wr.heap.size ∧ wr.heap[b]? = some (.cells #[.int .u8 k, .int .u64 (Bv.U x.1), .bool x.2] 25 (0, 0))
theorem Tol.set {w : World} {b : Nat} {k : Int} {x : BitVec 64 × Bool} {W : World} (x' : BitVec 64 × Bool) (h : Tol w b k x W) :
    Tol w b k x' (((W.setCell ⟨b, 0, none⟩ (.int .u8 k)).setCell ⟨b, 1, none⟩ (.int .u64 (Bv.U x'.1))).setCell ⟨b, 2, none⟩ (.bool x'.2)) := by
  obtain ⟨h1, h2, h3, h4⟩ := h
  exact ⟨((h1.setCell (p := ⟨b, 0, none⟩) h2 _).setCell (p := ⟨b, 1, none⟩) h2 _).setCell (p := ⟨b, 2, none⟩) h2 _, h2, by simpa using h3, Rf.set3 h4⟩
theorem Tol.next {w : World} {b : Nat} {k : Int} {x : BitVec 64 × Bool} {W W' : World} (h : Tol w b k x W) (hb : Below W.heap.size W W') : Tol w b k x W' :=
  ⟨h.1.trans (hb.mono h.1.size), h.2.1, Nat.lt_of_lt_of_le h.2.2.1 hb.size, (hb.block _ h.2.2.1).trans h.2.2.2⟩
theorem tol_cells {w : World} {b : Nat} {k : Int} {x : BitVec 64 × Bool} {W : World} (h : Tol w b k x W) :
    Tol w b k x W ∧ W.cell? ⟨b, 0, none⟩ = some (.int .u8 k) ∧ W.cell? ⟨b, 1, none⟩ = some (.int .u64 (Bv.U x.1)) ∧ W.cell? ⟨b, 2, none⟩ = some (.bool x.2) := by
  obtain ⟨a0, a1, a2, _, _, _⟩ := Rf.cells3 h.2.2.2
  exact ⟨h, a0, a1, a2⟩
theorem Tol.drew {w : World} {b : Nat} {k : Int} {x : BitVec 64 × Bool} {W : World} (h : Tol w b k x W) : Tol w b k x W.drew := h.next (Below.refl _ _).drew
theorem Tol.tab {w : World} {b : Nat} {k : Int} {x : BitVec 64 × Bool} {W : World} (h : Tol w b k x W) (hT : Tab w) (hw : 0 < w.heap.size) : Tab W ∧ 0 < W.heap.size :=
  ⟨hT.below h.1 hw, Nat.lt_of_lt_of_le hw h.1.size⟩

set_option maxRecDepth 100000 in
set_option maxHeartbeats 4000000 in
theorem viewTold_any (k n : Int) (A : Option Addr) (len cap : Nat) (zs : List Int) (w : World)
    (hA : 0 < len → ∃ b off, A = some ⟨b, off, none⟩ ∧ b < w.heap.size ∧ ∀ i, i < len → w.cell? ⟨b, off + i, none⟩ = some (.int .u8 (zs.getD i 0)))
    (hz : ∀ i, 0 ≤ zs.getD i 0 ∧ zs.getD i 0 ≤ 255) (hT : Tab w) (hw : 0 < w.heap.size) :
    Calls Tryd.prog 5 #[.int .u8 k, .int .i64 n, .slice A len cap] w fun e w' => e = .returned (.bool true) ∧ Below w.heap.size w w' := by
  go_enter Tryd.func5, Tryd.ntmps5
  go_wp2_with fail
  refine (awake_any _ hT hw).mono ?_; rintro e w1 ⟨rfl, h1⟩
  have H1 := Lib.hid h1
  clear h1
  go_wp2_with fail
  refine (new_any _ _ _).mono ?_; rintro e w3 ⟨rfl, h3⟩
  have H3 := Lib.hid (H1.out.trans (h3.mono H1.out.size))
  clear h3 H1
  by_cases hl : 200 < len
  · have hb : decide ((200 : Int) < (len : Int)) = true := by simp; omega
    go_wp2_with fail
    go_ret
    exact ⟨rfl, H3.out.alloc H3.out.size _⟩
  by_cases hk : (k = 1 ∨ k = 2 ∨ k = 3) ∧ 1 ≤ n ∧ n ≤ 4
  case neg =>
    have hb : decide ((200 : Int) < (len : Int)) = false := by simp; omega
    have hk0 : newK k n = 0 := if_neg hk
    go_wp2_with fail
    go_ret
    exact ⟨rfl, H3.out.alloc H3.out.size _⟩
  case pos =>
    have hb : decide ((200 : Int) < (len : Int)) = false := by simp; omega
    have hk1 : newK k n = k := if_pos hk
    have hk0 : (k == 0) = false := by simp; omega
    have hn1 : 1 ≤ n := hk.2.1
    have hn4 : n ≤ 4 := hk.2.2
    go_wp2_with fail
    clear hb hk1
    have hst : Tol w w3.heap.size k (canon k 0#64) (w3.alloc (.cells #[.int .u8 k, .int .u64 0, .bool false] 25)) := by
      rw [canon_nil]
      exact ⟨H3.out.alloc H3.out.size _, H3.out.size, by simp, World.alloc_heap_new w3 _⟩
    have HST := Lib.hid hst
    clear hst
    have HK := Lib.hid hk
    clear hk
    obtain ⟨ALL, hALL⟩ : ∃ ALL, ALL = Bv.bit n.toNat - 1#64 := ⟨_, rfl⟩
    rw [← hALL]
    have HALL := Lib.hid hALL
    clear hALL
    go_loopw [10, 9] (fun c s wr => ∃ i : Nat, i ≤ len ∧ c = .int .i64 i ∧ s = .int .u64 (Bv.U (orTo (ordF zs n) i)) ∧ Tol w w3.heap.size k (canon k (orTo (ordF zs n) i)) wr) (fun c _ _ => len - (intOf c).toNat)
    case atStart => exact ⟨0, by omega, rfl, rfl, HST.out⟩
    case round =>
      obtain ⟨i, hi, rfl, rfl, hO⟩ := hrel
      have hof : ∀ j, ordF zs n j < n.toNat := fun j => by have := Int.emod_lt_of_pos (zs.getD j 0) (show 0 < n by omega); have := Int.emod_nonneg (zs.getD j 0) (show n ≠ 0 by omega); unfold ordF; omega
      have HOF := Lib.hid hof
      clear hof
      by_cases hlt : i < len
      · obtain ⟨b, off, rfl, hb0, hcs⟩ := hA (by omega)
        have g1 := (hO.1.cell (p := ⟨b, off + i, none⟩) hb0).trans (hcs i hlt)
        obtain ⟨a0, a1, a2, e0, e1, e2⟩ := Rf.cells3 hO.2.2.2
        have HO := Lib.hid hO
        clear hO hA
        obtain ⟨z1, hz1⟩ : ∃ z, z = zs.getD i 0 := ⟨_, rfl⟩
        rw [← hz1] at g1
        have bz1 : 0 ≤ z1 ∧ z1 ≤ 255 := by rw [hz1]; exact hz i
        have b1 : 0 ≤ z1 % n ∧ z1 % n < n := ⟨Int.emod_nonneg _ (by omega), Int.emod_lt_of_pos _ (by omega)⟩
        have hcf : ((ordF zs n i : Nat) : Int) = z1 % n := by unfold ordF; rw [← hz1]; have := b1; omega
        have st1 := canon_orTo HK.out.1 (ordF zs n) (n := n.toNat) (by omega) HOF.out i
        rw [hcf] at st1
        obtain ⟨S, hS⟩ : ∃ S, S = orTo (ordF zs n) (i + 1) := ⟨_, rfl⟩
        obtain ⟨M, hM⟩ : ∃ M, M = canon k S := ⟨_, rfl⟩
        obtain ⟨T, hTd⟩ : ∃ T, T = toldS k M.1 M.2 n := ⟨_, rfl⟩
        have tk := told_ok HK.out (ordF zs n) HOF.out (i + 1) hS hM hTd
        rw [← HALL.out] at tk
        have os : orTo (ordF zs n) i ||| Bv.bit (z1 % n).toNat = S := by
          rw [hS]
          show _ = orTo (ordF zs n) i ||| Bv.bit (ordF zs n i)
          rw [← hcf, Int.toNat_natCast]
        rw [← hS, ← hM] at st1
        have ST1 := Lib.hid st1
        have HF := Lib.hid (And.intro hcf (And.intro hz1 (And.intro hS (And.intro hM hTd))))
        have HB := Lib.hid b1
        have TK := Lib.hid tk
        clear st1 hcf hz1 hS hM hTd tk
        have l1 : decide ((i : Int) < (len : Int)) = true := by simp; omega
        go_wp2_with fail
        refine (note_lit _ _ _ _ _ HB.out.1 _ _ ST1.out.1 ST1.out.2).mono ?_; rintro e v2 ⟨rfl, h2⟩
        have O2 := HO.out.next h2
        obtain ⟨a0, a1, a2, e0, e1, e2⟩ := Rf.cells3 O2.2.2.2
        have OA := O2.set M
        obtain ⟨b0, b1, b2, f0, f1, f2⟩ := Rf.cells3 OA.2.2.2
        have t1 := OA.tab hT hw
        have HV := Lib.hid OA
        clear h2 OA HO O2
        go_wp2_with fail
        clear a0 a1 a2 e0 e1 e2
        refine (told_lit _ _ _ _ _ t1.1 t1.2 (Bv.U T) (by rw [HF.out.2.2.2.2])).mono ?_; rintro e v3 ⟨rfl, h3⟩
        have O3 := HV.out.next h3
        obtain ⟨a0, a1, a2, e0, e1, e2⟩ := Rf.cells3 O3.2.2.2
        have HV3 := Lib.hid O3
        have tk1 := TK.out.2.1
        have tk2 := TK.out.2.2.1
        clear h3 O3 t1 HV f0 f1 f2 b0 b1 b2
        go_wp2_with fail
        have hR : ∀ w, Calls Tryd.prog 16 #[.agg #[.int .u8 k, .int .u64 (Bv.U M.1), .bool M.2], .int .i64 n] w fun e w' => e = .returned (.bool true) ∧ Below w.heap.size w w' := fun w => by
          have := right_any k M.1 M.2 n w; rw [TK.out.1] at this; exact this
        refine (hR _).mono ?_; rintro e v4 ⟨rfl, h4⟩
        have HV4 := Lib.hid (HV3.out.next h4)
        have HI := Lib.hid (And.intro hlt hi)
        clear hR h4 HV3 a0 a1 a2 e0 e1 e2 g1 tk1 tk2 hk0 l1 os hcs hi hlt hb0 bz1 b1
        have done : ∀ wr, Tol w w3.heap.size k M wr → (∃ i', i' ≤ len ∧ Value.int IntKind.i64 ((i : Int) + 1) = Value.int IntKind.i64 (i' : Int) ∧ Value.int IntKind.u64 (Bv.U S) = Value.int IntKind.u64 (Bv.U (orTo (ordF zs n) i')) ∧ Tol w w3.heap.size k (canon k (orTo (ordF zs n) i')) wr) ∧
            len - (intOf (Value.int IntKind.i64 ((i : Int) + 1))).toNat < len - (intOf (Value.int IntKind.i64 (i : Int))).toNat := fun wr h => by
          refine ⟨⟨i + 1, by have := HI.out; omega, rfl, by rw [← HF.out.2.2.1], ?_⟩, by have := HI.out; simp [intOf]; omega⟩
          rw [← HF.out.2.2.1, ← HF.out.2.2.2.1]; exact h
        have DONE := Lib.hid done
        clear done
        rcases HK.out.1 with rfl | rfl | rfl
        · have hTS := TK.out.2.2.2.1 rfl
          subst hTS
          go_wp2_with fail
          go_loopw [13] (fun q wr => q = .int .i64 0 ∧ Tol w w3.heap.size 1 M wr) (fun _ _ => 0)
          case atStart => exact ⟨rfl, HV4.out⟩
          case round =>
            obtain ⟨rfl, hrel⟩ := hrel
            have HR := Lib.hid hrel
            clear hrel
            have hn0 : decide ((0 : Int) < n) = true := by simp; omega
            have x0 : IntKind.i64.wrap ((i : Int) + 1) = (i : Int) + 1 := IntWalk.i64_in _ (by have := HI.out; omega)
            go_wp2_with fail
            exact DONE.out _ HR.out
        · by_cases hTS : T = S
          · subst hTS
            go_wp2_with fail
            go_loopw [13] (fun q wr => q = .int .i64 0 ∧ Tol w w3.heap.size 2 M wr) (fun _ _ => 0)
            case atStart => exact ⟨rfl, HV4.out⟩
            case round =>
              obtain ⟨rfl, hrel⟩ := hrel
              have HR := Lib.hid hrel
              clear hrel
              have hn0 : decide ((0 : Int) < n) = true := by simp; omega
              have x0 : IntKind.i64.wrap ((i : Int) + 1) = (i : Int) + 1 := IntWalk.i64_in _ (by have := HI.out; omega)
              go_wp2_with fail
              exact DONE.out _ HR.out
          · have hlen : decide (((Bs.elems S).length : Int) ≤ 2) = false := by
              simp only [decide_eq_false_iff_not]
              intro h; exact hTS (TK.out.2.2.2.2.1 rfl (by omega))
            have hne : (T != S) = true := by simp [hTS]
            have hne2 : (T == S) = false := by simp [hTS]
            go_wp2_with fail
            refine (count_any _ _).mono ?_; rintro e w5 ⟨rfl, rfl⟩
            go_wp2_with fail
            go_loopw [13] (fun q wr => q = .int .i64 0 ∧ Tol w w3.heap.size 2 M wr) (fun _ _ => 0)
            case atStart => exact ⟨rfl, HV4.out⟩
            case round =>
              obtain ⟨rfl, hrel⟩ := hrel
              have HR := Lib.hid hrel
              clear hrel
              have hn0 : decide ((0 : Int) < n) = true := by simp; omega
              have x0 : IntKind.i64.wrap ((i : Int) + 1) = (i : Int) + 1 := IntWalk.i64_in _ (by have := HI.out; omega)
              go_wp2_with fail
              exact DONE.out _ HR.out
        · go_wp2_with fail
          go_loopw [13] (fun c wr => ∃ q : Nat, q ≤ n.toNat ∧ c = .int .i64 q ∧ Tol w w3.heap.size 3 M wr) (fun c _ => n.toNat - (intOf c).toNat)
          case atStart => exact ⟨0, by omega, rfl, HV4.out⟩
          case round =>
            obtain ⟨q, hq, rfl, hrel⟩ := hrel
            have HR := Lib.hid hrel
            clear hrel
            have x0 : IntKind.i64.wrap ((i : Int) + 1) = (i : Int) + 1 := IntWalk.i64_in _ (by have := HI.out; omega)
            have x1 : IntKind.i64.wrap ((q : Int) + 1) = (q : Int) + 1 := IntWalk.i64_in _ (by omega)
            by_cases hqn : q < n.toNat
            · have hn0 : decide ((q : Int) < n) = true := by simp; omega
              have y1 : ((q : Int) / 2 * 2).toNat = q / 2 * 2 := by omega
              have y2 : bits .and .u64 (Bv.U (S >>> (q / 2 * 2))) 3 = Bv.U (S >>> (q / 2 * 2) &&& 3#64) := Bv.and_lit _ 3
              by_cases hz0 : S >>> (q / 2 * 2) &&& 3#64 = 0#64
              · have hG := TK.out.2.2.2.2.2 (by first | trivial | rfl) q hqn hz0
                go_wp2_with fail
                exact ⟨⟨q + 1, by omega, rfl, HR.out⟩, by simp [intOf]; omega⟩
              · have hz1 : (S >>> (q / 2 * 2) &&& 3#64 == 0#64) = false := by simpa using hz0
                go_wp2_with fail
                exact ⟨⟨q + 1, by omega, rfl, HR.out⟩, by simp [intOf]; omega⟩
            · have hn0 : decide ((q : Int) < n) = false := by simp; omega
              go_wp2_with fail
              exact DONE.out _ HR.out
      · have hil : i = len := by omega
        subst hil
        have l1 : decide ((i : Int) < (i : Int)) = false := by simp
        obtain ⟨S, hS⟩ : ∃ S, S = orTo (ordF zs n) i := ⟨_, rfl⟩
        obtain ⟨M, hM⟩ : ∃ M, M = canon k S := ⟨_, rfl⟩
        obtain ⟨T, hTd⟩ : ∃ T, T = toldS k M.1 M.2 n := ⟨_, rfl⟩
        have tk := told_ok HK.out (ordF zs n) HOF.out i hS hM hTd
        rw [← HALL.out] at tk
        rw [← hS, ← hM] at hO
        rw [← hS]
        have hT0 := tk.2.2.1
        obtain ⟨a0, a1, a2, e0, e1, e2⟩ := Rf.cells3 hO.2.2.2
        have t1 := hO.tab hT hw
        have HTd := Lib.hid hTd
        have HO := Lib.hid hO
        clear hO hS hM hTd tk hA
        go_wp2_with fail
        refine (told_lit _ _ _ _ _ t1.1 t1.2 (Bv.U T) (by rw [HTd.out])).mono ?_; rintro e v3 ⟨rfl, h3⟩
        have HF := Lib.hid (HO.out.next h3).1
        clear h3
        go_wp2_with fail
        go_ret
        exact ⟨rfl, HF.out⟩
end Go.Proofs.YtjijgncahonfhaaDoor
