/- layer 19: the walk of ViewOrder. -/
import Derived.Test.YtjijgncahonfhaaDoorVt
import Derived.StillTailTactics
namespace Go.Proofs.YtjijgncahonfhaaDoor
open Go.RowKit Go.Shelf

attribute [local go_sem] Bv.and_u Bv.or_u Bv.andNot_u Bv.wrap_sub1 Bv.eq0 Bv.ne0 Bv.wrap_pow Bv.wrap_powmin Bv.wrap_neg Bv.eq_u Bv.shr_min Bv.shr_pow Bv.and1 Bv.B1_eq1

/-- the list's numbers, each an existing cache -/
def ordF (zs : List Int) (n : Int) (j : Nat) : Nat := (zs.getD j 0 % n).toNat

/-- the two views that are built: nothing below has turned -/
def Ord (w : World) (b : Nat) (k : Int) (x y : BitVec 64 × Bool) (wr : World) : Prop :=
  Below w.heap.size w wr ∧ w.heap.size ≤ b ∧ b + 1 < wr.heap.size ∧ wr.heap[b]? = some (.cells #[.int .u8 k, .int .u64 (Bv.U x.1), .bool x.2] 25 (0, 0)) ∧ wr.heap[b + 1]? = some (.cells #[.int .u8 k, .int .u64 (Bv.U y.1), .bool y.2] 25 (0, 0))

theorem Ord.setA {w : World} {b : Nat} {k : Int} {x y : BitVec 64 × Bool} {W : World} (x' : BitVec 64 × Bool) (h : Ord w b k x y W) :
    Ord w b k x' y (((W.setCell ⟨b, 0, none⟩ (.int .u8 k)).setCell ⟨b, 1, none⟩ (.int .u64 (Bv.U x'.1))).setCell ⟨b, 2, none⟩ (.bool x'.2)) := by
  obtain ⟨h1, h2, h3, h4, h5⟩ := h
  refine ⟨((h1.setCell (p := ⟨b, 0, none⟩) h2 _).setCell (p := ⟨b, 1, none⟩) h2 _).setCell (p := ⟨b, 2, none⟩) h2 _, h2, by simpa using h3, Rf.set3 h4, ?_⟩
  exact (Below.heap_setCell _ _ _ _ (by simp)).trans ((Below.heap_setCell _ _ _ _ (by simp)).trans ((Below.heap_setCell _ _ _ _ (by simp)).trans h5))
theorem Ord.setB {w : World} {b : Nat} {k : Int} {x y : BitVec 64 × Bool} {W : World} (y' : BitVec 64 × Bool) (h : Ord w b k x y W) :
    Ord w b k x y' (((W.setCell ⟨b + 1, 0, none⟩ (.int .u8 k)).setCell ⟨b + 1, 1, none⟩ (.int .u64 (Bv.U y'.1))).setCell ⟨b + 1, 2, none⟩ (.bool y'.2)) := by
  obtain ⟨h1, h2, h3, h4, h5⟩ := h
  refine ⟨((h1.setCell (p := ⟨b + 1, 0, none⟩) (by simp; omega) _).setCell (p := ⟨b + 1, 1, none⟩) (by simp; omega) _).setCell (p := ⟨b + 1, 2, none⟩) (by simp; omega) _, h2, by simpa using h3, ?_, Rf.set3 h5⟩
  exact (Below.heap_setCell _ _ _ _ (by simp)).trans ((Below.heap_setCell _ _ _ _ (by simp)).trans ((Below.heap_setCell _ _ _ _ (by simp)).trans h4))
theorem Ord.next {w : World} {b : Nat} {k : Int} {x y : BitVec 64 × Bool} {W W' : World} (h : Ord w b k x y W) (hb : Below W.heap.size W W') : Ord w b k x y W' :=
  ⟨h.1.trans (hb.mono h.1.size), h.2.1, Nat.lt_of_lt_of_le h.2.2.1 hb.size, (hb.block _ (by have := h.2.2.1; omega)).trans h.2.2.2.1, (hb.block _ h.2.2.1).trans h.2.2.2.2⟩

theorem ord_cells {w : World} {b : Nat} {k : Int} {x y : BitVec 64 × Bool} {W : World} (h : Ord w b k x y W) :
    Ord w b k x y W ∧ W.cell? ⟨b, 0, none⟩ = some (.int .u8 k) ∧ W.cell? ⟨b, 1, none⟩ = some (.int .u64 (Bv.U x.1)) ∧ W.cell? ⟨b, 2, none⟩ = some (.bool x.2) ∧
      W.cell? ⟨b + 1, 0, none⟩ = some (.int .u8 k) ∧ W.cell? ⟨b + 1, 1, none⟩ = some (.int .u64 (Bv.U y.1)) ∧ W.cell? ⟨b + 1, 2, none⟩ = some (.bool y.2) := by
  obtain ⟨a0, a1, a2, _, _, _⟩ := Rf.cells3 h.2.2.2.1
  obtain ⟨b0, b1, b2, _, _, _⟩ := Rf.cells3 h.2.2.2.2
  exact ⟨h, a0, a1, a2, b0, b1, b2⟩
theorem Ord.drew {w : World} {b : Nat} {k : Int} {x y : BitVec 64 × Bool} {W : World} (h : Ord w b k x y W) : Ord w b k x y W.drew := h.next (Below.refl _ _).drew
theorem Ord.tab {w : World} {b : Nat} {k : Int} {x y : BitVec 64 × Bool} {W : World} (h : Ord w b k x y W) (hT : Tab w) (hw : 0 < w.heap.size) : Tab W ∧ 0 < W.heap.size :=
  ⟨hT.below h.1 hw, Nat.lt_of_lt_of_le hw h.1.size⟩

set_option maxRecDepth 100000 in
set_option maxHeartbeats 4000000 in
theorem viewOrder_any (k n : Int) (A : Option Addr) (len cap : Nat) (zs : List Int) (u : Int) (w : World) (hu : 0 ≤ u) (hu2 : u ≤ 255)
    (hA : 0 < len → ∃ b off, A = some ⟨b, off, none⟩ ∧ b < w.heap.size ∧ ∀ i, i < len → w.cell? ⟨b, off + i, none⟩ = some (.int .u8 (zs.getD i 0)))
    (hz : ∀ i, 0 ≤ zs.getD i 0 ∧ zs.getD i 0 ≤ 255) (hT : Tab w) (hw : 0 < w.heap.size) :
    Calls Tryd.prog 4 #[.int .u8 k, .int .i64 n, .slice A len cap, .int .u8 u] w fun e w' => e = .returned (.bool true) ∧ Below w.heap.size w w' := by
  go_enter Tryd.func4, Tryd.ntmps4
  go_wp2_with fail
  refine (awake_any _ hT hw).mono ?_; rintro e w1 ⟨rfl, h1⟩
  have H1 := Lib.hid h1
  clear h1
  go_wp2_with fail
  refine (new_any _ _ _).mono ?_; rintro e w2 ⟨rfl, h2⟩
  have H2 := Lib.hid (H1.out.trans (h2.mono H1.out.size))
  clear h2 H1
  go_wp2_with fail
  refine (new_any _ _ _).mono ?_; rintro e w3 ⟨rfl, h3⟩
  have H3 := Lib.hid (H2.out.trans (h3.mono H2.out.size))
  clear h3 H2
  by_cases hl : 200 < len
  · have hb : decide ((200 : Int) < (len : Int)) = true := by simp; omega
    go_wp2_with fail
    go_ret
    exact ⟨rfl, (H3.out.alloc H3.out.size _).alloc (by have := H3.out.size; simp; omega) _⟩
  by_cases hk : (k = 1 ∨ k = 2 ∨ k = 3) ∧ 1 ≤ n ∧ n ≤ 4
  case neg =>
    have hb : decide ((200 : Int) < (len : Int)) = false := by simp; omega
    have hk0 : newK k n = 0 := if_neg hk
    go_wp2_with fail
    go_ret
    exact ⟨rfl, (H3.out.alloc H3.out.size _).alloc (by have := H3.out.size; simp; omega) _⟩
  case pos =>
    have hb : decide ((200 : Int) < (len : Int)) = false := by simp; omega
    have hk1 : newK k n = k := if_pos hk
    have hk0 : (k == 0) = false := by simp; omega
    go_wp2_with fail
    clear hb hk1
    have hst : Ord w w3.heap.size k (canon k 0#64) (canon k 0#64) ((w3.alloc (.cells #[.int .u8 k, .int .u64 0, .bool false] 25)).alloc (.cells #[.int .u8 k, .int .u64 0, .bool false] 25)) := by
      rw [canon_nil]
      refine ⟨(H3.out.alloc H3.out.size _).alloc (by have := H3.out.size; simp; omega) _, H3.out.size, by simp, (Below.heap_alloc _ _ _ (by simp)).trans (World.alloc_heap_new w3 _), ?_⟩
      have := World.alloc_heap_new (w3.alloc (.cells #[.int .u8 k, .int .u64 0, .bool false] 25)) (.cells #[.int .u8 k, .int .u64 0, .bool false] 25 (0, 0))
      rw [World.size_alloc] at this; exact this
    have HST := Lib.hid hst
    clear hst
    have HK := Lib.hid hk
    clear hk
    go_loopw [12, 11] (fun c s wr => ∃ i : Nat, i ≤ len ∧ c = .int .i64 i ∧ s = .int .u64 (Bv.U (orTo (ordF zs n) i)) ∧ Ord w w3.heap.size k (canon k (orTo (ordF zs n) i)) (canon k (orTo (fun j => ordF zs n ((j + u.toNat) % len)) i)) wr) (fun c _ _ => len - (intOf c).toNat)
    case atStart => exact ⟨0, by omega, rfl, rfl, HST.out⟩
    case round =>
      obtain ⟨i, hi, rfl, rfl, hO⟩ := hrel
      by_cases hlt : i < len
      · obtain ⟨b, off, rfl, hb0, hcs⟩ := hA (by omega)
        have hn1 : 1 ≤ n := HK.out.2.1
        have hn4 : n ≤ 4 := HK.out.2.2
        have hce := fun j (h : j < len) => ((hO.1.cell (p := ⟨b, off + j, none⟩) hb0).trans (hcs j h))
        have HO := Lib.hid hO
        obtain ⟨a0, a1, a2, _, _, _⟩ := Rf.cells3 hO.2.2.2.1
        clear hO hA
        obtain ⟨jj, hjj⟩ : ∃ jj, jj = (i + u.toNat) % len := ⟨_, rfl⟩
        have hjl : jj < len := by rw [hjj]; exact Nat.mod_lt _ (by omega)
        obtain ⟨z1, hz1⟩ : ∃ z, z = zs.getD i 0 := ⟨_, rfl⟩
        obtain ⟨z2, hz2⟩ : ∃ z, z = zs.getD jj 0 := ⟨_, rfl⟩
        obtain ⟨c1, hc1⟩ : ∃ c, c = z1 % n := ⟨_, rfl⟩
        obtain ⟨c2, hc2⟩ : ∃ c, c = z2 % n := ⟨_, rfl⟩
        have g1 := hce i hlt
        have g2 := hce jj hjl
        rw [← hz1] at g1
        rw [← hz2] at g2
        have bz1 : 0 ≤ z1 ∧ z1 ≤ 255 := by rw [hz1]; exact hz i
        have bz2 : 0 ≤ z2 ∧ z2 ≤ 255 := by rw [hz2]; exact hz jj
        have b1 : 0 ≤ c1 ∧ c1 < n := by rw [hc1]; exact ⟨Int.emod_nonneg _ (by omega), Int.emod_lt_of_pos _ (by omega)⟩
        have b2 : 0 ≤ c2 ∧ c2 < n := by rw [hc2]; exact ⟨Int.emod_nonneg _ (by omega), Int.emod_lt_of_pos _ (by omega)⟩
        have HE := Lib.hid (And.intro hjj (And.intro hz1 (And.intro hz2 (And.intro hc1 hc2))))
        have HC := Lib.hid hce
        have HB := Lib.hid (And.intro bz1 (And.intro bz2 (And.intro b1 b2)))
        have m1 : z1 % n = c1 := hc1.symm
        have m2 : z2 % n = c2 := hc2.symm
        clear hjj hz1 hz2 hc1 hc2 hce bz1 bz2
        have l1 : decide ((i : Int) < (len : Int)) = true := by simp; omega
        go_wp2_with fail
        have q0 : IntKind.u8.wrap n = n := IntWalk.u8_in _ (by omega)
        have q1 : ¬ n = 0 := by omega
        have q2 : z1.tmod n = c1 := by rw [← m1]; exact IntWalk.rem_in _ _ HB.out.1.1
        have q3 : IntKind.u8.wrap c1 = c1 := IntWalk.u8_in _ (by have := HB.out.2.2.1; omega)
        have q4 : z2.tmod n = c2 := by rw [← m2]; exact IntWalk.rem_in _ _ HB.out.2.1.1
        have q5 : IntKind.u8.wrap c2 = c2 := IntWalk.u8_in _ (by have := HB.out.2.2.2; omega)
        go_still_tail 8, (by kernel_rfl)
        change wpList _ _ _ _ _ wr.drew
        have HD := Lib.hid (show Ord w w3.heap.size k (canon k (orTo (ordF zs n) i)) (canon k (orTo (fun j => ordF zs n ((j + u.toNat) % len)) i)) wr.drew from ⟨HO.out.1.drew, HO.out.2.1, HO.out.2.2.1, HO.out.2.2.2.1, HO.out.2.2.2.2⟩)
        generalize wr.drew = v1 at HD ⊢
        clear HO HC g1 g2 a0 a1 a2
        go_step
        go_wp2_with fail
        have hcf : ((ordF zs n i : Nat) : Int) = c1 := by unfold ordF; rw [← HE.out.2.1, ← HE.out.2.2.2.1]; have := HB.out.2.2.1; omega
        have hcg : ((ordF zs n jj : Nat) : Int) = c2 := by unfold ordF; rw [← HE.out.2.2.1, ← HE.out.2.2.2.2]; have := HB.out.2.2.2; omega
        have hof : ∀ j, ordF zs n j < n.toNat := fun j => by have := Int.emod_lt_of_pos (zs.getD j 0) (show 0 < n by omega); have := Int.emod_nonneg (zs.getD j 0) (show n ≠ 0 by omega); unfold ordF; omega
        have st1 := canon_orTo HK.out.1 (ordF zs n) (n := n.toNat) (by omega) hof i
        rw [hcf] at st1
        have ST1 := Lib.hid st1
        have HF := Lib.hid (And.intro hcf (And.intro hcg hof))
        clear st1 hcf hcg hof
        refine (note_lit _ _ _ _ _ HB.out.2.2.1.1 _ _ ST1.out.1 ST1.out.2).mono ?_; rintro e v2 ⟨rfl, h2⟩
        have O2 := HD.out.next h2
        obtain ⟨a0, a1, a2, e0, e1, e2⟩ := Rf.cells3 O2.2.2.2.1
        have OA := O2.setA (canon k (orTo (ordF zs n) (i + 1)))
        have g1 := (OA.1.cell (p := ⟨b, off + i, none⟩) hb0).trans (hcs i hlt)
        have g2 := (OA.1.cell (p := ⟨b, off + jj, none⟩) hb0).trans (hcs jj hjl)
        rw [← HE.out.2.1] at g1
        rw [← HE.out.2.2.1] at g2
        obtain ⟨b0, b1, b2, f0, f1, f2⟩ := Rf.cells3 OA.2.2.2.2
        have x0 : ¬ (len : Int) = 0 := by omega
        have x1 : ((i : Int) + u) % (len : Int) = (jj : Int) := by
          rw [HE.out.1, Int.natCast_emod, Int.natCast_add, Int.toNat_of_nonneg hu]
        have x2 : ((i : Int) + u).tmod (len : Int) = (jj : Int) := by rw [← x1]; exact IntWalk.rem_in _ _ (by omega)
        have x3 : IntKind.i64.wrap ((i : Int) + u) = (i : Int) + u := IntWalk.i64_in _ (by omega)
        have x4 : IntKind.i64.wrap (jj : Int) = (jj : Int) := IntWalk.i64_in _ (by omega)
        have x5 : decide ((jj : Int) < (len : Int)) = true := by simp; omega
        have x6 : IntKind.i64.wrap u = u := IntWalk.i64_in _ (by omega)
        have HO := Lib.hid OA
        clear h2 OA HD O2
        go_wp2_with fail
        clear x0 x1 x2 x3 x4 x5 x6 a0 a1 a2 b0 b1 b2 f0 f1 f2 e0 e1 e2 g1 g2 q0 q1 q2 q3 q4 q5 m1 m2 l1
        obtain ⟨G, hG⟩ : ∃ G : Nat → Nat, G = fun j => ordF zs n ((j + u.toNat) % len) := ⟨_, rfl⟩
        have hGi : ((G i : Nat) : Int) = c2 := by rw [hG]; show ((ordF zs n ((i + u.toNat) % len) : Nat) : Int) = c2; rw [← HE.out.1]; exact HF.out.2.1
        have hGl : ∀ j, G j < n.toNat := fun j => by rw [hG]; exact HF.out.2.2 _
        have st2 := canon_orTo HK.out.1 G (n := n.toNat) (by omega) hGl i
        have st3 := canon_again HK.out.1 G (n := n.toNat) (by omega) hGl i
        rw [hGi] at st2 st3
        rw [hG] at st2 st3
        have ST2 := Lib.hid (And.intro st2 st3)
        clear st2 st3 hGi hGl hG G
        refine (note_lit _ _ _ _ _ HB.out.2.2.2.1 _ _ ST2.out.1.1 ST2.out.1.2).mono ?_; rintro e v3 ⟨rfl, h3⟩
        have H5 := Lib.hid (HO.out.next h3)
        clear h3 HO
        go_wp2_with fail
        refine (note_lit _ _ _ _ _ HB.out.2.2.2.1 _ _ ST2.out.2.1 ST2.out.2.2).mono ?_; rintro e v4 ⟨rfl, h4⟩
        have O4 := H5.out.next h4
        obtain ⟨a0, a1, a2, e0, e1, e2⟩ := Rf.cells3 O4.2.2.2.2
        have H6 := Lib.hid (O4.setB (canon k (orTo (fun j => ordF zs n ((j + u.toNat) % len)) (i + 1))))
        clear h4 H5 O4
        have os : Bv.U (orTo (ordF zs n) i ||| Bv.bit c1.toNat) = Bv.U (orTo (ordF zs n) (i + 1)) := by
          show _ = Bv.U (orTo (ordF zs n) i ||| Bv.bit (ordF zs n i))
          rw [← HF.out.1, Int.toNat_natCast]
        rw [os]
        clear os
        have x0 : IntKind.i64.wrap ((i : Int) + 1) = ((i + 1 : Nat) : Int) := by rw [IntWalk.i64_in _ (by omega)]; omega
        go_wp2_with fail
        exact ⟨⟨i + 1, by omega, rfl, rfl, H6.out⟩, by simp [intOf]; omega⟩
      · have hil : i = len := by omega
        subst hil
        have l1 : decide ((i : Int) < (i : Int)) = false := by simp
        have hn1 : 1 ≤ n := HK.out.2.1
        have hn4 : n ≤ 4 := HK.out.2.2
        have hof : ∀ j, ordF zs n j < n.toNat := fun j => by have := Int.emod_lt_of_pos (zs.getD j 0) (show 0 < n by omega); have := Int.emod_nonneg (zs.getD j 0) (show n ≠ 0 by omega); unfold ordF; omega
        have htn : orTo (fun j => ordF zs n ((j + u.toNat) % i)) i = orTo (ordF zs n) i := by
          by_cases h0 : 0 < i
          · exact orTo_turn (ordF zs n) (fun j => by have := hof j; omega) i u.toNat h0
          · have : i = 0 := by omega
            subst this; rfl
        have hls : leastSt k n (orTo (ordF zs n) i) = canon k (orTo (ordF zs n) i) := canon_least HK.out (ordF zs n) hof i
        rw [htn] at hO
        obtain ⟨S, hS⟩ : ∃ S, S = orTo (ordF zs n) i := ⟨_, rfl⟩
        rw [← hS] at hO hls ⊢
        obtain ⟨M, hM⟩ : ∃ M, M = canon k S := ⟨_, rfl⟩
        rw [← hM] at hO hls
        have hle : ∀ w, Tab w → 0 < w.heap.size → Calls Tryd.prog 11 #[.int .u8 k, .int .i64 n, .int .u64 (Bv.U S)] w fun e w' => e = .returned (.agg #[.int .u8 k, .int .u64 (Bv.U M.1), .bool M.2]) ∧ Below w.heap.size w w' := fun w t z => by
          have := least_any k n S w t z
          rw [show newK k n = k from if_pos HK.out, hls] at this; exact this
        have HL := Lib.hid hle
        have HO := Lib.hid hO
        clear hle hO htn hls hM hS hof hA
        go_wp2_with fail
        go_region_held3 (fun w' => Ord w w3.heap.size k M M w' ∧ w'.cell? ⟨w3.heap.size, 0, none⟩ = some (.int .u8 k) ∧ w'.cell? ⟨w3.heap.size, 1, none⟩ = some (.int .u64 (Bv.U M.1)) ∧ w'.cell? ⟨w3.heap.size, 2, none⟩ = some (.bool M.2) ∧
              w'.cell? ⟨w3.heap.size + 1, 0, none⟩ = some (.int .u8 k) ∧ w'.cell? ⟨w3.heap.size + 1, 1, none⟩ = some (.int .u64 (Bv.U M.1)) ∧ w'.cell? ⟨w3.heap.size + 1, 2, none⟩ = some (.bool M.2))
            (first
              | (go_split_ands; exact ord_cells (Ord.next (by assumption) hbq))
              | exact ord_cells (HO.out.drew))
            (first
              | (go_at_call 11; go_split_ands; refine (HL.out _ (Ord.tab (by assumption) hT hw).1 (Ord.tab (by assumption) hT hw).2).mono ?_; rintro e w1 ⟨rfl, hbq⟩))
        go_split_ands
        have hfin : Ord w w3.heap.size k M M w1 := by assumption
        have HF := Lib.hid hfin.1
        clear hfin
        go_wp2
        go_ret
        exact ⟨rfl, HF.out⟩
end Go.Proofs.YtjijgncahonfhaaDoor
