/- layer 19: the walk of ViewEnds. -/
import Derived.Test.YtjijgncahonfhaaDoorVo
namespace Go.Proofs.YtjijgncahonfhaaDoor
open Go.RowKit Go.Shelf

attribute [local go_sem] Bv.and_u Bv.or_u Bv.eq0 Bv.ne0

def many : List Int := [-9223372036854775808, -1, 0, 1, 2, 3, 4, 5, 64, 9223372036854775807]

/-- the table of numbers lies in block b, and nothing below b has turned -/
def Many (w : World) (zs : List Int) (wr : World) : Prop :=
  Below w.heap.size w wr ∧ w.heap.size < wr.heap.size ∧ ∀ j, j < 10 → wr.cell? ⟨w.heap.size, j, none⟩ = some (.int .i64 (zs.getD j 0))
theorem Many.next {w : World} {zs : List Int} {W W' : World} (h : Many w zs W) (hb : Below W.heap.size W W') : Many w zs W' :=
  ⟨h.1.trans (hb.mono h.1.size), Nat.lt_of_lt_of_le h.2.1 hb.size, fun j hj => (hb.cell (p := ⟨w.heap.size, j, none⟩) h.2.1).trans (h.2.2 j hj)⟩
theorem Many.tab {w : World} {zs : List Int} {W : World} (h : Many w zs W) (hT : Tab w) (hw : 0 < w.heap.size) : Tab W ∧ 0 < W.heap.size :=
  ⟨hT.below h.1 hw, Nat.lt_of_lt_of_le hw h.1.size⟩

/-- the two views of a round -/
def Two (b : Nat) (k : Int) (t t2 : BitVec 64) (g : Bool) (wr : World) : Prop :=
  b + 1 < wr.heap.size ∧ wr.heap[b]? = some (.cells #[.int .u8 k, .int .u64 (Bv.U t), .bool g] 25 (0, 0)) ∧ wr.heap[b + 1]? = some (.cells #[.int .u8 k, .int .u64 (Bv.U t2), .bool g] 25 (0, 0))
theorem Two.next {b : Nat} {k : Int} {t t2 : BitVec 64} {g : Bool} {W W' : World} (h : Two b k t t2 g W) (hb : Below W.heap.size W W') : Two b k t t2 g W' :=
  ⟨Nat.lt_of_lt_of_le h.1 hb.size, (hb.block _ (by have := h.1; omega)).trans h.2.1, (hb.block _ h.1).trans h.2.2⟩

theorem ends_cells {w : World} {zs : List Int} {b : Nat} {k : Int} {t t2 : BitVec 64} {g : Bool} {W : World} {j : Nat} (hM : Many w zs W) (hW : Two b k t t2 g W) (hj : j < 10) :
    Many w zs W ∧ Two b k t t2 g W ∧ W.cell? ⟨w.heap.size, j, none⟩ = some (.int .i64 (zs.getD j 0)) ∧ W.cell? ⟨w.heap.size, j * 3 % 10, none⟩ = some (.int .i64 (zs.getD (j * 3 % 10) 0)) ∧
      W.cell? ⟨b, 0, none⟩ = some (.int .u8 k) ∧ W.cell? ⟨b, 1, none⟩ = some (.int .u64 (Bv.U t)) ∧ W.cell? ⟨b, 2, none⟩ = some (.bool g) ∧
      W.cell? ⟨b + 1, 0, none⟩ = some (.int .u8 k) ∧ W.cell? ⟨b + 1, 1, none⟩ = some (.int .u64 (Bv.U t2)) ∧ W.cell? ⟨b + 1, 2, none⟩ = some (.bool g) := by
  obtain ⟨a0, a1, a2, _, _, _⟩ := Rf.cells3 hW.2.1
  obtain ⟨b0, b1, b2, _, _, _⟩ := Rf.cells3 hW.2.2
  exact ⟨hM, hW, hM.2.2 j hj, hM.2.2 _ (by omega), a0, a1, a2, b0, b1, b2⟩
theorem Many.drew {w : World} {zs : List Int} {W : World} (h : Many w zs W) : Many w zs W.drew := h.next (Below.refl _ _).drew
theorem Two.drew {b : Nat} {k : Int} {t t2 : BitVec 64} {g : Bool} {W : World} (h : Two b k t t2 g W) : Two b k t t2 g W.drew := h.next (Below.refl _ _).drew

set_option maxRecDepth 100000 in
set_option maxHeartbeats 8000000 in
theorem viewEnds_any (w : World) (hT : Tab w) (hw : 0 < w.heap.size) :
    Calls Tryd.prog 8 #[] w fun e w' => e = .returned (.bool true) ∧ Below w.heap.size w w' := by
  obtain ⟨zs, hzs⟩ : ∃ zs, zs = many := ⟨_, rfl⟩
  have HZ := Lib.hid hzs
  clear hzs
  go_enter Tryd.func8, Tryd.ntmps8
  go_wp2_with fail
  go_loopw [2] (fun n wr => ∃ i : Nat, i ≤ 1280 ∧ n = .int .i64 i ∧ Many w zs wr) (fun n _ => 1280 - (intOf n).toNat)
  case atStart =>
    refine ⟨0, by omega, rfl, (Below.refl _ _).alloc (Nat.le_refl _) _, by simp, ?_⟩
    intro j hj
    rw [HZ.out]
    have hb := World.alloc_heap_new w (.cells (many.map (Value.int .i64)).toArray 3 (0, 0))
    have hc : (w.alloc (.cells (many.map (Value.int .i64)).toArray 3 (0, 0))).cell? ⟨w.heap.size, j, none⟩ = some (.int .i64 (many.getD j 0)) := by
      unfold World.cell?
      rw [hb]
      have hl : j < many.length := hj
      simp [List.getD, hl]
    exact hc
  case round =>
    obtain ⟨i, hi, rfl, hM⟩ := hrel
    have HM := Lib.hid hM
    clear hM
    obtain ⟨wo, rfl⟩ : ∃ wo : World, wo = wr := ⟨_, rfl⟩
    by_cases hlt : i < 1280
    · have ht : ∃ t : BitVec 64, ((i : Int) % 64) = Bv.U t := Bv.U_of _ (by omega) (by omega)
      obtain ⟨t, ht⟩ := ht
      have hor : bits .or .u64 (Bv.U t) 9223372036854775808 = Bv.U (t ||| 9223372036854775808#64) := Bv.or_lit t 9223372036854775808
      obtain ⟨t2, ht2⟩ : ∃ t2, t2 = t ||| 9223372036854775808#64 := ⟨_, rfl⟩
      rw [← ht2] at hor
      clear ht2
      have hb8 : decide ((i : Int) < 1280) = true := by simp; omega
      go_wp2_with fail
      clear ht
      have hB2 : Below wo.heap.size wo ((wo.alloc (.cells #[.int .u8 ((i : Int) / 64 % 5), .int .u64 (Bv.U t), .bool (decide (640 ≤ (i : Int)))] 25)).alloc (.cells #[.int .u8 ((i : Int) / 64 % 5), .int .u64 (Bv.U t2), .bool (decide (640 ≤ (i : Int)))] 25)) :=
        ((Below.refl _ _).alloc (Nat.le_refl _) _).alloc (by simp) _
      have hst : Many w zs ((wo.alloc (.cells #[.int .u8 ((i : Int) / 64 % 5), .int .u64 (Bv.U t), .bool (decide (640 ≤ (i : Int)))] 25)).alloc (.cells #[.int .u8 ((i : Int) / 64 % 5), .int .u64 (Bv.U t2), .bool (decide (640 ≤ (i : Int)))] 25)) ∧
          Two wo.heap.size ((i : Int) / 64 % 5) t t2 (decide (640 ≤ (i : Int))) ((wo.alloc (.cells #[.int .u8 ((i : Int) / 64 % 5), .int .u64 (Bv.U t), .bool (decide (640 ≤ (i : Int)))] 25)).alloc (.cells #[.int .u8 ((i : Int) / 64 % 5), .int .u64 (Bv.U t2), .bool (decide (640 ≤ (i : Int)))] 25)) := by
        refine ⟨HM.out.next hB2, by simp, (Below.heap_alloc _ _ _ (by simp)).trans (World.alloc_heap_new wo _), ?_⟩
        have := World.alloc_heap_new (wo.alloc (.cells #[.int .u8 ((i : Int) / 64 % 5), .int .u64 (Bv.U t), .bool (decide (640 ≤ (i : Int)))] 25)) (.cells #[.int .u8 ((i : Int) / 64 % 5), .int .u64 (Bv.U t2), .bool (decide (640 ≤ (i : Int)))] 25 (0, 0))
        rw [World.size_alloc] at this; exact this
      have HST := Lib.hid hst
      clear hst hB2
      go_loopw [5] (fun n wr => ∃ j : Nat, j ≤ 10 ∧ n = .int .i64 j ∧ Many w zs wr ∧ Two wo.heap.size ((i : Int) / 64 % 5) t t2 (decide (640 ≤ (i : Int))) wr) (fun n _ => 10 - (intOf n).toNat)
      case atStart => exact ⟨0, by omega, rfl, HST.out.1, HST.out.2⟩
      case round =>
        obtain ⟨j, hj, rfl, hM2, hW2⟩ := hrel
        have H2 := Lib.hid (And.intro hM2 hW2)
        clear hM2 hW2
        by_cases hjl : j < 10
        · have q1 : ((j : Int) * 3 % 10).toNat = j * 3 % 10 := by omega
          have q2 : ((j : Int) + 3) % 6 ≤ 255 := by omega
          obtain ⟨K, hK⟩ : ∃ K, K = (i : Int) / 64 % 5 := ⟨_, rfl⟩
          obtain ⟨g, hg⟩ : ∃ g, g = decide (640 ≤ (i : Int)) := ⟨_, rfl⟩
          have hh := ends_cells H2.out.1 H2.out.2 hjl
          rw [← hK, ← hg] at hh
          have HS0 := Lib.hid hh
          obtain ⟨_, _, e1, e2, e3, e4, e5, e6, e7, e8⟩ := hh
          have HKG := Lib.hid (And.intro hK hg)
          clear hK hg
          go_wp2_with fail
          have m1 : (j : Int).tmod 6 = (j : Int) % 6 := IntWalk.rem_in _ _ (by omega)
          have m2 : IntKind.u8.wrap ((j : Int) % 6) = (j : Int) % 6 := IntWalk.u8_in _ (by omega)
          have m3 : IntKind.i64.wrap ((j : Int) * 25) = (j : Int) * 25 := IntWalk.i64_in _ (by omega)
          have m4 : IntKind.i64.wrap (255 - (j : Int) * 25) = 255 - (j : Int) * 25 := IntWalk.i64_in _ (by omega)
          have m5 : IntKind.u8.wrap (255 - (j : Int) * 25) = 255 - (j : Int) * 25 := IntWalk.u8_in _ (by omega)
          have m6 : IntKind.i64.wrap ((j : Int) + 3) = (j : Int) + 3 := IntWalk.i64_in _ (by omega)
          have m7 : ((j : Int) + 3).tmod 6 = ((j : Int) + 3) % 6 := IntWalk.rem_in _ _ (by omega)
          have m8 : IntKind.u8.wrap (((j : Int) + 3) % 6) = ((j : Int) + 3) % 6 := IntWalk.u8_in _ (by omega)
          have m9 : IntKind.i64.wrap ((j : Int) * 3) = (j : Int) * 3 := IntWalk.i64_in _ (by omega)
          have m10 : ((j : Int) * 3).tmod 10 = (j : Int) * 3 % 10 := IntWalk.rem_in _ _ (by omega)
          have m11 : (i : Int).tmod 256 = (i : Int) % 256 := IntWalk.rem_in _ _ (by omega)
          have m12 : IntKind.u8.wrap ((i : Int) % 256) = (i : Int) % 256 := IntWalk.u8_in _ (by omega)
          have m13 : 0 ≤ (j : Int) * 3 % 10 := by omega
          have m14 : (j : Int) * 3 % 10 < 10 := by omega
          have hj10 : (j : Int) < 10 := by omega
          go_region_held3 (fun w' => Many w zs w' ∧ Two wo.heap.size K t t2 g w' ∧ w'.cell? ⟨w.heap.size, j, none⟩ = some (.int .i64 (zs.getD j 0)) ∧ w'.cell? ⟨w.heap.size, j * 3 % 10, none⟩ = some (.int .i64 (zs.getD (j * 3 % 10) 0)) ∧
              w'.cell? ⟨wo.heap.size, 0, none⟩ = some (.int .u8 K) ∧ w'.cell? ⟨wo.heap.size, 1, none⟩ = some (.int .u64 (Bv.U t)) ∧ w'.cell? ⟨wo.heap.size, 2, none⟩ = some (.bool g) ∧
              w'.cell? ⟨wo.heap.size + 1, 0, none⟩ = some (.int .u8 K) ∧ w'.cell? ⟨wo.heap.size + 1, 1, none⟩ = some (.int .u64 (Bv.U t2)) ∧ w'.cell? ⟨wo.heap.size + 1, 2, none⟩ = some (.bool g))
            (first
              | (go_split_ands; exact ends_cells (Many.next (by assumption) hbq) (Two.next (by assumption) hbq) hjl)
              | exact ends_cells (HS0.out.1.drew) (HS0.out.2.1.drew) hjl)
            (first
              | (go_at_call 18; go_split_ands; refine (same_any _ _ _ _ _ _ (by clear m1 m2 m3 m4 m5 m6 m7 m8 m9 m10 m11 m12; omega) (Many.tab (by assumption) hT hw).1 (Many.tab (by assumption) hT hw).2).mono ?_; rintro e w1 ⟨rfl, hbq⟩)
              | (go_at_call 3; go_split_ands; refine (viewMakes_any _ _ _ _ (Many.tab (by assumption) hT hw).1 (Many.tab (by assumption) hT hw).2).mono ?_; rintro e w1 ⟨rfl, hbq⟩))
          go_split_ands
          have hM3 : Many w zs w1 := by assumption
          have hW3 : Two wo.heap.size K t t2 g w1 := by assumption
          rw [HKG.out.1, HKG.out.2] at hW3
          have H3 := Lib.hid (And.intro hM3 hW3)
          clear hM3 hW3 m1 m2 m3 m4 m5 m6 m7 m8 m9 m10 m11 m12 m13 m14
          go_wp2_with fail
          go_roundw
          case rel => exact ⟨j + 1, by omega, by go_num, H3.out.1, H3.out.2⟩
          case measure => simp [intOf]; omega
        · obtain rfl : j = 10 := by omega
          go_wp2_with fail
          go_roundw
          case rel => exact ⟨i + 1, by omega, by go_num, H2.out.1⟩
          case measure => simp [intOf]; omega
    · obtain rfl : i = 1280 := by omega
      have T1 := (HM.out.tab hT hw).1
      have Z1 := (HM.out.tab hT hw).2
      go_wp2_with (go_at_call 13; refine (awake_any _ T1 Z1).mono ?_; rintro e w1 ⟨rfl, h1⟩)
      go_ret
      exact ⟨rfl, HM.out.1.trans (h1.mono HM.out.1.size)⟩
end Go.Proofs.YtjijgncahonfhaaDoor
