/- reference of layer 3: Keeps. -/
import Derived.Test.YtknjdfgmejobfaaDoorWa
import Derived.Test.YtknjdfgmejobfaaDoorLh
import Derived.Test.YtknjdfgmejobfaaDoorLg
namespace Go.Proofs.YtknjdfgmejobfaaDoor
open Go.RowKit Go.Shelf

/-- does a pair of rows ahead of a, or of row a ahead of b, stand wrongly? -/
def badP (n : Int) (f : Rl.Rows) (zs : List Int) (a b : Nat) : Bool := pairB n f a b && decide (placeI zs b ≤ placeI zs a)
def okRow (n : Int) (f : Rl.Rows) (zs : List Int) (a k : Nat) : Bool := (List.range k).all fun b => !badP n f zs a b
def okRows (n : Int) (f : Rl.Rows) (zs : List Int) (m k : Nat) : Bool := (List.range k).all fun a => okRow n f zs a m
def rkeepsB (n : Int) (f : Rl.Rows) (zs : List Int) : Bool := Rl.rightB n f && listedB n zs && okRows n f zs n.toNat n.toNat
theorem okRow_succ (n : Int) (f : Rl.Rows) (zs : List Int) (a k : Nat) : okRow n f zs a (k + 1) = (okRow n f zs a k && !badP n f zs a k) := by
  unfold okRow; rw [List.range_succ, List.all_append]; simp
theorem okRows_succ (n : Int) (f : Rl.Rows) (zs : List Int) (m k : Nat) : okRows n f zs m (k + 1) = (okRows n f zs m k && okRow n f zs k m) := by
  unfold okRows; rw [List.range_succ, List.all_append]; simp
theorem okRow_bad {n : Int} {f : Rl.Rows} {zs : List Int} {a b m : Nat} (h : badP n f zs a b = true) (hb : b < m) : okRow n f zs a m = false := by
  unfold okRow; rw [List.all_eq_false]; exact ⟨b, List.mem_range.2 hb, by simp [h]⟩
theorem okRows_bad {n : Int} {f : Rl.Rows} {zs : List Int} {a m k : Nat} (h : okRow n f zs a m = false) (ha : a < k) : okRows n f zs m k = false := by
  unfold okRows; rw [List.all_eq_false]; exact ⟨a, List.mem_range.2 ha, by simp [h]⟩
attribute [-go_sem] run_eql_struct run_neq_struct
set_option maxRecDepth 100000 in
set_option maxHeartbeats 4000000 in
theorem rkeeps_any (n : Int) (f : Rl.Rows) (A : Option Addr) (zs : List Int) (cap : Nat) (r : Bool) (hr : rkeepsB n f zs = r) (w : World) (zf : Rl.Z f) (hlen : zs.length ≤ 1000) (hA : IntsAt w A zs) :
    Calls Tryd.prog 55 #[.agg (relC n f), .slice A zs.length cap] w fun e w' => e = .returned (.bool r) ∧ Below w.heap.size w w' := by
  obtain ⟨R, hR⟩ : ∃ R, Rl.rightB n f = R := ⟨_, rfl⟩
  have H0 := Lib.hid ((Held.nil w).box n f)
  have Z := Lib.hid (And.intro zf (And.intro hA hlen))
  clear zf hA
  go_enter Tryd.func55, Tryd.ntmps55
  go_wp2_with (first | (refine wpList_load_rel (by rfl) (.tmp 2) (by rfl) w.heap.size n f (by rfl) (H0.out.at 0 rfl) ?_))
  with_reducible refine (rright_is n f R hR _ Z.out.1).mono ?_
  rintro e w1 ⟨rfl, hb⟩
  have H1 := Lib.hid (H0.out.step hb)
  clear hb
  cases R
  · have hres : r = false := by rw [← hr]; unfold rkeepsB; rw [hR]; rfl
    have HX := Lib.hid hres
    clear hr hR hres
    go_wp2_with fail
    go_ret
    exact ⟨by rw [HX.out]; rfl, H1.out.bel⟩
  · obtain ⟨m, rfl, oF⟩ := Rl.right_nat Z.out.1 hR
    obtain ⟨L, hL⟩ : ∃ L, listedB m zs = L := ⟨_, rfl⟩
    have hm48 : m ≤ 48 := oF.le
    have hr2 : (L && okRows m f zs m m) = r := by rw [← hr, ← hL]; unfold rkeepsB; rw [hR, Bool.true_and, Int.toNat_natCast]
    have HX := Lib.hid (And.intro hr2 (And.intro hL oF))
    clear hr hR hr2 hL oF
    have cN := (H1.out.at 0 rfl).num
    go_wp2_with fail
    refine (listed_any m A zs cap L HX.out.2.1 _ hlen (Z.out.2.1.below H1.out.bel (Nat.le_refl _))).mono ?_
    rintro e w2 ⟨rfl, hb⟩
    have H2 := Lib.hid (H1.out.step hb)
    clear hb cN
    cases L
    · have hres : r = false := by rw [← HX.out.1]; rfl
      have HY := Lib.hid hres
      clear hres
      go_wp2_with fail
      go_ret
      exact ⟨by rw [HY.out]; rfl, H2.out.bel⟩
    · go_wp2_with fail
      go_loopw [5] (fun i wr => ∃ k : Nat, k ≤ m ∧ i = .int .i64 k ∧ okRows m f zs m k = true ∧ Held w [(w.heap.size, (m : Int), f)] wr) (fun i _ => m - (intOf i).toNat)
      case atStart => exact ⟨0, Nat.zero_le _, rfl, rfl, H2.out⟩
      case round =>
        obtain ⟨k, hk, rfl, hall, hh⟩ := hrel
        have cN := (hh.at 0 rfl).num
        by_cases hlt : k < m
        · have R0 := Lib.hid (And.intro hall hh)
          clear hall hh
          go_wp2_with fail
          go_loopw [6] (fun i wr2 => ∃ j : Nat, j ≤ m ∧ i = .int .i64 j ∧ okRow m f zs k j = true ∧ Held w [(w.heap.size, (m : Int), f)] wr2) (fun i _ => m - (intOf i).toNat)
          case atStart => exact ⟨0, Nat.zero_le _, rfl, rfl, R0.out.2⟩
          case round =>
            obtain ⟨j, hj, rfl, hrow, hh⟩ := hrel
            clear cN
            have cN := (hh.at 0 rfl).num
            by_cases hjl : j < m
            · obtain ⟨P, hP⟩ : ∃ P, pairB m f k j = P := ⟨_, rfl⟩
              have R1 := Lib.hid (And.intro hrow (And.intro hh hP))
              clear hrow hh hP
              go_wp2_with (first | (refine wpList_load_rel (by rfl) (.tmp 2) (by rfl) w.heap.size m f (by rfl) (R1.out.2.1.at 0 rfl) ?_))
              refine (rpair_is m f k j P R1.out.2.2 _ Z.out.1).mono ?_
              rintro e v1 ⟨rfl, hb⟩
              have R2 := Lib.hid (R1.out.2.1.step hb)
              clear hb cN
              cases P
              · have hs : okRow m f zs k (j + 1) = true := by rw [okRow_succ, R1.out.1]; unfold badP; rw [R1.out.2.2]; rfl
                have HS := Lib.hid hs
                clear hs
                go_wp2_with fail
                go_roundw
                case rel => exact ⟨j + 1, by omega, by go_num, HS.out, R2.out⟩
                case measure => simp [intOf]; omega
              · obtain ⟨x, hx⟩ : ∃ x, placeI zs k = x := ⟨_, rfl⟩
                obtain ⟨y, hy⟩ : ∃ y, placeI zs j = y := ⟨_, rfl⟩
                have HP := Lib.hid (And.intro hx hy)
                clear hx hy
                go_wp2_with fail
                refine (place_any A zs cap k x HP.out.1 _ hlen (Z.out.2.1.below R2.out.bel (Nat.le_refl _))).mono ?_
                rintro e v2 ⟨rfl, hb⟩
                have R3 := Lib.hid (R2.out.step hb)
                clear hb
                go_wp2_with fail
                refine (place_any A zs cap j y HP.out.2 _ hlen (Z.out.2.1.below R3.out.bel (Nat.le_refl _))).mono ?_
                rintro e v3 ⟨rfl, hb⟩
                have R4 := Lib.hid (R3.out.step hb)
                clear hb
                by_cases hge : y ≤ x
                · have hbad : badP m f zs k j = true := by unfold badP; rw [R1.out.2.2, HP.out.1, HP.out.2, decide_eq_true hge]; rfl
                  have hres : r = false := by
                    rw [← HX.out.1, okRows_bad (okRow_bad hbad hjl) hlt]; rfl
                  have HY := Lib.hid hres
                  clear hres hbad
                  go_wp2_with fail
                  go_ret
                  exact ⟨by rw [HY.out]; rfl, R4.out.bel⟩
                · have hbad : badP m f zs k j = false := by unfold badP; rw [HP.out.1, HP.out.2, decide_eq_false hge, Bool.and_false]
                  have hs : okRow m f zs k (j + 1) = true := by rw [okRow_succ, R1.out.1, hbad]; rfl
                  have HS := Lib.hid hs
                  clear hs hbad
                  go_wp2_with fail
                  go_roundw
                  case rel => exact ⟨j + 1, by omega, by go_num, HS.out, R4.out⟩
                  case measure => simp [intOf]; omega
            · obtain rfl : j = m := by omega
              have hs : okRows j f zs j (k + 1) = true := by rw [okRows_succ, R0.out.1, hrow]; rfl
              have HS := Lib.hid (And.intro hs hh)
              clear hs hh hrow
              go_wp2_with fail
              go_roundw
              case rel => exact ⟨k + 1, by omega, by go_num, HS.out.1, HS.out.2⟩
              case measure => simp [intOf]; omega
        · obtain rfl : k = m := by omega
          have hres : r = true := by rw [← HX.out.1, hall]; rfl
          have HY := Lib.hid (And.intro hres hh)
          clear hres hall hh
          go_wp2_with fail
          go_ret
          exact ⟨by rw [HY.out.1]; rfl, HY.out.2.bel⟩
end Go.Proofs.YtknjdfgmejobfaaDoor
