/- layer 1's law: the walk of MarksUnion. -/
import Derived.Test.YtjnoiahkbdoejaaDoorMj
import Derived.Test.YtjnoiahkbdoejaaDoorBz
namespace Go.Proofs.YtjnoiahkbdoejaaDoor
open Go.RowKit Go.Shelf

attribute [local go_sem] Bv.and_u Bv.or_u Bv.andNot_u Bv.wrap_sub1 Bv.eq0 Bv.ne0 Bv.wrap_pow Bv.wrap_powmin Bv.wrap_neg Bv.eq_u Bv.ne_u

theorem len_card (s : BitVec 64) (n : Nat) (hn : Bx.card s = n) (w : World) (hT : Tab w) (hw : 0 < w.heap.size) :
    Calls Tryd.prog 18 #[.int .u64 (Bv.U s)] w fun e w' => e = .returned (.int .i64 n) ∧ Below w.heap.size w w' := by subst hn; exact len_any s w hT hw
theorem first_is (s : BitVec 64) (n : Int) (b : Bool) (hn : firstN s = n) (hb : someB s = b) (w : World) (hT : Tab w) (hw : 0 < w.heap.size) :
    Calls Tryd.prog 21 #[.int .u64 (Bv.U s)] w fun e W' => e = .returned (.tuple #[.int .i64 n, .bool b]) ∧ Below w.heap.size w W' := by
  subst hn hb; exact first_any s w hT hw

/-- the first elements of a, b and their union, as the law sees them -/
theorem firsts (a b : BitVec 64) : someB (a ||| b) = (someB a || someB b) ∧
    (someB a = true → someB b = true → firstN (a ||| b) = min (firstN a) (firstN b)) ∧ ((someB a && someB b) = false → firstN (a ||| b) = max (firstN a) (firstN b)) ∧ 0 ≤ firstN a ∧ 0 ≤ firstN b := by
  unfold someB firstN
  by_cases ha : a = 0#64
  · subst ha
    have e : 0#64 ||| b = b := by simp
    rw [e]
    by_cases hb : b = 0#64
    · subst hb; simp
    · simp [hb]
  · by_cases hb : b = 0#64
    · subst hb
      have e : a ||| 0#64 = a := by simp
      rw [e]
      simp [ha]
    · have hab : a ||| b ≠ 0#64 := fun h => ha ((Bx.or_zero a b).1 h).1
      have hl := Bx.low_union a b ha hb
      simp only [ha, hb, hab, if_false, hl]
      refine ⟨?_, fun _ _ => by omega, fun h => by simp [ha, hb] at h, by omega, by omega⟩
      have h1 : (a == 0#64) = false := by simpa using ha
      have h2 : (a ||| b == 0#64) = false := by simpa using hab
      rw [h1, h2]; rfl

set_option maxRecDepth 100000 in
set_option maxHeartbeats 8000000 in
theorem marksUnion_any (a b : BitVec 64) (w : World) (hT : Tab w) (hw : 0 < w.heap.size) :
    Calls Tryd.prog 7 #[.int .u64 (Bv.U a), .int .u64 (Bv.U b)] w fun e w' => e = .returned (.bool true) ∧ Below w.heap.size w w' := by
  have hTl : ∀ W, Below w.heap.size w W → Tab W ∧ 0 < W.heap.size := fun W h => ⟨hT.below h hw, Nat.lt_of_lt_of_le hw h.size⟩
  have HT := Lib.hid hTl
  clear hTl hT
  obtain ⟨nu, hu⟩ : ∃ n, Bx.card (a ||| b) = n := ⟨_, rfl⟩
  obtain ⟨ni, hi⟩ : ∃ n, Bx.card (a &&& b) = n := ⟨_, rfl⟩
  obtain ⟨na, ha⟩ : ∃ n, Bx.card a = n := ⟨_, rfl⟩
  obtain ⟨nb, hb⟩ : ∃ n, Bx.card b = n := ⟨_, rfl⟩
  obtain ⟨nl, hl⟩ : ∃ n, Bx.card (a &&& ~~~ b) = n := ⟨_, rfl⟩
  have e1 : nu + ni = na + nb := by rw [← hu, ← hi, ← ha, ← hb]; exact Bx.card_union a b
  have e2 : nl + ni = na := by rw [← hl, ← hi, ← ha]; exact Bx.card_less a b
  have l1 : nu ≤ 64 := hu ▸ Bx.card_le _
  have l2 : ni ≤ 64 := hi ▸ Bx.card_le _
  have l3 : na ≤ 64 := ha ▸ Bx.card_le _
  have l4 : nb ≤ 64 := hb ▸ Bx.card_le _
  have l5 : nl ≤ 64 := hl ▸ Bx.card_le _
  have q1 : (((nu : Int) + (ni : Int)) != ((na : Int) + (nb : Int))) = false := by simp; omega
  have q2 : (((nl : Int) + (ni : Int)) != (na : Int)) = false := by simp; omega
  obtain ⟨fs, fmin, fmax, f0, f1⟩ := firsts a b
  obtain ⟨x, hx⟩ : ∃ n, firstN a = n := ⟨_, rfl⟩
  obtain ⟨y, hy⟩ : ∃ n, firstN b = n := ⟨_, rfl⟩
  obtain ⟨z, hz⟩ : ∃ n, firstN (a ||| b) = n := ⟨_, rfl⟩
  obtain ⟨p, hp⟩ : ∃ n, someB a = n := ⟨_, rfl⟩
  obtain ⟨q, hq⟩ : ∃ n, someB b = n := ⟨_, rfl⟩
  rw [hp, hq] at fs fmin fmax
  rw [hx, hy, hz] at fmin fmax
  rw [hx] at f0
  rw [hy] at f1
  have HC := Lib.hid (And.intro hu (And.intro hi (And.intro ha (And.intro hb hl))))
  have HF := Lib.hid (And.intro hx (And.intro hy (And.intro hz (And.intro hp (And.intro hq fs)))))
  have B0 := Lib.hid (Below.refl w.heap.size w)
  clear hu hi ha hb hl e1 e2 hx hy hz hp hq fs
  have hpq : ((p = true ∧ q = true) ∧ ((x < y ∧ z = x) ∨ (y < x ∧ z = y) ∨ (x = y ∧ z = x))) ∨ (((p = true ∧ q = false) ∨ (p = false ∧ q = true) ∨ (p = false ∧ q = false)) ∧ ((x < y ∧ z = y) ∨ (y < x ∧ z = x) ∨ (x = y ∧ z = x))) := by
    cases p <;> cases q
    · have := fmax rfl; exact .inr ⟨.inr (.inr ⟨rfl, rfl⟩), by omega⟩
    · have := fmax rfl; exact .inr ⟨.inr (.inl ⟨rfl, rfl⟩), by omega⟩
    · have := fmax rfl; exact .inr ⟨.inl ⟨rfl, rfl⟩, by omega⟩
    · have := fmin rfl rfl; exact .inl ⟨⟨rfl, rfl⟩, by omega⟩
  clear fmin fmax
  rcases hpq with ⟨⟨rfl, rfl⟩, ⟨hxy, rfl⟩ | ⟨hxy, rfl⟩ | ⟨rfl, rfl⟩⟩ | ⟨⟨rfl, rfl⟩ | ⟨rfl, rfl⟩ | ⟨rfl, rfl⟩, ⟨hxy, rfl⟩ | ⟨hxy, rfl⟩ | ⟨rfl, rfl⟩⟩
  all_goals
    go_enter Tryd.func7, Tryd.ntmps7
    go_wp2_with fail
    refine (len_card _ nu HC.out.1 _ (HT.out _ B0.out).1 (HT.out _ B0.out).2).mono ?_
    rintro e w1 ⟨rfl, hb⟩
    have B1 := Lib.hid (B0.out.trans (hb.mono B0.out.size))
    clear hb B0
    go_wp2_with fail
    refine (len_card _ ni HC.out.2.1 _ (HT.out _ B1.out).1 (HT.out _ B1.out).2).mono ?_
    rintro e w2 ⟨rfl, hb⟩
    have B2 := Lib.hid (B1.out.trans (hb.mono B1.out.size))
    clear hb B1
    go_wp2_with fail
    refine (len_card _ na HC.out.2.2.1 _ (HT.out _ B2.out).1 (HT.out _ B2.out).2).mono ?_
    rintro e w3 ⟨rfl, hb⟩
    have B3 := Lib.hid (B2.out.trans (hb.mono B2.out.size))
    clear hb B2
    go_wp2_with fail
    refine (len_card _ nb HC.out.2.2.2.1 _ (HT.out _ B3.out).1 (HT.out _ B3.out).2).mono ?_
    rintro e w4 ⟨rfl, hb⟩
    have B4 := Lib.hid (B3.out.trans (hb.mono B3.out.size))
    clear hb B3
    go_wp2_with fail
    refine (len_card _ nl HC.out.2.2.2.2 _ (HT.out _ B4.out).1 (HT.out _ B4.out).2).mono ?_
    rintro e w5 ⟨rfl, hb⟩
    have B5 := Lib.hid (B4.out.trans (hb.mono B4.out.size))
    clear hb B4
    go_wp2_with fail
    refine (len_card _ ni HC.out.2.1 _ (HT.out _ B5.out).1 (HT.out _ B5.out).2).mono ?_
    rintro e w6 ⟨rfl, hb⟩
    have B6 := Lib.hid (B5.out.trans (hb.mono B5.out.size))
    clear hb B5
    go_wp2_with fail
    refine (len_card _ na HC.out.2.2.1 _ (HT.out _ B6.out).1 (HT.out _ B6.out).2).mono ?_
    rintro e w7 ⟨rfl, hb⟩
    have B7 := Lib.hid (B6.out.trans (hb.mono B6.out.size))
    clear hb B6
    go_wp2_with fail
    refine (first_is _ _ _ HF.out.1 HF.out.2.2.2.1 _ (HT.out _ B7.out).1 (HT.out _ B7.out).2).mono ?_
    rintro e w8 ⟨rfl, hb⟩
    have B8 := Lib.hid (B7.out.trans (hb.mono B7.out.size))
    clear hb B7
    go_wp2_with fail
    refine (first_is _ _ _ HF.out.2.1 HF.out.2.2.2.2.1 _ (HT.out _ B8.out).1 (HT.out _ B8.out).2).mono ?_
    rintro e w9 ⟨rfl, hb⟩
    have B9 := Lib.hid (B8.out.trans (hb.mono B8.out.size))
    clear hb B8
    go_wp2_with fail
    refine (first_is _ _ _ HF.out.2.2.1 HF.out.2.2.2.2.2 _ (HT.out _ B9.out).1 (HT.out _ B9.out).2).mono ?_
    rintro e w10 ⟨rfl, hb⟩
    have B10 := Lib.hid (B9.out.trans (hb.mono B9.out.size))
    clear hb B9
    go_wp2_with fail
    refine (awake_any _ (HT.out _ B10.out).1 (HT.out _ B10.out).2).mono ?_
    rintro e w11 ⟨rfl, hb⟩
    have B11 := Lib.hid (B10.out.trans (hb.mono B10.out.size))
    clear hb B10
    go_wp2_with fail
    go_ret
    exact ⟨rfl, B11.out⟩
end Go.Proofs.YtjnoiahkbdoejaaDoor
