import Derived.Laws.Bits64b
import Derived.Laws.Bits64
import Derived.Laws.Bits128
namespace Go.Pop

/-- how many of the n lowest bits are set -/
def cnt (n x : Nat) : Nat := ((List.range n).filter (fun i => x.testBit i)).length

theorem cnt_split (n q r : Nat) (hr : r < 256) : cnt (8 + n) (256 * q + r) = cnt 8 r + cnt n q := by
  unfold cnt
  rw [List.range_add, List.filter_append, List.length_append, List.filter_map, List.length_map]
  have e256 : 256 * q + r = 2 ^ 8 * q + r := by omega
  have h1 : (List.range 8).filter (fun i => (256 * q + r).testBit i) = (List.range 8).filter (fun i => r.testBit i) := by
    apply List.filter_congr
    intro i hi
    rw [List.mem_range] at hi
    rw [e256, Nat.testBit_two_pow_mul_add q (by omega : r < 2 ^ 8), if_pos hi]
  have h2 : (List.range n).filter ((fun i => (256 * q + r).testBit i) ∘ (fun x => 8 + x)) = (List.range n).filter (fun i => q.testBit i) := by
    apply List.filter_congr
    intro i _
    show (256 * q + r).testBit (8 + i) = q.testBit i
    rw [e256, Nat.testBit_two_pow_mul_add q (by omega : r < 2 ^ 8), if_neg (by omega)]
    congr 1; omega
  rw [h1, h2]

/-- (256 a + b) & (256 c + d), digit by digit -/
theorem and_split (a b c d : Nat) (hb : b < 256) (hd : d < 256) : (256 * a + b) &&& (256 * c + d) = 256 * (a &&& c) + (b &&& d) := by
  have e1 : 256 * a + b = 2 ^ 8 * a + b := by omega
  have e2 : 256 * c + d = 2 ^ 8 * c + d := by omega
  have e3 : 256 * (a &&& c) + (b &&& d) = 2 ^ 8 * (a &&& c) + (b &&& d) := by omega
  rw [e1, e2, e3]
  have hbd : b &&& d < 2 ^ 8 := Nat.and_lt_two_pow _ (by omega)
  apply Nat.eq_of_testBit_eq
  intro i
  rw [Nat.testBit_and, Nat.testBit_two_pow_mul_add _ (by omega : b < 2 ^ 8), Nat.testBit_two_pow_mul_add _ (by omega : d < 2 ^ 8), Nat.testBit_two_pow_mul_add _ hbd]
  split
  · rw [Nat.testBit_and]
  · rw [Nat.testBit_and]

/-- n bytes, each m -/
def mask (m : Nat) : Nat → Nat
  | 0 => 0
  | n + 1 => 256 * mask m n + m

def f1 (M x : Nat) : Nat := (x / 2 &&& M) + (x &&& M)
def f2 (M x : Nat) : Nat := (x / 4 &&& M) + (x &&& M)
def f3 (M x : Nat) : Nat := (x / 16 + x) &&& M

theorem f1_byte : ∀ r < 256, ∀ t < 2, ((128 * t + r / 2) &&& 85) + (r &&& 85) = f1 85 r ∧ f1 85 r < 256 := by decide +kernel
theorem f2_byte : ∀ r < 256, ∀ t < 4, ((64 * t + r / 4) &&& 51) + (r &&& 51) = f2 51 r ∧ f2 51 r < 256 := by decide +kernel
theorem all_byte : ∀ r < 256, f3 15 (f2 51 (f1 85 r)) = cnt 8 r ∧ cnt 8 r ≤ 8 ∧ f2 51 (f1 85 r) % 16 ≤ 4 ∧ f2 51 (f1 85 r) / 16 ≤ 4 := by decide +kernel
theorem f3_byte : ∀ y < 256, y % 16 ≤ 4 → y / 16 ≤ 4 → ∀ t < 5, 16 * t + y / 16 + y < 256 ∧ ((16 * t + y / 16 + y) &&& 15) = f3 15 y := by decide +kernel

theorem f1_step (n q r : Nat) (hr : r < 256) : f1 (mask 85 (n + 1)) (256 * q + r) = 256 * f1 (mask 85 n) q + f1 85 r := by
  have e : (256 * q + r) / 2 = 256 * (q / 2) + (128 * (q % 2) + r / 2) := by omega
  have h := f1_byte r hr (q % 2) (by omega)
  show ((256 * q + r) / 2 &&& (256 * mask 85 n + 85)) + ((256 * q + r) &&& (256 * mask 85 n + 85)) = 256 * ((q / 2 &&& mask 85 n) + (q &&& mask 85 n)) + f1 85 r
  rw [e, and_split _ _ _ _ (by omega) (by omega), and_split _ _ _ _ hr (by omega)]
  omega
theorem f2_step (n q r : Nat) (hr : r < 256) : f2 (mask 51 (n + 1)) (256 * q + r) = 256 * f2 (mask 51 n) q + f2 51 r := by
  have e : (256 * q + r) / 4 = 256 * (q / 4) + (64 * (q % 4) + r / 4) := by omega
  have h := f2_byte r hr (q % 4) (by omega)
  show ((256 * q + r) / 4 &&& (256 * mask 51 n + 51)) + ((256 * q + r) &&& (256 * mask 51 n + 51)) = 256 * ((q / 4 &&& mask 51 n) + (q &&& mask 51 n)) + f2 51 r
  rw [e, and_split _ _ _ _ (by omega) (by omega), and_split _ _ _ _ hr (by omega)]
  omega
theorem f3_step (n q y : Nat) (hy : y < 256) (h1 : y % 16 ≤ 4) (h2 : y / 16 ≤ 4) (hq : q % 16 ≤ 4) : f3 (mask 15 (n + 1)) (256 * q + y) = 256 * f3 (mask 15 n) q + f3 15 y := by
  have e : (256 * q + y) / 16 + (256 * q + y) = 256 * (q / 16 + q) + (16 * (q % 16) + y / 16 + y) := by omega
  have h := f3_byte y hy h1 h2 (q % 16) (by omega)
  show ((256 * q + y) / 16 + (256 * q + y)) &&& (256 * mask 15 n + 15) = 256 * ((q / 16 + q) &&& mask 15 n) + f3 15 y
  rw [e, and_split _ _ _ _ h.1 (by omega), h.2]

/-- the three first steps on n bytes: each byte becomes its count -/
def swar (n x : Nat) : Nat := f3 (mask 15 n) (f2 (mask 51 n) (f1 (mask 85 n) x))

theorem mid_low (n q : Nat) : ∀ r, r < 256 → (f2 (mask 51 (n + 1)) (f1 (mask 85 (n + 1)) (256 * q + r))) % 16 ≤ 4 := by
  intro r hr
  have h1 := f1_byte r hr 0 (by omega)
  have h2 := f2_byte (f1 85 r) h1.2 0 (by omega)
  have h3 := all_byte r hr
  rw [f1_step n q r hr, f2_step n _ _ h1.2]
  omega

theorem mid_low' (n x : Nat) : (f2 (mask 51 n) (f1 (mask 85 n) x)) % 16 ≤ 4 := by
  cases n with
  | zero => simp [mask, f2, f1]
  | succ n =>
    have h := mid_low n (x / 256) (x % 256) (by omega)
    have e : 256 * (x / 256) + x % 256 = x := by omega
    rw [e] at h; exact h

theorem swar_step (n q r : Nat) (hr : r < 256) : swar (n + 1) (256 * q + r) = 256 * swar n q + cnt 8 r := by
  have h1 := f1_byte r hr 0 (by omega)
  have h2 := f2_byte (f1 85 r) h1.2 0 (by omega)
  have h3 := all_byte r hr
  unfold swar
  rw [f1_step n q r hr, f2_step n _ _ h1.2, f3_step n _ _ h2.2 h3.2.2.1 h3.2.2.2 (mid_low' n q), h3.1]

theorem cnt8_le (r : Nat) (hr : r < 256) : cnt 8 r ≤ 8 := (all_byte r hr).2.1

/-- eight bytes -/
theorem swar8 (x : Nat) : ∃ c0 c1 c2 c3 c4 c5 c6 c7 : Nat, c0 ≤ 8 ∧ c1 ≤ 8 ∧ c2 ≤ 8 ∧ c3 ≤ 8 ∧ c4 ≤ 8 ∧ c5 ≤ 8 ∧ c6 ≤ 8 ∧ c7 ≤ 8 ∧
    cnt 64 x = c0 + c1 + c2 + c3 + c4 + c5 + c6 + c7 ∧
    swar 8 x = c0 + 256 * (c1 + 256 * (c2 + 256 * (c3 + 256 * (c4 + 256 * (c5 + 256 * (c6 + 256 * c7)))))) := by
  have key : ∀ n q r, r < 256 → cnt (8 + n) (256 * q + r) = cnt 8 r + cnt n q ∧ swar (n + 1) (256 * q + r) = 256 * swar n q + cnt 8 r ∧ cnt 8 r ≤ 8 :=
    fun n q r hr => ⟨cnt_split n q r hr, swar_step n q r hr, cnt8_le r hr⟩
  have step : ∀ n y, cnt (8 + n) y = cnt 8 (y % 256) + cnt n (y / 256) ∧ swar (n + 1) y = 256 * swar n (y / 256) + cnt 8 (y % 256) ∧ cnt 8 (y % 256) ≤ 8 := by
    intro n y
    have h := key n (y / 256) (y % 256) (by omega)
    have e : 256 * (y / 256) + y % 256 = y := by omega
    rw [e] at h
    exact h
  have a0 := step 56 x
  have b0 := step 7 x
  have a1 := step 48 (x / 256)
  have b1 := step 6 (x / 256)
  have a2 := step 40 (x / 256 / 256)
  have b2 := step 5 (x / 256 / 256)
  have a3 := step 32 (x / 256 / 256 / 256)
  have b3 := step 4 (x / 256 / 256 / 256)
  have a4 := step 24 (x / 256 / 256 / 256 / 256)
  have b4 := step 3 (x / 256 / 256 / 256 / 256)
  have a5 := step 16 (x / 256 / 256 / 256 / 256 / 256)
  have b5 := step 2 (x / 256 / 256 / 256 / 256 / 256)
  have a6 := step 8 (x / 256 / 256 / 256 / 256 / 256 / 256)
  have b6 := step 1 (x / 256 / 256 / 256 / 256 / 256 / 256)
  have a7 := step 0 (x / 256 / 256 / 256 / 256 / 256 / 256 / 256)
  have z0 : ∀ y, swar 0 y = 0 := by intro y; simp [swar, f3, mask]
  have z1 : ∀ y, cnt 0 y = 0 := by intro y; simp [cnt]
  rw [z0, z1] at a7
  refine ⟨_, _, _, _, _, _, _, _, a0.2.2, a1.2.2, a2.2.2, a3.2.2, a4.2.2, a5.2.2, a6.2.2, a7.2.2, ?_, ?_⟩
  · rw [show (64 : Nat) = 8 + 56 from rfl, a0.1, show (56 : Nat) = 8 + 48 from rfl, a1.1, show (48 : Nat) = 8 + 40 from rfl, a2.1, show (40 : Nat) = 8 + 32 from rfl, a3.1,
      show (32 : Nat) = 8 + 24 from rfl, a4.1, show (24 : Nat) = 8 + 16 from rfl, a5.1, show (16 : Nat) = 8 + 8 from rfl, a6.1, show (cnt 8 (x / 256 / 256 / 256 / 256 / 256 / 256 / 256)) = cnt (8 + 0) (x / 256 / 256 / 256 / 256 / 256 / 256 / 256) from rfl, a7.1]
    omega
  · rw [b0.2.1, b1.2.1, b2.2.1, b3.2.1, b4.2.1, b5.2.1, b6.2.1, a7.2.1]
    omega

/-- OnesCount64's last steps -/
theorem fold8 (y c0 c1 c2 c3 c4 c5 c6 c7 : Nat) (h0 : c0 ≤ 8) (h1 : c1 ≤ 8) (h2 : c2 ≤ 8) (h3 : c3 ≤ 8) (h4 : c4 ≤ 8) (h5 : c5 ≤ 8) (h6 : c6 ≤ 8) (h7 : c7 ≤ 8)
    (hy : y = c0 + 256 * (c1 + 256 * (c2 + 256 * (c3 + 256 * (c4 + 256 * (c5 + 256 * (c6 + 256 * c7))))))) :
    ∃ y1 y2 y3, y1 = y + y / 256 ∧ y2 = y1 + y1 / 65536 ∧ y3 = y2 + y2 / 4294967296 ∧ y1 < 18446744073709551616 ∧ y2 < 18446744073709551616 ∧ y3 < 18446744073709551616 ∧ y3 % 128 = c0 + c1 + c2 + c3 + c4 + c5 + c6 + c7 := by
  have d1 : y / 256 = c1 + 256 * (c2 + 256 * (c3 + 256 * (c4 + 256 * (c5 + 256 * (c6 + 256 * c7))))) := by omega
  obtain ⟨y1, e1⟩ : ∃ y1, y1 = y + y / 256 := ⟨_, rfl⟩
  have f1 : y1 = (c0 + c1) + 256 * ((c1 + c2) + 256 * ((c2 + c3) + 256 * ((c3 + c4) + 256 * ((c4 + c5) + 256 * ((c5 + c6) + 256 * ((c6 + c7) + 256 * c7)))))) := by omega
  have d2 : y1 / 65536 = (c2 + c3) + 256 * ((c3 + c4) + 256 * ((c4 + c5) + 256 * ((c5 + c6) + 256 * ((c6 + c7) + 256 * c7)))) := by clear d1 hy e1; omega
  obtain ⟨y2, e2⟩ : ∃ y2, y2 = y1 + y1 / 65536 := ⟨_, rfl⟩
  have f2 : y2 = (c0 + c1 + c2 + c3) + 256 * ((c1 + c2 + c3 + c4) + 256 * ((c2 + c3 + c4 + c5) + 256 * ((c3 + c4 + c5 + c6) + 256 * ((c4 + c5 + c6 + c7) + 256 * ((c5 + c6 + c7) + 256 * ((c6 + c7) + 256 * c7)))))) := by clear hy e1 d1; omega
  have d3 : y2 / 4294967296 = (c4 + c5 + c6 + c7) + 256 * ((c5 + c6 + c7) + 256 * ((c6 + c7) + 256 * c7)) := by clear hy e1 d1 f1 d2 e2; omega
  obtain ⟨y3, e3⟩ : ∃ y3, y3 = y2 + y2 / 4294967296 := ⟨_, rfl⟩
  have f3 : y3 = (c0 + c1 + c2 + c3 + c4 + c5 + c6 + c7) + 256 * ((c1 + c2 + c3 + c4 + c5 + c6 + c7) + 256 * ((c2 + c3 + c4 + c5 + c6 + c7) + 256 * ((c3 + c4 + c5 + c6 + c7) + 256 * ((c4 + c5 + c6 + c7) + 256 * ((c5 + c6 + c7) + 256 * ((c6 + c7) + 256 * c7)))))) := by clear hy e1 d1 f1 d2 e2; omega
  refine ⟨y1, y2, y3, e1, e2, e3, ?_, ?_, ?_, ?_⟩
  · clear hy e1 d1 d2 e2 f2 d3 e3 f3; omega
  · clear hy e1 d1 f1 d2 e2 d3 e3 f3; omega
  · clear hy e1 d1 f1 d2 e2 f2 d3 e3; omega
  · clear hy e1 d1 f1 d2 e2 f2 d3 e3; omega

theorem mask_vals : mask 85 8 = 6148914691236517205 ∧ mask 51 8 = 3689348814741910323 ∧ mask 15 8 = 1085102592571150095 := by decide

theorem f1_lt (M x : Nat) (hM : M = 6148914691236517205) : f1 M x < 18446744073709551616 := by
  unfold f1
  have h1 : x / 2 &&& M ≤ M := Nat.and_le_right
  have h2 : x &&& M ≤ M := Nat.and_le_right
  omega
theorem f2_lt (M x : Nat) (hM : M = 3689348814741910323) : f2 M x < 18446744073709551616 ∧ f2 M x ≤ 7378697629483820646 := by
  unfold f2
  have h1 : x / 4 &&& M ≤ M := Nat.and_le_right
  have h2 : x &&& M ≤ M := Nat.and_le_right
  omega

/-- the steps of math/bits.OnesCount64, one equation each, in the walk's own form -/
theorem ones (x : Nat) (hx : x < 18446744073709551616) : ∃ A1 B1 X1 A2 B2 X2 C3 X3 X4 X5 X6 : Int,
    bits .and .u64 ((x : Int) / 2) 6148914691236517205 = A1 ∧ bits .and .u64 (x : Int) 6148914691236517205 = B1 ∧ IntKind.u64.wrap (A1 + B1) = X1 ∧
    bits .and .u64 (X1 / 4) 3689348814741910323 = A2 ∧ bits .and .u64 X1 3689348814741910323 = B2 ∧ IntKind.u64.wrap (A2 + B2) = X2 ∧
    IntKind.u64.wrap (X2 / 16 + X2) = C3 ∧ bits .and .u64 C3 1085102592571150095 = X3 ∧
    IntKind.u64.wrap (X3 + X3 / 256) = X4 ∧ IntKind.u64.wrap (X4 + X4 / 65536) = X5 ∧ IntKind.u64.wrap (X5 + X5 / 4294967296) = X6 ∧
    0 ≤ X6 ∧ X6 ≤ 9223372036854775807 ∧ X6 % 128 = (cnt 64 x : Nat) := by
  obtain ⟨m1, m2, m3⟩ := mask_vals
  obtain ⟨c0, c1, c2, c3, c4, c5, c6, c7, b0, b1, b2, b3, b4, b5, b6, b7, hc, hs⟩ := swar8 x
  obtain ⟨y1, y2, y3, e1, e2, e3, l1, l2, l3, hm⟩ := fold8 _ c0 c1 c2 c3 c4 c5 c6 c7 b0 b1 b2 b3 b4 b5 b6 b7 hs
  have g1 := f1_lt (mask 85 8) x m1
  have g2 := f2_lt (mask 51 8) (f1 (mask 85 8) x) m2
  have wr : ∀ n : Nat, n < 18446744073709551616 → IntKind.u64.wrap (n : Int) = n := fun n h => by rw [IntKind.wrap_u64]; omega
  have y3le : y3 ≤ 9223372036854775807 := by
    clear hm hc g1 g2
    have s3 : swar 8 x ≤ 1085102592571150095 := by unfold swar f3; rw [m3]; exact Nat.and_le_right
    omega
  refine ⟨((x / 2 &&& mask 85 8 : Nat) : Int), ((x &&& mask 85 8 : Nat) : Int), ((f1 (mask 85 8) x : Nat) : Int), ((f1 (mask 85 8) x / 4 &&& mask 51 8 : Nat) : Int), ((f1 (mask 85 8) x &&& mask 51 8 : Nat) : Int),
    ((f2 (mask 51 8) (f1 (mask 85 8) x) : Nat) : Int), ((f2 (mask 51 8) (f1 (mask 85 8) x) / 16 + f2 (mask 51 8) (f1 (mask 85 8) x) : Nat) : Int), ((swar 8 x : Nat) : Int), (y1 : Int), (y2 : Int), (y3 : Int), ?_, ?_, ?_, ?_, ?_, ?_, ?_, ?_, ?_, ?_, ?_, ?_, ?_, ?_⟩
  · rw [m1]; exact bits_and_u64_nat (x / 2) 6148914691236517205 (by omega) (by omega)
  · rw [m1]; exact bits_and_u64_nat x 6148914691236517205 hx (by omega)
  · rw [← Int.natCast_add]; exact wr _ g1
  · rw [m2]; exact bits_and_u64_nat (f1 (mask 85 8) x / 4) 3689348814741910323 (by omega) (by omega)
  · rw [m2]; exact bits_and_u64_nat (f1 (mask 85 8) x) 3689348814741910323 g1 (by omega)
  · rw [← Int.natCast_add]; exact wr _ g2.1
  · generalize f2 (mask 51 8) (f1 (mask 85 8) x) = t at g2 ⊢
    have := wr (t / 16 + t) (by omega)
    rw [← this]; congr 1
  · have h : swar 8 x = (f2 (mask 51 8) (f1 (mask 85 8) x) / 16 + f2 (mask 51 8) (f1 (mask 85 8) x)) &&& 1085102592571150095 := by unfold swar f3; rw [m3]
    rw [h]; exact bits_and_u64_nat _ 1085102592571150095 (by omega) (by omega)
  · rw [e1]; rw [e1] at l1; exact wr (swar 8 x + swar 8 x / 256) l1
  · rw [e2]; rw [e2] at l2; exact wr (y1 + y1 / 65536) l2
  · rw [e3]; rw [e3] at l3; exact wr (y2 + y2 / 4294967296) l3
  · omega
  · omega
  · rw [hc]; omega

end Go.Pop
