/-
  The parts' arithmetic of poly: values modulo 2^130 - 5. Conditions: the bounds told.
-/
import Derived.Test.YtiemgibnmanhbaaPolG
import Derived.OpenShut
import Derived.Laws.BitsLemmas
namespace Go.Proofs.Ytiemgibnmanhbaa
open Go Go.SX

theorem w64_eq (n : Int) : w64 n = n % 18446744073709551616 := by simp [w64, IntKind.wrap, IntKind.bits, IntKind.signed]
theorem w64_id (n : Int) (h0 : 0 ≤ n) (h1 : n < 18446744073709551616) : w64 n = n := by rw [w64_eq]; omega
theorem and_26 (x : Int) (h0 : 0 ≤ x) (h1 : x < 18446744073709551616) : bits .and .u64 x 67108863 = x % 67108864 :=
  bits_mask .u64 64 (by decide) (fun n h0 h1 => w64_id n h0 (by simpa using h1)) 26 (by decide) x h0 (by simpa using h1)

/-- One run of the carry over five parts. -/
theorem runC_val (a0 a1 a2 a3 a4 : Int) (h0 : 0 ≤ a0 ∧ a0 < 9223372036854775808) (h1 : 0 ≤ a1 ∧ a1 < 9223372036854775808) (h2 : 0 ≤ a2 ∧ a2 < 9223372036854775808) (h3 : 0 ≤ a3 ∧ a3 < 9223372036854775808)
    (h4 : 0 ≤ a4 ∧ a4 < 9223372036854775808) : ∃ r0 r1 r2 r3 r4 o : Int, runC [a0, a1, a2, a3, a4] = ([r0, r1, r2, r3, r4], o) ∧ (0 ≤ r0 ∧ r0 < 67108864) ∧ (0 ≤ r1 ∧ r1 < 67108864) ∧ (0 ≤ r2 ∧ r2 < 67108864) ∧
      (0 ≤ r3 ∧ r3 < 67108864) ∧ (0 ≤ r4 ∧ r4 < 67108864) ∧ (0 ≤ o ∧ o < 274877906944) ∧
      a0 + a1 * 67108864 + a2 * 4503599627370496 + a3 * 302231454903657293676544 + a4 * 20282409603651670423947251286016 =
        r0 + r1 * 67108864 + r2 * 4503599627370496 + r3 * 302231454903657293676544 + r4 * 20282409603651670423947251286016 + o * 1361129467683753853853498429727072845824 := by
  have e : runC [a0, a1, a2, a3, a4] =
      (let x0 := w64 (a0 + 0); let x1 := w64 (a1 + x0 / (2 ^ 26 : Nat)); let x2 := w64 (a2 + x1 / (2 ^ 26 : Nat)); let x3 := w64 (a3 + x2 / (2 ^ 26 : Nat)); let x4 := w64 (a4 + x3 / (2 ^ 26 : Nat))
       ([bits .and .u64 x0 67108863, bits .and .u64 x1 67108863, bits .and .u64 x2 67108863, bits .and .u64 x3 67108863, bits .and .u64 x4 67108863], x4 / (2 ^ 26 : Nat))) := rfl
  rw [e]
  clear e
  have p26 : ((2 ^ 26 : Nat) : Int) = 67108864 := by decide
  simp only [p26]
  rw [w64_id (a0 + 0) (by omega) (by omega), Int.add_zero]
  generalize hx1 : a1 + a0 / 67108864 = x1
  rw [w64_id x1 (by omega) (by omega)]
  generalize hx2 : a2 + x1 / 67108864 = x2
  rw [w64_id x2 (by omega) (by omega)]
  generalize hx3 : a3 + x2 / 67108864 = x3
  rw [w64_id x3 (by omega) (by omega)]
  generalize hx4 : a4 + x3 / 67108864 = x4
  rw [w64_id x4 (by omega) (by omega)]
  rw [and_26 a0 (by omega) (by omega), and_26 x1 (by omega) (by omega), and_26 x2 (by omega) (by omega), and_26 x3 (by omega) (by omega), and_26 x4 (by omega) (by omega)]
  refine ⟨_, _, _, _, _, _, rfl, ?_, ?_, ?_, ?_, ?_, ?_, ?_⟩ <;> omega

def V5 (a0 a1 a2 a3 a4 : Int) : Int := a0 + a1 * 67108864 + a2 * 4503599627370496 + a3 * 302231454903657293676544 + a4 * 20282409603651670423947251286016
/-- 2^130 - 5. -/
def pp : Int := 1361129467683753853853498429727072845819

/-- One round: what runs over comes back, five times. -/
theorem roundC_val (a0 a1 a2 a3 a4 : Int) (h0 : 0 ≤ a0 ∧ a0 < 9223372036854775808) (h1 : 0 ≤ a1 ∧ a1 < 9223372036854775808) (h2 : 0 ≤ a2 ∧ a2 < 9223372036854775808) (h3 : 0 ≤ a3 ∧ a3 < 9223372036854775808)
    (h4 : 0 ≤ a4 ∧ a4 < 9223372036854775808) : ∃ r0 r1 r2 r3 r4 o : Int, roundC [a0, a1, a2, a3, a4] = [r0 + 5 * o, r1, r2, r3, r4] ∧ (0 ≤ r0 ∧ r0 < 67108864) ∧ (0 ≤ r1 ∧ r1 < 67108864) ∧ (0 ≤ r2 ∧ r2 < 67108864) ∧
      (0 ≤ r3 ∧ r3 < 67108864) ∧ (0 ≤ r4 ∧ r4 < 67108864) ∧ (0 ≤ o ∧ o < 274877906944) ∧ V5 a0 a1 a2 a3 a4 = V5 r0 r1 r2 r3 r4 + o * 1361129467683753853853498429727072845824 := by
  obtain ⟨r0, r1, r2, r3, r4, o, he, b0, b1, b2, b3, b4, bo, hv⟩ := runC_val a0 a1 a2 a3 a4 h0 h1 h2 h3 h4
  refine ⟨r0, r1, r2, r3, r4, o, ?_, b0, b1, b2, b3, b4, bo, hv⟩
  unfold roundC
  rw [he]
  show [w64 (r0 + w64 (5 * o)), r1, r2, r3, r4] = _
  rw [w64_id (5 * o) (by omega) (by omega), w64_id _ (by omega) (by omega)]

/-- The carry: small parts, the value but for a multiple of 2^130 - 5; small values come to parts of 26 bits. -/
theorem carry_val (a0 a1 a2 a3 a4 : Int) (h0 : 0 ≤ a0 ∧ a0 < 9223372036854775808) (h1 : 0 ≤ a1 ∧ a1 < 9223372036854775808) (h2 : 0 ≤ a2 ∧ a2 < 9223372036854775808) (h3 : 0 ≤ a3 ∧ a3 < 9223372036854775808)
    (h4 : 0 ≤ a4 ∧ a4 < 9223372036854775808) : ∃ r0 r1 r2 r3 r4 : Int, roundC (roundC [a0, a1, a2, a3, a4]) = [r0, r1, r2, r3, r4] ∧ (0 ≤ r0 ∧ r0 < 67108869) ∧ (0 ≤ r1 ∧ r1 < 67108864) ∧ (0 ≤ r2 ∧ r2 < 67108864) ∧
      (0 ≤ r3 ∧ r3 < 67108864) ∧ (0 ≤ r4 ∧ r4 < 67108864) ∧ (∃ q, V5 a0 a1 a2 a3 a4 = V5 r0 r1 r2 r3 r4 + q * pp) ∧
      (V5 a0 a1 a2 a3 a4 < 1361129467683753853853498429727072845824 + 1361129467683753853853498429727072845 → r0 < 67108864) := by
  obtain ⟨r0, r1, r2, r3, r4, o, he, b0, b1, b2, b3, b4, bo, hv⟩ := roundC_val a0 a1 a2 a3 a4 h0 h1 h2 h3 h4
  obtain ⟨s0, s1, s2, s3, s4, u, he', c0, c1, c2, c3, c4, cu, hv'⟩ := roundC_val (r0 + 5 * o) r1 r2 r3 r4 (by omega) (by omega) (by omega) (by omega) (by omega)
  have hV : V5 (r0 + 5 * o) r1 r2 r3 r4 = V5 r0 r1 r2 r3 r4 + 5 * o := by unfold V5; omega
  have hS : V5 (s0 + 5 * u) s1 s2 s3 s4 = V5 s0 s1 s2 s3 s4 + 5 * u := by unfold V5; omega
  have hu : u ≤ 1 := by
    unfold V5 at hv'
    omega
  refine ⟨s0 + 5 * u, s1, s2, s3, s4, by rw [he, he'], by omega, c1, c2, c3, c4, ⟨o + u, ?_⟩, ?_⟩
  · rw [hv, hS]
    unfold pp
    omega
  · intro hlt
    unfold V5 at *
    omega

theorem prod_val (a b : Nat → Int) (ha : ∀ i, 0 ≤ a i ∧ a i < 268435456) (hb : ∀ i, 0 ≤ b i ∧ b i < 134217728) :
    prodL a b = [a 0 * b 0 + a 1 * b 4 * 5 + a 2 * b 3 * 5 + a 3 * b 2 * 5 + a 4 * b 1 * 5,
      a 0 * b 1 + a 1 * b 0 + a 2 * b 4 * 5 + a 3 * b 3 * 5 + a 4 * b 2 * 5,
      a 0 * b 2 + a 1 * b 1 + a 2 * b 0 + a 3 * b 4 * 5 + a 4 * b 3 * 5,
      a 0 * b 3 + a 1 * b 2 + a 2 * b 1 + a 3 * b 0 + a 4 * b 4 * 5,
      a 0 * b 4 + a 1 * b 3 + a 2 * b 2 + a 3 * b 1 + a 4 * b 0] ∧
    (∀ i j, 0 ≤ a i * b j ∧ a i * b j < 36028797018963968) := by
  have hm : ∀ i j, 0 ≤ a i * b j ∧ a i * b j < 36028797018963968 := fun i j => by
    obtain ⟨p1, p2⟩ := ha i
    obtain ⟨q1, q2⟩ := hb j
    refine ⟨Int.mul_nonneg p1 q1, ?_⟩
    have h1 : a i * b j ≤ 268435456 * b j := Int.mul_le_mul_of_nonneg_right (by omega) q1
    omega
  refine ⟨?_, hm⟩
  have e : prodL a b = [w64 (w64 (w64 (w64 (w64 (0 + w64 (a 0 * b 0)) + w64 (w64 (a 1 * b 4) * 5)) + w64 (w64 (a 2 * b 3) * 5)) + w64 (w64 (a 3 * b 2) * 5)) + w64 (w64 (a 4 * b 1) * 5)),
      w64 (w64 (w64 (w64 (w64 (0 + w64 (a 0 * b 1)) + w64 (a 1 * b 0)) + w64 (w64 (a 2 * b 4) * 5)) + w64 (w64 (a 3 * b 3) * 5)) + w64 (w64 (a 4 * b 2) * 5)),
      w64 (w64 (w64 (w64 (w64 (0 + w64 (a 0 * b 2)) + w64 (a 1 * b 1)) + w64 (a 2 * b 0)) + w64 (w64 (a 3 * b 4) * 5)) + w64 (w64 (a 4 * b 3) * 5)),
      w64 (w64 (w64 (w64 (w64 (0 + w64 (a 0 * b 3)) + w64 (a 1 * b 2)) + w64 (a 2 * b 1)) + w64 (a 3 * b 0)) + w64 (w64 (a 4 * b 4) * 5)),
      w64 (w64 (w64 (w64 (w64 (0 + w64 (a 0 * b 4)) + w64 (a 1 * b 3)) + w64 (a 2 * b 2)) + w64 (a 3 * b 1)) + w64 (a 4 * b 0))] := by kernel_rfl
  rw [e]
  clear e
  have m00 := hm 0 0
  have m01 := hm 0 1
  have m02 := hm 0 2
  have m03 := hm 0 3
  have m04 := hm 0 4
  have m10 := hm 1 0
  have m11 := hm 1 1
  have m12 := hm 1 2
  have m13 := hm 1 3
  have m14 := hm 1 4
  have m20 := hm 2 0
  have m21 := hm 2 1
  have m22 := hm 2 2
  have m23 := hm 2 3
  have m24 := hm 2 4
  have m30 := hm 3 0
  have m31 := hm 3 1
  have m32 := hm 3 2
  have m33 := hm 3 3
  have m34 := hm 3 4
  have m40 := hm 4 0
  have m41 := hm 4 1
  have m42 := hm 4 2
  have m43 := hm 4 3
  have m44 := hm 4 4
  simp only [w64_eq]
  congr 1
  · omega
  congr 1
  · omega
  congr 1
  · omega
  congr 1
  · omega
  congr 1
  omega

theorem mul_val (a0 a1 a2 a3 a4 b0 b1 b2 b3 b4 : Int) : ∃ q, V5 a0 a1 a2 a3 a4 * V5 b0 b1 b2 b3 b4 =
    V5 (a0 * b0 + a1 * b4 * 5 + a2 * b3 * 5 + a3 * b2 * 5 + a4 * b1 * 5) (a0 * b1 + a1 * b0 + a2 * b4 * 5 + a3 * b3 * 5 + a4 * b2 * 5) (a0 * b2 + a1 * b1 + a2 * b0 + a3 * b4 * 5 + a4 * b3 * 5)
      (a0 * b3 + a1 * b2 + a2 * b1 + a3 * b0 + a4 * b4 * 5) (a0 * b4 + a1 * b3 + a2 * b2 + a3 * b1 + a4 * b0) + q * pp := by
  refine ⟨(a1 * b4 + a2 * b3 + a3 * b2 + a4 * b1) + (a2 * b4 + a3 * b3 + a4 * b2) * 67108864 + (a3 * b4 + a4 * b3) * 4503599627370496 + (a4 * b4) * 302231454903657293676544, ?_⟩
  unfold V5 pp
  grind

theorem bits_or_comm (k : IntKind) (x y : Int) : bits .or k x y = bits .or k y x := by
  unfold bits
  simp only
  rw [BitVec.or_comm]
theorem join64 (x y : Int) (i : Nat) (hx0 : 0 ≤ x) (hx : x % 2 ^ i = 0) (hx1 : x < 18446744073709551616) (hy0 : 0 ≤ y) (hy : y < 2 ^ i) (hy1 : y < 18446744073709551616) : bits .or .u64 y x = y + x := by
  rw [bits_or_comm, Int.add_comm]
  exact bits_join .u64 64 (by decide) (fun n h0 h1 => w64_id n h0 (by simpa using h1)) i x y hx0 hx (by simpa using hx1) hy0 hy (by simpa using hy1)

theorem pair_val (c0 c1 c2 c3 c4 : Int) (h0 : 0 ≤ c0 ∧ c0 < 67108864) (h1 : 0 ≤ c1 ∧ c1 < 67108864) (h2 : 0 ≤ c2 ∧ c2 < 67108864) (h3 : 0 ≤ c3 ∧ c3 < 67108864) (_ : 0 ≤ c4 ∧ c4 < 67108864) :
    (0 ≤ (pairL [c0, c1, c2, c3, c4]).1 ∧ (pairL [c0, c1, c2, c3, c4]).1 < 18446744073709551616) ∧ (0 ≤ (pairL [c0, c1, c2, c3, c4]).2 ∧ (pairL [c0, c1, c2, c3, c4]).2 < 18446744073709551616) ∧
    (pairL [c0, c1, c2, c3, c4]).1 + (pairL [c0, c1, c2, c3, c4]).2 * 18446744073709551616 = V5 c0 c1 c2 c3 c4 % 340282366920938463463374607431768211456 := by
  have e1 : (pairL [c0, c1, c2, c3, c4]).1 = bits .or .u64 (bits .or .u64 c0 (w64 (c1 * (67108864 : Nat)))) (w64 (c2 * (4503599627370496 : Nat))) := by kernel_rfl
  have e2 : (pairL [c0, c1, c2, c3, c4]).2 = bits .or .u64 (bits .or .u64 (c2 / (4096 : Nat)) (w64 (c3 * (16384 : Nat)))) (w64 (c4 * (1099511627776 : Nat))) := by kernel_rfl
  have f1 : w64 (c1 * (67108864 : Nat)) = c1 * 67108864 := by rw [w64_eq]; omega
  have f2 : w64 (c2 * (4503599627370496 : Nat)) = c2 % 4096 * 4503599627370496 := by rw [w64_eq]; omega
  have f3 : w64 (c3 * (16384 : Nat)) = c3 * 16384 := by rw [w64_eq]; omega
  have f4 : w64 (c4 * (1099511627776 : Nat)) = c4 % 16777216 * 1099511627776 := by rw [w64_eq]; omega
  rw [e1, e2, f1, f2, f3, f4, join64 (c1 * 67108864) c0 26 (by omega) (by omega) (by omega) (by omega) (by omega) (by omega),
    join64 (c2 % 4096 * 4503599627370496) (c0 + c1 * 67108864) 52 (by omega) (by omega) (by omega) (by omega) (by omega) (by omega),
    join64 (c3 * 16384) (c2 / (4096 : Nat)) 14 (by omega) (by omega) (by omega) (by omega) (by omega) (by omega),
    join64 (c4 % 16777216 * 1099511627776) (c2 / (4096 : Nat) + c3 * 16384) 40 (by omega) (by omega) (by omega) (by omega) (by omega) (by omega)]
  unfold V5
  refine ⟨by omega, by omega, by omega⟩

theorem low_val (s0 s1 s2 s3 s4 : Int) (h0 : 0 ≤ s0 ∧ s0 < 67108869) (h1 : 0 ≤ s1 ∧ s1 < 67108864) (h2 : 0 ≤ s2 ∧ s2 < 67108864) (h3 : 0 ≤ s3 ∧ s3 < 67108864) (h4 : 0 ≤ s4 ∧ s4 < 67108864) :
    ∃ l h : Int, (if (moreL (roundC (roundC [s0, s1, s2, s3, s4]))).2 > 0 then pairL (moreL (roundC (roundC [s0, s1, s2, s3, s4]))).1 else pairL (roundC (roundC [s0, s1, s2, s3, s4]))) = (l, h) ∧
      (0 ≤ l ∧ l < 18446744073709551616) ∧ (0 ≤ h ∧ h < 18446744073709551616) ∧ l + h * 18446744073709551616 = V5 s0 s1 s2 s3 s4 % pp % 340282366920938463463374607431768211456 := by
  obtain ⟨c0, c1, c2, c3, c4, he, b0, b1, b2, b3, b4, ⟨q, hq⟩, hb0⟩ := carry_val s0 s1 s2 s3 s4 (by omega) (by omega) (by omega) (by omega) (by omega)
  have hc0 : c0 < 67108864 := hb0 (by unfold V5; omega)
  rw [he]
  have em : moreL [c0, c1, c2, c3, c4] = runC [w64 (c0 + 5), c1, c2, c3, c4] := rfl
  rw [em, w64_id (c0 + 5) (by omega) (by omega)]
  obtain ⟨r0, r1, r2, r3, r4, o, hr, d0, d1, d2, d3, d4, bo, hv⟩ := runC_val (c0 + 5) c1 c2 c3 c4 (by omega) (by omega) (by omega) (by omega) (by omega)
  rw [hr]
  by_cases ho : o > 0
  · rw [if_pos ho]
    obtain ⟨p1, p2, p3⟩ := pair_val r0 r1 r2 r3 r4 d0 d1 d2 d3 d4
    refine ⟨(pairL [r0, r1, r2, r3, r4]).1, (pairL [r0, r1, r2, r3, r4]).2, rfl, p1, p2, ?_⟩
    rw [p3]
    congr 1
    have ho1 : o = 1 := by omega
    have hW : V5 r0 r1 r2 r3 r4 = V5 c0 c1 c2 c3 c4 - pp := by unfold V5 pp; omega
    have hlt : 0 ≤ V5 r0 r1 r2 r3 r4 ∧ V5 r0 r1 r2 r3 r4 < pp := by unfold V5 pp at *; omega
    have : V5 s0 s1 s2 s3 s4 = V5 r0 r1 r2 r3 r4 + pp * (q + 1) := by rw [hq, hW]; unfold pp; omega
    rw [this, Int.add_mul_emod_self_left, Int.emod_eq_of_lt hlt.1 hlt.2]
  · rw [if_neg ho]
    obtain ⟨p1, p2, p3⟩ := pair_val c0 c1 c2 c3 c4 ⟨b0.1, hc0⟩ b1 b2 b3 b4
    refine ⟨(pairL [c0, c1, c2, c3, c4]).1, (pairL [c0, c1, c2, c3, c4]).2, rfl, p1, p2, ?_⟩
    rw [p3]
    congr 1
    have hlt : 0 ≤ V5 c0 c1 c2 c3 c4 ∧ V5 c0 c1 c2 c3 c4 < pp := by unfold V5 pp; omega
    have : V5 s0 s1 s2 s3 s4 = V5 c0 c1 c2 c3 c4 + pp * q := by rw [hq]; unfold pp; omega
    rw [this, Int.add_mul_emod_self_left, Int.emod_eq_of_lt hlt.1 hlt.2]
end Go.Proofs.Ytiemgibnmanhbaa
