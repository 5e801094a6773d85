/-
  Bytes and their carries: what the tags' last additions come to. Conditions: the bounds told.
-/
import Derived.Test.YtiemgibnmanhbaaPolP
namespace Go.Proofs.Ytiemgibnmanhbaa
open Go Go.SX

/-- The carry into place i. -/
def cU (x : Nat → Int) (u : Int) : Nat → Int
  | 0 => u
  | i + 1 => (x i + cU x u i) / 256
def cB (x : Nat → Int) (u : Int) (i : Nat) : Int := (x i + cU x u i) % 256
theorem chain_val (x : Nat → Int) (u : Int) (n : Nat) : bval (cB x u) n + cU x u n * 256 ^ n = u + bval x n := by
  induction n with
  | zero => simp [bval, cU]
  | succ n ih =>
    simp only [bval, cU, cB, Int.pow_succ]
    have h := Int.emod_add_mul_ediv (x n + cU x u n) 256
    have e : (x n + cU x u n) % 256 * 256 ^ n + (x n + cU x u n) / 256 * (256 ^ n * 256) = (x n + cU x u n) * 256 ^ n := by
      generalize (x n + cU x u n) % 256 = r at *
      generalize (x n + cU x u n) / 256 = q at *
      rw [← h]; grind
    have e2 : (x n + cU x u n) * 256 ^ n = x n * 256 ^ n + cU x u n * 256 ^ n := Int.add_mul ..
    omega
theorem cU_bound (x : Nat → Int) (u B : Int) (h : ∀ i, 0 ≤ x i ∧ x i ≤ 255 * B) (hu : 0 ≤ u ∧ u ≤ B) (i : Nat) : 0 ≤ cU x u i ∧ cU x u i ≤ B := by
  induction i with
  | zero => exact hu
  | succ i ih =>
    simp only [cU]
    have := h i
    omega
theorem cB_range (x : Nat → Int) (u : Int) (i : Nat) : 0 ≤ cB x u i ∧ cB x u i ≤ 255 := by unfold cB; omega

theorem bval_range (x : Nat → Int) (h : ∀ i, 0 ≤ x i ∧ x i ≤ 255) (n : Nat) : 0 ≤ bval x n ∧ bval x n < 256 ^ n := by
  induction n with
  | zero => simp [bval]
  | succ n ih =>
    simp only [bval, Int.pow_succ]
    have hp : (0 : Int) < 256 ^ n := Int.pow_pos (by decide)
    have h1 := h n
    have h2 : 0 ≤ x n * 256 ^ n := Int.mul_nonneg h1.1 (by omega)
    have h3 : x n * 256 ^ n ≤ 255 * 256 ^ n := Int.mul_le_mul_of_nonneg_right h1.2 (by omega)
    omega
theorem bval_congr (x y : Nat → Int) (n : Nat) (h : ∀ i, i < n → x i = y i) : bval x n = bval y n := by
  induction n with
  | zero => rfl
  | succ n ih =>
    simp only [bval]
    rw [ih fun i hi => h i (by omega), h n (by omega)]
/-- The bytes of a value. -/
def byteAt (v : Int) (i : Nat) : Int := v / 256 ^ i % 256
theorem byteAt_bval (x : Nat → Int) (h : ∀ i, 0 ≤ x i ∧ x i ≤ 255) (n i : Nat) (hi : i < n) : byteAt (bval x n) i = x i := by
  induction n with
  | zero => omega
  | succ n ih =>
    unfold byteAt at *
    have hp : (0 : Int) < 256 ^ i := Int.pow_pos (by decide)
    by_cases he : i = n
    · subst he
      simp only [bval]
      rw [Int.add_mul_ediv_right _ _ (by omega), Int.ediv_eq_zero_of_lt (bval_range x h i).1 (bval_range x h i).2]
      have := h i
      omega
    · have hin : i < n := by omega
      have := ih hin
      simp only [bval]
      obtain ⟨d, hd⟩ : ∃ d, n = i + 1 + d := ⟨n - (i + 1), by omega⟩
      have e : x n * (256 : Int) ^ n = (x n * 256 ^ d * 256) * 256 ^ i := by
        rw [hd, Int.pow_add, Int.pow_succ]; grind
      rw [e, Int.add_mul_ediv_right _ _ (by omega)]
      omega
end Go.Proofs.Ytiemgibnmanhbaa
