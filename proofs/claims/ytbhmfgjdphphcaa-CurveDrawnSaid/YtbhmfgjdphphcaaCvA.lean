/-
  Numbers by their digits, signed too: carries, sums. Conditions: a base above one.
-/
import Derived.Test.YtbhmfgjdphphcaaCrv
namespace Go.Proofs.Ytbhmfgjdphphcaa
open Go Go.SX

/-- A value by its digits. -/
def gv (B : Int) (x : Nat → Int) : Nat → Int
  | 0 => 0
  | n + 1 => gv B x n + x n * B ^ n
/-- The carry into place i, and the digit there. -/
def gU (B : Int) (x : Nat → Int) (u : Int) : Nat → Int
  | 0 => u
  | i + 1 => (x i + gU B x u i) / B
def gD (B : Int) (x : Nat → Int) (u : Int) (i : Nat) : Int := (x i + gU B x u i) % B

theorem gv_congr (B : Int) (x y : Nat → Int) (n : Nat) (h : ∀ i, i < n → x i = y i) : gv B x n = gv B y n := by
  induction n with
  | zero => rfl
  | succ n ih => simp only [gv]; rw [ih fun i hi => h i (by omega), h n (by omega)]
theorem gv_add (B : Int) (x y : Nat → Int) (n : Nat) : gv B (fun i => x i + y i) n = gv B x n + gv B y n := by
  induction n with
  | zero => rfl
  | succ n ih => simp only [gv]; rw [ih, Int.add_mul]; omega
theorem gv_sub (B : Int) (x y : Nat → Int) (n : Nat) : gv B (fun i => x i - y i) n = gv B x n - gv B y n := by
  induction n with
  | zero => rfl
  | succ n ih => simp only [gv]; rw [ih, Int.sub_mul]; omega
theorem gv_scale (B a : Int) (x : Nat → Int) (n : Nat) : gv B (fun i => a * x i) n = a * gv B x n := by
  induction n with
  | zero => simp [gv]
  | succ n ih => simp only [gv]; rw [ih]; grind
theorem gv_split (B : Int) (x : Nat → Int) (j m : Nat) : gv B x (j + m) = gv B x j + B ^ j * gv B (fun i => x (j + i)) m := by
  induction m with
  | zero => simp [gv]
  | succ m ih =>
    show gv B x (j + m) + x (j + m) * B ^ (j + m) = gv B x j + B ^ j * (gv B (fun i => x (j + i)) m + x (j + m) * B ^ m)
    rw [ih, Int.pow_add]
    grind
theorem gv_range (B : Int) (hB : 0 < B) (x : Nat → Int) (n : Nat) (h : ∀ i, i < n → 0 ≤ x i ∧ x i < B) : 0 ≤ gv B x n ∧ gv B x n < B ^ n := by
  induction n with
  | zero => simp [gv]
  | succ n ih =>
    obtain ⟨i0, i1⟩ := ih fun i hi => h i (by omega)
    simp only [gv, Int.pow_succ]
    have hp : (0 : Int) < B ^ n := Int.pow_pos hB
    have h1 := h n (by omega)
    have h2 : 0 ≤ x n * B ^ n := Int.mul_nonneg h1.1 (by omega)
    have h3 : x n * B ^ n ≤ (B - 1) * B ^ n := Int.mul_le_mul_of_nonneg_right (by omega) (by omega)
    rw [Int.sub_mul, Int.mul_comm B] at h3
    omega
theorem chain (B : Int) (_ : 0 < B) (x : Nat → Int) (u : Int) (n : Nat) : gv B (gD B x u) n + gU B x u n * B ^ n = u + gv B x n := by
  induction n with
  | zero => simp [gv, gU]
  | succ n ih =>
    simp only [gv, gU, gD, Int.pow_succ]
    have h := Int.emod_add_mul_ediv (x n + gU B x u n) B
    have e : (x n + gU B x u n) % B * B ^ n + (x n + gU B x u n) / B * (B ^ n * B) = (x n + gU B x u n) * B ^ n := by
      generalize (x n + gU B x u n) % B = r at *
      generalize (x n + gU B x u n) / B = q at *
      rw [← h]; grind
    have e2 : (x n + gU B x u n) * B ^ n = x n * B ^ n + gU B x u n * B ^ n := Int.add_mul ..
    omega
theorem gD_range (B : Int) (hB : 0 < B) (x : Nat → Int) (u : Int) (i : Nat) : 0 ≤ gD B x u i ∧ gD B x u i < B := ⟨Int.emod_nonneg _ (by omega), Int.emod_lt_of_pos _ hB⟩
/-- The digit of a value. -/
def dig (B v : Int) (i : Nat) : Int := v / B ^ i % B
theorem dig_gv (B : Int) (hB : 0 < B) (x : Nat → Int) (n : Nat) (h : ∀ i, i < n → 0 ≤ x i ∧ x i < B) (i : Nat) (hi : i < n) : dig B (gv B x n) i = x i := by
  induction n with
  | zero => omega
  | succ n ih =>
    unfold dig at *
    have hp : (0 : Int) < B ^ i := Int.pow_pos hB
    by_cases he : i = n
    · subst he
      simp only [gv]
      have hr := gv_range B hB x i fun j hj => h j (by omega)
      rw [Int.add_mul_ediv_right _ _ (by omega), Int.ediv_eq_zero_of_lt hr.1 hr.2, Int.zero_add]
      have := h i (by omega)
      exact Int.emod_eq_of_lt this.1 this.2
    · have hin : i < n := by omega
      have := ih (fun j hj => h j (by omega)) hin
      simp only [gv]
      obtain ⟨d, hd⟩ : ∃ d, n = i + 1 + d := ⟨n - (i + 1), by omega⟩
      have e : x n * B ^ n = (x n * B ^ d * B) * B ^ i := by
        rw [hd, Int.pow_add, Int.pow_succ]; grind
      rw [e, Int.add_mul_ediv_right _ _ (by omega), Int.add_mul_emod_self_right]
      exact this
theorem gv_dig (B : Int) (hB : 0 < B) (v : Int) (n : Nat) : gv B (dig B v) n = v % B ^ n := by
  induction n with
  | zero => simp [gv, Int.emod_one]
  | succ n ih =>
    simp only [gv]
    rw [ih]
    unfold dig
    have hp : (0 : Int) < B ^ n := Int.pow_pos hB
    have e1 := Int.emod_add_mul_ediv v (B ^ n)
    have e2 := Int.emod_add_mul_ediv (v / B ^ n) B
    have e3 : v / B ^ n / B = v / (B ^ n * B) := Int.ediv_ediv_of_nonneg (by omega)
    have e4 := Int.emod_add_mul_ediv v (B ^ n * B)
    rw [Int.pow_succ]
    rw [e3] at e2
    generalize v / (B ^ n * B) = y at *
    generalize v % (B ^ n * B) = a at *
    generalize v / B ^ n % B = x at *
    generalize v / B ^ n = z at *
    generalize v % B ^ n = c at *
    generalize B ^ n = P at *
    subst e2
    grind

abbrev L16 : Int := 65536
theorem carry_small (x : Nat → Int) (u M : Int) (n : Nat) (hx : ∀ i, i < n → -(65535 * M) ≤ x i ∧ x i ≤ 65535 * M) (hu : -M ≤ u ∧ u ≤ M) (i : Nat) (hi : i ≤ n) : -M ≤ gU L16 x u i ∧ gU L16 x u i ≤ M := by
  induction i with
  | zero => exact hu
  | succ i ih =>
    have := ih (by omega)
    have := hx i (by omega)
    show -M ≤ (x i + gU L16 x u i) / 65536 ∧ (x i + gU L16 x u i) / 65536 ≤ M
    omega
end Go.Proofs.Ytbhmfgjdphphcaa
