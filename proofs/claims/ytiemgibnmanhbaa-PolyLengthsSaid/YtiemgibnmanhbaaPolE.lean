/-
  Tags as numbers: what of a key they hang on. Conditions: bytes.
-/
import Derived.Test.YtiemgibnmanhbaaQSays
namespace Go.Proofs.Ytiemgibnmanhbaa
open Go Go.SX
open Go.RowKit (Below)

def num (n : Nat) (f : Nat → Int) : BT := ⟨none, n, n, f⟩
theorem TGc_is (key : Nat → Int) (n : Nat) (f : Nat → Int) : TGc key n f = byteAt (tagV (HS key (num n f) (nR n) % pp) key) := rfl
theorem HS_congr (k k' : Nat → Int) (h : rL k = rL k') (b : BT) (N : Nat) : HS k b N = HS k' b N := by
  have hr : rV k = rV k' := by unfold rV; rw [h]
  induction N with
  | zero => rfl
  | succ N ih =>
    show (HS k b N + blkV (BS b N).n (BS b N).f) * rV k = (HS k' b N + blkV (BS b N).n (BS b N).f) * rV k'
    rw [ih, hr]
theorem rL_congr (k k' : Nat → Int) (h : ∀ i, i < 16 → k i = k' i) : rL k = rL k' := by
  unfold rL
  rw [h 0 (by decide), h 1 (by decide), h 2 (by decide), h 3 (by decide), h 4 (by decide), h 5 (by decide), h 6 (by decide), h 7 (by decide), h 8 (by decide), h 9 (by decide), h 10 (by decide), h 11 (by decide), h 12 (by decide),
    h 13 (by decide), h 14 (by decide), h 15 (by decide)]
theorem bval_byteAt (v : Int) (h0 : 0 ≤ v) (n : Nat) (h1 : v < 256 ^ n) : bval (byteAt v) n = v := by
  have h : ∀ n, bval (byteAt v) n = v % 256 ^ n := by
    intro n
    induction n with
    | zero => simp [bval, Int.emod_one]
    | succ n ih =>
      simp only [bval]
      rw [ih]
      unfold byteAt
      have hp : (0 : Int) < 256 ^ n := Int.pow_pos (by decide)
      have e1 := Int.emod_add_mul_ediv v (256 ^ n)
      have e2 := Int.emod_add_mul_ediv (v / 256 ^ n) 256
      have e3 : v / 256 ^ n / 256 = v / (256 ^ n * 256) := Int.ediv_ediv_of_nonneg (by omega)
      have e4 := Int.emod_add_mul_ediv v (256 ^ n * 256)
      rw [Int.pow_succ]
      rw [e3] at e2
      generalize v / (256 ^ n * 256) = y at *
      generalize v % (256 ^ n * 256) = a at *
      generalize v / 256 ^ n % 256 = x at *
      generalize v / 256 ^ n = z at *
      generalize v % 256 ^ n = c at *
      generalize (256 : Int) ^ n = P at *
      rw [← e2, ← e4] at e1
      have e6 : P * (x + 256 * y) = x * P + P * 256 * y := by grind
      omega
  rw [h n, Int.emod_eq_of_lt h0 h1]
theorem byteAt_range (v : Int) (i : Nat) : 0 ≤ byteAt v i ∧ byteAt v i ≤ 255 := by unfold byteAt; omega
theorem tagV_range (x : Int) (key : Nat → Int) : 0 ≤ tagV x key ∧ tagV x key < 256 ^ 16 := by
  unfold tagV
  simp only [Int.reducePow]
  omega
end Go.Proofs.Ytiemgibnmanhbaa
