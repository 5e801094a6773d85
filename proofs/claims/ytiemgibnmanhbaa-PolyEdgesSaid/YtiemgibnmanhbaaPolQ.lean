/-
  poly.Sum's last bytes: the sum with the second half of the key, modulo 2^128. Conditions: the bounds told.
-/
import Derived.Test.YtiemgibnmanhbaaPolO
namespace Go.Proofs.Ytiemgibnmanhbaa
open Go Go.SX

def halfB (p : Int × Int) (i : Nat) : Int := (bif Nat.ble 8 i then p.2 else p.1) / 2 ^ (8 * (i % 8)) % 256
def sumX (p : Int × Int) (key : Nat → Int) (i : Nat) : Int := halfB p i + key (16 + i)
theorem and_255 (x : Int) (h0 : 0 ≤ x) (h1 : x < 18446744073709551616) : bits .and .u64 x 255 = x % 256 :=
  bits_mask .u64 64 (by decide) (fun n h0 h1 => w64_id n h0 (by simpa using h1)) 8 (by decide) x h0 (by simpa using h1)

theorem out_chain (p : Int × Int) (key : Nat → Int) (h1 : 0 ≤ p.1 ∧ p.1 < 18446744073709551616) (h2 : 0 ≤ p.2 ∧ p.2 < 18446744073709551616) (hk : ∀ i, 0 ≤ key i ∧ key i ≤ 255) (n : Nat) :
    (List.range n).foldl (stepO p key) ([], 0) = (upTo n (cB (sumX p key) 0), cU (sumX p key) 0 n) := by
  have hX : ∀ i, 0 ≤ sumX p key i ∧ sumX p key i ≤ 255 * 2 := fun i => by
    unfold sumX halfB
    have := hk (16 + i)
    omega
  induction n with
  | zero => rfl
  | succ n ih =>
    rw [List.range_succ, List.foldl_append, ih]
    have hu := cU_bound (sumX p key) 0 2 hX (by omega) n
    have hc : ((2 ^ (8 * (n % 8)) : Nat) : Int) = 2 ^ (8 * (n % 8)) := by push_cast; rfl
    have hp : (0 : Int) < 2 ^ (8 * (n % 8)) := Int.pow_pos (by decide)
    have hh : 0 ≤ (bif Nat.ble 8 n then p.2 else p.1) ∧ (bif Nat.ble 8 n then p.2 else p.1) < 18446744073709551616 := by cases Nat.ble 8 n <;> simp only [cond_true, cond_false] <;> assumption
    have hq0 : 0 ≤ (bif Nat.ble 8 n then p.2 else p.1) / 2 ^ (8 * (n % 8)) := Int.ediv_nonneg hh.1 (by omega)
    have hq1 : (bif Nat.ble 8 n then p.2 else p.1) / 2 ^ (8 * (n % 8)) ≤ (bif Nat.ble 8 n then p.2 else p.1) := Int.ediv_le_self _ hh.1
    have hkn := hk (16 + n)
    have hx := hX n
    have e : w64 (w64 (bits .and .u64 ((bif Nat.ble 8 n then p.2 else p.1) / (2 ^ (8 * (n % 8)) : Nat)) 255 + w64 (key (16 + n))) + cU (sumX p key) 0 n) = sumX p key n + cU (sumX p key) 0 n := by
      rw [hc, and_255 _ hq0 (by omega), w64_id (key (16 + n)) (by omega) (by omega)]
      show w64 (w64 (sumX p key n) + cU (sumX p key) 0 n) = _
      rw [w64_id (sumX p key n) (by omega) (by omega), w64_id _ (by omega) (by omega)]
    show ((upTo n (cB (sumX p key) 0)) ++ [IntKind.u8.wrap (w64 (w64 (bits .and .u64 ((bif Nat.ble 8 n then p.2 else p.1) / (2 ^ (8 * (n % 8)) : Nat)) 255 + w64 (key (16 + n))) + cU (sumX p key) 0 n))],
      w64 (w64 (bits .and .u64 ((bif Nat.ble 8 n then p.2 else p.1) / (2 ^ (8 * (n % 8)) : Nat)) 255 + w64 (key (16 + n))) + cU (sumX p key) 0 n) / (2 ^ 8 : Nat)) = _
    rw [e, IntKind.wrap_u8]
    simp only [upTo, List.range_succ, List.map_append, List.map_cons, List.map_nil, cU, cB]
    rfl

theorem half_val (p : Int × Int) (h1 : 0 ≤ p.1 ∧ p.1 < 18446744073709551616) (h2 : 0 ≤ p.2 ∧ p.2 < 18446744073709551616) : bval (halfB p) 16 = p.1 + p.2 * 18446744073709551616 := by
  obtain ⟨l, h⟩ := p
  simp only at h1 h2 ⊢
  simp only [bval, halfB, show Nat.ble 8 0 = false from rfl, show Nat.ble 8 1 = false from rfl, show Nat.ble 8 2 = false from rfl, show Nat.ble 8 3 = false from rfl, show Nat.ble 8 4 = false from rfl, show Nat.ble 8 5 = false from rfl,
    show Nat.ble 8 6 = false from rfl, show Nat.ble 8 7 = false from rfl, show Nat.ble 8 8 = true from rfl, show Nat.ble 8 9 = true from rfl, show Nat.ble 8 10 = true from rfl, show Nat.ble 8 11 = true from rfl,
    show Nat.ble 8 12 = true from rfl, show Nat.ble 8 13 = true from rfl, show Nat.ble 8 14 = true from rfl, show Nat.ble 8 15 = true from rfl, cond_true, cond_false, Nat.reduceMod, Nat.reduceMul, Int.reducePow]
  omega

/-- The tag's value from the number before the last addition. -/
def tagV (x : Int) (key : Nat → Int) : Int := (x + bval (fun i => key (16 + i)) 16) % 340282366920938463463374607431768211456
theorem bval_add (x y : Nat → Int) (n : Nat) : bval (fun i => x i + y i) n = bval x n + bval y n := by
  induction n with
  | zero => rfl
  | succ n ih => simp only [bval]; rw [ih, Int.add_mul]; omega

theorem outS_val (p : Int × Int) (key : Nat → Int) (h1 : 0 ≤ p.1 ∧ p.1 < 18446744073709551616) (h2 : 0 ≤ p.2 ∧ p.2 < 18446744073709551616) (hk : ∀ i, 0 ≤ key i ∧ key i ≤ 255) :
    outS p key = upTo 16 (byteAt (tagV (p.1 + p.2 * 18446744073709551616) key)) := by
  unfold outS
  rw [out_chain p key h1 h2 hk 16]
  show upTo 16 (cB (sumX p key) 0) = _
  have hv := chain_val (sumX p key) 0 16
  have hs : bval (sumX p key) 16 = p.1 + p.2 * 18446744073709551616 + bval (fun i => key (16 + i)) 16 := by
    show bval (fun i => halfB p i + key (16 + i)) 16 = _
    rw [bval_add, half_val p h1 h2]
  have hr := bval_range (cB (sumX p key) 0) (cB_range _ _) 16
  have ht : tagV (p.1 + p.2 * 18446744073709551616) key = bval (cB (sumX p key) 0) 16 := by
    unfold tagV
    rw [← hs]
    simp only [Int.reducePow] at hv hr
    omega
  rw [ht]
  apply List.map_congr_left
  intro i hi
  exact (byteAt_bval _ (cB_range _ _) 16 i (List.mem_range.1 hi)).symm
end Go.Proofs.Ytiemgibnmanhbaa
