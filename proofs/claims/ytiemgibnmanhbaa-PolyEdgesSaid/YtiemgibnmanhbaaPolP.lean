/-
  The cutting into parts of 26 bits: no value is lost. Conditions: bytes.
-/
import Derived.Test.YtiemgibnmanhbaaPolV
namespace Go.Proofs.Ytiemgibnmanhbaa
open Go Go.SX

def bsum (β : Nat → Int) : Nat → Int
  | 0 => 0
  | n + 1 => bsum β n + β n * 2 ^ n
theorem bsum_add (β : Nat → Int) (a n : Nat) : bsum β (a + n) = bsum β a + 2 ^ a * bsum (fun t => β (a + t)) n := by
  induction n with
  | zero => simp [bsum]
  | succ n ih =>
    rw [show a + (n + 1) = (a + n) + 1 from rfl]
    simp only [bsum]
    rw [ih, Int.pow_add]
    grind
theorem bsum_lt (β : Nat → Int) (h : ∀ t, β t = 0 ∨ β t = 1) (n : Nat) : 0 ≤ bsum β n ∧ bsum β n < 2 ^ n := by
  induction n with
  | zero => simp [bsum]
  | succ n ih =>
    simp only [bsum, Int.pow_succ]
    have hp : (0 : Int) < 2 ^ n := Int.pow_pos (by decide)
    rcases h n with h | h <;> rw [h] <;> omega
theorem bsum_congr (β γ : Nat → Int) (n : Nat) (h : ∀ t, t < n → β t = γ t) : bsum β n = bsum γ n := by
  induction n with
  | zero => rfl
  | succ n ih =>
    simp only [bsum]
    rw [ih fun t ht => h t (by omega), h n (by omega)]

def orChain (β : Nat → Int) (n : Nat) : Int := (List.range n).foldl (fun acc t => bits .or .u64 acc (w64 (w64 (β t) * (2 ^ t : Nat)))) 0
theorem orChain_eq (β : Nat → Int) (h : ∀ t, β t = 0 ∨ β t = 1) (n : Nat) (hn : n ≤ 60) : orChain β n = bsum β n := by
  induction n with
  | zero => rfl
  | succ n ih =>
    have e : orChain β (n + 1) = bits .or .u64 (orChain β n) (w64 (w64 (β n) * (2 ^ n : Nat))) := by
      unfold orChain
      rw [List.range_succ, List.foldl_append]
      rfl
    rw [e, ih (by omega)]
    obtain ⟨l0, l1⟩ := bsum_lt β h n
    have hpow : (2 : Int) ^ n ≤ 2 ^ 60 := by exact_mod_cast Nat.pow_le_pow_right (by decide) (show n ≤ 60 by omega)
    have hp : (0 : Int) < 2 ^ n := Int.pow_pos (by decide)
    have c60 : (2 : Int) ^ 60 = 1152921504606846976 := by decide
    have hb : 0 ≤ β n ∧ β n ≤ 1 := by rcases h n with h | h <;> rw [h] <;> decide
    have hw : w64 (β n) = β n := w64_id _ (by omega) (by omega)
    have hc : ((2 ^ n : Nat) : Int) = 2 ^ n := by push_cast; rfl
    rw [hw, hc]
    have hm : 0 ≤ β n * 2 ^ n ∧ β n * 2 ^ n ≤ 2 ^ n := by
      rcases h n with h | h <;> rw [h] <;> omega
    rw [w64_id _ hm.1 (by omega)]
    rw [join64 (β n * 2 ^ n) (bsum β n) n hm.1 (Int.mul_emod_left _ _) (by omega) l0 l1 (by omega)]
    rfl

def bitP (b : Nat → Int) (i : Nat) : Int := bits .and .u8 (b (i / 8) / (2 ^ (i % 8) : Nat)) 1
theorem parts_chain (b : Nat → Int) : partsL b = [orChain (fun t => bitP b (0 + t)) 26, orChain (fun t => bitP b (26 + t)) 26, orChain (fun t => bitP b (52 + t)) 26, orChain (fun t => bitP b (78 + t)) 26, orChain (fun t => bitP b (104 + t)) 32] := by kernel_rfl

theorem bitP_eq (b : Nat → Int) (hb : ∀ i, 0 ≤ b i ∧ b i ≤ 255) (i : Nat) : bitP b i = b (i / 8) / 2 ^ (i % 8) % 2 := by
  unfold bitP
  have hp : (0 : Int) < 2 ^ (i % 8) := Int.pow_pos (by decide)
  have hc : ((2 ^ (i % 8) : Nat) : Int) = 2 ^ (i % 8) := by push_cast; rfl
  rw [hc]
  have h0 : 0 ≤ b (i / 8) / 2 ^ (i % 8) := Int.ediv_nonneg (hb _).1 (by omega)
  have h1 : b (i / 8) / 2 ^ (i % 8) ≤ b (i / 8) := Int.ediv_le_self _ (hb _).1
  have h2 := (hb (i / 8)).2
  exact bits_mask .u8 8 (by decide) wraps_u8 1 (by decide) _ h0 (by omega)
theorem bitP_01 (b : Nat → Int) (hb : ∀ i, 0 ≤ b i ∧ b i ≤ 255) (i : Nat) : bitP b i = 0 ∨ bitP b i = 1 := by
  rw [bitP_eq b hb]
  omega

/-- A value by its bytes. -/
def bval (b : Nat → Int) : Nat → Int
  | 0 => 0
  | n + 1 => bval b n + b n * 256 ^ n
theorem bits_bytes (b : Nat → Int) (hb : ∀ i, 0 ≤ b i ∧ b i ≤ 255) (n : Nat) : bsum (bitP b) (8 * n) = bval b n := by
  induction n with
  | zero => rfl
  | succ n ih =>
    rw [show 8 * (n + 1) = 8 * n + 8 by omega, bsum_add, ih]
    have e : bsum (fun t => bitP b (8 * n + t)) 8 = b n := by
      have := hb n
      rw [bsum_congr _ (fun t => b n / 2 ^ t % 2) 8 fun t ht => by rw [bitP_eq b hb, show (8 * n + t) / 8 = n by omega, show (8 * n + t) % 8 = t by omega]]
      simp only [bsum]
      simp only [show (2 : Int) ^ 0 = 1 from rfl, show (2 : Int) ^ 1 = 2 from rfl, show (2 : Int) ^ 2 = 4 from rfl, show (2 : Int) ^ 3 = 8 from rfl, show (2 : Int) ^ 4 = 16 from rfl, show (2 : Int) ^ 5 = 32 from rfl,
        show (2 : Int) ^ 6 = 64 from rfl, show (2 : Int) ^ 7 = 128 from rfl]
      omega
    rw [e]
    simp only [bval]
    rw [show (256 : Int) = 2 ^ 8 from rfl, ← Int.pow_mul, Int.mul_comm]

theorem parts_val (b : Nat → Int) (hb : ∀ i, 0 ≤ b i ∧ b i ≤ 255) : ∃ p0 p1 p2 p3 p4 : Int, partsL b = [p0, p1, p2, p3, p4] ∧ (0 ≤ p0 ∧ p0 < 67108864) ∧ (0 ≤ p1 ∧ p1 < 67108864) ∧ (0 ≤ p2 ∧ p2 < 67108864) ∧ (0 ≤ p3 ∧ p3 < 67108864) ∧
    (0 ≤ p4 ∧ p4 < 4294967296) ∧ V5 p0 p1 p2 p3 p4 = bval b 17 := by
  have h01 : ∀ a t, bitP b (a + t) = 0 ∨ bitP b (a + t) = 1 := fun a t => bitP_01 b hb _
  rw [parts_chain, orChain_eq _ (h01 0) 26 (by decide), orChain_eq _ (h01 26) 26 (by decide), orChain_eq _ (h01 52) 26 (by decide), orChain_eq _ (h01 78) 26 (by decide), orChain_eq _ (h01 104) 32 (by decide)]
  have l0 := bsum_lt _ (h01 0) 26
  have l1 := bsum_lt _ (h01 26) 26
  have l2 := bsum_lt _ (h01 52) 26
  have l3 := bsum_lt _ (h01 78) 26
  have l4 := bsum_lt _ (h01 104) 32
  refine ⟨_, _, _, _, _, rfl, l0, l1, l2, l3, l4, ?_⟩
  rw [← bits_bytes b hb 17]
  have e1 := bsum_add (bitP b) 0 26
  have e2 := bsum_add (bitP b) 26 26
  have e3 := bsum_add (bitP b) 52 26
  have e4 := bsum_add (bitP b) 78 26
  have e5 := bsum_add (bitP b) 104 32
  simp only [Nat.reduceAdd, Nat.reduceMul] at e1 e2 e3 e4 e5 ⊢
  rw [e5, e4, e3, e2]
  unfold V5
  simp only [show (2 : Int) ^ 26 = 67108864 from rfl, show (2 : Int) ^ 52 = 4503599627370496 from rfl, show (2 : Int) ^ 78 = 302231454903657293676544 from rfl, show (2 : Int) ^ 104 = 20282409603651670423947251286016 from rfl]
  have e0 : bsum (bitP b) 26 = bsum (fun t => bitP b (0 + t)) 26 := bsum_congr _ _ _ fun t _ => by rw [Nat.zero_add]
  rw [e0]
  omega
end Go.Proofs.Ytiemgibnmanhbaa
