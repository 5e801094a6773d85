/-
  poly.Sum's number, round by round, modulo 2^130 - 5. Conditions: bytes.
-/
import Derived.Test.YtiemgibnmanhbaaPolQ
namespace Go.Proofs.Ytiemgibnmanhbaa
open Go Go.SX

def PFc : F1 := fun b => at_ (partsL b)
def CFc : F1 := fun a => at_ (carryL a)
def TFc : F2 := fun a b => at_ (timesL CFc a b)

theorem upTo_getD_at {n : Nat} {f : Nat → Int} {i : Nat} (h : i < n) : (upTo n f).getD i 0 = f i := by simp [upTo, List.getD, h]
theorem at5 (a0 a1 a2 a3 a4 : Int) (B : Int) (h0 : 0 ≤ a0 ∧ a0 < B) (h1 : 0 ≤ a1 ∧ a1 < B) (h2 : 0 ≤ a2 ∧ a2 < B) (h3 : 0 ≤ a3 ∧ a3 < B) (h4 : 0 ≤ a4 ∧ a4 < B) (i : Nat) : 0 ≤ at_ [a0, a1, a2, a3, a4] i ∧ at_ [a0, a1, a2, a3, a4] i < B := by
  match i with
  | 0 => exact h0
  | 1 => exact h1
  | 2 => exact h2
  | 3 => exact h3
  | 4 => exact h4
  | i + 5 => have : at_ [a0, a1, a2, a3, a4] (i + 5) = 0 := by simp [at_]
             rw [this]; omega

theorem carryL_at (L : List Int) (h : L.length = 5) : carryL (at_ L) = roundC (roundC L) := by
  unfold carryL
  rw [upTo_list h]

def VF (a : Nat → Int) : Int := V5 (a 0) (a 1) (a 2) (a 3) (a 4)

/-- One product, carried. -/
theorem times_val (a b : Nat → Int) (ha : ∀ i, 0 ≤ a i ∧ a i < 268435456) (hb : ∀ i, 0 ≤ b i ∧ b i < 134217728) :
    (∀ i, 0 ≤ TFc a b i ∧ TFc a b i < 67108869) ∧ (0 ≤ TFc a b 1 ∧ TFc a b 1 < 67108864) ∧ (0 ≤ TFc a b 2 ∧ TFc a b 2 < 67108864) ∧ (0 ≤ TFc a b 3 ∧ TFc a b 3 < 67108864) ∧ (0 ≤ TFc a b 4 ∧ TFc a b 4 < 67108864) ∧
    ∃ q, VF a * VF b = VF (TFc a b) + q * pp := by
  obtain ⟨he, hm⟩ := prod_val a b ha hb
  have m00 := hm 0 0; have m01 := hm 0 1; have m02 := hm 0 2; have m03 := hm 0 3; have m04 := hm 0 4
  have m10 := hm 1 0; have m11 := hm 1 1; have m12 := hm 1 2; have m13 := hm 1 3; have m14 := hm 1 4
  have m20 := hm 2 0; have m21 := hm 2 1; have m22 := hm 2 2; have m23 := hm 2 3; have m24 := hm 2 4
  have m30 := hm 3 0; have m31 := hm 3 1; have m32 := hm 3 2; have m33 := hm 3 3; have m34 := hm 3 4
  have m40 := hm 4 0; have m41 := hm 4 1; have m42 := hm 4 2; have m43 := hm 4 3; have m44 := hm 4 4
  have hlen : (prodL a b).length = 5 := by rw [he]; rfl
  obtain ⟨r0, r1, r2, r3, r4, hr, b0, b1, b2, b3, b4, ⟨q, hq⟩, _⟩ := carry_val (a 0 * b 0 + a 1 * b 4 * 5 + a 2 * b 3 * 5 + a 3 * b 2 * 5 + a 4 * b 1 * 5) (a 0 * b 1 + a 1 * b 0 + a 2 * b 4 * 5 + a 3 * b 3 * 5 + a 4 * b 2 * 5)
    (a 0 * b 2 + a 1 * b 1 + a 2 * b 0 + a 3 * b 4 * 5 + a 4 * b 3 * 5) (a 0 * b 3 + a 1 * b 2 + a 2 * b 1 + a 3 * b 0 + a 4 * b 4 * 5) (a 0 * b 4 + a 1 * b 3 + a 2 * b 2 + a 3 * b 1 + a 4 * b 0) (by omega) (by omega) (by omega) (by omega) (by omega)
  have ht : timesL CFc a b = [r0, r1, r2, r3, r4] := by
    have h1 : carryL (at_ (prodL a b)) = [r0, r1, r2, r3, r4] := by rw [carryL_at _ hlen, he, hr]
    unfold timesL CFc
    rw [h1]
    rfl
  have hT : TFc a b = at_ [r0, r1, r2, r3, r4] := by unfold TFc; rw [ht]
  rw [hT]
  refine ⟨at5 r0 r1 r2 r3 r4 67108869 b0 (by omega) (by omega) (by omega) (by omega), b1, b2, b3, b4, ?_⟩
  obtain ⟨q', hq'⟩ := mul_val (a 0) (a 1) (a 2) (a 3) (a 4) (b 0) (b 1) (b 2) (b 3) (b 4)
  refine ⟨q + q', ?_⟩
  show V5 (a 0) (a 1) (a 2) (a 3) (a 4) * V5 (b 0) (b 1) (b 2) (b 3) (b 4) = V5 r0 r1 r2 r3 r4 + (q + q') * pp
  rw [hq', hq, Int.add_mul]
  omega

/-- The parts of a number below 2^129. -/
theorem parts_small (b : Nat → Int) (hb : ∀ i, 0 ≤ b i ∧ b i ≤ 255) (h16 : b 16 ≤ 1) : (∀ i, 0 ≤ PFc b i ∧ PFc b i < 67108864) ∧ VF (PFc b) = bval b 17 := by
  obtain ⟨p0, p1, p2, p3, p4, he, c0, c1, c2, c3, c4, hv⟩ := parts_val b hb
  have hlt : bval b 17 < 680564733841876926926749214863536422912 := by
    have h1 := bval_range b hb 16
    have h2 := (hb 16).1
    simp only [Int.reducePow] at h1
    have e : bval b 17 = bval b 16 + b 16 * 256 ^ 16 := rfl
    rw [e]
    simp only [Int.reducePow]
    omega
  have h4 : p4 < 67108864 := by
    rw [← hv] at hlt
    unfold V5 at hlt
    omega
  have hP : PFc b = at_ [p0, p1, p2, p3, p4] := by unfold PFc; rw [he]
  rw [hP]
  exact ⟨at5 _ _ _ _ _ _ c0 c1 c2 c3 ⟨c4.1, h4⟩, hv⟩

def rV (key : Nat → Int) : Int := bval (at_ (rL key)) 17
def blkV (n : Nat) (f : Nat → Int) : Int := bval (at_ (xL n f)) 17
/-- The number behind k rounds, never cut down. -/
def HS (key : Nat → Int) (b : BT) : Nat → Int
  | 0 => 0
  | k + 1 => (HS key b k + blkV (BS b k).n (BS b k).f) * rV key

theorem and_u8_le (x m : Int) : 0 ≤ bits .and .u8 x m ∧ bits .and .u8 x m ≤ 255 := by
  have h : ∀ v : BitVec 8, 0 ≤ IntKind.u8.wrap (v.toNat : Int) ∧ IntKind.u8.wrap (v.toNat : Int) ≤ 255 := fun v => by rw [IntKind.wrap_u8]; omega
  exact h _
theorem rL_bytes (key : Nat → Int) (hk : ∀ i, 0 ≤ key i ∧ key i ≤ 255) (i : Nat) : 0 ≤ at_ (rL key) i ∧ at_ (rL key) i ≤ 255 := by
  match i with
  | 0 => exact hk 0
  | 1 => exact hk 1
  | 2 => exact hk 2
  | 3 => exact and_u8_le _ _
  | 4 => exact and_u8_le _ _
  | 5 => exact hk 5
  | 6 => exact hk 6
  | 7 => exact and_u8_le _ _
  | 8 => exact and_u8_le _ _
  | 9 => exact hk 9
  | 10 => exact hk 10
  | 11 => exact and_u8_le _ _
  | 12 => exact and_u8_le _ _
  | 13 => exact hk 13
  | 14 => exact hk 14
  | 15 => exact and_u8_le _ _
  | 16 => show (0 : Int) ≤ 0 ∧ (0 : Int) ≤ 255; omega
  | i + 17 => have : at_ (rL key) (i + 17) = 0 := by simp [at_, rL]
              rw [this]; omega
theorem xL_at (n : Nat) (f : Nat → Int) (i : Nat) : at_ (xL n f) i = if i < 17 then (if i = Nat.min n 16 then 1 else if i < Nat.min n 16 then f i else 0) else 0 := by
  unfold at_ xL
  by_cases hi : i < 17
  · rw [if_pos hi]
    simp only [List.getD, List.getElem?_map, List.getElem?_range hi, Option.map_some, Option.getD_some, Nat.zero_add, Nat.zero_le, true_and, Nat.sub_zero]
    by_cases h1 : i = Nat.min n 16
    · rw [if_pos h1, if_pos h1]
    · rw [if_neg h1, if_neg h1]
      by_cases h2 : i < Nat.min n 16
      · rw [if_pos h2, if_pos h2]
      · rw [if_neg h2, if_neg h2]
        have : (List.replicate 17 (0 : Int))[i]? = some 0 := List.getElem?_replicate_of_lt hi
        rw [this]; rfl
  · rw [if_neg hi]
    simp [hi]
theorem xL_bytes (n : Nat) (f : Nat → Int) (hf : ∀ i, 0 ≤ f i ∧ f i ≤ 255) (i : Nat) : 0 ≤ at_ (xL n f) i ∧ at_ (xL n f) i ≤ 255 := by
  rw [xL_at]
  have := hf i
  split
  · split
    · omega
    · split <;> omega
  · omega
theorem xL_16 (n : Nat) (f : Nat → Int) : at_ (xL n f) 16 ≤ 1 := by
  rw [xL_at, if_pos (by omega)]
  split
  · omega
  · rename_i h
    rw [if_neg]
    · omega
    · have : Nat.min n 16 ≤ 16 := Nat.min_le_right _ _
      omega

theorem BS_bytes (b : BT) (hf : ∀ i, 0 ≤ b.f i ∧ b.f i ≤ 255) (k : Nat) : ∀ i, 0 ≤ (BS b k).f i ∧ (BS b k).f i ≤ 255 := by
  induction k with
  | zero => exact hf
  | succ k ih => intro i; exact ih _

theorem z0 : (0 : Int) ≤ 0 ∧ (0 : Int) < 67108864 := by decide
theorem SL_val (key : Nat → Int) (b : BT) (hk : ∀ i, 0 ≤ key i ∧ key i ≤ 255) (hf : ∀ i, 0 ≤ b.f i ∧ b.f i ≤ 255) (k : Nat) :
    (∀ i, 0 ≤ SL PFc TFc key b k i ∧ SL PFc TFc key b k i < 67108869) ∧ (0 ≤ SL PFc TFc key b k 1 ∧ SL PFc TFc key b k 1 < 67108864) ∧ (0 ≤ SL PFc TFc key b k 2 ∧ SL PFc TFc key b k 2 < 67108864) ∧
    (0 ≤ SL PFc TFc key b k 3 ∧ SL PFc TFc key b k 3 < 67108864) ∧ (0 ≤ SL PFc TFc key b k 4 ∧ SL PFc TFc key b k 4 < 67108864) ∧ ∃ q, VF (SL PFc TFc key b k) = HS key b k + q * pp := by
  induction k with
  | zero => exact ⟨fun i => by show 0 ≤ (0 : Int) ∧ (0 : Int) < _; omega, z0, z0, z0, z0, 0, rfl⟩
  | succ k ih =>
    obtain ⟨i0, i1, i2, i3, i4, q, hq⟩ := ih
    obtain ⟨x0, xv⟩ := parts_small (at_ (xL (BS b k).n (BS b k).f)) (xL_bytes _ _ (BS_bytes b hf k)) (xL_16 _ _)
    obtain ⟨r0, rv⟩ := parts_small (at_ (rL key)) (rL_bytes key hk) (show (0 : Int) ≤ 1 by decide)
    generalize hs : SL PFc TFc key b k = s at i0 i1 i2 i3 i4 hq
    generalize hx : PFc (at_ (xL (BS b k).n (BS b k).f)) = x at x0 xv
    generalize hr : PFc (at_ (rL key)) = r at r0 rv
    have hadd : ∀ i, i < 5 → at_ (addL PFc s (BS b k).n (BS b k).f) i = s i + x i := fun i hi => by
      unfold at_ addL
      rw [upTo_getD_at hi, hx]
      have := i0 i; have := x0 i
      exact w64_id _ (by omega) (by omega)
    have hadd0 : ∀ i, 0 ≤ at_ (addL PFc s (BS b k).n (BS b k).f) i ∧ at_ (addL PFc s (BS b k).n (BS b k).f) i < 268435456 := fun i => by
      by_cases hi : i < 5
      · rw [hadd i hi]; have := i0 i; have := x0 i; omega
      · have : at_ (addL PFc s (BS b k).n (BS b k).f) i = 0 := by simp [at_, addL, upTo, hi]
        rw [this]; omega
    have hK : ∀ i, i < 5 → K 5 (byF PFc key) i = r i := fun i hi => by rw [K_at 5 _ i hi]; unfold byF; rw [hr]
    have hK0 : ∀ i, 0 ≤ K 5 (byF PFc key) i ∧ K 5 (byF PFc key) i < 134217728 := fun i => by
      by_cases hi : i < 5
      · rw [hK i hi]; have := r0 i; omega
      · have : K 5 (byF PFc key) i = 0 := by simp [K, upTo, hi]
        rw [this]; omega
    obtain ⟨t0, t1, t2, t3, t4, q', hq'⟩ := times_val _ _ hadd0 hK0
    have hS : SL PFc TFc key b (k + 1) = TFc (at_ (addL PFc s (BS b k).n (BS b k).f)) (K 5 (byF PFc key)) := by
      show nextS PFc TFc key (SL PFc TFc key b k) _ _ = _
      rw [hs]; rfl
    rw [hS]
    refine ⟨t0, t1, t2, t3, t4, q * rV key - q', ?_⟩
    have ea : VF (at_ (addL PFc s (BS b k).n (BS b k).f)) = VF s + VF x := by
      unfold VF
      rw [hadd 0 (by decide), hadd 1 (by decide), hadd 2 (by decide), hadd 3 (by decide), hadd 4 (by decide)]
      unfold V5
      omega
    have eb : VF (K 5 (byF PFc key)) = rV key := by
      show _ = bval (at_ (rL key)) 17
      rw [← rv]
      unfold VF
      rw [hK 0 (by decide), hK 1 (by decide), hK 2 (by decide), hK 3 (by decide), hK 4 (by decide)]
    rw [ea, eb, hq, xv] at hq'
    show _ = (HS key b k + blkV (BS b k).n (BS b k).f) * rV key + _
    unfold blkV
    grind
end Go.Proofs.Ytiemgibnmanhbaa
