/-
  Numbers modulo 2^255 - 19 are a field: no product of others is zero, each other has one over it; a constant that is no square. Conditions: none.
-/
import Derived.Test.YtbhmfgjdphphcaaFdA
namespace Go.Proofs.Ytbhmfgjdphphcaa

abbrev Fp := Fin Pn
instance : NeZero Pn := ⟨by decide⟩
theorem prm_P : Prm Pn := prm_root.1

theorem fp_mul_val (a b : Fp) : (a * b).val = a.val * b.val % Pn := Fin.val_mul a b
theorem fp_zero {a b : Fp} (h : a * b = 0) : a = 0 ∨ b = 0 := by
  have h1 : a.val * b.val % Pn = 0 := by rw [← fp_mul_val, h]; rfl
  have lt : ∀ c : Fp, Pn ∣ c.val → c = 0 := fun c hc => by
    apply Fin.ext
    show c.val = 0
    rcases Nat.eq_zero_or_pos c.val with h | h
    · exact h
    · have := Nat.le_of_dvd h hc; have := c.isLt; omega
  cases prm_P.dvd_mul (Nat.dvd_of_mod_eq_zero h1) with
  | inl h => exact .inl (lt a h)
  | inr h => exact .inr (lt b h)
theorem fp_ne {a b : Fp} (ha : a ≠ 0) (hb : b ≠ 0) : a * b ≠ 0 := fun h => by
  cases fp_zero h with
  | inl h => exact ha h
  | inr h => exact hb h
theorem fp_cancel {a b c : Fp} (hc : c ≠ 0) (h : a * c = b * c) : a = b := by
  have h1 : (a - b) * c = 0 := by grobner
  cases fp_zero h1 with
  | inl h => grobner
  | inr h => exact (hc h).elim

/-- Powers. -/
def pwF (x : Fp) (e : Nat) : Fp := Fin.ofNat Pn (x.val ^ e)
theorem pwF_val (x : Fp) (e : Nat) : (pwF x e).val = x.val ^ e % Pn := rfl
theorem pwF_zero (x : Fp) : pwF x 0 = 1 := by apply Fin.ext; rw [pwF_val, Nat.pow_zero]; rfl
theorem pwF_one (x : Fp) : pwF x 1 = x := by apply Fin.ext; rw [pwF_val, Nat.pow_one]; exact Nat.mod_eq_of_lt x.isLt
theorem pwF_add (x : Fp) (a b : Nat) : pwF x (a + b) = pwF x a * pwF x b := by
  apply Fin.ext; rw [pwF_val, fp_mul_val, pwF_val, pwF_val, Nat.pow_add, Nat.mul_mod]
theorem pwF_pm (x : Fp) (e : Nat) (h : e < 2 ^ 256) : (pwF x e).val = pm Pn 256 x.val e := by rw [pwF_val, pm_eq Pn 256 _ _ h]
theorem fp_pos {x : Fp} (h : x ≠ 0) : 0 < x.val := Nat.pos_of_ne_zero fun h0 => h (Fin.ext h0)
theorem fp_fermat {x : Fp} (h : x ≠ 0) : pwF x (Pn - 1) = 1 := by
  apply Fin.ext
  rw [pwF_val]
  exact fermat_of Pn 2 prm_root.2.1 prm_root.2.2.1 prm_root.2.2.2 x.val (fp_pos h) x.isLt

/-- One over a number; of zero: zero. -/
def inv (x : Fp) : Fp := pwF x (Pn - 2)
theorem inv_mul {x : Fp} (h : x ≠ 0) : x * inv x = 1 := by
  have e : pwF x (1 + (Pn - 2)) = x * inv x := by rw [pwF_add, pwF_one]; rfl
  rw [← e, show 1 + (Pn - 2) = Pn - 1 from by decide]
  exact fp_fermat h
theorem pwF_z (e : Nat) (h : e ≠ 0) : pwF 0 e = 0 := by
  apply Fin.ext
  rw [pwF_val]
  show 0 ^ e % Pn = 0
  rw [Nat.zero_pow (Nat.pos_of_ne_zero h)]
  rfl
theorem inv_zero : inv 0 = 0 := pwF_z _ (by decide)
theorem inv_ne {x : Fp} (h : x ≠ 0) : inv x ≠ 0 := fun h0 => by
  have := inv_mul h
  rw [h0] at this
  have e : x * 0 = (0 : Fp) := by grobner
  rw [e] at this
  exact absurd this (by decide)
theorem div_eq {a b c : Fp} (hb : b ≠ 0) (h : a = c * b) : a * inv b = c := by
  have := inv_mul hb
  rw [h]
  have e : c * b * inv b = c * (b * inv b) := by grobner
  rw [e, this]
  grobner

/-- The curve's constant. -/
def dE : Fp := 20800338683988658368647408995589388737092878452977063003340006470870624536394
theorem dE_eq : 121666 * dE = (121665 : Fp) := by decide +kernel
theorem dE_half : pwF dE 28948022309329048855892746252171976963317496166410141009864396001978282409974 = Fin.ofNat Pn (Pn - 1) := by
  apply Fin.ext
  rw [pwF_pm _ _ (by decide)]
  decide +kernel
theorem dE_not (s : Fp) : s * s ≠ dE := fun h => by
  have hs : s ≠ 0 := fun h0 => by subst h0; exact absurd h (by decide +kernel)
  have h1 := fp_fermat hs
  have e : ∀ n, pwF (s * s) n = pwF s (n + n) := by
    intro n
    apply Fin.ext
    rw [pwF_val, fp_mul_val, ← Nat.pow_mod, pwF_val, Nat.pow_add, Nat.mul_pow]
  have h2 := e 28948022309329048855892746252171976963317496166410141009864396001978282409974
  rw [h, dE_half, show 28948022309329048855892746252171976963317496166410141009864396001978282409974 + 28948022309329048855892746252171976963317496166410141009864396001978282409974 = Pn - 1 from by decide, h1] at h2
  exact absurd h2 (by decide +kernel)
end Go.Proofs.Ytbhmfgjdphphcaa
