/-
  The curve's points: sums, their laws, multiples. Conditions: none.
-/
import Derived.Test.YtbhmfgjdphphcaaCgI
namespace Go.Proofs.Ytbhmfgjdphphcaa

/-- A point of the curve. -/
structure Pt where
  x : Fp
  y : Fp
  on : dE * x * x * y * y - x * x - y * y + 1 = 0
theorem Pt.same {p q : Pt} (h1 : p.x = q.x) (h2 : p.y = q.y) : p = q := by
  cases p; cases q; simp only at h1 h2; subst h1; subst h2; rfl

def eps (p q : Pt) : Fp := dE * p.x * q.x * p.y * q.y
theorem fp_two : (2 : Fp) ≠ 0 := by decide +kernel
theorem fp_one : (1 : Fp) ≠ 0 := by decide +kernel
theorem eps_sq (p q : Pt) : eps p q * eps p q ≠ 1 := by
  intro h
  unfold eps at h
  have hp := p.on
  have hq := q.on
  generalize p.x = x1 at *
  generalize p.y = y1 at *
  generalize q.x = x2 at *
  generalize q.y = y2 at *
  generalize he : dE * x1 * x2 * y1 * y2 = e at *
  have h0 : x1 * y1 ≠ 0 := fun h0 => by
    have e0 : e = 0 := by rw [← he]; grobner
    rw [e0] at h
    exact fp_one (by grobner)
  have hx2 : x2 ≠ 0 := fun h0 => by
    have e0 : e = 0 := by rw [← he]; grobner
    rw [e0] at h
    exact fp_one (by grobner)
  have a : dE * (x1 * y1 * (x2 + y2)) * (x1 * y1 * (x2 + y2)) = (x1 + e * y1) * (x1 + e * y1) := by
    have i1 : dE * (x1 * y1 * (x2 + y2)) * (x1 * y1 * (x2 + y2)) - (x1 + e * y1) * (x1 + e * y1) =
        - (dE * x1 * x1 * y1 * y1) * (dE * x2 * x2 * y2 * y2 - x2 * x2 - y2 * y2 + 1) + (dE * x1 * x1 * y1 * y1 - x1 * x1 - y1 * y1 + 1)
        + ((dE * x1 * x2 * y1 * y2) * (dE * x1 * x2 * y1 * y2) - 1) + (dE * x1 * x2 * y1 * y2 - e) * (2 * x1 * y1) + (y1 * y1) * (1 - e * e) := by grobner
    rw [hp, hq, he, h] at i1
    exact sub_z (by rw [i1]; grobner)
  have b : dE * (x1 * y1 * (x2 - y2)) * (x1 * y1 * (x2 - y2)) = (x1 - e * y1) * (x1 - e * y1) := by
    have i1 : dE * (x1 * y1 * (x2 - y2)) * (x1 * y1 * (x2 - y2)) - (x1 - e * y1) * (x1 - e * y1) =
        - (dE * x1 * x1 * y1 * y1) * (dE * x2 * x2 * y2 * y2 - x2 * x2 - y2 * y2 + 1) + (dE * x1 * x1 * y1 * y1 - x1 * x1 - y1 * y1 + 1)
        + ((dE * x1 * x2 * y1 * y2) * (dE * x1 * x2 * y1 * y2) - 1) - (dE * x1 * x2 * y1 * y2 - e) * (2 * x1 * y1) + (y1 * y1) * (1 - e * e) := by grobner
    rw [hp, hq, he, h] at i1
    exact sub_z (by rw [i1]; grobner)
  have sq : ∀ s t : Fp, dE * s * s = t * t → s = 0 := fun s t h => by
    by_cases hs : s = 0
    · exact hs
    · exfalso
      have hi := inv_mul hs
      refine dE_not (t * inv s) ?_
      have : t * inv s * (t * inv s) = (t * t) * (inv s * inv s) := by grobner
      rw [this, ← h]
      have : dE * s * s * (inv s * inv s) = dE * ((s * inv s) * (s * inv s)) := by grobner
      rw [this, hi]
      grobner
  have a1 := sq _ _ a
  have b1 := sq _ _ b
  have a2 : x2 + y2 = 0 := by
    cases fp_zero a1 with
    | inl h => exact (h0 h).elim
    | inr h => exact h
  have b2 : x2 - y2 = 0 := by
    cases fp_zero b1 with
    | inl h => exact (h0 h).elim
    | inr h => exact h
  have c : (2 : Fp) * x2 = 0 := by
    have : (2 : Fp) * x2 = (x2 + y2) + (x2 - y2) := by grobner
    rw [this, a2, b2]; grobner
  cases fp_zero c with
  | inl h => exact fp_two h
  | inr h => exact hx2 h
theorem eps_p (p q : Pt) : 1 + dE * p.x * q.x * p.y * q.y ≠ 0 := fun h => eps_sq p q (by
  have : eps p q = -1 := by unfold eps; grobner
  rw [this]; grobner)
theorem eps_m (p q : Pt) : 1 - dE * p.x * q.x * p.y * q.y ≠ 0 := fun h => eps_sq p q (by
  have : eps p q = 1 := by unfold eps; grobner
  rw [this]; grobner)

def sumX (p q : Pt) : Fp := (p.x * q.y + q.x * p.y) * inv (1 + dE * p.x * q.x * p.y * q.y)
def sumY (p q : Pt) : Fp := (p.y * q.y - p.x * q.x) * inv (1 - dE * p.x * q.x * p.y * q.y)
theorem mul_inv_back {a b : Fp} (hb : b ≠ 0) : a * inv b * b = a := by
  have : a * inv b * b = a * (b * inv b) := by grobner
  rw [this, inv_mul hb]; grobner
theorem sumX_eq (p q : Pt) : sumX p q * (1 + dE * p.x * q.x * p.y * q.y) = p.x * q.y + q.x * p.y := mul_inv_back (eps_p p q)
theorem sumY_eq (p q : Pt) : sumY p q * (1 - dE * p.x * q.x * p.y * q.y) = p.y * q.y - p.x * q.x := mul_inv_back (eps_m p q)
theorem sum_on (p q : Pt) : dE * sumX p q * sumX p q * sumY p q * sumY p q - sumX p q * sumX p q - sumY p q * sumY p q + 1 = 0 := by
  have h := on_add dE p.x p.y q.x q.y p.on q.on
  have hx := sumX_eq p q
  have hy := sumY_eq p q
  have n1 := eps_p p q
  have n2 := eps_m p q
  generalize sumX p q = X at *
  generalize sumY p q = Y at *
  rw [← hx, ← hy] at h
  generalize 1 + dE * p.x * q.x * p.y * q.y = u at *
  generalize 1 - dE * p.x * q.x * p.y * q.y = v at *
  have n3 : u * u * (v * v) ≠ 0 := fp_ne (fp_ne n1 n1) (fp_ne n2 n2)
  refine fp_cancel n3 ?_
  grobner
def Pt.add (p q : Pt) : Pt := ⟨sumX p q, sumY p q, sum_on p q⟩
def Pt.zero : Pt := ⟨0, 1, by decide +kernel⟩
def Pt.neg (p : Pt) : Pt := ⟨-p.x, p.y, by have := p.on; grobner⟩

theorem Pt.add_comm (p q : Pt) : p.add q = q.add p := by
  refine Pt.same ?_ ?_
  · refine fp_cancel (eps_p p q) ?_
    show sumX p q * _ = sumX q p * _
    rw [sumX_eq]
    have h := sumX_eq q p
    have e : 1 + dE * q.x * p.x * q.y * p.y = 1 + dE * p.x * q.x * p.y * q.y := by grobner
    rw [e] at h
    rw [h]; grobner
  · refine fp_cancel (eps_m p q) ?_
    show sumY p q * _ = sumY q p * _
    rw [sumY_eq]
    have h := sumY_eq q p
    have e : 1 - dE * q.x * p.x * q.y * p.y = 1 - dE * p.x * q.x * p.y * q.y := by grobner
    rw [e] at h
    rw [h]; grobner
theorem Pt.add_zero (p : Pt) : p.add Pt.zero = p := by
  refine Pt.same ?_ ?_
  · refine fp_cancel (eps_p p Pt.zero) ?_
    show sumX p Pt.zero * _ = p.x * _
    rw [sumX_eq]
    show p.x * 1 + 0 * p.y = p.x * (1 + dE * p.x * 0 * p.y * 1)
    grobner
  · refine fp_cancel (eps_m p Pt.zero) ?_
    show sumY p Pt.zero * _ = p.y * _
    rw [sumY_eq]
    show p.y * 1 - p.x * 0 = p.y * (1 - dE * p.x * 0 * p.y * 1)
    grobner
theorem Pt.add_neg (p : Pt) : p.add p.neg = Pt.zero := by
  refine Pt.same ?_ ?_
  · refine fp_cancel (eps_p p p.neg) ?_
    show sumX p p.neg * _ = 0 * _
    rw [sumX_eq]
    show p.x * p.y + -p.x * p.y = 0 * (1 + dE * p.x * -p.x * p.y * p.y)
    grobner
  · refine fp_cancel (eps_m p p.neg) ?_
    show sumY p p.neg * _ = 1 * _
    rw [sumY_eq]
    have := p.on
    show p.y * p.y - p.x * -p.x = 1 * (1 - dE * p.x * -p.x * p.y * p.y)
    grobner

/-- Both coordinates of a sum of three, without fractions. -/
theorem three_x (p q r : Pt) :
    sumX (p.add q) r * ((1 + dE * p.x * q.x * p.y * q.y) * (1 - dE * p.x * q.x * p.y * q.y) + dE * r.x * r.y * (p.x * q.y + q.x * p.y) * (p.y * q.y - p.x * q.x)) =
      (p.x * q.y + q.x * p.y) * (1 - dE * p.x * q.x * p.y * q.y) * r.y + (p.y * q.y - p.x * q.x) * (1 + dE * p.x * q.x * p.y * q.y) * r.x := by
  have h := sumX_eq (p.add q) r
  have hx := sumX_eq p q
  have hy := sumY_eq p q
  have ex : (p.add q).x = sumX p q := rfl
  have ey : (p.add q).y = sumY p q := rfl
  rw [ex, ey] at h
  generalize sumX (p.add q) r = L at *
  generalize sumX p q = X at *
  generalize sumY p q = Y at *
  rw [← hx, ← hy]
  generalize 1 + dE * p.x * q.x * p.y * q.y = u at *
  generalize 1 - dE * p.x * q.x * p.y * q.y = v at *
  have e1 : L * (u * v + dE * r.x * r.y * (X * u) * (Y * v)) = (L * (1 + dE * X * r.x * Y * r.y)) * (u * v) := by grobner
  rw [e1, h]; grobner
theorem three_y (p q r : Pt) :
    sumY (p.add q) r * ((1 + dE * p.x * q.x * p.y * q.y) * (1 - dE * p.x * q.x * p.y * q.y) - dE * r.x * r.y * (p.x * q.y + q.x * p.y) * (p.y * q.y - p.x * q.x)) =
      (p.y * q.y - p.x * q.x) * (1 + dE * p.x * q.x * p.y * q.y) * r.y - (p.x * q.y + q.x * p.y) * (1 - dE * p.x * q.x * p.y * q.y) * r.x := by
  have h := sumY_eq (p.add q) r
  have hx := sumX_eq p q
  have hy := sumY_eq p q
  have ex : (p.add q).x = sumX p q := rfl
  have ey : (p.add q).y = sumY p q := rfl
  rw [ex, ey] at h
  generalize sumY (p.add q) r = L at *
  generalize sumX p q = X at *
  generalize sumY p q = Y at *
  rw [← hx, ← hy]
  generalize 1 + dE * p.x * q.x * p.y * q.y = u at *
  generalize 1 - dE * p.x * q.x * p.y * q.y = v at *
  have e1 : L * (u * v - dE * r.x * r.y * (X * u) * (Y * v)) = (L * (1 - dE * X * r.x * Y * r.y)) * (u * v) := by grobner
  rw [e1, h]; grobner
theorem den_p (p q r : Pt) : (1 + dE * p.x * q.x * p.y * q.y) * (1 - dE * p.x * q.x * p.y * q.y) + dE * r.x * r.y * (p.x * q.y + q.x * p.y) * (p.y * q.y - p.x * q.x) ≠ 0 := by
  have h := eps_p (p.add q) r
  have hx := sumX_eq p q
  have hy := sumY_eq p q
  have n1 := eps_p p q
  have n2 := eps_m p q
  have ex : (p.add q).x = sumX p q := rfl
  have ey : (p.add q).y = sumY p q := rfl
  rw [ex, ey] at h
  generalize sumX p q = X at *
  generalize sumY p q = Y at *
  rw [← hx, ← hy]
  generalize 1 + dE * p.x * q.x * p.y * q.y = u at *
  generalize 1 - dE * p.x * q.x * p.y * q.y = v at *
  have e1 : u * v + dE * r.x * r.y * (X * u) * (Y * v) = (1 + dE * X * r.x * Y * r.y) * (u * v) := by grobner
  rw [e1]
  exact fp_ne h (fp_ne n1 n2)
theorem den_m (p q r : Pt) : (1 + dE * p.x * q.x * p.y * q.y) * (1 - dE * p.x * q.x * p.y * q.y) - dE * r.x * r.y * (p.x * q.y + q.x * p.y) * (p.y * q.y - p.x * q.x) ≠ 0 := by
  have h := eps_m (p.add q) r
  have hx := sumX_eq p q
  have hy := sumY_eq p q
  have n1 := eps_p p q
  have n2 := eps_m p q
  have ex : (p.add q).x = sumX p q := rfl
  have ey : (p.add q).y = sumY p q := rfl
  rw [ex, ey] at h
  generalize sumX p q = X at *
  generalize sumY p q = Y at *
  rw [← hx, ← hy]
  generalize 1 + dE * p.x * q.x * p.y * q.y = u at *
  generalize 1 - dE * p.x * q.x * p.y * q.y = v at *
  have e1 : u * v - dE * r.x * r.y * (X * u) * (Y * v) = (1 - dE * X * r.x * Y * r.y) * (u * v) := by grobner
  rw [e1]
  exact fp_ne h (fp_ne n1 n2)
theorem cross {L R n1 n2 d1 d2 : Fp} (h1 : d1 ≠ 0) (h2 : d2 ≠ 0) (e1 : L * d1 = n1) (e2 : R * d2 = n2) (h : n1 * d2 = n2 * d1) : L = R := by
  refine fp_cancel (fp_ne h1 h2) ?_
  subst e1; subst e2
  grobner
theorem Pt.assoc (p q r : Pt) : (p.add q).add r = p.add (q.add r) := by
  rw [Pt.add_comm p (q.add r)]
  refine Pt.same ?_ ?_
  · refine cross (den_p p q r) (den_p q r p) (three_x p q r) (three_x q r p) ?_
    have := ass_x dE p.x p.y q.x q.y r.x r.y p.on q.on r.on
    rw [this]; grobner
  · refine cross (den_m p q r) (den_m q r p) (three_y p q r) (three_y q r p) ?_
    have := ass_y dE p.x p.y q.x q.y r.x r.y p.on q.on r.on
    rw [this]; grobner

/-! Multiples. -/
def mulP (q : Pt) : Nat → Pt
  | 0 => Pt.zero
  | n + 1 => (mulP q n).add q
theorem Pt.zero_add (p : Pt) : Pt.zero.add p = p := by rw [Pt.add_comm, Pt.add_zero]
theorem mulP_add (q : Pt) (m n : Nat) : mulP q (m + n) = (mulP q m).add (mulP q n) := by
  induction n with
  | zero => exact (Pt.add_zero _).symm
  | succ n ih =>
    show (mulP q (m + n)).add q = (mulP q m).add ((mulP q n).add q)
    rw [ih, Pt.assoc]
theorem mulP_one (q : Pt) : mulP q 1 = q := Pt.zero_add q
theorem mulP_mul (q : Pt) (m n : Nat) : mulP q (m * n) = mulP (mulP q m) n := by
  induction n with
  | zero => rfl
  | succ n ih =>
    rw [Nat.mul_succ, mulP_add, ih]
    rfl
theorem mulP_zero (n : Nat) : mulP Pt.zero n = Pt.zero := by
  induction n with
  | zero => rfl
  | succ n ih => show (mulP Pt.zero n).add Pt.zero = _; rw [ih, Pt.add_zero]
theorem mulP_comm (q : Pt) (m n : Nat) : mulP (mulP q m) n = mulP (mulP q n) m := by rw [← mulP_mul, ← mulP_mul, Nat.mul_comm]
end Go.Proofs.Ytbhmfgjdphphcaa
