/-
  The ladder over numbers modulo 2^255 - 19: of a point's coordinate it comes to the multiple's. Conditions: none.
-/
import Derived.Test.YtbhmfgjdphphcaaCgA
namespace Go.Proofs.Ytbhmfgjdphphcaa

structure QF where
  a : Fp
  b : Fp
  c : Fp
  d : Fp
/-- One round's sums and products. -/
def rndF (x : Fp) (q : QF) : QF :=
  let e := q.a + q.c
  let a1 := q.a - q.c
  let c1 := q.b + q.d
  let b1 := q.b - q.d
  let d1 := e * e
  let f := a1 * a1
  let a2 := c1 * a1
  let c2 := b1 * e
  let e2 := a2 + c2
  let a3 := a2 - c2
  let b2 := a3 * a3
  let c3 := d1 - f
  let a4 := c3 * 121665 + d1
  ⟨d1 * f, e2 * e2, c3 * a4, b2 * x⟩
def swpF (s : Bool) (q : QF) : QF := bif s then ⟨q.b, q.a, q.d, q.c⟩ else q
def rndS (x : Fp) (s : Bool) (q : QF) : QF := swpF s (rndF x (swpF s q))
/-- The ladder behind k rounds. -/
def ladF (x : Fp) (bit : Nat → Bool) : Nat → QF
  | 0 => ⟨1, x, 0, 1⟩
  | k + 1 => rndS x (bit (254 - k)) (ladF x bit k)
def outF (q : QF) : Fp := q.a * inv q.c
/-- The number that the bits above tell. -/
def numK (bit : Nat → Bool) : Nat → Nat
  | 0 => 0
  | k + 1 => 2 * numK bit k + (bit (254 - k)).toNat

/-- A coordinate as a fraction: that of y. -/
def Rep (a c y : Fp) : Prop := a * (1 - y) = c * (1 + y) ∧ ¬ (a = 0 ∧ c = 0)
theorem dbl_y (p : Pt) : (p.add p).y * (1 - dE * p.x * p.x * p.y * p.y) = p.y * p.y - p.x * p.x := sumY_eq p p

theorem rep_dbl {a c : Fp} {p : Pt} (h : Rep a c p.y) :
    Rep ((a + c) * (a + c) * ((a - c) * (a - c))) (((a + c) * (a + c) - (a - c) * (a - c)) * (((a + c) * (a + c) - (a - c) * (a - c)) * 121665 + (a + c) * (a + c))) (p.add p).y := by
  obtain ⟨h1, h2⟩ := h
  have hY := dbl_y p
  have hon := p.on
  have hd := dE_eq
  have n1 := eps_m p p
  generalize (p.add p).y = Y at *
  generalize p.x = x at *
  generalize p.y = y at *
  generalize dE = D at *
  have e1 : a - c = (a + c) * y := by grobner
  have ne : a + c ≠ 0 := fun h0 => h2 (by
    have s : a - c = 0 := by rw [e1, h0]; grobner
    have t : (2 : Fp) * a = 0 := by grobner
    have ha : a = 0 := by
      cases fp_zero t with
      | inl h => exact (fp_two h).elim
      | inr h => exact h
    exact ⟨ha, by rw [ha] at h0; grobner⟩)
  rw [e1]
  generalize a + c = e at *
  have i1 : (121666 - 121665 * y * y) * (1 - x * x) = y * y := by grobner
  constructor
  · refine fp_cancel n1 ?_
    have j1 : e * e * (e * y * (e * y)) * (1 - Y) * (1 - D * x * x * y * y) = e * e * (e * y * (e * y)) * ((1 - D * x * x * y * y) - Y * (1 - D * x * x * y * y)) := by grobner
    have j2 : (e * e - e * y * (e * y)) * ((e * e - e * y * (e * y)) * 121665 + e * e) * (1 + Y) * (1 - D * x * x * y * y) =
      (e * e - e * y * (e * y)) * ((e * e - e * y * (e * y)) * 121665 + e * e) * ((1 - D * x * x * y * y) + Y * (1 - D * x * x * y * y)) := by grobner
    rw [j1, j2, hY]
    have k1 : 1 - D * x * x * y * y - (y * y - x * x) = 2 * (1 - y * y) := by grobner
    have k2 : 1 - D * x * x * y * y + (y * y - x * x) = 2 * (1 - x * x) := by grobner
    rw [k1, k2]
    have j3 : (e * e - e * y * (e * y)) * ((e * e - e * y * (e * y)) * 121665 + e * e) * (2 * (1 - x * x)) = 2 * (e * e * (e * e)) * (1 - y * y) * ((121666 - 121665 * y * y) * (1 - x * x)) := by grobner
    rw [j3, i1]
    grobner
  · rintro ⟨g1, g2⟩
    have hee : e * e ≠ 0 := fp_ne ne ne
    have hy : y = 0 := by
      cases fp_zero g1 with
      | inl h => exact (hee h).elim
      | inr h =>
        have : e * y = 0 := by
          cases fp_zero h with
          | inl h => exact h
          | inr h => exact h
        cases fp_zero this with
        | inl h => exact (ne h).elim
        | inr h => exact h
    rw [hy] at g2
    have : (e * e - e * 0 * (e * 0)) * ((e * e - e * 0 * (e * 0)) * 121665 + e * e) = 121666 * (e * e * (e * e)) := by grobner
    rw [this] at g2
    exact fp_ne (show (121666 : Fp) ≠ 0 by decide +kernel) (fp_ne hee hee) g2

theorem rep_sub {a c y : Fp} (h : a * (1 - y) = c * (1 + y)) : a - c = (a + c) * y := by grobner
theorem dif_y {D x1 y1 x2 y2 Z : Fp} (h : Z * (1 - D * x2 * -x1 * y2 * y1) = y2 * y1 - x2 * -x1) : Z * (1 + D * x1 * x2 * y1 * y2) = y1 * y2 + x1 * x2 := by
  have k1 : 1 - D * x2 * -x1 * y2 * y1 = 1 + D * x1 * x2 * y1 * y2 := by grobner
  have k2 : y2 * y1 - x2 * -x1 = y1 * y2 + x1 * x2 := by grobner
  rw [k1, k2] at h
  exact h
/-- A sum's coordinate by both and their difference's. -/
theorem rep_sum {a b c d x : Fp} {p q : Pt} (h : Rep a c p.y) (g : Rep b d q.y) (hx : x * (1 - (q.add p.neg).y) = 1 + (q.add p.neg).y) (hx0 : x ≠ 0) :
    Rep (((b + d) * (a - c) + (b - d) * (a + c)) * ((b + d) * (a - c) + (b - d) * (a + c))) (((b + d) * (a - c) - (b - d) * (a + c)) * ((b + d) * (a - c) - (b - d) * (a + c)) * x) (p.add q).y := by
  obtain ⟨h1, h2⟩ := h
  obtain ⟨g1, g2⟩ := g
  have hS := sumY_eq p q
  have hT := sumY_eq q p.neg
  have hid := dif_add dE p.x p.y q.x q.y p.on q.on
  have n1 := eps_m p q
  have n2 := eps_p p q
  have hon := p.on
  have honq := q.on
  have e0 : (p.add q).y = sumY p q := rfl
  have e1 : (q.add p.neg).y = sumY q p.neg := rfl
  have e2 : p.neg.x = -p.x := rfl
  have e3 : p.neg.y = p.y := rfl
  rw [e1] at hx
  rw [e0]
  rw [e2, e3] at hT
  generalize sumY p q = Y at *
  generalize sumY q p.neg = Z at *
  generalize p.x = x1 at *
  generalize p.y = y1 at *
  generalize q.x = x2 at *
  generalize q.y = y2 at *
  generalize dE = D at *
  have f1 := rep_sub h1
  have f2 := rep_sub g1
  have two : ∀ {s t : Fp}, s + t = 0 → s - t = 0 → s = 0 ∧ t = 0 := fun {s t} u v => by
    have w : (2 : Fp) * s = 0 := by grobner
    have hs : s = 0 := by
      cases fp_zero w with
      | inl h => exact (fp_two h).elim
      | inr h => exact h
    exact ⟨hs, by rw [hs] at u; grobner⟩
  have ne1 : a + c ≠ 0 := fun h0 => h2 (two h0 (by rw [f1, h0]; grobner))
  have ne2 : b + d ≠ 0 := fun h0 => g2 (two h0 (by rw [f2, h0]; grobner))
  rw [f1, f2]
  generalize a + c = e at *
  generalize b + d = m at *
  have ne3 : e * m ≠ 0 := fp_ne ne1 ne2
  have r1 : m * (e * y1) + m * y2 * e = e * m * (y1 + y2) := by grobner
  have r2 : m * (e * y1) - m * y2 * e = e * m * (y1 - y2) := by grobner
  rw [r1, r2]
  generalize e * m = l at *
  have hl2 : l * l ≠ 0 := fp_ne ne3 ne3
  -- the difference's denominator
  have hT' := dif_y hT
  have nZ : 1 - Z ≠ 0 := fun h0 => by
    have hz : (1 : Fp) + Z = 0 := by rw [← hx, h0]; grobner
    exact fp_two (by grobner)
  constructor
  · -- times both denominators and 1 - Z
    refine fp_cancel (fp_ne (fp_ne n1 n2) nZ) ?_
    have s1 : l * (y1 + y2) * (l * (y1 + y2)) * (1 - Y) * ((1 - D * x1 * x2 * y1 * y2) * (1 + D * x1 * x2 * y1 * y2) * (1 - Z)) =
        l * l * ((y1 + y2) * (y1 + y2) * ((1 - D * x1 * x2 * y1 * y2) - Y * (1 - D * x1 * x2 * y1 * y2)) * ((1 + D * x1 * x2 * y1 * y2) - Z * (1 + D * x1 * x2 * y1 * y2))) := by grobner
    have s2 : l * (y1 - y2) * (l * (y1 - y2)) * x * (1 + Y) * ((1 - D * x1 * x2 * y1 * y2) * (1 + D * x1 * x2 * y1 * y2) * (1 - Z)) =
        l * l * ((y1 - y2) * (y1 - y2) * ((1 - D * x1 * x2 * y1 * y2) + Y * (1 - D * x1 * x2 * y1 * y2)) * ((x * (1 - Z)) * (1 + D * x1 * x2 * y1 * y2))) := by grobner
    rw [s1, s2, hx]
    have s3 : (1 + Z) * (1 + D * x1 * x2 * y1 * y2) = (1 + D * x1 * x2 * y1 * y2) + Z * (1 + D * x1 * x2 * y1 * y2) := by grobner
    rw [s3, hS, hT']
    have s4 : (y1 + y2) * (y1 + y2) * (1 - D * x1 * x2 * y1 * y2 - (y1 * y2 - x1 * x2)) * (1 + D * x1 * x2 * y1 * y2 - (y1 * y2 + x1 * x2)) =
        (y1 - y2) * (y1 - y2) * (1 - D * x1 * x2 * y1 * y2 + (y1 * y2 - x1 * x2)) * (1 + D * x1 * x2 * y1 * y2 + (y1 * y2 + x1 * x2)) := by
      have t1 : 1 - D * x1 * x2 * y1 * y2 - (y1 * y2 - x1 * x2) = 1 - D * x1 * x2 * y1 * y2 - y1 * y2 + x1 * x2 := by grobner
      have t2 : 1 + D * x1 * x2 * y1 * y2 - (y1 * y2 + x1 * x2) = 1 + D * x1 * x2 * y1 * y2 - y1 * y2 - x1 * x2 := by grobner
      have t3 : 1 - D * x1 * x2 * y1 * y2 + (y1 * y2 - x1 * x2) = 1 - D * x1 * x2 * y1 * y2 + y1 * y2 - x1 * x2 := by grobner
      have t4 : 1 + D * x1 * x2 * y1 * y2 + (y1 * y2 + x1 * x2) = 1 + D * x1 * x2 * y1 * y2 + y1 * y2 + x1 * x2 := by grobner
      rw [t1, t2, t3, t4]
      exact hid
    rw [s4]
  · rintro ⟨u, v⟩
    have u1 : y1 + y2 = 0 := by
      have : l * (y1 + y2) = 0 := by
        cases fp_zero u with
        | inl h => exact h
        | inr h => exact h
      cases fp_zero this with
      | inl h => exact (ne3 h).elim
      | inr h => exact h
    have v1 : y1 - y2 = 0 := by
      cases fp_zero v with
      | inr h => exact (hx0 h).elim
      | inl h =>
        have : l * (y1 - y2) = 0 := by
          cases fp_zero h with
          | inl h => exact h
          | inr h => exact h
        cases fp_zero this with
        | inl h => exact (ne3 h).elim
        | inr h => exact h
    obtain ⟨w1, w2⟩ := two u1 v1
    subst w1; subst w2
    -- both of order four: the difference's y is one or less one
    have q1 : x1 * x1 = 1 := by grobner
    have q2 : x2 * x2 = 1 := by grobner
    have q3 : Z = x1 * x2 := by grobner
    have q4 : (Z - 1) * (Z + 1) = 0 := by rw [q3]; grobner
    cases fp_zero q4 with
    | inl h => exact nZ (by grobner)
    | inr h =>
      have : x * (1 - Z) = 0 := by rw [hx]; grobner
      cases fp_zero this with
      | inl h => exact hx0 h
      | inr h => exact nZ h
end Go.Proofs.Ytbhmfgjdphphcaa
