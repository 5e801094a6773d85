/-
  The ladder takes a point's coordinate to the multiple's coordinate; so two scalars may be taken in either order. Conditions: none.
-/
import Derived.Test.YtbhmfgjdphphcaaCgL
namespace Go.Proofs.Ytbhmfgjdphphcaa

/-- A point's coordinate; nought for the points of order one and two. -/
def coord (p : Pt) : Fp := (1 + p.y) * inv (1 - p.y)

theorem rep_out {a c : Fp} {p : Pt} (h : Rep a c p.y) : a * inv c = coord p := by
  obtain ⟨h1, h2⟩ := h
  unfold coord
  generalize p.y = y at *
  by_cases hc : c = 0
  · have ha : a ≠ 0 := fun h => h2 ⟨h, hc⟩
    have hy : 1 - y = 0 := by
      have : a * (1 - y) = 0 := by rw [h1, hc]; grobner
      cases fp_zero this with
      | inl h => exact (ha h).elim
      | inr h => exact h
    rw [hc, hy, inv_zero]; grobner
  · have hy : 1 - y ≠ 0 := fun h => by
      have e1 : y = 1 := by grobner
      rw [e1] at h1
      have e2 : c * 2 = 0 := by
        have : c * 2 = c * (1 + 1) := by grobner
        rw [this, ← h1]; grobner
      cases fp_zero e2 with
      | inl h => exact hc h
      | inr h => exact fp_two h
    have e : a = (1 + y) * inv (1 - y) * c := by
      refine fp_cancel hy ?_
      have : (1 + y) * inv (1 - y) * c * (1 - y) = c * (1 + y) * ((1 - y) * inv (1 - y)) := by grobner
      rw [this, inv_mul hy, h1]; grobner
    exact div_eq hc e

theorem Pt.neg_add_self (p : Pt) : p.neg.add p = Pt.zero := by rw [Pt.add_comm, Pt.add_neg]
theorem Pt.drop (p q : Pt) : (p.add q).add p.neg = q := by rw [Pt.add_comm p q, Pt.assoc, Pt.add_neg, Pt.add_zero]
theorem Pt.drop_neg (p q : Pt) : p.add (p.add q).neg = q.neg := by
  have h : (p.add (p.add q).neg).add q = Pt.zero := by
    rw [Pt.add_comm p, Pt.assoc, Pt.neg_add_self]
  have : (p.add (p.add q).neg) = ((p.add (p.add q).neg).add q).add q.neg := by rw [Pt.assoc, Pt.add_neg, Pt.add_zero]
  rw [this, h, Pt.zero_add]

theorem lad_point (q : Pt) (x : Fp) (bit : Nat → Bool) (hx : x * (1 - q.y) = 1 + q.y) (hx0 : x ≠ 0) (k : Nat) :
    Rep (ladF x bit k).a (ladF x bit k).c (mulP q (numK bit k)).y ∧ Rep (ladF x bit k).b (ladF x bit k).d (mulP q (numK bit k + 1)).y := by
  induction k with
  | zero =>
    constructor
    · show Rep 1 0 Pt.zero.y
      refine ⟨?_, fun h => fp_one h.1⟩
      show (1 : Fp) * (1 - 1) = 0 * (1 + 1)
      grobner
    · show Rep x 1 (mulP q 1).y
      rw [mulP_one]
      exact ⟨by rw [hx]; grobner, fun h => fp_one h.2⟩
  | succ k ih =>
    obtain ⟨h, g⟩ := ih
    show Rep (rndS x (bit (254 - k)) (ladF x bit k)).a (rndS x (bit (254 - k)) (ladF x bit k)).c (mulP q (2 * numK bit k + (bit (254 - k)).toNat)).y ∧
      Rep (rndS x (bit (254 - k)) (ladF x bit k)).b (rndS x (bit (254 - k)) (ladF x bit k)).d (mulP q (2 * numK bit k + (bit (254 - k)).toNat + 1)).y
    generalize ladF x bit k = s at *
    generalize numK bit k = n at *
    have e1 : mulP q (n + 1) = (mulP q n).add q := rfl
    cases bit (254 - k) with
    | false =>
      have d1 := rep_dbl h
      have d2 := rep_sum h g (x := x) (by rw [e1, Pt.drop]; exact hx) hx0
      rw [← mulP_add, show n + n = 2 * n + 0 from by omega] at d1
      rw [← mulP_add, show n + (n + 1) = 2 * n + 0 + 1 from by omega] at d2
      exact ⟨d1, d2⟩
    | true =>
      have d1 := rep_dbl g
      have d2 := rep_sum g h (x := x) (by rw [e1, Pt.drop_neg]; exact hx) hx0
      rw [← mulP_add, show n + 1 + (n + 1) = 2 * n + 1 + 1 from by omega] at d1
      rw [← mulP_add, show n + 1 + n = 2 * n + 1 from by omega] at d2
      exact ⟨d2, d1⟩

/-! Coordinates that come to nought. -/
theorem lad_nought (bit : Nat → Bool) (k : Nat) : (ladF 0 bit (k + 1)).c = 0 ∧ (ladF 0 bit (k + 1)).d = 0 ∧ (ladF 0 bit (k + 1)).a * (ladF 0 bit (k + 1)).b = 0 := by
  induction k with
  | zero =>
    show (rndS 0 (bit 254) ⟨1, 0, 0, 1⟩).c = 0 ∧ (rndS 0 (bit 254) ⟨1, 0, 0, 1⟩).d = 0 ∧ (rndS 0 (bit 254) ⟨1, 0, 0, 1⟩).a * (rndS 0 (bit 254) ⟨1, 0, 0, 1⟩).b = 0
    cases bit 254 <;> decide +kernel
  | succ k ih =>
    obtain ⟨h1, h2, h3⟩ := ih
    show (rndS 0 (bit (254 - (k + 1))) (ladF 0 bit (k + 1))).c = 0 ∧ (rndS 0 (bit (254 - (k + 1))) (ladF 0 bit (k + 1))).d = 0 ∧ (rndS 0 (bit (254 - (k + 1))) (ladF 0 bit (k + 1))).a * (rndS 0 (bit (254 - (k + 1))) (ladF 0 bit (k + 1))).b = 0
    generalize ladF 0 bit (k + 1) = s at *
    obtain ⟨a, b, c, d⟩ := s
    simp only at h1 h2 h3
    subst h1; subst h2
    cases bit (254 - (k + 1)) with
    | false =>
      simp only [rndS, swpF, cond_false, rndF]
      refine ⟨?_, ?_, ?_⟩
      · grobner
      · grobner
      · grobner
    | true =>
      simp only [rndS, swpF, cond_true, rndF]
      refine ⟨?_, ?_, ?_⟩
      · grobner
      · grobner
      · grobner
theorem out_nought (bit : Nat → Bool) : outF (ladF 0 bit 255) = 0 := by
  have h := (lad_nought bit 254).1
  unfold outF
  rw [h, inv_zero]
  grobner

/-- What is known of (a:c), (b:d) where the coordinate's square is one, by the number modulo four. -/
def sq1 (x : Fp) (n : Nat) (s : QF) : Prop :=
  (n % 4 = 0 → s.c = 0 ∧ s.b = x * s.d) ∧ (n % 4 = 1 → s.a = x * s.c ∧ s.b = 0) ∧ (n % 4 = 2 → s.a = 0 ∧ s.b = x * s.d) ∧ (n % 4 = 3 → s.a = x * s.c ∧ s.d = 0)
theorem lad_sq1 (x : Fp) (hx : x * x = 1) (bit : Nat → Bool) (k : Nat) : sq1 x (numK bit k) (ladF x bit k) := by
  induction k with
  | zero =>
    refine ⟨fun _ => ⟨rfl, ?_⟩, fun h => ?_, fun h => ?_, fun h => ?_⟩
    · show x = x * 1
      grobner
    · exact absurd h (by show ¬ 0 % 4 = 1; decide)
    · exact absurd h (by show ¬ 0 % 4 = 2; decide)
    · exact absurd h (by show ¬ 0 % 4 = 3; decide)
  | succ k ih =>
    show sq1 x (2 * numK bit k + (bit (254 - k)).toNat) (rndS x (bit (254 - k)) (ladF x bit k))
    generalize ladF x bit k = s at *
    generalize numK bit k = n at *
    obtain ⟨a, b, c, d⟩ := s
    obtain ⟨i0, i1, i2, i3⟩ := ih
    simp only at i0 i1 i2 i3
    have hn : n % 4 = 0 ∨ n % 4 = 1 ∨ n % 4 = 2 ∨ n % 4 = 3 := by omega
    cases bit (254 - k) with
    | false =>
      simp only [rndS, swpF, cond_false, rndF, Bool.toNat_false, Nat.add_zero]
      rcases hn with h | h | h | h
      · obtain ⟨u, v⟩ := i0 h
        clear i0 i1 i2 i3
        subst u; subst v
        exact ⟨fun _ => ⟨by grobner, by grobner⟩, fun h => by omega, fun h => by omega, fun h => by omega⟩
      · obtain ⟨u, v⟩ := i1 h
        clear i0 i1 i2 i3
        subst u; subst v
        exact ⟨fun h => by omega, fun h => by omega, fun _ => ⟨by grobner, by grobner⟩, fun h => by omega⟩
      · obtain ⟨u, v⟩ := i2 h
        clear i0 i1 i2 i3
        subst u; subst v
        exact ⟨fun _ => ⟨by grobner, by grobner⟩, fun h => by omega, fun h => by omega, fun h => by omega⟩
      · obtain ⟨u, v⟩ := i3 h
        clear i0 i1 i2 i3
        subst u; subst v
        exact ⟨fun h => by omega, fun h => by omega, fun _ => ⟨by grobner, by grobner⟩, fun h => by omega⟩
    | true =>
      simp only [rndS, swpF, cond_true, rndF, Bool.toNat_true]
      rcases hn with h | h | h | h
      · obtain ⟨u, v⟩ := i0 h
        clear i0 i1 i2 i3
        subst u; subst v
        exact ⟨fun h => by omega, fun _ => ⟨by grobner, by grobner⟩, fun h => by omega, fun h => by omega⟩
      · obtain ⟨u, v⟩ := i1 h
        clear i0 i1 i2 i3
        subst u; subst v
        exact ⟨fun h => by omega, fun h => by omega, fun h => by omega, fun _ => ⟨by grobner, by grobner⟩⟩
      · obtain ⟨u, v⟩ := i2 h
        clear i0 i1 i2 i3
        subst u; subst v
        exact ⟨fun h => by omega, fun _ => ⟨by grobner, by grobner⟩, fun h => by omega, fun h => by omega⟩
      · obtain ⟨u, v⟩ := i3 h
        clear i0 i1 i2 i3
        subst u; subst v
        exact ⟨fun h => by omega, fun h => by omega, fun h => by omega, fun _ => ⟨by grobner, by grobner⟩⟩
theorem num_four (bit : Nat → Bool) (h0 : bit 0 = false) (h1 : bit 1 = false) : numK bit 255 % 4 = 0 := by
  show (2 * (2 * numK bit 253 + (bit (254 - 253)).toNat) + (bit (254 - 254)).toNat) % 4 = 0
  rw [show 254 - 253 = 1 from rfl, show 254 - 254 = 0 from rfl, h0, h1]
  simp only [Bool.toNat_false]
  omega
theorem out_sq1 (x : Fp) (hx : x * x = 1) (bit : Nat → Bool) (h0 : bit 0 = false) (h1 : bit 1 = false) : outF (ladF x bit 255) = 0 := by
  have h := (lad_sq1 x hx bit 255).1 (num_four bit h0 h1)
  unfold outF
  rw [h.1, inv_zero]
  grobner

/-! A multiple's coordinate. -/
theorem dE_one : dE - 1 ≠ 0 := by decide +kernel
theorem coord_cases (q : Pt) : (coord q = 0 ∧ q.add q = Pt.zero) ∨ (coord q * (1 - q.y) = 1 + q.y ∧ coord q ≠ 0) := by
  have hon := q.on
  by_cases hm : 1 - q.y = 0
  · refine .inl ⟨by unfold coord; rw [hm, inv_zero]; grobner, ?_⟩
    have hy : q.y = 1 := by grobner
    rw [hy] at hon
    have h2 : (dE - 1) * (q.x * q.x) = 0 := by grobner
    have hx : q.x = 0 := by
      cases fp_zero h2 with
      | inl h => exact (dE_one h).elim
      | inr h => cases fp_zero h with
        | inl h => exact h
        | inr h => exact h
    have : q = Pt.zero := Pt.same hx hy
    rw [this, Pt.add_zero]
  · by_cases hp : 1 + q.y = 0
    · refine .inl ⟨by unfold coord; rw [hp]; grobner, ?_⟩
      have hy : q.y = -1 := by grobner
      rw [hy] at hon
      have h2 : (dE - 1) * (q.x * q.x) = 0 := by grobner
      have hx : q.x = 0 := by
        cases fp_zero h2 with
        | inl h => exact (dE_one h).elim
        | inr h => cases fp_zero h with
          | inl h => exact h
          | inr h => exact h
      refine Pt.same ?_ ?_
      · refine fp_cancel (eps_p q q) ?_
        show sumX q q * _ = 0 * _
        rw [sumX_eq, hx]; grobner
      · refine fp_cancel (eps_m q q) ?_
        show sumY q q * _ = 1 * _
        rw [sumY_eq, hx, hy]; grobner
    · refine .inr ⟨?_, ?_⟩
      · unfold coord
        exact mul_inv_back hm
      · exact fp_ne hp (inv_ne hm)
theorem coord_zero : coord Pt.zero = 0 := by
  unfold coord
  show (1 + 1) * inv (1 - 1) = 0
  have : (1 : Fp) - 1 = 0 := by grobner
  rw [this, inv_zero]; grobner

theorem lad_coord (q : Pt) (bit : Nat → Bool) (h0 : bit 0 = false) : outF (ladF (coord q) bit 255) = coord (mulP q (numK bit 255)) := by
  cases coord_cases q with
  | inl h =>
    rw [h.1, out_nought]
    have e : numK bit 255 = 2 * numK bit 254 := by
      show 2 * numK bit 254 + (bit (254 - 254)).toNat = _
      rw [show 254 - 254 = 0 from rfl, h0]; rfl
    have two : mulP q 2 = Pt.zero := by
      show (mulP q 1).add q = _
      rw [mulP_one, h.2]
    rw [e, mulP_mul, two, mulP_zero, coord_zero]
  | inr h => exact rep_out (lad_point q (coord q) bit h.1 h.2 255).1

/-- The base's point: its coordinate is nine. -/
def baseP : Pt := ⟨9771384041963202563870679428059935816164187996444183106833894008023910952347, 46316835694926478169428394003475163141307993866256225615783033603165251855960, by decide +kernel⟩
theorem base_nine : coord baseP = 9 := by
  unfold coord
  refine div_eq (by decide +kernel) ?_
  decide +kernel

/-- A scalar times a coordinate, by numbers alone. -/
def ladX (bit : Nat → Bool) (x : Fp) : Fp := outF (ladF x bit 255)
theorem ladX_point (bit : Nat → Bool) (h : bit 0 = false) (q : Pt) : ladX bit (coord q) = coord (mulP q (numK bit 255)) := lad_coord q bit h
/-- Two have one secret. -/
theorem ladX_comm (s t : Nat → Bool) (hs : s 0 = false) (ht : t 0 = false) (q : Pt) : ladX s (ladX t (coord q)) = ladX t (ladX s (coord q)) := by
  rw [ladX_point t ht, ladX_point s hs, ladX_point s hs, ladX_point t ht, mulP_comm]
theorem ladX_is (s : Nat → Bool) (hs : s 0 = false) (x : Fp) (h : ∃ q, x = coord q) : ∃ q, ladX s x = coord q := by
  obtain ⟨q, rfl⟩ := h
  exact ⟨_, ladX_point s hs q⟩
theorem ladX_swap (s t : Nat → Bool) (hs : s 0 = false) (ht : t 0 = false) (x : Fp) (h : ∃ q, x = coord q) : ladX s (ladX t x) = ladX t (ladX s x) := by
  obtain ⟨q, rfl⟩ := h
  exact ladX_comm s t hs ht q
theorem nine_is : ∃ q, (9 : Fp) = coord q := ⟨baseP, base_nine.symm⟩
end Go.Proofs.Ytbhmfgjdphphcaa
