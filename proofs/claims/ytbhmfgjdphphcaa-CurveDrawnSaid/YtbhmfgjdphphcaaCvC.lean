/-
  The product of two numbers of sixteen parts, by value. Conditions: parts below 2^18.
-/
import Derived.Test.YtbhmfgjdphphcaaCvB
import Derived.Test.YtbhmfgjdphphcaaCrvM
import Derived.Test.YtbhmfgjdphphcaaFdB
namespace Go.Proofs.Ytbhmfgjdphphcaa
open Go Go.SX

def okN (M : Int) (a : Nat → Int) : Prop := ∀ i, i < 16 → -M ≤ a i ∧ a i ≤ M
def tgt (a : Nat → Int) : Prop := ∀ i, i < 16 → -38 ≤ a i ∧ a i ≤ 65573
abbrev V16 (a : Nat → Int) : Int := gv L16 a 16

theorem mul_bd {A x y : Int} (hA : 0 ≤ A) (hx : -A ≤ x ∧ x ≤ A) (hy : -A ≤ y ∧ y ≤ A) : -(A * A) ≤ x * y ∧ x * y ≤ A * A := by
  have h1 : x.natAbs ≤ A.natAbs := by omega
  have h2 : y.natAbs ≤ A.natAbs := by omega
  have h3 := Nat.mul_le_mul h1 h2
  rw [← Int.natAbs_mul, ← Int.natAbs_mul] at h3
  have h4 : 0 ≤ A * A := Int.mul_nonneg hA hA
  omega
theorem gv_bump (B : Int) (x : Nat → Int) (d : Int) (k n : Nat) : gv B (fun i => if i = k then x i + d else x i) n = gv B x n + if k < n then d * B ^ k else 0 := by
  induction n with
  | zero => simp [gv]
  | succ n ih =>
    simp only [gv]
    rw [ih]
    by_cases h : n = k
    · subst h
      rw [if_neg (by omega), if_pos rfl, if_pos (by omega), Int.add_mul]
      omega
    · rw [if_neg h]
      by_cases h2 : k < n
      · rw [if_pos h2, if_pos (by omega)]; omega
      · rw [if_neg h2, if_neg (by omega)]; omega

/-- The sums of products, place by place, behind p products. -/
def cvS (a b : Nat → Int) : Nat → Nat → Int
  | 0 => fun _ => 0
  | p + 1 => fun i => if i = p / 16 + p % 16 then cvS a b p i + a (p / 16) * b (p % 16) else cvS a b p i
def cvT (a b : Nat → Int) : Nat → Int
  | 0 => 0
  | p + 1 => cvT a b p + a (p / 16) * b (p % 16) * L16 ^ (p / 16 + p % 16)
theorem cvS_val (a b : Nat → Int) (p : Nat) (hp : p ≤ 256) : gv L16 (cvS a b p) 31 = cvT a b p := by
  induction p with
  | zero => simp [cvS, cvT, gv]
  | succ p ih =>
    show gv L16 (fun i => if i = p / 16 + p % 16 then cvS a b p i + a (p / 16) * b (p % 16) else cvS a b p i) 31 = _
    rw [gv_bump, ih (by omega), if_pos (by omega)]
    rfl
theorem cvT_row (a b : Nat → Int) (i : Nat) (h0 : cvT a b (16 * i) = gv L16 a i * gv L16 b 16) : ∀ j, j ≤ 16 → cvT a b (16 * i + j) = gv L16 a i * gv L16 b 16 + a i * L16 ^ i * gv L16 b j := by
  intro j
  induction j with
  | zero => intro _; rw [Nat.add_zero, h0]; simp [gv]
  | succ j ih =>
    intro hj
    show cvT a b (16 * i + j) + a ((16 * i + j) / 16) * b ((16 * i + j) % 16) * L16 ^ ((16 * i + j) / 16 + (16 * i + j) % 16) = _
    rw [ih (by omega), show (16 * i + j) / 16 = i from by omega, show (16 * i + j) % 16 = j from by omega, Int.pow_add]
    simp only [gv]
    grind
theorem cvT_val (a b : Nat → Int) (i : Nat) : cvT a b (16 * i) = gv L16 a i * gv L16 b 16 := by
  induction i with
  | zero => simp [cvT, gv]
  | succ i ih =>
    rw [show 16 * (i + 1) = 16 * i + 16 from rfl, cvT_row a b i ih 16 (Nat.le_refl _)]
    simp only [gv]
    rw [Int.add_mul]
theorem cvS_bd (a b : Nat → Int) (ha : okN 262144 a) (hb : okN 262144 b) (p : Nat) (hp : p ≤ 256) (i : Nat) : -(68719476736 * (p : Int)) ≤ cvS a b p i ∧ cvS a b p i ≤ 68719476736 * p := by
  induction p with
  | zero => show -(68719476736 * ((0 : Nat) : Int)) ≤ 0 ∧ 0 ≤ 68719476736 * ((0 : Nat) : Int); omega
  | succ p ih =>
    have h := ih (by omega)
    have hm := mul_bd (A := 262144) (by decide) (ha (p / 16) (by omega)) (hb (p % 16) (by omega))
    show -(68719476736 * ((p + 1 : Nat) : Int)) ≤ (if i = p / 16 + p % 16 then cvS a b p i + a (p / 16) * b (p % 16) else cvS a b p i) ∧ (if i = p / 16 + p % 16 then cvS a b p i + a (p / 16) * b (p % 16) else cvS a b p i) ≤ 68719476736 * ((p + 1 : Nat) : Int)
    split <;> omega
theorem prodL_chain (a b : Nat → Int) (ha : okN 262144 a) (hb : okN 262144 b) (p : Nat) (hp : p ≤ 256) : (List.range p).foldl (stepM a b) (List.replicate 31 0) = (List.range 31).map (cvS a b p) := by
  induction p with
  | zero => rfl
  | succ p ih =>
    rw [List.range_succ, List.foldl_append, ih (by omega)]
    have hk : p / 16 + p % 16 < 31 := by omega
    have hm := mul_bd (A := 262144) (by decide) (ha (p / 16) (by omega)) (hb (p % 16) (by omega))
    have h1 := cvS_bd a b ha hb p (by omega) (p / 16 + p % 16)
    show ((List.range 31).map (cvS a b p)).set (p / 16 + p % 16) (wl (((List.range 31).map (cvS a b p)).getD (p / 16 + p % 16) 0 + wl (a (p / 16) * b (p % 16)))) = _
    rw [map_get 31 _ _ hk, wl_id (a (p / 16) * b (p % 16)) (by omega) (by omega), wl_id _ (by omega) (by omega), map_set]
    refine map_congr 31 _ _ fun i _ => ?_
    show _ = if i = p / 16 + p % 16 then cvS a b p i + a (p / 16) * b (p % 16) else cvS a b p i
    by_cases h : i = p / 16 + p % 16
    · rw [if_pos h, if_pos h, h]
    · rw [if_neg h, if_neg h]
/-- What runs over the sixteenth comes back, 38 times. -/
def fdF (t : Nat → Int) (i : Nat) : Int := if i < 15 then t i + 38 * t (i + 16) else t i
theorem foldT_eq (t : Nat → Int) (ht : ∀ i, i < 31 → -17592186044416 ≤ t i ∧ t i ≤ 17592186044416) : foldT ((List.range 31).map t) = upTo 16 (fdF t) := by
  unfold foldT
  refine map_congr 16 _ _ fun i hi => ?_
  unfold fdF
  by_cases h : i < 15
  · have hb : Nat.blt i 15 = true := by simpa [Nat.blt_eq] using h
    have h1 := ht i (by omega)
    have h2 := ht (i + 16) (by omega)
    rw [hb, cond_true, map_get 31 _ _ (by omega), map_get 31 _ _ (by omega), wl_id (38 * t (i + 16)) (by omega) (by omega), wl_id _ (by omega) (by omega), if_pos h]
  · have hb : Nat.blt i 15 = false := by
      rcases hbb : Nat.blt i 15 with _ | _
      · rfl
      · exact absurd (by simpa [Nat.blt_eq] using hbb) h
    rw [hb, cond_false, map_get 31 _ _ (by omega), if_neg h]
theorem fdF_val (t : Nat → Int) : V16 (fdF t) = gv L16 t 31 - 2 * gv L16 (fun i => t (16 + i)) 15 * P25 := by
  have s := gv_split L16 t 16 15
  have e : V16 (fdF t) = gv L16 t 16 + 38 * gv L16 (fun i => t (16 + i)) 15 := by
    show gv L16 (fdF t) 15 + fdF t 15 * L16 ^ 15 = gv L16 t 15 + t 15 * L16 ^ 15 + _
    have e1 : gv L16 (fdF t) 15 = gv L16 t 15 + 38 * gv L16 (fun i => t (16 + i)) 15 := by
      rw [← gv_scale, ← gv_add]
      refine gv_congr _ _ _ 15 fun i hi => ?_
      unfold fdF
      rw [if_pos hi, Nat.add_comm i 16]
    have e2 : fdF t 15 = t 15 := by unfold fdF; rw [if_neg (by omega)]
    rw [e1, e2]
    omega
  have e2 : (L16 : Int) ^ 16 = 115792089237316195423570985008687907853269984665640564039457584007913129639936 := by decide
  rw [show 16 + 15 = 31 from rfl, e2] at s
  rw [e]
  unfold P25
  omega

/-! Two carries. -/
theorem gU_one (x : Nat → Int) (n : Nat) (hx : ∀ i, i < 16 → 0 ≤ x (i + n) ∧ x (i + n) ≤ 65535) (u : Int) (h : -1 ≤ gU L16 x u n ∧ gU L16 x u n ≤ 1) (i : Nat) (hi : i ≤ 16) : -1 ≤ gU L16 x u (n + i) ∧ gU L16 x u (n + i) ≤ 1 := by
  induction i with
  | zero => exact h
  | succ i ih =>
    have h1 := ih (by omega)
    have h2 := hx i (by omega)
    rw [Nat.add_comm i n] at h2
    show -1 ≤ (x (n + i) + gU L16 x u (n + i)) / 65536 ∧ (x (n + i) + gU L16 x u (n + i)) / 65536 ≤ 1
    omega
theorem gU_step (x : Nat → Int) (u : Int) (i : Nat) : gU L16 x u (i + 1) = (x i + gU L16 x u i) / 65536 := rfl
theorem crF_tgt (x : Nat → Int) (h0 : -1099511627776 ≤ x 0 ∧ x 0 ≤ 1099511627776) (hx : ∀ i, i < 16 → i ≠ 0 → 0 ≤ x i ∧ x i ≤ 65535) : tgt (crF x) := by
  have u1 := gU_step x 0 0
  have u2 := gU_step x 0 1
  have u3 := gU_step x 0 2
  have x1 := hx 1 (by omega) (by omega)
  have x2 := hx 2 (by omega) (by omega)
  have z : gU L16 x 0 0 = 0 := rfl
  rw [z] at u1
  have g : ∀ i, i ≤ 13 → -1 ≤ gU L16 x 0 (3 + i) ∧ gU L16 x 0 (3 + i) ≤ 1 := by
    intro i
    induction i with
    | zero =>
      intro _
      rw [show 3 + 0 = 2 + 1 from rfl, u3, u2, u1]
      omega
    | succ i ih =>
      intro hi
      have h1 := ih (by omega)
      have h2 := hx (3 + i) (by omega) (by omega)
      have h3 := gU_step x 0 (3 + i)
      show -1 ≤ gU L16 x 0 (3 + i + 1) ∧ gU L16 x 0 (3 + i + 1) ≤ 1
      rw [h3]
      omega
  have g16 := g 13 (by omega)
  intro i hi
  have d := gD_range L16 (by decide) x 0 i
  unfold crF
  by_cases h : i = 0
  · subst h
    rw [if_pos rfl]
    have e : (3 : Nat) + 13 = 16 := rfl
    rw [e] at g16
    have d0 : 0 ≤ gD L16 x 0 0 ∧ gD L16 x 0 0 < 65536 := d
    omega
  · rw [if_neg h]
    have d0 : 0 ≤ gD L16 x 0 i ∧ gD L16 x 0 i < 65536 := d
    omega
theorem crF_first (x : Nat → Int) (M : Int) (hM : 0 ≤ M ∧ M ≤ 17179869184) (hx : ∀ i, i < 16 → -(65535 * M) ≤ x i ∧ x i ≤ 65535 * M) :
    (-1099511627776 ≤ crF x 0 ∧ crF x 0 ≤ 1099511627776) ∧ ∀ i, i < 16 → i ≠ 0 → 0 ≤ crF x i ∧ crF x i ≤ 65535 := by
  have hu := carry_small x 0 M 16 hx (by omega) 16 (by omega)
  constructor
  · have d : 0 ≤ gD L16 x 0 0 ∧ gD L16 x 0 0 < 65536 := gD_range L16 (by decide) x 0 0
    unfold crF
    rw [if_pos rfl]
    omega
  · intro i _ h
    have d : 0 ≤ gD L16 x 0 i ∧ gD L16 x 0 i < 65536 := gD_range L16 (by decide) x 0 i
    unfold crF
    rw [if_neg h]
    omega
theorem carC_twice (x : Nat → Int) (hx : ∀ i, i < 16 → -1125882726973440 ≤ x i ∧ x i ≤ 1125882726973440) : carC (carC (upTo 16 x)) = upTo 16 (crF (crF x)) ∧ tgt (crF (crF x)) := by
  have h1 := crF_first x 17179869184 (by omega) (fun i hi => by have := hx i hi; omega)
  have hb : ∀ i, i < 16 → -(65535 * 17179869184) ≤ crF x i ∧ crF x i ≤ 65535 * 17179869184 := fun i hi => by
    by_cases h : i = 0
    · subst h; have := h1.1; omega
    · have := h1.2 i hi h; omega
  rw [carC_eq x 17179869184 (by omega) (fun i hi => by have := hx i hi; omega), carC_eq (crF x) 17179869184 (by omega) hb]
  exact ⟨rfl, crF_tgt _ h1.1 h1.2⟩

/-! Values modulo the modulus. -/
def tf (v : Int) : Fp := Fin.ofNat Pn (v % P25).toNat
theorem P25_eq : P25 = (Pn : Int) := rfl
theorem tf_val (v : Int) : ((tf v).val : Int) = v % P25 := by
  have h0 := Int.emod_nonneg v (show P25 ≠ 0 by decide)
  have h1 := Int.emod_lt_of_pos v (show 0 < P25 by decide)
  rw [P25_eq] at *
  show (((v % (Pn : Int)).toNat % Pn : Nat) : Int) = _
  rw [Nat.mod_eq_of_lt (by omega)]
  omega
theorem tf_congr {a b : Int} (h : a % P25 = b % P25) : tf a = tf b := by unfold tf; rw [h]
theorem tf_ext {a : Int} {x : Fp} (h : a % P25 = (x.val : Int)) : tf a = x := by
  apply Fin.ext
  have := tf_val a
  omega
theorem tf_add (a b : Int) : tf (a + b) = tf a + tf b := by
  refine tf_ext ?_
  rw [Fin.val_add, Int.natCast_emod, Int.natCast_add, tf_val, tf_val, ← P25_eq, ← Int.add_emod]
theorem tf_mul (a b : Int) : tf (a * b) = tf a * tf b := by
  refine tf_ext ?_
  rw [Fin.val_mul, Int.natCast_emod, Int.natCast_mul, tf_val, tf_val, ← P25_eq, ← Int.mul_emod]
theorem tf_sub (a b : Int) : tf (a - b) = tf a - tf b := by
  have h := tf_add (a - b) b
  rw [Int.sub_add_cancel] at h
  rw [h]; grobner
theorem tf_less (a k : Int) : tf (a - k * P25) = tf a := tf_congr (Int.sub_mul_emod_self_right a k P25)

theorem twice_val (x : Nat → Int) : tf (V16 (crF (crF x))) = tf (V16 x) := by
  show tf (gv L16 _ 16) = _
  rw [crF_val, tf_less, crF_val, tf_less]
def MulOK (ML : F2) : Prop := ∀ a b, okN 262144 a → okN 262144 b → tgt (ML a b) ∧ tf (V16 (ML a b)) = tf (V16 a) * tf (V16 b)
theorem at_upTo (x : Nat → Int) (n i : Nat) (h : i < n) : at_ (upTo n x) i = x i := map_get n x i h
theorem tgt_congr {x y : Nat → Int} (h : ∀ i, i < 16 → x i = y i) (ht : tgt y) : tgt x := fun i hi => by rw [h i hi]; exact ht i hi
theorem prod_ok (a b : Nat → Int) (ha : okN 262144 a) (hb : okN 262144 b) :
    ∃ x : Nat → Int, foldT (prodL a b) = upTo 16 x ∧ (∀ i, i < 16 → -1125882726973440 ≤ x i ∧ x i ≤ 1125882726973440) ∧ tf (V16 x) = tf (V16 a) * tf (V16 b) := by
  have e := prodL_chain a b ha hb 256 (Nat.le_refl _)
  have hS : ∀ i, i < 31 → -17592186044416 ≤ cvS a b 256 i ∧ cvS a b 256 i ≤ 17592186044416 := fun i _ => by
    have := cvS_bd a b ha hb 256 (Nat.le_refl _) i
    omega
  refine ⟨fdF (cvS a b 256), ?_, ?_, ?_⟩
  · unfold prodL
    rw [e, foldT_eq _ hS]
  · intro i hi
    unfold fdF
    have h1 := hS i (by omega)
    split
    · have h2 := hS (i + 16) (by omega)
      omega
    · omega
  · rw [fdF_val, tf_less, cvS_val a b 256 (Nat.le_refl _), show 256 = 16 * 16 from rfl, cvT_val, tf_mul]
theorem mulC_ok : MulOK fun a b => at_ (mulC a b) := by
  intro a b ha hb
  obtain ⟨x, e, hx, hv⟩ := prod_ok a b ha hb
  obtain ⟨e2, ht⟩ := carC_twice x hx
  have e3 : mulC a b = upTo 16 (crF (crF x)) := by unfold mulC; rw [e, e2]
  show tgt (at_ (mulC a b)) ∧ tf (V16 (at_ (mulC a b))) = _
  rw [e3]
  refine ⟨tgt_congr (fun i hi => at_upTo _ 16 i hi) ht, ?_⟩
  rw [← hv, ← twice_val x]
  exact congrArg tf (gv_congr _ _ _ 16 fun i hi => at_upTo _ 16 i hi)
end Go.Proofs.Ytbhmfgjdphphcaa
