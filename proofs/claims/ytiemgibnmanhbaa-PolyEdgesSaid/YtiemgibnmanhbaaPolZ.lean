/-
  courierref1's product of numbers of 17 bytes. Conditions: the bounds told.
-/
import Derived.Test.YtiemgibnmanhbaaPolY
namespace Go.Proofs.Ytiemgibnmanhbaa
open Go Go.SX

def csum (t : Nat → Int) : Nat → Int
  | 0 => 0
  | n + 1 => csum t n + t n
theorem bval_csum (T : Nat → Nat → Int) (m n : Nat) : bval (fun i => csum (fun j => T j i) m) n = csum (fun j => bval (T j) n) m := by
  induction m with
  | zero =>
    show bval (fun _ => 0) n = 0
    induction n with
    | zero => rfl
    | succ n ih => simp only [bval]; rw [ih]; simp
  | succ m ih =>
    show bval (fun i => csum (fun j => T j i) m + T m i) n = csum (fun j => bval (T j) n) m + bval (T m) n
    rw [bval_add, ih]
def termR (h r : Nat → Int) (i j : Nat) : Int := if j ≤ i then h j * r (i - j) else h j * 320 * r (i + 17 - j)
theorem coef_sum (h r : Nat → Int) (hh : ∀ i, 0 ≤ h i ∧ h i ≤ 255) (hr : ∀ i, 0 ≤ r i ∧ r i ≤ 255) (i n : Nat) (hn : n ≤ 17) :
    (List.range n).foldl (fun x j => bif Nat.ble j i then w32 (x + w32 (h j * r (i - j))) else w32 (x + w32 (w32 (h j * 320) * r (i + 17 - j)))) 0 = csum (termR h r i) n ∧ 0 ≤ csum (termR h r i) n ∧ csum (termR h r i) n ≤ n * 20808000 := by
  induction n with
  | zero => exact ⟨rfl, Int.le_refl _, Int.le_refl _⟩
  | succ n ih =>
    obtain ⟨e, l0, l1⟩ := ih (by omega)
    rw [List.range_succ, List.foldl_append, e]
    have hp : ∀ a b : Int, 0 ≤ a ∧ a ≤ 255 → 0 ≤ b ∧ b ≤ 255 → 0 ≤ a * b ∧ a * b ≤ 65025 := fun a b ha hb => ⟨Int.mul_nonneg ha.1 hb.1, by
      have := Int.mul_le_mul ha.2 hb.2 hb.1 (by decide : (0 : Int) ≤ 255)
      omega⟩
    have p1 := hp _ _ (hh n) (hr (i - n))
    have p2 := hp _ _ (hh n) (hr (i + 17 - n))
    have hc := hh n
    show (bif Nat.ble n i then w32 (csum (termR h r i) n + w32 (h n * r (i - n))) else w32 (csum (termR h r i) n + w32 (w32 (h n * 320) * r (i + 17 - n)))) = csum (termR h r i) n + termR h r i n ∧ 0 ≤ csum (termR h r i) n + termR h r i n ∧ csum (termR h r i) n + termR h r i n ≤ ((n + 1 : Nat) : Int) * 20808000
    have e320 : h n * 320 * r (i + 17 - n) = 320 * (h n * r (i + 17 - n)) := by grind
    by_cases hni : n ≤ i
    · have hb : Nat.ble n i = true := Nat.ble_eq_true_of_le hni
      have ht : termR h r i n = h n * r (i - n) := by unfold termR; rw [if_pos hni]
      rw [hb, ht]
      simp only [cond_true]
      rw [w32_id (h n * r (i - n)) (by omega) (by omega), w32_id _ (by omega) (by omega)]
      refine ⟨rfl, by omega, by omega⟩
    · have hb : Nat.ble n i = false := by
        cases hx : Nat.ble n i with
        | false => rfl
        | true => exact absurd (Nat.le_of_ble_eq_true hx) hni
      have ht : termR h r i n = h n * 320 * r (i + 17 - n) := by unfold termR; rw [if_neg hni]
      rw [hb, ht]
      simp only [cond_false]
      rw [w32_id (h n * 320) (by omega) (by omega), e320, w32_id (320 * (h n * r (i + 17 - n))) (by omega) (by omega), w32_id _ (by omega) (by omega)]
      refine ⟨rfl, by omega, by omega⟩

theorem bval_split (x : Nat → Int) (j m : Nat) : bval x (j + m) = bval x j + 256 ^ j * bval (fun i => x (j + i)) m := by
  induction m with
  | zero => simp [bval]
  | succ m ih =>
    show bval x (j + m) + x (j + m) * 256 ^ (j + m) = bval x j + 256 ^ j * (bval (fun i => x (j + i)) m + x (j + m) * 256 ^ m)
    rw [ih, Int.pow_add]
    grind
theorem bval_mul (a : Int) (x : Nat → Int) (n : Nat) : bval (fun i => a * x i) n = a * bval x n := by
  induction n with
  | zero => simp [bval]
  | succ n ih => simp only [bval]; rw [ih]; grind

theorem row_val (h r : Nat → Int) (j : Nat) (hj : j < 17) : bval (fun i => termR h r i j) 17 = h j * (256 ^ j * bval r 17 + (320 - 256 ^ 17) * bval (fun i => r (17 - j + i)) j) := by
  obtain ⟨m, hm⟩ : ∃ m, 17 = j + m := ⟨17 - j, by omega⟩
  have hm' : 17 - j = m := by omega
  have e1 : bval (fun i => termR h r i j) 17 = bval (fun i => h j * 320 * r (m + i)) j + 256 ^ j * bval (fun i => h j * r i) m := by
    rw [hm, bval_split]
    congr 1
    · refine bval_congr _ _ _ fun i hi => ?_
      unfold termR
      rw [if_neg (by omega), show i + 17 - j = m + i by omega]
    · congr 1
      refine bval_congr _ _ _ fun i hi => ?_
      unfold termR
      rw [if_pos (by omega), show j + i - j = i by omega]
  have e2 : bval r 17 = bval r m + 256 ^ m * bval (fun i => r (m + i)) j := by
    rw [show 17 = m + j by omega, bval_split]
  have e3 : (256 : Int) ^ 17 = 256 ^ j * 256 ^ m := by rw [← Int.pow_add, ← hm]
  rw [e1, hm', e2, e3, bval_mul, bval_mul]
  grind

theorem csum_congr (s t : Nat → Int) (n : Nat) (h : ∀ i, i < n → s i = t i) : csum s n = csum t n := by
  induction n with
  | zero => rfl
  | succ n ih => simp only [csum]; rw [ih fun i hi => h i (by omega), h n (by omega)]
theorem csum_lin (y : Nat → Int) (R M : Int) (h : Nat → Int) (n : Nat) : csum (fun j => h j * (256 ^ j * R + M * y j)) n = bval h n * R + M * csum (fun j => h j * y j) n := by
  induction n with
  | zero => simp [csum, bval]
  | succ n ih => simp only [csum, bval]; rw [ih]; grind

theorem coef_val (h r : Nat → Int) (hh : ∀ i, 0 ≤ h i ∧ h i ≤ 255) (hr : ∀ i, 0 ≤ r i ∧ r i ≤ 255) :
    (∀ i, 0 ≤ coefL h r i ∧ coefL h r i ≤ 353736000) ∧ ∃ q, bval (coefL h r) 17 = bval h 17 * bval r 17 + q * pp := by
  have hc : ∀ i, coefL h r i = csum (termR h r i) 17 := fun i => (coef_sum h r hh hr i 17 (Nat.le_refl _)).1
  refine ⟨fun i => by rw [hc i]; have := (coef_sum h r hh hr i 17 (Nat.le_refl _)).2; omega, -64 * csum (fun j => h j * bval (fun i => r (17 - j + i)) j) 17, ?_⟩
  rw [bval_congr (coefL h r) _ 17 fun i _ => hc i]
  rw [bval_csum (fun j i => termR h r i j) 17 17, csum_congr _ _ 17 fun j hj => row_val h r j hj, csum_lin]
  simp only [Int.reducePow]
  unfold pp
  grind

theorem chain_wide (x : Nat → Int) (u : Int) (hx : ∀ i, 0 ≤ x i + cU x u i ∧ x i + cU x u i < 4294967296) (n : Nat) : (List.range n).foldl (stepR x) ([], u) = (upTo n (cB x u), cU x u n) := by
  induction n with
  | zero => rfl
  | succ n ih =>
    rw [List.range_succ, List.foldl_append, ih]
    have h1 := hx n
    show (upTo n (cB x u) ++ [bits .and .u32 (w32 (cU x u n + x n)) 255], w32 (cU x u n + x n) / (2 ^ 8 : Nat)) = _
    rw [Int.add_comm (cU x u n), w32_id _ h1.1 h1.2, and32 _ h1.1 h1.2]
    simp only [upTo, List.range_succ, List.map_append, List.map_cons, List.map_nil, cU, cB]
    rfl

def RTc : F2 := fun h r => at_ (timesR h r)

theorem cU_small (x : Nat → Int) (u D : Int) (hD : 1 ≤ D) (h : ∀ i, 0 ≤ x i ∧ x i ≤ 255) (hu : 0 ≤ u ∧ u ≤ D) (i : Nat) : 0 ≤ cU x u i ∧ cU x u i ≤ D := by
  induction i with
  | zero => exact hu
  | succ i ih =>
    simp only [cU]
    have := h i
    omega

theorem reft_val (h r : Nat → Int) (hh : ∀ i, 0 ≤ h i ∧ h i ≤ 255) (hr : ∀ i, 0 ≤ r i ∧ r i ≤ 255) :
    (∀ i, 0 ≤ RTc h r i ∧ RTc h r i ≤ 255) ∧ RTc h r 16 ≤ 4 ∧ ∃ q, bval (RTc h r) 17 = bval h 17 * bval r 17 + q * pp := by
  obtain ⟨hx, q, hq⟩ := coef_val h r hh hr
  generalize hcx : coefL h r = x at *
  have hU := cU_bound x 0 1387200 (fun i => by have := hx i; omega) (by omega)
  have e1 : fold1 x = (upTo 16 (cB x 0), cU x 0 16) := chain_wide x 0 (fun i => by have := hx i; have := hU i; omega) 16
  have hU16 := hU 16
  have hx16 := hx 16
  have eT : top1 x = cU x 0 16 + x 16 := by unfold top1; rw [e1]; exact w32_id _ (by omega) (by omega)
  generalize hT : cU x 0 16 + x 16 = T at *
  have hc4 : ((2 ^ 2 : Nat) : Int) = 4 := by decide
  generalize hy : (fun j => (fold1 x).1.getD j 0) = y at *
  have hyi : ∀ i, i < 16 → y i = cB x 0 i := fun i hi => by rw [← hy]; show (fold1 x).1.getD i 0 = _; rw [e1]; exact upTo_getD_at hi
  have hyr : ∀ i, 0 ≤ y i ∧ y i ≤ 255 := fun i => by
    by_cases hi : i < 16
    · rw [hyi i hi]; exact cB_range _ _ _
    · have : y i = 0 := by rw [← hy]; show (fold1 x).1.getD i 0 = 0; rw [e1]; simp [upTo, hi]
      rw [this]; omega
  have hu : w32 (5 * (top1 x / (2 ^ 2 : Nat))) = 5 * (T / 4) := by rw [eT, hc4]; exact w32_id _ (by omega) (by omega)
  have hV := cU_small y (5 * (T / 4)) 1073741824 (by omega) hyr (by omega)
  have e2 : fold2 x = (upTo 16 (cB y (5 * (T / 4))), cU y (5 * (T / 4)) 16) := by
    have : fold2 x = (List.range 16).foldl (stepR y) ([], w32 (5 * (top1 x / (2 ^ 2 : Nat)))) := by unfold fold2; rw [hy]
    rw [this, hu]
    exact chain_wide y _ (fun i => by have := hyr i; have := hV i; omega) 16
  have c1 := chain_val x 0 16
  have c2 := chain_val y (5 * (T / 4)) 16
  have r1 := bval_range (cB y (5 * (T / 4))) (cB_range _ _) 16
  have r2 := bval_range y hyr 16
  have hyb : bval y 16 = bval (cB x 0) 16 := bval_congr _ _ 16 hyi
  simp only [Int.reducePow] at c1 c2 r1 r2
  have hV16 := hV 16
  generalize hU' : cU y (5 * (T / 4)) 16 = U' at *
  have hU1 : U' ≤ 1 := by omega
  have hT3 : bits .and .u32 T 3 = T % 4 := and32_3 _ (by omega) (by omega)
  have hlast : w32 (bits .and .u32 (top1 x) 3 + (fold2 x).2) = T % 4 + U' := by
    rw [eT, hT3, e2]
    exact w32_id _ (by omega) (by omega)
  have ht : timesR h r = upTo 16 (cB y (5 * (T / 4))) ++ [T % 4 + U'] := by
    unfold timesR
    rw [hcx, hlast, e2]
  have a1 : ∀ i, i < 16 → RTc h r i = cB y (5 * (T / 4)) i := fun i hi => by
    unfold RTc at_
    rw [ht]
    have e : (upTo 16 (cB y (5 * (T / 4))) ++ [T % 4 + U']).getD i 0 = (upTo 16 (cB y (5 * (T / 4)))).getD i 0 := by
      unfold List.getD
      rw [List.getElem?_append_left (by simpa [upTo] using hi)]
    rw [e, upTo_getD_at hi]
  have a2 : RTc h r 16 = T % 4 + U' := by
    unfold RTc at_
    rw [ht]
    rfl
  refine ⟨fun i => ?_, by rw [a2]; omega, q - T / 4, ?_⟩
  · by_cases hi : i < 16
    · rw [a1 i hi]; exact cB_range _ _ _
    · by_cases hi6 : i = 16
      · rw [hi6, a2]; omega
      · have : RTc h r i = 0 := by
          unfold RTc at_
          rw [ht]
          simp [upTo, List.getD]
          rw [List.getElem?_eq_none (by simp; omega)]
          rfl
        rw [this]; omega
  · have e : bval (RTc h r) 17 = bval (RTc h r) 16 + RTc h r 16 * 256 ^ 16 := rfl
    have ex : bval x 17 = bval x 16 + x 16 * 256 ^ 16 := rfl
    rw [e, bval_congr (RTc h r) _ 16 a1, a2, Int.sub_mul]
    simp only [Int.reducePow] at ex ⊢
    unfold pp at *
    omega
end Go.Proofs.Ytiemgibnmanhbaa
