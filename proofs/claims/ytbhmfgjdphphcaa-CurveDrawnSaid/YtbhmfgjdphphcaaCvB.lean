/-
  One carry over sixteen digits, signed. Conditions: the bounds told.
-/
import Derived.Test.YtbhmfgjdphphcaaCvA
import Derived.Test.YtbhmfgjdphphcaaCrvN
namespace Go.Proofs.Ytbhmfgjdphphcaa
open Go Go.SX

theorem wl_id (n : Int) (h0 : -9223372036854775808 ≤ n) (h1 : n < 9223372036854775808) : wl n = n := by unfold wl; rw [IntKind.wrap_i64]; omega
theorem map_set (m : Nat) (f : Nat → Int) (k : Nat) (v : Int) : ((List.range m).map f).set k v = (List.range m).map fun i => if i = k then v else f i := by
  apply List.ext_getElem?
  intro i
  rw [List.getElem?_set]
  by_cases hk : k = i
  · subst hk
    by_cases hi : k < m
    · simp [hi]
    · simp [hi]
  · rw [if_neg hk]
    by_cases hi : i < m
    · simp [hi, Ne.symm hk]
    · simp [hi]
theorem map_get (m : Nat) (f : Nat → Int) (k : Nat) (h : k < m) : ((List.range m).map f).getD k 0 = f k := by simp [List.getD_eq_getElem?_getD, h]
theorem map_congr (m : Nat) (f g : Nat → Int) (h : ∀ i, i < m → f i = g i) : (List.range m).map f = (List.range m).map g := List.map_congr_left fun i hi => h i (List.mem_range.1 hi)

def cF (x : Nat → Int) (n i : Nat) : Int := if i < n then gD L16 x 0 i else if i = n then x i + gU L16 x 0 n else x i
/-- Sixteen digits carried: what runs out comes back, 38 times. -/
def crF (x : Nat → Int) : Nat → Int := fun i => if i = 0 then gD L16 x 0 0 + 38 * gU L16 x 0 16 else gD L16 x 0 i

theorem carC_chain (x : Nat → Int) (M : Int) (hM : 0 ≤ M ∧ M ≤ 1099511627776) (hx : ∀ i, i < 16 → -(65535 * M) ≤ x i ∧ x i ≤ 65535 * M) (n : Nat) (hn : n ≤ 15) :
    (List.range n).foldl stepC (upTo 16 x) = (List.range 16).map (cF x n) := by
  induction n with
  | zero =>
    refine map_congr 16 _ _ fun i _ => ?_
    unfold cF
    by_cases h : i = 0
    · subst h; simp [gU]
    · simp [h]
  | succ n ih =>
    rw [List.range_succ, List.foldl_append, ih (by omega)]
    have hc := carry_small x 0 M 16 hx (by omega) n (by omega)
    have hc1 := carry_small x 0 M 16 hx (by omega) (n + 1) (by omega)
    have hxn := hx n (by omega)
    have hxn1 := hx (n + 1) (by omega)
    have e0 : ((List.range 16).map (cF x n)).getD n 0 = x n + gU L16 x 0 n := by rw [map_get 16 _ n (by omega)]; simp [cF]
    have e1 : (x n + gU L16 x 0 n) / ((2 ^ 16 : Nat) : Int) = gU L16 x 0 (n + 1) := rfl
    have hm : gD L16 x 0 n = x n + gU L16 x 0 n - gU L16 x 0 (n + 1) * 65536 := by
      show (x n + gU L16 x 0 n) % 65536 = x n + gU L16 x 0 n - (x n + gU L16 x 0 n) / 65536 * 65536
      omega
    have hw : wl (x n + gU L16 x 0 n - wl (gU L16 x 0 (n + 1) * ((2 ^ 16 : Nat) : Int))) = gD L16 x 0 n := by
      have e : ((2 ^ 16 : Nat) : Int) = 65536 := by decide
      rw [e, wl_id (gU L16 x 0 (n + 1) * 65536) (by omega) (by omega), hm]
      exact wl_id _ (by omega) (by omega)
    have hb : Nat.blt n 15 = true := by simpa [Nat.blt_eq] using (show n < 15 by omega)
    show (bif Nat.blt n 15 then
        (((List.range 16).map (cF x n)).set n (wl (((List.range 16).map (cF x n)).getD n 0 - wl (((List.range 16).map (cF x n)).getD n 0 / ((2 ^ 16 : Nat) : Int) * ((2 ^ 16 : Nat) : Int))))).set (n + 1)
          (wl ((((List.range 16).map (cF x n)).set n (wl (((List.range 16).map (cF x n)).getD n 0 - wl (((List.range 16).map (cF x n)).getD n 0 / ((2 ^ 16 : Nat) : Int) * ((2 ^ 16 : Nat) : Int))))).getD (n + 1) 0 + ((List.range 16).map (cF x n)).getD n 0 / ((2 ^ 16 : Nat) : Int)))
      else _) = _
    rw [hb, cond_true, e0, e1, hw, map_set, map_get 16 _ (n + 1) (by omega), if_neg (by omega), map_set]
    refine map_congr 16 _ _ fun i hi => ?_
    have hF1 : cF x n (n + 1) = x (n + 1) := by unfold cF; rw [if_neg (by omega), if_neg (by omega)]
    rw [hF1, wl_id _ (by omega) (by omega)]
    by_cases h1 : i = n + 1
    · subst h1
      rw [if_pos rfl]
      unfold cF
      rw [if_neg (by omega), if_pos rfl]
    · rw [if_neg h1]
      by_cases h2 : i = n
      · subst h2
        rw [if_pos rfl]
        unfold cF
        rw [if_pos (by omega)]
      · rw [if_neg h2]
        unfold cF
        by_cases h3 : i < n
        · rw [if_pos h3, if_pos (by omega)]
        · rw [if_neg h3, if_neg h2, if_neg (by omega), if_neg h1]

theorem carC_eq (x : Nat → Int) (M : Int) (hM : 0 ≤ M ∧ M ≤ 1099511627776) (hx : ∀ i, i < 16 → -(65535 * M) ≤ x i ∧ x i ≤ 65535 * M) : carC (upTo 16 x) = upTo 16 (crF x) := by
  unfold carC
  rw [show List.range 16 = List.range 15 ++ [15] from List.range_succ, List.foldl_append, carC_chain x M hM hx 15 (Nat.le_refl _)]
  have hc := carry_small x 0 M 16 hx (by omega) 15 (by omega)
  have hc1 := carry_small x 0 M 16 hx (by omega) 16 (by omega)
  have hxn := hx 15 (by omega)
  have e0 : ((List.range 16).map (cF x 15)).getD 15 0 = x 15 + gU L16 x 0 15 := by rw [map_get 16 _ 15 (by omega)]; simp [cF]
  have e1 : (x 15 + gU L16 x 0 15) / ((2 ^ 16 : Nat) : Int) = gU L16 x 0 16 := rfl
  have hm : gD L16 x 0 15 = x 15 + gU L16 x 0 15 - gU L16 x 0 16 * 65536 := by
    show (x 15 + gU L16 x 0 15) % 65536 = x 15 + gU L16 x 0 15 - (x 15 + gU L16 x 0 15) / 65536 * 65536
    omega
  have hw : wl (x 15 + gU L16 x 0 15 - wl (gU L16 x 0 16 * ((2 ^ 16 : Nat) : Int))) = gD L16 x 0 15 := by
    have e : ((2 ^ 16 : Nat) : Int) = 65536 := by decide
    rw [e, wl_id (gU L16 x 0 16 * 65536) (by omega) (by omega), hm]
    exact wl_id _ (by omega) (by omega)
  have hd0 : 0 ≤ gD L16 x 0 0 ∧ gD L16 x 0 0 < 65536 := gD_range L16 (by decide) x 0 0
  have hw0 : wl (gD L16 x 0 0 + wl (38 * gU L16 x 0 16)) = gD L16 x 0 0 + 38 * gU L16 x 0 16 := by
    rw [wl_id (38 * gU L16 x 0 16) (by omega) (by omega), wl_id _ (by omega) (by omega)]
  show (((List.range 16).map (cF x 15)).set 15 (wl (((List.range 16).map (cF x 15)).getD 15 0 - wl (((List.range 16).map (cF x 15)).getD 15 0 / ((2 ^ 16 : Nat) : Int) * ((2 ^ 16 : Nat) : Int))))).set 0
      (wl ((((List.range 16).map (cF x 15)).set 15 (wl (((List.range 16).map (cF x 15)).getD 15 0 - wl (((List.range 16).map (cF x 15)).getD 15 0 / ((2 ^ 16 : Nat) : Int) * ((2 ^ 16 : Nat) : Int))))).getD 0 0 + wl (38 * (((List.range 16).map (cF x 15)).getD 15 0 / ((2 ^ 16 : Nat) : Int))))) = _
  rw [e0, e1, hw, map_set, map_get 16 _ 0 (by omega), if_neg (by omega), map_set]
  refine map_congr 16 _ _ fun i hi => ?_
  have hF0 : cF x 15 0 = gD L16 x 0 0 := by unfold cF; rw [if_pos (by omega)]
  rw [hF0, hw0]
  unfold crF
  by_cases h0 : i = 0
  · subst h0; rw [if_pos rfl, if_pos rfl]
  · rw [if_neg h0, if_neg h0]
    by_cases h15 : i = 15
    · subst h15; rw [if_pos rfl]
    · rw [if_neg h15]
      unfold cF
      rw [if_pos (by omega)]

/-- The modulus. -/
def P25 : Int := 57896044618658097711785492504343953926634992332820282019728792003956564819949
theorem crF_val (x : Nat → Int) : gv L16 (crF x) 16 = gv L16 x 16 - 2 * gU L16 x 0 16 * P25 := by
  have h := chain L16 (by decide) x 0 16
  have e : gv L16 (crF x) 16 = gv L16 (gD L16 x 0) 16 + 38 * gU L16 x 0 16 := by
    have s1 := gv_split L16 (crF x) 1 15
    have s2 := gv_split L16 (gD L16 x 0) 1 15
    have e1 : gv L16 (fun i => crF x (1 + i)) 15 = gv L16 (fun i => gD L16 x 0 (1 + i)) 15 := gv_congr _ _ _ 15 fun i _ => by unfold crF; rw [if_neg (by omega)]
    rw [e1] at s1
    have g1 : gv L16 (crF x) 1 = gD L16 x 0 0 + 38 * gU L16 x 0 16 := by simp [gv, crF]
    have g2 : gv L16 (gD L16 x 0) 1 = gD L16 x 0 0 := by simp [gv]
    rw [g1] at s1
    rw [g2] at s2
    show gv L16 (crF x) (1 + 15) = gv L16 (gD L16 x 0) (1 + 15) + _
    rw [s1, s2]
    omega
  rw [e]
  unfold P25
  have e2 : (L16 : Int) ^ 16 = 115792089237316195423570985008687907853269984665640564039457584007913129639936 := by decide
  rw [e2] at h
  omega
end Go.Proofs.Ytbhmfgjdphphcaa
