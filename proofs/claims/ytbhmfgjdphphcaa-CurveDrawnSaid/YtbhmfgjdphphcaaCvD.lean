/-
  The document's carry and product, sums and differences, by value. Conditions: the bounds told.
-/
import Derived.Test.YtbhmfgjdphphcaaCvC
namespace Go.Proofs.Ytbhmfgjdphphcaa
open Go Go.SX

theorem carR_chain (x : Nat → Int) (M : Int) (hM : 0 ≤ M ∧ M ≤ 1099511627776) (hx : ∀ i, i < 16 → -(65535 * M) ≤ x i ∧ x i ≤ 65535 * M) (n : Nat) (hn : n ≤ 15) :
    (List.range n).foldl stepR (upTo 16 x) = (List.range 16).map (cF x n) := by
  induction n with
  | zero =>
    refine map_congr 16 _ _ fun i _ => ?_
    unfold cF
    by_cases h : i = 0
    · subst h; simp [gU]
    · simp [h]
  | succ n ih =>
    rw [List.range_succ, List.foldl_append, ih (by omega)]
    have hc := carry_small x 0 M 16 hx (by omega) n (by omega)
    have hc1 := carry_small x 0 M 16 hx (by omega) (n + 1) (by omega)
    have hxn := hx n (by omega)
    have hxn1 := hx (n + 1) (by omega)
    have e0 : ((List.range 16).map (cF x n)).getD n 0 = x n + gU L16 x 0 n := by rw [map_get 16 _ n (by omega)]; simp [cF]
    have ew : wl (x n + gU L16 x 0 n + 65536) = x n + gU L16 x 0 n + 65536 := wl_id _ (by omega) (by omega)
    have e1 : (x n + gU L16 x 0 n + 65536) / ((2 ^ 16 : Nat) : Int) = gU L16 x 0 (n + 1) + 1 := by
      show (x n + gU L16 x 0 n + 65536) / 65536 = (x n + gU L16 x 0 n) / 65536 + 1
      omega
    have hm : gD L16 x 0 n = x n + gU L16 x 0 n - gU L16 x 0 (n + 1) * 65536 := by
      show (x n + gU L16 x 0 n) % 65536 = x n + gU L16 x 0 n - (x n + gU L16 x 0 n) / 65536 * 65536
      omega
    have hb : Nat.blt n 15 = true := by simpa [Nat.blt_eq] using (show n < 15 by omega)
    show ((bif Nat.blt n 15 then
        (((List.range 16).map (cF x n)).set n (wl (((List.range 16).map (cF x n)).getD n 0 + 65536))).set (n + 1) (wl (wl ((((List.range 16).map (cF x n)).set n (wl (((List.range 16).map (cF x n)).getD n 0 + 65536))).getD (n + 1) 0 + wl (((List.range 16).map (cF x n)).getD n 0 + 65536) / ((2 ^ 16 : Nat) : Int)) - 1))
      else _).set n (wl ((bif Nat.blt n 15 then
        (((List.range 16).map (cF x n)).set n (wl (((List.range 16).map (cF x n)).getD n 0 + 65536))).set (n + 1) (wl (wl ((((List.range 16).map (cF x n)).set n (wl (((List.range 16).map (cF x n)).getD n 0 + 65536))).getD (n + 1) 0 + wl (((List.range 16).map (cF x n)).getD n 0 + 65536) / ((2 ^ 16 : Nat) : Int)) - 1))
      else _).getD n 0 - wl (wl (((List.range 16).map (cF x n)).getD n 0 + 65536) / ((2 ^ 16 : Nat) : Int) * ((2 ^ 16 : Nat) : Int))))) = _
    have hF1 : cF x n (n + 1) = x (n + 1) := by unfold cF; rw [if_neg (by omega), if_neg (by omega)]
    have e16 : ((2 ^ 16 : Nat) : Int) = 65536 := by decide
    rw [hb, cond_true, e0, ew, e1, map_set, map_get 16 _ (n + 1) (by omega), if_neg (by omega), hF1, map_set, map_get 16 _ n (by omega), if_neg (by omega), if_pos rfl,
      wl_id (x (n + 1) + (gU L16 x 0 (n + 1) + 1)) (by omega) (by omega), wl_id (x (n + 1) + (gU L16 x 0 (n + 1) + 1) - 1) (by omega) (by omega), e16, wl_id ((gU L16 x 0 (n + 1) + 1) * 65536) (by omega) (by omega),
      wl_id (x n + gU L16 x 0 n + 65536 - (gU L16 x 0 (n + 1) + 1) * 65536) (by omega) (by omega), map_set]
    refine map_congr 16 _ _ fun i hi => ?_
    by_cases h2 : i = n
    · subst h2
      rw [if_pos rfl]
      unfold cF
      rw [if_pos (by omega), hm]
      omega
    · rw [if_neg h2]
      by_cases h1 : i = n + 1
      · subst h1
        rw [if_pos rfl]
        unfold cF
        rw [if_neg (by omega), if_pos rfl]
        omega
      · rw [if_neg h1, if_neg h2]
        unfold cF
        by_cases h3 : i < n
        · rw [if_pos h3, if_pos (by omega)]
        · rw [if_neg h3, if_neg h2, if_neg (by omega), if_neg h1]

theorem carR_eq (x : Nat → Int) (M : Int) (hM : 0 ≤ M ∧ M ≤ 1099511627776) (hx : ∀ i, i < 16 → -(65535 * M) ≤ x i ∧ x i ≤ 65535 * M) : carR x = upTo 16 (crF x) := by
  unfold carR
  rw [show List.range 16 = List.range 15 ++ [15] from List.range_succ, List.foldl_append, carR_chain x M hM hx 15 (Nat.le_refl _)]
  have hc := carry_small x 0 M 16 hx (by omega) 15 (by omega)
  have hc1 := carry_small x 0 M 16 hx (by omega) 16 (by omega)
  have hxn := hx 15 (by omega)
  have e0 : ((List.range 16).map (cF x 15)).getD 15 0 = x 15 + gU L16 x 0 15 := by rw [map_get 16 _ 15 (by omega)]; simp [cF]
  have ew : wl (x 15 + gU L16 x 0 15 + 65536) = x 15 + gU L16 x 0 15 + 65536 := wl_id _ (by omega) (by omega)
  have e1 : (x 15 + gU L16 x 0 15 + 65536) / ((2 ^ 16 : Nat) : Int) = gU L16 x 0 16 + 1 := by
    show (x 15 + gU L16 x 0 15 + 65536) / 65536 = (x 15 + gU L16 x 0 15) / 65536 + 1
    omega
  have hm : gD L16 x 0 15 = x 15 + gU L16 x 0 15 - gU L16 x 0 16 * 65536 := by
    show (x 15 + gU L16 x 0 15) % 65536 = x 15 + gU L16 x 0 15 - (x 15 + gU L16 x 0 15) / 65536 * 65536
    omega
  have hd0 : 0 ≤ gD L16 x 0 0 ∧ gD L16 x 0 0 < 65536 := gD_range L16 (by decide) x 0 0
  have e16 : ((2 ^ 16 : Nat) : Int) = 65536 := by decide
  have hF0 : cF x 15 0 = gD L16 x 0 0 := by unfold cF; rw [if_pos (by omega)]
  show ((((List.range 16).map (cF x 15)).set 15 (wl (((List.range 16).map (cF x 15)).getD 15 0 + 65536))).set 0 (wl ((((List.range 16).map (cF x 15)).set 15 (wl (((List.range 16).map (cF x 15)).getD 15 0 + 65536))).getD 0 0 + wl (38 * wl (wl (((List.range 16).map (cF x 15)).getD 15 0 + 65536) / ((2 ^ 16 : Nat) : Int) - 1))))).set 15
    (wl (((((List.range 16).map (cF x 15)).set 15 (wl (((List.range 16).map (cF x 15)).getD 15 0 + 65536))).set 0 (wl ((((List.range 16).map (cF x 15)).set 15 (wl (((List.range 16).map (cF x 15)).getD 15 0 + 65536))).getD 0 0 + wl (38 * wl (wl (((List.range 16).map (cF x 15)).getD 15 0 + 65536) / ((2 ^ 16 : Nat) : Int) - 1))))).getD 15 0 - wl (wl (((List.range 16).map (cF x 15)).getD 15 0 + 65536) / ((2 ^ 16 : Nat) : Int) * ((2 ^ 16 : Nat) : Int)))) = _
  rw [e0, ew, e1, map_set, map_get 16 _ 0 (by omega), if_neg (by omega), hF0, map_set, map_get 16 _ 15 (by omega), if_neg (by omega), if_pos rfl, wl_id (gU L16 x 0 16 + 1 - 1) (by omega) (by omega),
    wl_id (38 * (gU L16 x 0 16 + 1 - 1)) (by omega) (by omega), wl_id (gD L16 x 0 0 + 38 * (gU L16 x 0 16 + 1 - 1)) (by omega) (by omega), e16, wl_id ((gU L16 x 0 16 + 1) * 65536) (by omega) (by omega),
    wl_id (x 15 + gU L16 x 0 15 + 65536 - (gU L16 x 0 16 + 1) * 65536) (by omega) (by omega), map_set]
  refine map_congr 16 _ _ fun i hi => ?_
  unfold crF
  by_cases h15 : i = 15
  · subst h15
    rw [if_pos rfl, if_neg (by omega), hm]
    omega
  · rw [if_neg h15]
    by_cases h0 : i = 0
    · subst h0; rw [if_pos rfl, if_pos rfl]; omega
    · rw [if_neg h0, if_neg h0, if_neg h15]
      unfold cF
      rw [if_pos (by omega)]

def RCc : F1 := fun a => at_ (carR a)
theorem carR_twice (x : Nat → Int) (hx : ∀ i, i < 16 → -1125882726973440 ≤ x i ∧ x i ≤ 1125882726973440) :
    upTo 16 (RCc (K 16 (RCc (at_ (upTo 16 x))))) = upTo 16 (crF (crF x)) := by
  have h1 := crF_first x 17179869184 (by omega) (fun i hi => by have := hx i hi; omega)
  have hb : ∀ i, i < 16 → -(65535 * 17179869184) ≤ crF x i ∧ crF x i ≤ 65535 * 17179869184 := fun i hi => by
    by_cases h : i = 0
    · subst h; have := h1.1; omega
    · have := h1.2 i hi h; omega
  have cong : ∀ y z : Nat → Int, upTo 16 y = upTo 16 z → carR y = carR z := fun y z h => by unfold carR; rw [h]
  have k1 : upTo 16 (at_ (upTo 16 x)) = upTo 16 x := upTo_list (by simp [upTo])
  have e1 : carR (at_ (upTo 16 x)) = upTo 16 (crF x) := by rw [cong _ x k1]; exact carR_eq x 17179869184 (by omega) (fun i hi => by have := hx i hi; omega)
  have k2 : upTo 16 (K 16 (RCc (at_ (upTo 16 x)))) = upTo 16 (crF x) := by
    refine map_congr 16 _ _ fun i hi => ?_
    rw [K_at 16 _ i hi]
    show at_ (carR (at_ (upTo 16 x))) i = _
    rw [e1]
    exact at_upTo _ 16 i hi
  have e2 : carR (K 16 (RCc (at_ (upTo 16 x)))) = upTo 16 (crF (crF x)) := by rw [cong _ _ k2]; exact carR_eq (crF x) 17179869184 (by omega) hb
  refine map_congr 16 _ _ fun i hi => ?_
  show at_ (carR (K 16 (RCc (at_ (upTo 16 x))))) i = _
  rw [e2]
  exact at_upTo _ 16 i hi
theorem mulR_ok : MulOK fun a b => at_ (mulR RCc a b) := by
  intro a b ha hb
  obtain ⟨x, e, hx, hv⟩ := prod_ok a b ha hb
  have ht := (carC_twice x hx).2
  have e3 : mulR RCc a b = upTo 16 (crF (crF x)) := by unfold mulR; rw [e]; exact carR_twice x hx
  show tgt (at_ (mulR RCc a b)) ∧ tf (V16 (at_ (mulR RCc a b))) = _
  rw [e3]
  refine ⟨tgt_congr (fun i hi => at_upTo _ 16 i hi) ht, ?_⟩
  rw [← hv, ← twice_val x]
  exact congrArg tf (gv_congr _ _ _ 16 fun i hi => at_upTo _ 16 i hi)

/-! Sums and differences. -/
theorem add_at (a b : Nat → Int) (M : Int) (hM : M ≤ 1099511627776) (ha : okN M a) (hb : okN M b) (i : Nat) (hi : i < 16) : at_ (addL a b) i = a i + b i := by
  unfold addL
  rw [at_upTo _ 16 i hi]
  have := ha i hi; have := hb i hi
  exact wl_id _ (by omega) (by omega)
theorem sub_at (a b : Nat → Int) (M : Int) (hM : M ≤ 1099511627776) (ha : okN M a) (hb : okN M b) (i : Nat) (hi : i < 16) : at_ (subL a b) i = a i - b i := by
  unfold subL
  rw [at_upTo _ 16 i hi]
  have := ha i hi; have := hb i hi
  exact wl_id _ (by omega) (by omega)
def AddOK (AD : F2) : Prop := ∀ a b, okN 131072 a → okN 131072 b → okN 262144 (AD a b) ∧ tf (V16 (AD a b)) = tf (V16 a) + tf (V16 b)
def SubOK (SB : F2) : Prop := ∀ a b, okN 131072 a → okN 131072 b → okN 262144 (SB a b) ∧ tf (V16 (SB a b)) = tf (V16 a) - tf (V16 b)
theorem add_ok : AddOK fun a b => at_ (addL a b) := by
  intro a b ha hb
  have h := add_at a b 131072 (by decide) ha hb
  refine ⟨fun i hi => by have := ha i hi; have := hb i hi; show _ ≤ at_ (addL a b) i ∧ at_ (addL a b) i ≤ _; rw [h i hi]; omega, ?_⟩
  rw [← tf_add, ← gv_add]
  exact congrArg tf (gv_congr _ _ _ 16 h)
theorem sub_ok : SubOK fun a b => at_ (subL a b) := by
  intro a b ha hb
  have h := sub_at a b 131072 (by decide) ha hb
  refine ⟨fun i hi => by have := ha i hi; have := hb i hi; show _ ≤ at_ (subL a b) i ∧ at_ (subL a b) i ≤ _; rw [h i hi]; omega, ?_⟩
  rw [← tf_sub, ← gv_sub]
  exact congrArg tf (gv_congr _ _ _ 16 h)
end Go.Proofs.Ytbhmfgjdphphcaa
