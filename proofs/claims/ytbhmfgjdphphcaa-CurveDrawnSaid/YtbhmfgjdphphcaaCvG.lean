/-
  Both writings of a number come to its bytes below the modulus. Conditions: parts as a product leaves them.
-/
import Derived.Test.YtbhmfgjdphphcaaCvF
namespace Go.Proofs.Ytbhmfgjdphphcaa
open Go Go.SX

/-- The modulus, part by part. -/
def pd (i : Nat) : Int := if i = 0 then 65517 else if i = 15 then 32767 else 65535
theorem pd_val : gv L16 pd 16 = P25 := by decide +kernel
def lx (a : Nat → Int) (i : Nat) : Int := a i - pd i
/-- A number less the modulus, its top part signed. -/
def lsF (a : Nat → Int) (i : Nat) : Int := if i < 15 then gD L16 (lx a) 0 i else lx a i + gU L16 (lx a) 0 i
theorem pd_bd (i : Nat) : 32767 ≤ pd i ∧ pd i ≤ 65535 := by unfold pd; split <;> (try split) <;> omega
theorem lx_bd {a : Nat → Int} (h : full a) (i : Nat) (hi : i < 16) : -65535 ≤ lx a i ∧ lx a i ≤ 65535 := by
  have h1 := h i hi
  have h2 := pd_bd i
  unfold lx
  omega
theorem lx_gU {a : Nat → Int} (h : full a) (i : Nat) (hi : i ≤ 16) : -1 ≤ gU L16 (lx a) 0 i ∧ gU L16 (lx a) 0 i ≤ 0 := by
  induction i with
  | zero => show (-1 : Int) ≤ 0 ∧ (0 : Int) ≤ 0; decide
  | succ i ih =>
    have h1 := ih (by omega)
    have h2 := h i (by omega)
    have h3 := pd_bd i
    have h4 : lx a i = a i - pd i := rfl
    rw [gU_step]
    omega
theorem lsF_val (a : Nat → Int) : V16 (lsF a) = V16 a - P25 := by
  have h := chain L16 (by decide) (lx a) 0 15
  have e1 : gv L16 (lsF a) 15 = gv L16 (gD L16 (lx a) 0) 15 := gv_congr _ _ _ 15 fun i hi => by unfold lsF; rw [if_pos hi]
  have e2 : lsF a 15 = lx a 15 + gU L16 (lx a) 0 15 := by unfold lsF; rw [if_neg (by omega)]
  have e3 : gv L16 (lx a) 16 = gv L16 a 16 - P25 := by rw [← pd_val, ← gv_sub]; rfl
  show gv L16 (lsF a) 15 + lsF a 15 * L16 ^ 15 = _
  rw [e1, e2, ← e3]
  show _ = gv L16 (lx a) 15 + lx a 15 * L16 ^ 15
  rw [Int.add_mul]
  omega
theorem lsF_sign {a : Nat → Int} (h : full a) : (0 ≤ lsF a 15 ↔ P25 ≤ V16 a) ∧ (0 ≤ lsF a 15 → full (lsF a)) := by
  have hv := lsF_val a
  have e2 : lsF a 15 = lx a 15 + gU L16 (lx a) 0 15 := by unfold lsF; rw [if_neg (by omega)]
  have hr := gv_range L16 (by decide) (lsF a) 15 fun i hi => by unfold lsF; rw [if_pos hi]; exact gD_range L16 (by decide) _ _ _
  have e3 : (L16 : Int) ^ 15 = 1766847064778384329583297500742918515827483896875618958121606201292619776 := by decide
  have hv' : gv L16 (lsF a) 15 + lsF a 15 * L16 ^ 15 = V16 a - P25 := hv
  rw [e3] at hr hv'
  have hu := lx_gU h 15 (by omega)
  have hx := lx_bd h 15 (by omega)
  constructor
  · constructor <;> intro hh <;> omega
  · intro h0 i hi
    by_cases hi2 : i < 15
    · have d : 0 ≤ gD L16 (lx a) 0 i ∧ gD L16 (lx a) 0 i < 65536 := gD_range L16 (by decide) (lx a) 0 i
      unfold lsF
      rw [if_pos hi2]
      omega
    · have : i = 15 := by omega
      subst this
      omega

/-! The program's. -/
def lF (a : Nat → Int) (n i : Nat) : Int := if i < n then gD L16 (lx a) 0 i else if i = n then lx a n + gU L16 (lx a) 0 n else a i
theorem less_chain (a : Nat → Int) (h : full a) (n : Nat) (hn : n ≤ 15) : (List.range' 1 n).foldl stepL ((upTo 16 a).set 0 (wl (a 0 - 65517))) = (List.range 16).map (lF a n) := by
  induction n with
  | zero =>
    show (upTo 16 a).set 0 (wl (a 0 - 65517)) = _
    have := h 0 (by omega)
    rw [wl_id _ (by omega) (by omega), show upTo 16 a = (List.range 16).map a from rfl, map_set]
    refine map_congr 16 _ _ fun i _ => ?_
    unfold lF
    by_cases hi : i = 0
    · subst hi; rw [if_pos rfl, if_neg (by omega), if_pos rfl]; show _ = a 0 - 65517 + 0; omega
    · rw [if_neg hi, if_neg (by omega), if_neg hi]
  | succ n ih =>
    rw [List.range'_1_concat, List.foldl_append, ih (by omega)]
    have hu := lx_gU h n (by omega)
    have hu1 := lx_gU h (n + 1) (by omega)
    have hx := lx_bd h n (by omega)
    have ha := h (n + 1) (by omega)
    have hp := pd_bd (n + 1)
    have e0 : ((List.range 16).map (lF a n)).getD (1 + n - 1) 0 = lx a n + gU L16 (lx a) 0 n := by
      rw [show 1 + n - 1 = n from by omega, map_get 16 _ n (by omega)]; unfold lF; rw [if_neg (by omega), if_pos rfl]
    have e16 : ((2 ^ 16 : Nat) : Int) = 65536 := by decide
    show (((List.range 16).map (lF a n)).set (1 + n - 1) (bits .and .i64 (((List.range 16).map (lF a n)).getD (1 + n - 1) 0) 65535)).set (1 + n)
      (wl ((((List.range 16).map (lF a n)).set (1 + n - 1) (bits .and .i64 (((List.range 16).map (lF a n)).getD (1 + n - 1) 0) 65535)).getD (1 + n) 0 + wl (((List.range 16).map (lF a n)).getD (1 + n - 1) 0 / ((2 ^ 16 : Nat) : Int) - bif 1 + n == 15 then 32767 else 65535))) = _
    have ep : (bif 1 + n == 15 then (32767 : Int) else 65535) = pd (n + 1) := by
      unfold pd
      rw [if_neg (by omega)]
      by_cases h15 : n + 1 = 15
      · rw [if_pos h15, show (1 + n == 15) = true from by simpa using (by omega : 1 + n = 15), cond_true]
      · rw [if_neg h15, show (1 + n == 15) = false from by simpa using (by omega : 1 + n ≠ 15), cond_false]
    have eU : (lx a n + gU L16 (lx a) 0 n) / 65536 = gU L16 (lx a) 0 (n + 1) := rfl
    have hF1 : lF a n (1 + n) = a (n + 1) := by unfold lF; rw [if_neg (by omega), if_neg (by omega), Nat.add_comm]
    rw [ep, e0, e16, i64_mask16, eU, show 1 + n - 1 = n from by omega, map_set, map_get 16 _ (1 + n) (by omega), if_neg (by omega), hF1, wl_id (gU L16 (lx a) 0 (n + 1) - pd (n + 1)) (by omega) (by omega), wl_id _ (by omega) (by omega), map_set]
    refine map_congr 16 _ _ fun i _ => ?_
    by_cases h1 : i = 1 + n
    · subst h1
      rw [if_pos rfl]
      unfold lF
      rw [if_neg (by omega), if_pos (by omega)]
      show _ = a (n + 1) - pd (n + 1) + _
      omega
    · rw [if_neg h1]
      by_cases h2 : i = n
      · subst h2
        rw [if_pos rfl]
        unfold lF
        rw [if_pos (by omega)]
        rfl
      · rw [if_neg h2]
        unfold lF
        by_cases h3 : i < n
        · rw [if_pos h3, if_pos (by omega)]
        · rw [if_neg h3, if_neg h2, if_neg (by omega), if_neg (by omega)]
theorem lessL_eq (a : Nat → Int) (h : full a) : lessL a = upTo 16 (lsF a) := by
  unfold lessL
  rw [less_chain a h 15 (Nat.le_refl _)]
  refine map_congr 16 _ _ fun i hi => ?_
  unfold lF lsF
  by_cases h1 : i < 15
  · rw [if_pos h1, if_pos h1]
  · have : i = 15 := by omega
    subst this
    rw [if_neg (by omega), if_pos rfl, if_neg (by omega)]
def LSc : F1 := fun a => at_ (lessL a)
theorem full_congr {x y : Nat → Int} (h : ∀ i, i < 16 → x i = y i) (hy : full y) : full x := fun i hi => by rw [h i hi]; exact hy i hi
theorem lsF_congr {x y : Nat → Int} (h : ∀ i, i < 16 → x i = y i) (i : Nat) (hi : i < 16) : lsF x i = lsF y i := by
  have hl : ∀ j, j < 16 → lx x j = lx y j := fun j hj => by unfold lx; rw [h j hj]
  have hu : ∀ j, j ≤ 16 → gU L16 (lx x) 0 j = gU L16 (lx y) 0 j := by
    intro j
    induction j with
    | zero => intro _; rfl
    | succ j ih => intro hj; rw [gU_step, gU_step, ih (by omega), hl j (by omega)]
  unfold lsF gD
  rw [hl i hi, hu i (by omega)]
theorem LSc_at (a : Nat → Int) (h : full a) (i : Nat) (hi : i < 16) : LSc (K 16 a) i = lsF a i := by
  have hk : full (K 16 a) := full_congr (fun i hi => K_at 16 a i hi) h
  show at_ (lessL (K 16 a)) i = _
  rw [lessL_eq _ hk, at_upTo _ 16 i hi]
  exact lsF_congr (fun i hi => K_at 16 a i hi) i hi
/-- Once less the modulus, if it is not below it. -/
def cut1 (a : Nat → Int) (i : Nat) : Int := if 0 ≤ lsF a 15 then lsF a i else a i
theorem cut1_ok {a : Nat → Int} (h : full a) : full (cut1 a) ∧ V16 (cut1 a) = if P25 ≤ V16 a then V16 a - P25 else V16 a := by
  obtain ⟨s1, s2⟩ := lsF_sign h
  by_cases h0 : 0 ≤ lsF a 15
  · have e : cut1 a = lsF a := by funext i; unfold cut1; rw [if_pos h0]
    rw [e, if_pos (s1.1 h0)]
    exact ⟨s2 h0, lsF_val a⟩
  · have e : cut1 a = a := by funext i; unfold cut1; rw [if_neg h0]
    rw [e, if_neg (fun hh => h0 (s1.2 hh))]
    exact ⟨h, rfl⟩
theorem cut1_congr {x y : Nat → Int} (h : ∀ i, i < 16 → x i = y i) (i : Nat) (hi : i < 16) : cut1 x i = cut1 y i := by
  unfold cut1
  rw [lsF_congr h 15 (by omega), lsF_congr h i hi, h i hi]
theorem WA_eq (a : Nat → Int) (h : full a) (i : Nat) (hi : i < 16) : WA LSc a i = cut1 a i := by
  unfold WA cut1
  rw [LSc_at a h 15 (by omega), LSc_at a h i hi]
  by_cases h0 : 0 ≤ lsF a 15
  · rw [if_pos h0, decide_eq_true (show lsF a 15 ≥ 0 from h0), cond_true]
  · rw [if_neg h0, decide_eq_false (show ¬ lsF a 15 ≥ 0 from h0), cond_false]
theorem cut2_ok {a : Nat → Int} (h : full a) : full (cut1 (cut1 a)) ∧ V16 (cut1 (cut1 a)) = V16 a % P25 := by
  obtain ⟨f1, v1⟩ := cut1_ok h
  obtain ⟨f2, v2⟩ := cut1_ok f1
  refine ⟨f2, ?_⟩
  have hr := gv_range L16 (by decide) a 16 fun i hi => by have := h i hi; show 0 ≤ a i ∧ a i < 65536; omega
  have e2 : (L16 : Int) ^ 16 = 115792089237316195423570985008687907853269984665640564039457584007913129639936 := by decide
  rw [e2] at hr
  rw [v2, v1]
  have hr' : 0 ≤ V16 a ∧ V16 a < 115792089237316195423570985008687907853269984665640564039457584007913129639936 := hr
  generalize V16 a = v at *
  unfold P25
  by_cases c1 : (57896044618658097711785492504343953926634992332820282019728792003956564819949 : Int) ≤ v
  · rw [if_pos c1]
    split <;> omega
  · rw [if_neg c1]
    split <;> omega
theorem WK_eq (a y : Nat → Int) (hy : full y) (h : ∀ i, i < 16 → a i = y i) (i : Nat) (hi : i < 16) : WK LSc a 2 i = cut1 (cut1 y) i := by
  have h1 : ∀ i, i < 16 → WA LSc a i = cut1 y i := fun i hi => by rw [WA_eq a (full_congr h hy) i hi]; exact cut1_congr h i hi
  show WA LSc (WA LSc a) i = _
  rw [WA_eq _ (full_congr h1 (cut1_ok hy).1) i hi]
  exact cut1_congr h1 i hi

/-! Bytes of digits. -/
theorem w8_eq (n : Int) : w8 n = n % 256 := by simp [w8, IntKind.wrap, IntKind.bits, IntKind.signed]
theorem outL_at (a : Nat → Int) (h : full a) (j : Nat) (hj : j < 32) : at_ (outL a) j = dig 256 (V16 a) j := by
  have hd := dig_gv L16 (by decide) a 16 (fun i hi => by have := h i hi; show 0 ≤ a i ∧ a i < 65536; omega) (j / 2) (by omega)
  have ha := h (j / 2) (by omega)
  unfold outL
  rw [show at_ ((List.range 32).map fun j => bif j % 2 == 0 then w8 (a (j / 2)) else w8 (a (j / 2) / ((2 ^ 8 : Nat) : Int))) j = _ from map_get 32 _ j hj]
  have e8 : ((2 ^ 8 : Nat) : Int) = 256 := by decide
  unfold dig at *
  have hd' : V16 a / L16 ^ (j / 2) % 65536 = a (j / 2) := hd
  by_cases he : j % 2 = 0
  · rw [show (j % 2 == 0) = true from by simpa using he, cond_true, w8_eq]
    have e : (256 : Int) ^ j = L16 ^ (j / 2) := by
      rw [show j = 2 * (j / 2) from by omega, Int.pow_mul, show 2 * (j / 2) / 2 = j / 2 from by omega]
      exact congrArg (· ^ (j / 2)) (by decide : (256 : Int) ^ 2 = 65536)
    rw [e]
    omega
  · rw [show (j % 2 == 0) = false from by simpa using he, cond_false, w8_eq, e8]
    have e : (256 : Int) ^ j = L16 ^ (j / 2) * 256 := by
      rw [show j = 2 * (j / 2) + 1 from by omega, Int.pow_succ, Int.pow_mul, show (2 * (j / 2) + 1) / 2 = j / 2 from by omega]
      exact congrArg (fun z : Int => z ^ (j / 2) * 256) (by decide : (256 : Int) ^ 2 = 65536)
    rw [e, ← Int.ediv_ediv_of_nonneg (Int.pow_nonneg (by decide))]
    omega
theorem outL_congr {x y : Nat → Int} (h : ∀ i, i < 16 → x i = y i) : outL x = outL y := by
  unfold outL
  refine map_congr 32 _ _ fun j hj => ?_
  rw [h (j / 2) (by omega)]

def WRc : F1 := fun a => at_ (outL (WK LSc (at_ (car3 a)) 2))
theorem cut_bytes (a : Nat → Int) (ha : tgt a) (i : Nat) (hi : i < 32) : at_ (outL (cut1 (cut1 (cr3 a)))) i = bytesOf (tv a) i := by
  obtain ⟨_, f, v⟩ := car3_eq a ha
  obtain ⟨f2, v2⟩ := cut2_ok f
  rw [outL_at _ f2 i hi, v2]
  unfold bytesOf
  have := tf_val (V16 (cr3 a))
  rw [v] at this
  rw [this]
theorem write_ok : WrOK WRc := by
  intro a ha i hi
  obtain ⟨e, f, _⟩ := car3_eq a ha
  show at_ (outL (WK LSc (at_ (car3 a)) 2)) i = _
  rw [outL_congr (WK_eq (at_ (car3 a)) (cr3 a) f fun i hi => by rw [e]; exact at_upTo _ 16 i hi)]
  exact cut_bytes a ha i hi

/-! The document's. -/
def pF (t : Nat → Int) (n i : Nat) : Int := if i < n then gD L16 (lx t) 0 i else if i = n then lx t n + gU L16 (lx t) 0 n else 0
theorem bor (y : Int) (h : -65536 ≤ y ∧ y < 65536) : bits .and .i64 (y / 65536) 1 = -(y / 65536) := by
  rw [i64_mask1]
  omega
theorem pack_chain (t : Nat → Int) (h : full t) (n : Nat) (hn : n ≤ 14) : (List.range' 1 n).foldl (stepK t) ((List.replicate 16 0).set 0 (wl (t 0 - 65517))) = (List.range 16).map (pF t n) := by
  induction n with
  | zero =>
    show (List.replicate 16 0).set 0 (wl (t 0 - 65517)) = _
    have := h 0 (by omega)
    rw [wl_id _ (by omega) (by omega), show (List.replicate 16 (0 : Int)) = (List.range 16).map (fun _ => 0) from rfl, map_set]
    refine map_congr 16 _ _ fun i _ => ?_
    unfold pF
    by_cases hi : i = 0
    · subst hi; rw [if_pos rfl, if_neg (by omega), if_pos rfl]; show _ = t 0 - 65517 + 0; omega
    · rw [if_neg hi, if_neg (by omega), if_neg hi]
  | succ n ih =>
    rw [List.range'_1_concat, List.foldl_append, ih (by omega)]
    have hu := lx_gU h n (by omega)
    have hu1 := lx_gU h (n + 1) (by omega)
    have hx := lx_bd h n (by omega)
    have ha := h (n + 1) (by omega)
    have e0 : ((List.range 16).map (pF t n)).getD (1 + n - 1) 0 = lx t n + gU L16 (lx t) 0 n := by
      rw [show 1 + n - 1 = n from by omega, map_get 16 _ n (by omega)]; unfold pF; rw [if_neg (by omega), if_pos rfl]
    have e16 : ((2 ^ 16 : Nat) : Int) = 65536 := by decide
    have ep : pd (n + 1) = 65535 := by unfold pd; rw [if_neg (by omega), if_neg (by omega)]
    have eU : (lx t n + gU L16 (lx t) 0 n) / 65536 = gU L16 (lx t) 0 (n + 1) := rfl
    show (((List.range 16).map (pF t n)).set (1 + n) (wl (wl (t (1 + n) - 65535) - bits .and .i64 (((List.range 16).map (pF t n)).getD (1 + n - 1) 0 / ((2 ^ 16 : Nat) : Int)) 1))).set (1 + n - 1)
      (bits .and .i64 ((((List.range 16).map (pF t n)).set (1 + n) (wl (wl (t (1 + n) - 65535) - bits .and .i64 (((List.range 16).map (pF t n)).getD (1 + n - 1) 0 / ((2 ^ 16 : Nat) : Int)) 1))).getD (1 + n - 1) 0) 65535) = _
    rw [e0, e16, bor _ (by omega), eU, Nat.add_comm 1 n, show n + 1 - 1 = n from rfl, map_set, map_get 16 _ n (by omega), if_neg (by omega), i64_mask16, wl_id (t (n + 1) - 65535) (by omega) (by omega), wl_id _ (by omega) (by omega), map_set]
    refine map_congr 16 _ _ fun i _ => ?_
    by_cases h2 : i = n
    · subst h2
      rw [if_pos rfl]
      unfold pF
      rw [if_neg (by omega), if_pos rfl, if_pos (by omega)]
      rfl
    · rw [if_neg h2]
      by_cases h1 : i = n + 1
      · subst h1
        rw [if_pos rfl]
        unfold pF
        rw [if_neg (by omega), if_pos rfl]
        show _ = t (n + 1) - pd (n + 1) + _
        omega
      · rw [if_neg h1]
        unfold pF
        by_cases h3 : i < n
        · rw [if_pos h3, if_pos (by omega)]
        · rw [if_neg h3, if_neg h2, if_neg (by omega), if_neg h1]
theorem packM_eq (t : Nat → Int) (h : full t) : packM t = upTo 16 (lsF t) ∧ (packB t == 0) = decide (0 ≤ lsF t 15) := by
  have e0 : packM0 t = (List.range 16).map (pF t 14) := pack_chain t h 14 (Nat.le_refl _)
  have hu := lx_gU h 14 (by omega)
  have hu1 := lx_gU h 15 (by omega)
  have hx := lx_bd h 14 (by omega)
  have hx1 := lx_bd h 15 (by omega)
  have ha := h 15 (by omega)
  have e14 : ((List.range 16).map (pF t 14)).getD 14 0 = lx t 14 + gU L16 (lx t) 0 14 := by rw [map_get 16 _ 14 (by omega)]; unfold pF; rw [if_neg (by omega), if_pos rfl]
  have e16 : ((2 ^ 16 : Nat) : Int) = 65536 := by decide
  have ep : pd 15 = 32767 := by unfold pd; rw [if_neg (by omega), if_pos rfl]
  have eU : (lx t 14 + gU L16 (lx t) 0 14) / 65536 = gU L16 (lx t) 0 15 := rfl
  have e1 : packM1 t = (List.range 16).map fun i => if i = 15 then lx t 15 + gU L16 (lx t) 0 15 else pF t 14 i := by
    unfold packM1
    rw [e0, e14, e16, bor _ (by omega), eU, wl_id (t 15 - 32767) (by omega) (by omega), wl_id _ (by omega) (by omega), map_set]
    refine map_congr 16 _ _ fun i _ => ?_
    by_cases h1 : i = 15
    · rw [if_pos h1, if_pos h1]; show _ = t 15 - pd 15 + _; omega
    · rw [if_neg h1, if_neg h1]
  have l15 : lsF t 15 = lx t 15 + gU L16 (lx t) 0 15 := by unfold lsF; rw [if_neg (by omega)]
  constructor
  · unfold packM
    rw [e1, map_get 16 _ 14 (by omega), if_neg (by omega), i64_mask16, map_set]
    refine map_congr 16 _ _ fun i hi => ?_
    unfold lsF
    by_cases h14 : i = 14
    · subst h14
      rw [if_pos rfl, if_pos (by omega)]
      unfold pF
      rw [if_neg (by omega), if_pos rfl]
      rfl
    · rw [if_neg h14]
      by_cases h15 : i = 15
      · subst h15; rw [if_pos rfl, if_neg (by omega)]
      · rw [if_neg h15]
        unfold pF
        rw [if_pos (by omega), if_pos (by omega)]
  · have hb : packB t = -((lx t 15 + gU L16 (lx t) 0 15) / 65536) := by
      unfold packB
      rw [e1, map_get 16 _ 15 (by omega), if_pos rfl, e16, bor _ (by omega)]
    rw [hb, l15]
    by_cases h0 : 0 ≤ lx t 15 + gU L16 (lx t) 0 15
    · rw [decide_eq_true h0]
      have : -((lx t 15 + gU L16 (lx t) 0 15) / 65536) = 0 := by omega
      rw [this]; rfl
    · rw [decide_eq_false h0]
      have : -((lx t 15 + gU L16 (lx t) 0 15) / 65536) ≠ 0 := by omega
      simpa using this
theorem PA_eq (a : Nat → Int) (h : full a) (i : Nat) (hi : i < 16) : PA a i = cut1 a i := by
  obtain ⟨e1, e2⟩ := packM_eq a h
  unfold PA cut1
  rw [e2, e1, at_upTo _ 16 i hi]
  by_cases h0 : 0 ≤ lsF a 15
  · rw [if_pos h0, decide_eq_true h0, cond_true]
  · rw [if_neg h0, decide_eq_false h0, cond_false]
theorem PK_eq (a y : Nat → Int) (hy : full y) (h : ∀ i, i < 16 → a i = y i) (i : Nat) (hi : i < 16) : PK a 2 i = cut1 (cut1 y) i := by
  have h1 : ∀ i, i < 16 → PA a i = cut1 y i := fun i hi => by rw [PA_eq a (full_congr h hy) i hi]; exact cut1_congr h i hi
  show PA (PA a) i = _
  rw [PA_eq _ (full_congr h1 (cut1_ok hy).1) i hi]
  exact cut1_congr h1 i hi
def PCc : F1 := fun a => at_ (outL (PK (rar3 RCc a) 2))
theorem pack_ok : WrOK PCc := by
  intro a ha i hi
  obtain ⟨_, f, _⟩ := car3_eq a ha
  show at_ (outL (PK (rar3 RCc a) 2)) i = _
  rw [outL_congr (PK_eq (rar3 RCc a) (cr3 a) f (rar3_eq a ha))]
  exact cut_bytes a ha i hi
end Go.Proofs.Ytbhmfgjdphphcaa
