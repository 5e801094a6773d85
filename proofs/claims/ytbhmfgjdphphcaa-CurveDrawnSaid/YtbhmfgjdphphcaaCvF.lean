/-
  Reading and writing of numbers, by value. Conditions: bytes; parts as a product leaves them.
-/
import Derived.Test.YtbhmfgjdphphcaaCvE
import Derived.Test.YtbhmfgjdphphcaaCrvW
import Derived.Laws.BitsLemmas
namespace Go.Proofs.Ytbhmfgjdphphcaa
open Go Go.SX

theorem i64_mask16 (n : Int) : bits .and .i64 n 65535 = n % 65536 := by
  have h : (BitVec.ofInt 64 65535).toNat = 2 ^ 16 - 1 := by decide
  have key : (BitVec.ofInt 64 n &&& BitVec.ofInt 64 65535).toNat = (n % ((2 ^ 64 : Nat) : Int)).toNat % 2 ^ 16 := by
    rw [BitVec.toNat_and, BitVec.toNat_ofInt, h, Nat.and_two_pow_sub_one_eq_mod]
  show IntKind.i64.wrap ((BitVec.ofInt 64 n &&& BitVec.ofInt 64 65535).toNat : Nat) = n % 65536
  rw [key, IntKind.wrap_i64]
  omega
theorem i64_mask15 (n : Int) : bits .and .i64 n 32767 = n % 32768 := by
  have h : (BitVec.ofInt 64 32767).toNat = 2 ^ 15 - 1 := by decide
  have key : (BitVec.ofInt 64 n &&& BitVec.ofInt 64 32767).toNat = (n % ((2 ^ 64 : Nat) : Int)).toNat % 2 ^ 15 := by
    rw [BitVec.toNat_and, BitVec.toNat_ofInt, h, Nat.and_two_pow_sub_one_eq_mod]
  show IntKind.i64.wrap ((BitVec.ofInt 64 n &&& BitVec.ofInt 64 32767).toNat : Nat) = n % 32768
  rw [key, IntKind.wrap_i64]
  omega
theorem i64_mask1 (n : Int) : bits .and .i64 n 1 = n % 2 := by
  have h : (BitVec.ofInt 64 1).toNat = 2 ^ 1 - 1 := by decide
  have key : (BitVec.ofInt 64 n &&& BitVec.ofInt 64 1).toNat = (n % ((2 ^ 64 : Nat) : Int)).toNat % 2 ^ 1 := by
    rw [BitVec.toNat_and, BitVec.toNat_ofInt, h, Nat.and_two_pow_sub_one_eq_mod]
  show IntKind.i64.wrap ((BitVec.ofInt 64 n &&& BitVec.ofInt 64 1).toNat : Nat) = n % 2
  rw [key, IntKind.wrap_i64]
  omega
theorem wl_62 (n : Int) (h0 : 0 ≤ n) (h1 : n < 2 ^ 62) : IntKind.i64.wrap n = n := by
  have : (2 : Int) ^ 62 = 4611686018427387904 := by decide
  exact wl_id n (by omega) (by omega)
theorem i64_or8 (a b : Int) (ha : 0 ≤ a ∧ a ≤ 255) (hb : 0 ≤ b ∧ b ≤ 255) : bits .or .i64 a (b * 256) = a + 256 * b := by
  have hc : bits .or .i64 a (b * 256) = bits .or .i64 (b * 256) a := by simp only [bits, BitVec.or_comm]
  rw [hc, bits_join .i64 62 (by decide) wl_62 8 (b * 256) a (by omega) (by omega) (by omega) ha.1 (by omega) (by omega)]
  omega

/-! Reading. -/
def byF (u : Nat → Int) : Prop := ∀ i, i < 32 → 0 ≤ u i ∧ u i ≤ 255
def wrd (u : Nat → Int) (i : Nat) : Int := u (2 * i) + 256 * u (2 * i + 1)
theorem gv_words (u : Nat → Int) (n : Nat) : gv 256 u (2 * n) = gv L16 (wrd u) n := by
  induction n with
  | zero => rfl
  | succ n ih =>
    show gv 256 u (2 * n) + u (2 * n) * 256 ^ (2 * n) + u (2 * n + 1) * 256 ^ (2 * n + 1) = gv L16 (wrd u) n + wrd u n * L16 ^ n
    rw [ih]
    have e : (256 : Int) ^ (2 * n) = L16 ^ n := by rw [Int.pow_mul]; exact congrArg (· ^ n) (by decide : (256 : Int) ^ 2 = 65536)
    rw [Int.pow_succ, e]
    unfold wrd
    grind
theorem readV_eq (u : Nat → Int) (hu : byF u) (i : Nat) (hi : i < 16) : readV u i = wrd u i := by
  have h1 := hu (2 * i) (by omega)
  have h2 := hu (2 * i + 1) (by omega)
  have e8 : ((2 ^ 8 : Nat) : Int) = 256 := by decide
  unfold readV
  rw [e8, wl_id (u (2 * i)) (by omega) (by omega), wl_id (u (2 * i + 1)) (by omega) (by omega), wl_id (u (2 * i + 1) * 256) (by omega) (by omega), i64_or8 _ _ h1 h2]
  rfl
theorem unpV_eq (u : Nat → Int) (hu : byF u) (i : Nat) (hi : i < 16) : unpV u i = wrd u i := by
  have h1 := hu (2 * i) (by omega)
  have h2 := hu (2 * i + 1) (by omega)
  have e8 : ((2 ^ 8 : Nat) : Int) = 256 := by decide
  unfold unpV
  rw [e8, wl_id (u (2 * i)) (by omega) (by omega), wl_id (u (2 * i + 1)) (by omega) (by omega), wl_id (u (2 * i + 1) * 256) (by omega) (by omega), wl_id _ (by omega) (by omega)]
  unfold wrd
  omega
def rdX (u : Nat → Int) (i : Nat) : Int := if i = 15 then wrd u 15 % 32768 else wrd u i
theorem wrd_bd (u : Nat → Int) (hu : byF u) (i : Nat) (hi : i < 16) : 0 ≤ wrd u i ∧ wrd u i < 65536 := by
  have h1 := hu (2 * i) (by omega)
  have h2 := hu (2 * i + 1) (by omega)
  unfold wrd
  omega
theorem rdX_tgt (u : Nat → Int) (hu : byF u) : tgt (rdX u) := by
  intro i hi
  have := wrd_bd u hu i hi
  unfold rdX
  split
  · have := wrd_bd u hu 15 (by omega); omega
  · omega
theorem rdX_val (u : Nat → Int) (hu : byF u) : V16 (rdX u) = gv 256 u 32 % 57896044618658097711785492504343953926634992332820282019728792003956564819968 := by
  rw [show 32 = 2 * 16 from rfl, gv_words]
  show gv L16 (rdX u) 15 + rdX u 15 * L16 ^ 15 = (gv L16 (wrd u) 15 + wrd u 15 * L16 ^ 15) % _
  have e1 : gv L16 (rdX u) 15 = gv L16 (wrd u) 15 := gv_congr _ _ _ 15 fun i hi => by unfold rdX; rw [if_neg (by omega)]
  have e2 : rdX u 15 = wrd u 15 % 32768 := by unfold rdX; rw [if_pos rfl]
  have hr := gv_range L16 (by decide) (wrd u) 15 fun i hi => wrd_bd u hu i (by omega)
  have h15 := wrd_bd u hu 15 (by omega)
  have e3 : (L16 : Int) ^ 15 = 1766847064778384329583297500742918515827483896875618958121606201292619776 := by decide
  rw [e1, e2, e3]
  rw [e3] at hr
  generalize gv L16 (wrd u) 15 = g at *
  generalize wrd u 15 = y at *
  omega
theorem readL_at (u : Nat → Int) (hu : byF u) (i : Nat) (hi : i < 16) : at_ (readL u) i = rdX u i := by
  unfold readL
  rw [show at_ ((List.range 16).map fun i => bif i == 15 then bits .and .i64 (readV u i) 32767 else readV u i) i = _ from map_get 16 _ i hi]
  unfold rdX
  by_cases h : i = 15
  · subst h
    rw [if_pos rfl]
    show bits .and .i64 (readV u 15) 32767 = _
    rw [i64_mask15, readV_eq u hu 15 hi]
  · have hb : (i == 15) = false := by simpa using h
    rw [hb, cond_false, if_neg h, readV_eq u hu i hi]
theorem unpL_at (u : Nat → Int) (hu : byF u) (i : Nat) (hi : i < 16) : at_ (unpL u) i = rdX u i := by
  unfold unpL
  rw [show at_ ((List.range 16).map fun i => bif i == 15 then bits .and .i64 (unpV u i) 32767 else unpV u i) i = _ from map_get 16 _ i hi]
  unfold rdX
  by_cases h : i = 15
  · subst h
    rw [if_pos rfl]
    show bits .and .i64 (unpV u 15) 32767 = _
    rw [i64_mask15, unpV_eq u hu 15 hi]
  · have hb : (i == 15) = false := by simpa using h
    rw [hb, cond_false, if_neg h, unpV_eq u hu i hi]
theorem read_ok : RdOK fun u => at_ (readL u) := fun u hu =>
  ⟨tgt_congr (readL_at u hu) (rdX_tgt u hu), by
    show tf (V16 (at_ (readL u))) = _
    rw [show V16 (at_ (readL u)) = V16 (rdX u) from gv_congr _ _ _ 16 (readL_at u hu), rdX_val u hu]; rfl⟩
theorem unp_ok : RdOK fun u => at_ (unpL u) := fun u hu =>
  ⟨tgt_congr (unpL_at u hu) (rdX_tgt u hu), by
    show tf (V16 (at_ (unpL u))) = _
    rw [show V16 (at_ (unpL u)) = V16 (rdX u) from gv_congr _ _ _ 16 (unpL_at u hu), rdX_val u hu]; rfl⟩

/-! Three carries leave digits. -/
def full (y : Nat → Int) : Prop := ∀ i, i < 16 → 0 ≤ y i ∧ y i ≤ 65535
def stg (y : Nat → Int) : Prop := (-38 ≤ y 0 ∧ y 0 ≤ 65573) ∧ ∀ i, i < 16 → i ≠ 0 → 0 ≤ y i ∧ y i ≤ 65535
theorem tgt_gU (x : Nat → Int) (hx : tgt x) (i : Nat) (hi : i ≤ 16) : -1 ≤ gU L16 x 0 i ∧ gU L16 x 0 i ≤ 1 := by
  induction i with
  | zero => show (-1 : Int) ≤ 0 ∧ (0 : Int) ≤ 1; decide
  | succ i ih =>
    have h1 := ih (by omega)
    have h2 := hx i (by omega)
    rw [gU_step]
    omega
theorem crF_stg (x : Nat → Int) (hx : tgt x) : stg (crF x) := by
  have u := tgt_gU x hx 16 (Nat.le_refl _)
  constructor
  · have d : 0 ≤ gD L16 x 0 0 ∧ gD L16 x 0 0 < 65536 := gD_range L16 (by decide) x 0 0
    unfold crF
    rw [if_pos rfl]
    omega
  · intro i _ h
    have d : 0 ≤ gD L16 x 0 i ∧ gD L16 x 0 i < 65536 := gD_range L16 (by decide) x 0 i
    unfold crF
    rw [if_neg h]
    omega
theorem stg_tgt {y : Nat → Int} (h : stg y) : tgt y := by
  intro i hi
  by_cases h0 : i = 0
  · subst h0; exact h.1
  · have := h.2 i hi h0; omega
theorem full_stg {y : Nat → Int} (h : full y) : stg y := ⟨by have := h 0 (by omega); omega, fun i hi _ => h i hi⟩
theorem crF_full (x : Nat → Int) (hx : stg x) : full (crF x) := by
  have u := tgt_gU x (stg_tgt hx) 16 (Nat.le_refl _)
  have hv : -38 ≤ V16 x ∧ V16 x ≤ 115792089237316195423570985008687907853269984665640564039457584007913129639935 + 38 := by
    have s := gv_split L16 x 1 15
    have e1 : gv L16 x 1 = x 0 := by simp [gv]
    have hr := gv_range L16 (by decide) (fun i => x (1 + i)) 15 fun i hi => by have := hx.2 (1 + i) (by omega) (by omega); show 0 ≤ x (1 + i) ∧ x (1 + i) < 65536; omega
    have e3 : (L16 : Int) ^ 15 = 1766847064778384329583297500742918515827483896875618958121606201292619776 := by decide
    have e4 : (L16 : Int) ^ 1 = 65536 := by decide
    rw [e1, e4] at s
    rw [e3] at hr
    have := hx.1
    show -38 ≤ gv L16 x 16 ∧ gv L16 x 16 ≤ _
    rw [show 16 = 1 + 15 from rfl, s]
    omega
  have hc := chain L16 (by decide) x 0 16
  have s := gv_split L16 (gD L16 x 0) 1 15
  have e1 : gv L16 (gD L16 x 0) 1 = gD L16 x 0 0 := by simp [gv]
  have e4 : (L16 : Int) ^ 1 = 65536 := by decide
  have e2 : (L16 : Int) ^ 16 = 115792089237316195423570985008687907853269984665640564039457584007913129639936 := by decide
  have hr := gv_range L16 (by decide) (gD L16 x 0) 16 fun i _ => gD_range L16 (by decide) x 0 i
  have d : 0 ≤ gD L16 x 0 0 ∧ gD L16 x 0 0 < 65536 := gD_range L16 (by decide) x 0 0
  rw [e1, e4] at s
  rw [e2] at hc hr
  have s' : gv L16 (gD L16 x 0) 16 = gD L16 x 0 0 + 65536 * gv L16 (fun i => gD L16 x 0 (1 + i)) 15 := s
  intro i hi
  by_cases h : i = 0
  · subst h
    unfold crF
    rw [if_pos rfl]
    have hv' : -38 ≤ gv L16 x 16 ∧ gv L16 x 16 ≤ 115792089237316195423570985008687907853269984665640564039457584007913129639935 + 38 := hv
    generalize gv L16 (fun i => gD L16 x 0 (1 + i)) 15 = r at *
    generalize gv L16 (gD L16 x 0) 16 = g at *
    generalize gv L16 x 16 = v at *
    generalize gD L16 x 0 0 = d0 at *
    have hu : gU L16 x 0 16 = -1 ∨ gU L16 x 0 16 = 0 ∨ gU L16 x 0 16 = 1 := by omega
    rcases hu with hu | hu | hu <;> rw [hu] at hc ⊢ <;> omega
  · have d : 0 ≤ gD L16 x 0 i ∧ gD L16 x 0 i < 65536 := gD_range L16 (by decide) x 0 i
    unfold crF
    rw [if_neg h]
    omega
def cr3 (x : Nat → Int) : Nat → Int := crF (crF (crF x))
theorem tgt_bd {x : Nat → Int} (h : tgt x) : ∀ i, i < 16 → -(65535 * 2) ≤ x i ∧ x i ≤ 65535 * 2 := fun i hi => by have := h i hi; omega
theorem car3_eq (x : Nat → Int) (hx : tgt x) : car3 x = upTo 16 (cr3 x) ∧ full (cr3 x) ∧ tf (V16 (cr3 x)) = tf (V16 x) := by
  have h1 := crF_stg x hx
  have h2 := crF_full _ h1
  have h3 := crF_full _ (full_stg h2)
  refine ⟨?_, h3, ?_⟩
  · unfold car3 cr3
    rw [carC_eq x 2 (by decide) (tgt_bd hx), carC_eq _ 2 (by decide) (tgt_bd (stg_tgt h1)), carC_eq _ 2 (by decide) (tgt_bd (stg_tgt (full_stg h2)))]
  · unfold cr3
    show tf (gv L16 _ 16) = _
    rw [crF_val, tf_less, crF_val, tf_less, crF_val, tf_less]
theorem rar3_eq (x : Nat → Int) (hx : tgt x) (i : Nat) (hi : i < 16) : rar3 RCc x i = cr3 x i := by
  have h1 := crF_stg x hx
  have h2 := crF_full _ h1
  have cong : ∀ y z : Nat → Int, upTo 16 y = upTo 16 z → carR y = carR z := fun y z h => by unfold carR; rw [h]
  have kk : ∀ y z : Nat → Int, (∀ i, i < 16 → y i = z i) → upTo 16 (K 16 y) = upTo 16 z := fun y z h => map_congr 16 _ _ fun i hi => by rw [K_at 16 y i hi, h i hi]
  have step : ∀ y z : Nat → Int, tgt z → (∀ i, i < 16 → y i = z i) → ∀ i, i < 16 → RCc (K 16 y) i = crF z i := fun y z hz h i hi => by
    show at_ (carR (K 16 y)) i = _
    rw [cong _ _ (kk y z h), carR_eq z 2 (by decide) (tgt_bd hz)]
    exact at_upTo _ 16 i hi
  exact step _ _ (stg_tgt (full_stg h2)) (step _ _ (stg_tgt h1) (step x x hx fun _ _ => rfl)) i hi
end Go.Proofs.Ytbhmfgjdphphcaa
