/-
  CurveBits comes to true. Conditions: those of a parameter's values.
-/
import Derived.Test.YtbhmfgjdphphcaaQcB
namespace Go.Proofs.Ytbhmfgjdphphcaa
open Go Go.SX
open Go.RowKit (Below)

def bxK (key : Nat → Int) (m : Int) : Nat → Int := at_ (((upTo 32 key).set 0 (bits .xor .u8 (key 0) (IntKind.u8.wrap m))).set 31 (bits .xor .u8 (key 31) 192))
def vU (u : Nat → Int) : Nat → Int := at_ ((upTo 32 u).set 31 (bits .xor .u8 (u 31) 128))
def aU (m : Int) : Nat → Int := at_ (IntKind.u8.wrap m :: List.replicate 31 0)
def bU (m : Int) : Nat → Int := at_ (IntKind.u8.wrap (wl (237 + m)) :: (List.replicate 30 255 ++ [127]))
def psB (X : F2) (key u : Nat → Int) (n : Int) : List Prop :=
  [decide (upTo 32 (X (K 32 key) (aU (n % 19))) = upTo 32 (X (K 32 key) (bU (n % 19)))) = true, byF (bU (n % 19)), byF (aU (n % 19)),
   decide (upTo 32 (X (K 32 key) (K 32 u)) = upTo 32 (X (K 32 key) (vU u))) = true, byF (vU u), byF (K 32 u),
   decide (upTo 32 (X (K 32 key) (K 32 u)) = upTo 32 (X (bxK key (n % 8)) (K 32 u))) = true, byF (K 32 u), byF (K 32 u),
   (1 : Int) ≤ 19, (19 : Int) ≤ 1000000, (1 : Int) ≤ 19, (19 : Int) ≤ 1000000, (1 : Int) ≤ 8, (8 : Int) ≤ 1000000]
theorem bits_runs (X : F2) (key u : Nat → Int) (n : Int) : runOf (ctxL Try.prog (lS X) (yesNo [57, 66, 75] []) (open_ []) noLoop) Try.prog 1000 5 [ints .u8 (upTo 32 key), ints .u8 (upTo 32 u), mkInt .i64 n] = some (mkBool true, psB X key u n) := by kernel_rfl

theorem kL_eq (key : Nat → Int) : kL key = (List.range 32).map fun i => if i = 31 then bits .or .u8 (bits .and .u8 (key 31) 127) 64 else if i = 0 then bits .and .u8 (key 0) 248 else key i := by
  unfold kL
  rw [show upTo 32 key = (List.range 32).map key from rfl, map_set, map_set]
theorem xor_low (x m : Int) (hx : 0 ≤ x ∧ x ≤ 255) (hm : 0 ≤ m ∧ m < 8) : bits .and .u8 (bits .xor .u8 x (IntKind.u8.wrap m)) 248 = bits .and .u8 x 248 := by
  have e : ∀ (i : Fin 256) (j : Fin 8), bits .and .u8 (bits .xor .u8 (i.val : Int) (IntKind.u8.wrap (j.val : Int))) 248 = bits .and .u8 (i.val : Int) 248 := by decide +kernel
  have := e ⟨x.toNat, by omega⟩ ⟨m.toNat, by omega⟩
  have ex : ((x.toNat : Nat) : Int) = x := by omega
  have em : ((m.toNat : Nat) : Int) = m := by omega
  simpa only [ex, em] using this
theorem xor_high (x : Int) (hx : 0 ≤ x ∧ x ≤ 255) : bits .or .u8 (bits .and .u8 (bits .xor .u8 x 192) 127) 64 = bits .or .u8 (bits .and .u8 x 127) 64 := by
  have e : ∀ (i : Fin 256), bits .or .u8 (bits .and .u8 (bits .xor .u8 (i.val : Int) 192) 127) 64 = bits .or .u8 (bits .and .u8 (i.val : Int) 127) 64 := by decide +kernel
  have := e ⟨x.toNat, by omega⟩
  have ex : ((x.toNat : Nat) : Int) = x := by omega
  simpa only [ex] using this
theorem xor_top (x : Int) (hx : 0 ≤ x ∧ x ≤ 255) : bits .xor .u8 x 128 = if x < 128 then x + 128 else x - 128 := by
  have e : ∀ (i : Fin 256), bits .xor .u8 (i.val : Int) 128 = if (i.val : Int) < 128 then (i.val : Int) + 128 else (i.val : Int) - 128 := by decide +kernel
  have := e ⟨x.toNat, by omega⟩
  have ex : ((x.toNat : Nat) : Int) = x := by omega
  simpa only [ex] using this
theorem bxK_at (key : Nat → Int) (m : Int) (i : Nat) (hi : i < 32) : bxK key m i = if i = 31 then bits .xor .u8 (key 31) 192 else if i = 0 then bits .xor .u8 (key 0) (IntKind.u8.wrap m) else key i := by
  unfold bxK
  rw [show upTo 32 key = (List.range 32).map key from rfl, map_set, map_set]
  exact map_get 32 _ i hi
theorem bxK_bit (key : Nat → Int) (hk : byF key) (m : Int) (hm : 0 ≤ m ∧ m < 8) : bitC (bxK key m) = bitC (K 32 key) := by
  have e : kL (bxK key m) = kL (K 32 key) := by
    rw [kL_eq, kL_eq]
    refine map_congr 32 _ _ fun i hi => ?_
    rw [bxK_at key m 31 (by omega), bxK_at key m 0 (by omega), bxK_at key m i hi, K_at 32 key 31 (by omega), K_at 32 key 0 (by omega), K_at 32 key i hi]
    rw [if_pos (rfl : 31 = 31), if_neg (by omega : ¬ 0 = 31), if_pos (rfl : 0 = 0), xor_high _ (hk 31 (by omega)), xor_low _ m (hk 0 (by omega)) hm]
    by_cases h1 : i = 31
    · rw [if_pos h1, if_pos h1]
    · rw [if_neg h1, if_neg h1, if_neg h1]
      by_cases h0 : i = 0
      · rw [if_pos h0, if_pos h0]
      · rw [if_neg h0, if_neg h0, if_neg h0]
  funext k
  unfold bitC
  rw [e]
theorem vU_at (u : Nat → Int) (i : Nat) (hi : i < 32) : vU u i = if i = 31 then bits .xor .u8 (u 31) 128 else u i := by
  unfold vU
  rw [show upTo 32 u = (List.range 32).map u from rfl, map_set]
  exact map_get 32 _ i hi
theorem vU_by (u : Nat → Int) (hu : byF u) : byF (vU u) := by
  intro i hi
  rw [vU_at u i hi]
  split
  · have h := hu 31 (by omega)
    rw [xor_top _ h]
    split <;> omega
  · exact hu i hi
theorem vU_rd (u : Nat → Int) (hu : byF u) : rdF (K 32 u) = rdF (vU u) := by
  rw [rd_congr (fun i hi => K_at 32 u i hi)]
  unfold rdF
  refine congrArg tf ?_
  show (gv 256 u 31 + u 31 * 256 ^ 31) % _ = (gv 256 (vU u) 31 + vU u 31 * 256 ^ 31) % _
  have e1 : gv 256 (vU u) 31 = gv 256 u 31 := gv_congr _ _ _ 31 fun i hi => by rw [vU_at u i (by omega), if_neg (by omega)]
  have e2 : vU u 31 = bits .xor .u8 (u 31) 128 := by rw [vU_at u 31 (by omega), if_pos rfl]
  have e3 : (256 : Int) ^ 31 = 452312848583266388373324160190187140051835877600158453279131187530910662656 := by decide
  have h := hu 31 (by omega)
  rw [e1, e2, e3, xor_top _ h]
  generalize gv 256 u 31 = g at *
  generalize u 31 = y at *
  split <;> omega
theorem ab_all (m : Int) (hm : 0 ≤ m ∧ m < 19) : rdF (aU m) = rdF (bU m) ∧ byF (aU m) ∧ byF (bU m) := by
  have h1 : ∀ (j : Fin 19), rdF (aU (j.val : Int)) = rdF (bU (j.val : Int)) := by decide +kernel
  have h2 : ∀ (j : Fin 19) (i : Fin 32), 0 ≤ aU (j.val : Int) i.val ∧ aU (j.val : Int) i.val ≤ 255 := by decide +kernel
  have h3 : ∀ (j : Fin 19) (i : Fin 32), 0 ≤ bU (j.val : Int) i.val ∧ bU (j.val : Int) i.val ≤ 255 := by decide +kernel
  have em : ((m.toNat : Nat) : Int) = m := by omega
  have a := h1 ⟨m.toNat, by omega⟩
  have b := h2 ⟨m.toNat, by omega⟩
  have c := h3 ⟨m.toNat, by omega⟩
  simp only [em] at a b c
  exact ⟨a, fun i hi => b ⟨i, hi⟩, fun i hi => c ⟨i, hi⟩⟩
theorem XC_same {a b u v : Nat → Int} (h1 : bitC a = bitC b) (h2 : rdF u = rdF v) : upTo 32 (XC a u) = upTo 32 (XC b v) := by unfold XC; rw [h1, h2]
theorem bits_ok (key u : Nat → Int) (n : Int) (hk : byF key) (hu : byF u) : Holds (psB XC key u n) := by
  have h19 := ab_all (n % 19) (by omega)
  have ku := by_K hu
  exact AllOf.holds (.cons (decide_eq_true (XC_same rfl h19.1)) (.cons h19.2.2 (.cons h19.2.1 (.cons (decide_eq_true (XC_same rfl (vU_rd u hu))) (.cons (vU_by u hu) (.cons ku
    (.cons (decide_eq_true (XC_same (bxK_bit key hk (n % 8) (by omega)).symm rfl)) (.cons ku (.cons ku (.cons (by decide) (.cons (by decide) (.cons (by decide) (.cons (by decide) (.cons (by decide) (.cons (by decide) .nil)))))))))))))))
theorem bits_any (key u : Nat → Int) (n : Int) (w : World) (hk : ∀ i, i < 32 → (Lit.int .u8 (key i)).wf = true) (hu : ∀ i, i < 32 → (Lit.int .u8 (u i)).wf = true) (_ : (Lit.int .i64 n).wf = true) :
    Calls Try.prog 5 #[.agg ((upTo 32 key).map (Value.int .u8)).toArray, .agg ((upTo 32 u).map (Value.int .u8)).toArray, .int .i64 n] w fun e w' => e = .returned (.bool true) ∧ Below w.heap.size w w' := by
  have := calls_of_run' (ctxL_ty _ _ _ _ _) (ctxL_orc _ _ _ _ _ lS_ok) (ctxL_sem _ _ _ _ _) names mixed (bits_runs XC key u n) (bits_ok key u n (wf_by hk) (wf_by hu)) nil w
    (plain_all (by rw [List.all_cons, List.all_cons, List.all_cons, ints_plain, ints_plain]; rfl) w) (fun _ => trivial)
  simpa only [List.map_cons, List.map_nil, ints_den, mkInt_den, mkBool_den] using this
end Go.Proofs.Ytbhmfgjdphphcaa
