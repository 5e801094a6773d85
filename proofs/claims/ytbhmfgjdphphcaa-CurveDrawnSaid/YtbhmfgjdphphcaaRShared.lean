/-
  CurveShared comes to true. Conditions: those of a parameter's values.
-/
import Derived.Test.YtbhmfgjdphphcaaQcA
namespace Go.Proofs.Ytbhmfgjdphphcaa
open Go Go.SX
open Go.RowKit (Below)

theorem shared_runs (X : F2) (a b : Nat → Int) : runOf (ctxL Try.prog (lF8 X) (yesNo [19] []) (open_ []) noLoop) Try.prog 100 4 [ints .u8 (upTo 32 a), ints .u8 (upTo 32 b)] =
    some (mkBool true, [decide (upTo 32 (X (K 32 a) (K 32 (PXc X (K 32 b)))) = upTo 32 (X (K 32 b) (K 32 (PXc X (K 32 a))))) = true, byF (K 32 (PXc X (K 32 a))), byF (K 32 (PXc X (K 32 b)))]) := by kernel_rfl

theorem XC_by (key u : Nat → Int) : byF (XC key u) := fun i _ => by
  unfold XC bytesOf dig
  have h0 := Int.emod_nonneg ((ladX (bitC key) (rdF u)).val / 256 ^ i : Int) (show (256 : Int) ≠ 0 by decide)
  have h1 := Int.emod_lt_of_pos ((ladX (bitC key) (rdF u)).val / 256 ^ i : Int) (show (0 : Int) < 256 by decide)
  omega
/-- What was written is read. -/
theorem rd_bytes (x : Fp) : rdF (bytesOf x) = x := by
  unfold rdF bytesOf
  rw [gv_dig 256 (by decide)]
  refine tf_ext ?_
  have hx : x.val < 57896044618658097711785492504343953926634992332820282019728792003956564819949 := x.isLt
  have e : (256 : Int) ^ 32 = 115792089237316195423570985008687907853269984665640564039457584007913129639936 := by decide
  rw [e]
  unfold P25
  omega
theorem rd_congr {u v : Nat → Int} (h : ∀ i, i < 32 → u i = v i) : rdF u = rdF v := by
  unfold rdF
  rw [gv_congr 256 u v 32 h]
theorem rd_XC (key u : Nat → Int) : rdF (K 32 (XC key u)) = ladX (bitC key) (rdF u) := by
  rw [rd_congr (fun i hi => K_at 32 _ i hi)]
  exact rd_bytes _
theorem bit_low (key : Nat → Int) (m : Nat) (h : m < 3) : bitC key m = false := by
  have hk : ∀ x : Int, (bits .and .u8 (bits .and .u8 x 248 / (2 ^ (min (m % 8) (IntKind.bits .u8)) : Nat)) 1 == 1) = false := by
    intro x
    have hx : bits .and .u8 x 248 = bits .and .u8 (x % 256) 248 := by
      unfold bits
      have : BitVec.ofInt (IntKind.bits .u8) x = BitVec.ofInt (IntKind.bits .u8) (x % 256) := by
        apply BitVec.eq_of_toInt_eq
        rw [BitVec.toInt_ofInt, BitVec.toInt_ofInt]
        show x.bmod 256 = (x % 256).bmod 256
        exact (Int.emod_bmod x 256).symm
      simp only
      rw [this]
    rw [hx]
    have h0 := Int.emod_nonneg x (show (256 : Int) ≠ 0 by decide)
    have h1 := Int.emod_lt_of_pos x (show (0 : Int) < 256 by decide)
    have e : ∀ (j : Fin 3) (i : Fin 256), (bits .and .u8 (bits .and .u8 (i.val : Int) 248 / (2 ^ (min (j.val % 8) (IntKind.bits .u8)) : Nat)) 1 == 1) = false := by decide +kernel
    have := e ⟨m, h⟩ ⟨(x % 256).toNat, by omega⟩
    have ex : (((x % 256).toNat : Nat) : Int) = x % 256 := by omega
    simpa only [ex] using this
  unfold bitC
  rw [div8 m (by omega), show m / 8 = 0 from by omega]
  show (bits .and .u8 ((kL key).getD 0 0 / (2 ^ (min (m % 8) (IntKind.bits .u8)) : Nat)) 1 == 1) = false
  exact hk (key 0)
/-- X25519 in either order. -/
theorem XC_swap (a b u : Nat → Int) (h : ∃ q, rdF u = coord q) : upTo 32 (XC a (K 32 (XC b u))) = upTo 32 (XC b (K 32 (XC a u))) := by
  have e : ladX (bitC a) (ladX (bitC b) (rdF u)) = ladX (bitC b) (ladX (bitC a) (rdF u)) := ladX_swap _ _ (bit_low a 0 (by omega)) (bit_low b 0 (by omega)) _ h
  show upTo 32 (bytesOf (ladX (bitC a) (rdF (K 32 (XC b u))))) = upTo 32 (bytesOf (ladX (bitC b) (rdF (K 32 (XC a u)))))
  rw [rd_XC, rd_XC, e]
theorem XC_is (a u : Nat → Int) (h : ∃ q, rdF u = coord q) : ∃ q, rdF (K 32 (XC a u)) = coord q := by
  rw [rd_XC]
  exact ladX_is _ (bit_low a 0 (by omega)) _ h
theorem k9_is : ∃ q, rdF k9 = coord q := by rw [rd_k9]; exact nine_is

theorem bitC_K (a : Nat → Int) : bitC (K 32 a) = bitC a := by
  have e : upTo 32 (K 32 a) = upTo 32 a := map_congr 32 _ _ fun i hi => K_at 32 a i hi
  have e0 := K_at 32 a 0 (by omega)
  have e1 := K_at 32 a 31 (by omega)
  funext m
  unfold bitC kL
  rw [e, e0, e1]
theorem XC_K (a u : Nat → Int) : XC (K 32 a) u = XC a u := by unfold XC; rw [bitC_K]
theorem PX_is (a : Nat → Int) : PXc XC a = XC a k9 := XC_K a k9
theorem PX_swap (a b : Nat → Int) : upTo 32 (XC (K 32 a) (K 32 (PXc XC (K 32 b)))) = upTo 32 (XC (K 32 b) (K 32 (PXc XC (K 32 a)))) := by
  rw [PX_is, PX_is, XC_K, XC_K, XC_K, XC_K]
  exact XC_swap a b k9 k9_is

theorem shared_any (a b : Nat → Int) (w : World) (_ : ∀ i, i < 32 → (Lit.int .u8 (a i)).wf = true) (_ : ∀ i, i < 32 → (Lit.int .u8 (b i)).wf = true) :
    Calls Try.prog 4 #[.agg ((upTo 32 a).map (Value.int .u8)).toArray, .agg ((upTo 32 b).map (Value.int .u8)).toArray] w fun e w' => e = .returned (.bool true) ∧ Below w.heap.size w w' := by
  have := calls_of_run' (ctxL_ty _ _ _ _ _) (ctxL_orc _ _ _ _ _ lF8_ok) (ctxL_sem _ _ _ _ _) names mixed (shared_runs XC a b)
    (AllOf.holds (.cons (decide_eq_true (PX_swap a b)) (.cons (by_K (XC_by _ _)) (.cons (by_K (XC_by _ _)) .nil)))) nil w (arr_in2 _ _ _ _) (fun _ => trivial)
  simpa only [List.map_cons, List.map_nil, ints_den, mkInt_den, mkBool_den] using this
end Go.Proofs.Ytbhmfgjdphphcaa
