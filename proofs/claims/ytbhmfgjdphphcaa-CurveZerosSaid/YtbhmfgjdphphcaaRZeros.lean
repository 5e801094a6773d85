/-
  CurveZeros comes to true. Conditions: those of a parameter's values.
-/
import Derived.Test.YtbhmfgjdphphcaaQcB
namespace Go.Proofs.Ytbhmfgjdphphcaa
open Go Go.SX
open Go.RowKit (Below)

def zU (r : Nat) : Nat → Int := at_ (match r with
  | 0 => List.replicate 32 0
  | 1 => 1 :: List.replicate 31 0
  | 2 => 237 :: (List.replicate 30 255 ++ [127])
  | 3 => 236 :: (List.replicate 30 255 ++ [127])
  | _ => 238 :: (List.replicate 30 255 ++ [127]))
def psZ (X : F2) (key : Nat → Int) (r : Nat) (which : Int) : List Prop := [decide (upTo 32 (X (K 32 key) (zU r)) = upTo 32 k0) = true, byF (zU r), which % 5 = r, (1 : Int) ≤ 5, (5 : Int) ≤ 1000000]
theorem zeros_0 (X : F2) (key : Nat → Int) (which : Int) : runOf (ctxL Try.prog (lZ X 0) (yesNo [42] []) (open_ []) noLoop) Try.prog 500 7 [ints .u8 (upTo 32 key), mkInt .i64 which] = some (mkBool true, psZ X key 0 which) := by kernel_rfl
theorem zeros_1 (X : F2) (key : Nat → Int) (which : Int) : runOf (ctxL Try.prog (lZ X 1) (yesNo [42] []) (open_ []) noLoop) Try.prog 500 7 [ints .u8 (upTo 32 key), mkInt .i64 which] = some (mkBool true, psZ X key 1 which) := by kernel_rfl
theorem zeros_2 (X : F2) (key : Nat → Int) (which : Int) : runOf (ctxL Try.prog (lZ X 2) (yesNo [42] []) (open_ []) noLoop) Try.prog 500 7 [ints .u8 (upTo 32 key), mkInt .i64 which] = some (mkBool true, psZ X key 2 which) := by kernel_rfl
theorem zeros_3 (X : F2) (key : Nat → Int) (which : Int) : runOf (ctxL Try.prog (lZ X 3) (yesNo [42] []) (open_ []) noLoop) Try.prog 500 7 [ints .u8 (upTo 32 key), mkInt .i64 which] = some (mkBool true, psZ X key 3 which) := by kernel_rfl
theorem zeros_4 (X : F2) (key : Nat → Int) (which : Int) : runOf (ctxL Try.prog (lZ X 4) (yesNo [42] []) (open_ []) noLoop) Try.prog 500 7 [ints .u8 (upTo 32 key), mkInt .i64 which] = some (mkBool true, psZ X key 4 which) := by kernel_rfl

theorem zU_by (r : Nat) : byF (zU r) := by
  have h : ∀ (s : Fin 5) (j : Fin 32), 0 ≤ zU s.val j.val ∧ zU s.val j.val ≤ 255 := by decide +kernel
  intro i hi
  by_cases hr : r < 5
  · exact h ⟨r, hr⟩ ⟨i, hi⟩
  · obtain ⟨k, rfl⟩ : ∃ k, r = k + 4 := ⟨r - 4, by omega⟩
    exact h ⟨4, by omega⟩ ⟨i, hi⟩
theorem zU_sq (r : Fin 5) : rdF (zU r.val) = 0 ∨ rdF (zU r.val) * rdF (zU r.val) = 1 := by
  have : ∀ r : Fin 5, rdF (zU r.val) = 0 ∨ rdF (zU r.val) * rdF (zU r.val) = 1 := by decide +kernel
  exact this r
theorem zeros_ok (key : Nat → Int) (r : Nat) (hr : r < 5) (which : Int) (h : which % 5 = r) : Holds (psZ XC key r which) := by
  refine AllOf.holds (.cons (decide_eq_true ?_) (.cons (zU_by r) (.cons h (.cons (by decide) (.cons (by decide) .nil)))))
  refine map_congr 32 _ _ fun i hi => ?_
  rw [k0_at i hi]
  have hz : ladX (bitC (K 32 key)) (rdF (zU r)) = 0 := by
    unfold ladX
    cases zU_sq ⟨r, hr⟩ with
    | inl h0 =>
      have h0' : rdF (zU r) = 0 := h0
      rw [h0']
      exact out_nought _
    | inr h1 => exact out_sq1 _ h1 _ (bit_low _ 0 (by omega)) (bit_low _ 1 (by omega))
  show bytesOf (ladX (bitC (K 32 key)) (rdF (zU r))) i = 0
  rw [hz]
  exact bytes_nought i

theorem zeros_any (key : Nat → Int) (which : Int) (w : World) (_ : ∀ i, i < 32 → (Lit.int .u8 (key i)).wf = true) (_ : (Lit.int .i64 which).wf = true) :
    Calls Try.prog 7 #[.agg ((upTo 32 key).map (Value.int .u8)).toArray, .int .i64 which] w fun e w' => e = .returned (.bool true) ∧ Below w.heap.size w w' := by
  have h5 : which % 5 = 0 ∨ which % 5 = 1 ∨ which % 5 = 2 ∨ which % 5 = 3 ∨ which % 5 = 4 := by omega
  have go : ∀ (r : Nat) (hr : r < 5) (h : which % 5 = r), runOf (ctxL Try.prog (lZ XC r) (yesNo [42] []) (open_ []) noLoop) Try.prog 500 7 [ints .u8 (upTo 32 key), mkInt .i64 which] = some (mkBool true, psZ XC key r which) →
      Calls Try.prog 7 #[.agg ((upTo 32 key).map (Value.int .u8)).toArray, .int .i64 which] w fun e w' => e = .returned (.bool true) ∧ Below w.heap.size w w' := by
    intro r hr h hrun
    have := calls_of_run' (ctxL_ty _ _ _ _ _) (ctxL_orc _ _ _ _ _ (lZ_ok r)) (ctxL_sem _ _ _ _ _) names mixed hrun (zeros_ok key r hr which h) nil w (arr_int_in _ _ _ _ _) (fun _ => trivial)
    simpa only [List.map_cons, List.map_nil, ints_den, mkInt_den, mkBool_den] using this
  rcases h5 with h | h | h | h | h
  · exact go 0 (by omega) h (zeros_0 XC key which)
  · exact go 1 (by omega) h (zeros_1 XC key which)
  · exact go 2 (by omega) h (zeros_2 XC key which)
  · exact go 3 (by omega) h (zeros_3 XC key which)
  · exact go 4 (by omega) h (zeros_4 XC key which)
end Go.Proofs.Ytbhmfgjdphphcaa
