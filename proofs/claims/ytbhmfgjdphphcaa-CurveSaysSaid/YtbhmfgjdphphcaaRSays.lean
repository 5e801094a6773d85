/-
  CurveSays comes to true. Conditions: those of a parameter's values.
-/
import Derived.Test.YtbhmfgjdphphcaaQcA
namespace Go.Proofs.Ytbhmfgjdphphcaa
open Go Go.SX
open Go.RowKit (Below)

theorem says_runs (X : F2) (key u : Nat → Int) : runOf (ctxL Try.prog (lF8 X) (yesNo [17, 24] []) (open_ []) noLoop) Try.prog 100 3 [ints .u8 (upTo 32 key), ints .u8 (upTo 32 u)] =
    some (mkBool true, [decide (upTo 32 (PXc X (K 32 u)) = upTo 32 (PXc X (K 32 u))) = true, decide (upTo 32 (X (K 32 key) (K 32 u)) = upTo 32 (X (K 32 key) (K 32 u))) = true, byF (K 32 u), byF (K 32 u)]) := by kernel_rfl
theorem says_any (key u : Nat → Int) (w : World) (_ : ∀ i, i < 32 → (Lit.int .u8 (key i)).wf = true) (hu : ∀ i, i < 32 → (Lit.int .u8 (u i)).wf = true) :
    Calls Try.prog 3 #[.agg ((upTo 32 key).map (Value.int .u8)).toArray, .agg ((upTo 32 u).map (Value.int .u8)).toArray] w fun e w' => e = .returned (.bool true) ∧ Below w.heap.size w w' := by
  have hk := by_K (wf_by hu)
  have := calls_of_run' (ctxL_ty _ _ _ _ _) (ctxL_orc _ _ _ _ _ lF8_ok) (ctxL_sem _ _ _ _ _) names mixed (says_runs XC key u)
    (AllOf.holds (.cons (decide_eq_true rfl) (.cons (decide_eq_true rfl) (.cons hk (.cons hk .nil))))) nil w (arr_in2 _ _ _ _) (fun _ => trivial)
  simpa only [List.map_cons, List.map_nil, ints_den, mkInt_den, mkBool_den] using this
end Go.Proofs.Ytbhmfgjdphphcaa
