/-
  CurveDrawn comes to true. Conditions: those of a parameter's values.
-/
import Derived.Test.YtbhmfgjdphphcaaHDraw
namespace Go.Proofs.Ytbhmfgjdphphcaa
open Go Go.SX
open Go.RowKit (Below)

theorem psDr_ok : Holds psDr := by
  refine AllOf.holds ((AllOf.cons (by omega) (.cons (by omega) (.cons (by omega) (.cons (by omega) (.cons (by omega) (.cons (by omega) (.cons (by omega) (.cons (by omega) .nil)))))))).app (AllOf.app ⟨fun p hp => ?_⟩ (AllOf.app ⟨fun p hp => ?_⟩
    (.cons (by omega) (.cons (by omega) (.cons (by omega) (.cons (by omega) (.cons (by omega) (.cons (by omega) (.cons (by omega) (.cons (by omega) .nil)))))))))))
  · obtain ⟨i, hi, hp⟩ := List.mem_flatMap.1 hp
    exact ((apP_ok (64 - i) (by omega)).app (.cons (by omega) ((apP_ok (64 - i) (by omega)).app (.cons (by omega) .nil)))).holds p hp
  · obtain ⟨i, hi, hp⟩ := List.mem_flatMap.1 hp
    exact (apP_ok (64 - i) (by omega)).holds p hp
abbrev DF := (Nat → Int) → Int → Nat → Int
def DRc : DF := DRf HFc
def orcDraw (D : DF) : Orc := fun vs _ => match vs with
  | [x, .one (.sc (.int .u32 n))] => match arrOf .u8 32 x with
    | some f => some (.val (ints .u8 (upTo 32 (D f n))) [])
    | none => none
  | _ => none
theorem draw_one : OneOK Try.prog 18 (orcDraw DRc) := by
  refine ⟨body_ok _ _ (by kernel_rfl), ?_⟩
  intro vs g res h hps W η E w hW hvs hg
  clear hvs
  unfold orcDraw at h
  split at h
  · rename_i x n
    split at h
    · rename_i f hx
      simp only [Option.some.injEq] at h
      subst h
      refine ⟨SV.plain_in (ints_plain _ _), ?_⟩
      simp only [List.map_cons, List.map_nil]
      rw [arrOf_den hx]
      exact calls_of_run' (ctxL_ty _ _ _ _ _) (ctxL_orc _ _ _ _ _ lDr_ok) (ctxL_sem _ _ _ _ _) names mixed (draw_runs HFc f n) psDr_ok η w (arr_int_in _ _ _ _ _) (SV.plain_in (ints_plain _ _))
    · cases h
  · cases h
def lDn (X : F2) (D : DF) : List (Nat × Orc) := (18, orcDraw D) :: lS X
theorem lDn_ok : ∀ x ∈ lDn XC DRc, OneOK Try.prog x.1 x.2 := by
  intro x hx
  rcases List.mem_cons.1 hx with rfl | hx
  · exact draw_one
  · exact lS_ok x hx
def psDn (X : F2) (A B : Nat → Int) : List Prop :=
  [decide (upTo 32 (X (K 32 A) (K 32 (PXc X (K 32 B)))) = upTo 32 (X (K 32 B) (K 32 (PXc X (K 32 A))))) = true, byF (K 32 (PXc X (K 32 A))), byF (K 32 (PXc X (K 32 B))),
   decide (upTo 32 (PXc X (K 32 A)) = upTo 32 (X (K 32 A) k9)) = true, byF k9, (1 : Int) ≤ 1000, (1000 : Int) ≤ 1000000]
def dA (D : DF) (seed : Nat → Int) (n : Int) : Nat → Int := D (K 32 seed) (IntKind.u32.wrap (n % 1000))
def dB (D : DF) (seed : Nat → Int) (n : Int) : Nat → Int := D (K 32 seed) (IntKind.u32.wrap (wl (n % 1000 + 1)))
theorem drawn_yes (X : F2) (D : DF) (seed : Nat → Int) (n : Int) : runOf (ctxL Try.prog (lDn X D) (yesNo [31, 42, 46] []) (open_ []) noLoop) Try.prog 500 9 [ints .u8 (upTo 32 seed), mkInt .i64 n] =
    some (mkBool true, (decide (n % 1000 > 0) = true) :: psDn X (dA D seed n) (dB D seed n)) := by kernel_rfl
theorem drawn_no (X : F2) (D : DF) (seed : Nat → Int) (n : Int) : runOf (ctxL Try.prog (lDn X D) (yesNo [31, 42, 52] [46]) (open_ []) noLoop) Try.prog 500 9 [ints .u8 (upTo 32 seed), mkInt .i64 n] =
    some (mkBool true, (decide (upTo 32 (PXc X (K 32 (dA D seed n))) = upTo 32 (PXc X (K 32 (dA D seed n)))) = true) :: (decide (n % 1000 > 0) = false) :: psDn X (dA D seed n) (dB D seed n)) := by kernel_rfl
theorem psDn_ok (A B : Nat → Int) : AllOf (psDn XC A B) :=
  .cons (decide_eq_true (PX_swap A B)) (.cons (by_K (XC_by _ _)) (.cons (by_K (XC_by _ _)) (.cons (decide_eq_true (by rw [PX_is])) (.cons k9_by (.cons (by decide) (.cons (by decide) .nil))))))
theorem drawn_any (seed : Nat → Int) (n : Int) (w : World) (_ : ∀ i, i < 32 → (Lit.int .u8 (seed i)).wf = true) (_ : (Lit.int .i64 n).wf = true) :
    Calls Try.prog 9 #[.agg ((upTo 32 seed).map (Value.int .u8)).toArray, .int .i64 n] w fun e w' => e = .returned (.bool true) ∧ Below w.heap.size w w' := by
  by_cases h : n % 1000 > 0
  · have := calls_of_run' (ctxL_ty _ _ _ _ _) (ctxL_orc _ _ _ _ _ lDn_ok) (ctxL_sem _ _ _ _ _) names mixed (drawn_yes XC DRc seed n) (AllOf.holds (.cons (decide_eq_true h) (psDn_ok _ _))) nil w (arr_int_in _ _ _ _ _) (fun _ => trivial)
    simpa only [List.map_cons, List.map_nil, ints_den, mkInt_den, mkBool_den] using this
  · have := calls_of_run' (ctxL_ty _ _ _ _ _) (ctxL_orc _ _ _ _ _ lDn_ok) (ctxL_sem _ _ _ _ _) names mixed (drawn_no XC DRc seed n) (AllOf.holds (.cons (decide_eq_true rfl) (.cons (decide_eq_false h) (psDn_ok _ _)))) nil w (arr_int_in _ _ _ _ _) (fun _ => trivial)
    simpa only [List.map_cons, List.map_nil, ints_den, mkInt_den, mkBool_den] using this
end Go.Proofs.Ytbhmfgjdphphcaa
