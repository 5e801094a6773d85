/-
  CurveVectors comes to true. Conditions: those of a parameter's values.
-/
import Derived.Test.YtbhmfgjdphphcaaQcB
namespace Go.Proofs.Ytbhmfgjdphphcaa
open Go Go.SX
open Go.RowKit (Below)

theorem auto_one (fuel f : Nat) (hb : ((Try.prog.funcs[f]?).map fun fn => fn.body.isSome).getD false = true) : OneOK Try.prog f (auto cx0 (fun i => Try.prog.funcs[i]?) fuel f) :=
  ⟨body_ok _ _ hb, fun _ _ _ hr hps _ η _ w _ _ _ => auto_ok ty0 orc0 sem0 names mixed hr hps η w⟩
/-- A function of a constant string, run. -/
noncomputable def orcStr (fuel f : Nat) : Orc := fun vs _ => match vs with
  | [.one (.sc (.str s))] => match runOf cx0 Try.prog fuel f [.one (.sc (.str s))] with
    | some (v, ps) => bif v.plain then some (.val v ps) else none
    | none => none
  | _ => none
theorem str_one (fuel f : Nat) (hb : ((Try.prog.funcs[f]?).map fun fn => fn.body.isSome).getD false = true) : OneOK Try.prog f (orcStr fuel f) := by
  refine ⟨body_ok _ _ hb, ?_⟩
  intro vs g res h hps W η E w _ hvs _
  clear hvs
  unfold orcStr at h
  split at h
  · rename_i s
    split at h
    · rename_i v ps hr
      cases hp : v.plain with
      | false => simp [hp] at h
      | true =>
        simp only [hp, cond_true, Option.some.injEq] at h
        subst h
        refine ⟨SV.plain_in hp, ?_⟩
        exact calls_of_run' ty0 orc0 sem0 names mixed hr hps η w (fun x hx => by
          simp only [List.mem_cons, List.not_mem_nil, or_false] at hx
          subst hx
          trivial) (SV.plain_in hp)
    · cases h
  · cases h
noncomputable def lV8 (X : F2) (r : Int) : List (Nat × Orc) := (16, orcStr 5000 16) :: (17, auto cx0 (fun i => Try.prog.funcs[i]?) 1000 17) :: lZ X r
theorem lV8_ok (r : Int) : ∀ x ∈ lV8 XC r, OneOK Try.prog x.1 x.2 := by
  intro x hx
  rcases List.mem_cons.1 hx with rfl | hx
  · exact str_one 5000 16 (by kernel_rfl)
  rcases List.mem_cons.1 hx with rfl | hx
  · exact auto_one 1000 17 (by kernel_rfl)
  · exact lZ_ok r x hx
def vKL : List Int := [165, 70, 227, 107, 240, 82, 124, 157, 59, 22, 21, 75, 130, 70, 94, 221, 98, 20, 76, 10, 193, 252, 90, 24, 80, 106, 34, 68, 186, 68, 154, 196]
def vU1L : List Int := [230, 219, 104, 103, 88, 48, 48, 219, 53, 148, 193, 164, 36, 177, 95, 124, 114, 102, 36, 236, 38, 179, 53, 59, 16, 169, 3, 166, 208, 171, 28, 76]
def vRL : List Int := [195, 218, 85, 55, 157, 233, 198, 144, 142, 148, 234, 77, 242, 141, 8, 79, 50, 236, 207, 3, 73, 28, 113, 247, 84, 180, 7, 85, 119, 162, 133, 82]
def wKL : List Int := [119, 7, 109, 10, 115, 24, 165, 125, 60, 22, 193, 114, 81, 178, 102, 69, 223, 76, 47, 135, 235, 192, 153, 42, 177, 119, 251, 165, 29, 185, 44, 42]
def wRL : List Int := [133, 32, 240, 9, 137, 48, 167, 84, 116, 139, 125, 220, 180, 62, 247, 90, 13, 191, 58, 13, 38, 56, 26, 244, 235, 164, 169, 142, 170, 155, 78, 106]
def psV0 (X : F2) (which : Int) : List Prop := [decide (upTo 32 (X (at_ vKL) (at_ vU1L)) = vRL) = true, byF (at_ vU1L), which % 2 = 0, (1 : Int) ≤ 2, (2 : Int) ≤ 1000000]
def psV1 (X : F2) (which : Int) : List Prop := [decide (upTo 32 (PXc X (at_ wKL)) = wRL) = true, which % 2 = 1, (1 : Int) ≤ 2, (2 : Int) ≤ 1000000]
theorem vec_0 (X : F2) (which : Int) : runOf (ctxL Try.prog (lV8 X 0) (yesNo [21] []) (open_ []) noLoop) Try.prog 500 6 [mkInt .i64 which] = some (mkBool true, psV0 X which) := by kernel_rfl
theorem vec_1 (X : F2) (which : Int) : runOf (ctxL Try.prog (lV8 X 1) (yesNo [29] []) (open_ []) noLoop) Try.prog 500 6 [mkInt .i64 which] = some (mkBool true, psV1 X which) := by kernel_rfl

theorem by_list (L : List Int) (h : (List.range 32).all fun i => decide (0 ≤ at_ L i ∧ at_ L i ≤ 255)) : byF (at_ L) := fun i hi => by
  have := List.all_eq_true.1 h i (List.mem_range.2 hi)
  simpa using this
theorem X_lit (key u : Nat → Int) (v : Nat) (L : List Int) (hv : ladV (bitC key) (rdF u) = v) (hL : upTo 32 (fun i => dig 256 (v : Int) i) = L) : upTo 32 (XC key u) = L := by
  rw [← hL]
  refine map_congr 32 _ _ fun i _ => ?_
  unfold XC bytesOf
  rw [ladV_eq, hv]
theorem vec_a : upTo 32 (XC (at_ vKL) (at_ vU1L)) = vRL := X_lit _ _ 37325765543539916631701301279660700968428932651319597985674090122993663859395 _ (by decide +kernel) (by decide +kernel)
theorem vec_b : upTo 32 (XC (at_ wKL) k9) = wRL := X_lit _ _ 48084050389777770101701157326923977117307187144965043058462938058489685090437 _ (by decide +kernel) (by decide +kernel)
theorem vec_any (which : Int) (w : World) (_ : (Lit.int .i64 which).wf = true) : Calls Try.prog 6 #[.int .i64 which] w fun e w' => e = .returned (.bool true) ∧ Below w.heap.size w w' := by
  have h2 : which % 2 = 0 ∨ which % 2 = 1 := by omega
  rcases h2 with h | h
  · have := calls_of_run' (ctxL_ty _ _ _ _ _) (ctxL_orc _ _ _ _ _ (lV8_ok 0)) (ctxL_sem _ _ _ _ _) names mixed (vec_0 XC which)
      (AllOf.holds (.cons (decide_eq_true vec_a) (.cons (by_list _ (by decide +kernel)) (.cons h (.cons (by decide) (.cons (by decide) .nil)))))) nil w (int_in _ _ _) (fun _ => trivial)
    simpa only [List.map_cons, List.map_nil, mkInt_den, mkBool_den] using this
  · have := calls_of_run' (ctxL_ty _ _ _ _ _) (ctxL_orc _ _ _ _ _ (lV8_ok 1)) (ctxL_sem _ _ _ _ _) names mixed (vec_1 XC which)
      (AllOf.holds (.cons (decide_eq_true (by rw [PX_is]; exact vec_b)) (.cons h (.cons (by decide) (.cons (by decide) .nil))))) nil w (int_in _ _ _) (fun _ => trivial)
    simpa only [List.map_cons, List.map_nil, mkInt_den, mkBool_den] using this
end Go.Proofs.Ytbhmfgjdphphcaa
