/-
  CurveThree comes to true. Conditions: those of a parameter's values.
-/
import Derived.Test.YtbhmfgjdphphcaaQcB
namespace Go.Proofs.Ytbhmfgjdphphcaa
open Go Go.SX
open Go.RowKit (Below)

def kyL (n : Int) : List Int := (List.range 32).map fun (i : Nat) => IntKind.u8.wrap (IntKind.u8.wrap (n / (2 ^ (min (i % 8 * 4) (IntKind.bits .i64)) : Nat)) + IntKind.u8.wrap (wl (17 * (i : Int))))
theorem key_runs (n : Int) : runOf cx0 Try.prog 1000 17 [mkInt .i64 n] = some (ints .u8 (kyL n), []) := by kernel_rfl
def KY (n : Int) : Nat → Int := at_ (kyL n)
def orcKey (Y : Int → Nat → Int) : Orc := fun vs _ => match vs with
  | [.one (.sc (.int .i64 n))] => some (.val (ints .u8 (upTo 32 (Y n))) [])
  | _ => none
theorem key_one : OneOK Try.prog 17 (orcKey KY) := by
  refine ⟨body_ok _ _ (by kernel_rfl), ?_⟩
  intro vs g res h _ W η E w _ hvs _
  clear hvs
  unfold orcKey at h
  split at h
  · rename_i n
    simp only [Option.some.injEq] at h
    subst h
    refine ⟨SV.plain_in (ints_plain _ _), ?_⟩
    unfold KY
    rw [upTo_list (by simp [kyL])]
    exact calls_of_run' ty0 orc0 sem0 names mixed (key_runs n) Holds.nil η w (int_in _ _ _) (SV.plain_in (ints_plain _ _))
  · cases h
def lT (X : F2) (Y : Int → Nat → Int) : List (Nat × Orc) := (17, orcKey Y) :: lS X
theorem lT_ok : ∀ x ∈ lT XC KY, OneOK Try.prog x.1 x.2 := by
  intro x hx
  rcases List.mem_cons.1 hx with rfl | hx
  · exact key_one
  · exact lS_ok x hx

/-- What two have of one another. -/
def abX (X : F2) (A B : Nat → Int) : Nat → Int := X (K 32 A) (K 32 (PXc X (K 32 B)))
def ps3 (X : F2) (A B C : Nat → Int) : List Prop :=
  [decide (upTo 32 (X (K 32 A) (K 32 (abX X B C))) = upTo 32 (X (K 32 B) (K 32 (abX X C A)))) = true, byF (K 32 (abX X C A)), byF (K 32 (abX X B C)),
   decide (upTo 32 (X (K 32 C) (K 32 (abX X A B))) = upTo 32 (X (K 32 A) (K 32 (abX X B C)))) = true, byF (K 32 (abX X B C)), byF (K 32 (abX X A B)),
   byF (K 32 (PXc X (K 32 A))), byF (K 32 (PXc X (K 32 C))), byF (K 32 (PXc X (K 32 B))), (1 : Int) ≤ 100000, (100000 : Int) ≤ 1000000]
theorem three_runs (X : F2) (Y : Int → Nat → Int) (n : Int) : runOf (ctxL Try.prog (lT X Y) (yesNo [43, 52] []) (open_ []) noLoop) Try.prog 500 8 [mkInt .i64 n] =
    some (mkBool true, ps3 X (Y (n % 100000)) (Y (wl (n % 100000 + 1))) (Y (wl (n % 100000 + 2)))) := by kernel_rfl

theorem ab_eq (A B : Nat → Int) : abX XC A B = XC A (K 32 (XC B k9)) := by unfold abX; rw [PX_is, XC_K, XC_K]
theorem three_ok (A B C : Nat → Int) : Holds (ps3 XC A B C) := by
  have by2 : ∀ A B, byF (K 32 (abX XC A B)) := fun A B => by_K (XC_by _ _)
  have s1 : upTo 32 (XC C (K 32 (XC A (K 32 (XC B k9))))) = upTo 32 (XC A (K 32 (XC C (K 32 (XC B k9))))) := XC_swap C A _ (XC_is B k9 k9_is)
  have kk : ∀ {f g : Nat → Int}, upTo 32 f = upTo 32 g → K 32 f = K 32 g := fun h => by unfold K; rw [h]
  have s2 : K 32 (XC C (K 32 (XC B k9))) = K 32 (XC B (K 32 (XC C k9))) := kk (XC_swap C B k9 k9_is)
  have s3 : upTo 32 (XC A (K 32 (XC B (K 32 (XC C k9))))) = upTo 32 (XC B (K 32 (XC A (K 32 (XC C k9))))) := XC_swap A B _ (XC_is C k9 k9_is)
  have s4 : K 32 (XC A (K 32 (XC C k9))) = K 32 (XC C (K 32 (XC A k9))) := kk (XC_swap A C k9 k9_is)
  refine AllOf.holds (.cons (decide_eq_true ?_) (.cons (by2 _ _) (.cons (by2 _ _) (.cons (decide_eq_true ?_) (.cons (by2 _ _) (.cons (by2 _ _) (.cons (by_K (XC_by _ _)) (.cons (by_K (XC_by _ _)) (.cons (by_K (XC_by _ _)) (.cons (by decide) (.cons (by decide) .nil)))))))))))
  · rw [ab_eq, ab_eq, XC_K, XC_K, s3, s4]
  · rw [ab_eq, ab_eq, XC_K, XC_K, s1, s2]
theorem three_any (n : Int) (w : World) (_ : (Lit.int .i64 n).wf = true) : Calls Try.prog 8 #[.int .i64 n] w fun e w' => e = .returned (.bool true) ∧ Below w.heap.size w w' := by
  have := calls_of_run' (ctxL_ty _ _ _ _ _) (ctxL_orc _ _ _ _ _ lT_ok) (ctxL_sem _ _ _ _ _) names mixed (three_runs XC KY n) (three_ok _ _ _) nil w (int_in _ _ _) (fun _ => trivial)
  simpa only [List.map_cons, List.map_nil, mkInt_den, mkBool_den] using this
end Go.Proofs.Ytbhmfgjdphphcaa
