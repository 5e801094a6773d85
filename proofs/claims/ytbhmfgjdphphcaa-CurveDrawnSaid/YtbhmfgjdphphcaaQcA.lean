/-
  courierlaw8.first comes to true; what the laws' keys come to. Conditions: none.
-/
import Derived.Test.YtbhmfgjdphphcaaCvM
namespace Go.Proofs.Ytbhmfgjdphphcaa
open Go Go.SX
open Go.RowKit (Below)

def k8 : Nat → Int := at_ (8 :: List.replicate 31 0)
def k9 : Nat → Int := at_ (9 :: List.replicate 31 0)
def k0 : Nat → Int := at_ (List.replicate 32 0)
def orcTrue : Orc := fun vs _ => match vs with
  | [] => some (.val (mkBool true) [])
  | _ => none
def lC (X : F2) : List (Nat × Orc) := [(11, orcMul X), (12, orcMul X)]
theorem lC_ok : ∀ x ∈ lC XC, OneOK Try.prog x.1 x.2 := by
  intro x hx
  simp only [lC, List.mem_cons, List.not_mem_nil, or_false] at hx
  rcases hx with rfl | rfl
  · exact mul11_one
  · exact mul12_one
theorem first_runs (X : F2) : runOf (ctxL Try.prog (lC X) (yesNo [7, 12] []) (open_ []) noLoop) Try.prog 100 10 [] =
    some (mkBool true, [(!decide (upTo 32 (X k8 k9) = upTo 32 k0)) = true, byF k9, decide (upTo 32 (X k8 k0) = upTo 32 k0) = true, byF k0]) := by kernel_rfl

/-! Values that are reckoned out. -/
def ladV (bit : Nat → Bool) (x : Fp) : Nat := (ladF x bit 255).a.val * pm Pn 256 (ladF x bit 255).c.val (Pn - 2) % Pn
theorem ladV_eq (bit : Nat → Bool) (x : Fp) : (ladX bit x).val = ladV bit x := by
  unfold ladX outF ladV
  rw [fp_mul_val]
  unfold inv
  rw [pwF_pm _ _ (by decide)]
theorem bytes_zero {x : Fp} (h : ∀ i, i < 32 → bytesOf x i = 0) : x = 0 := by
  apply Fin.ext
  have h1 := gv_dig 256 (by decide) (x.val : Int) 32
  have h2 : gv 256 (dig 256 (x.val : Int)) 32 = gv 256 (fun _ => 0) 32 := gv_congr _ _ _ 32 h
  have h3 : gv 256 (fun _ => 0) 32 = 0 := by decide +kernel
  rw [h2, h3] at h1
  have hx : x.val < 57896044618658097711785492504343953926634992332820282019728792003956564819949 := x.isLt
  have e : (256 : Int) ^ 32 = 115792089237316195423570985008687907853269984665640564039457584007913129639936 := by decide
  rw [e] at h1
  show x.val = 0
  omega
theorem bytes_nought (i : Nat) : bytesOf 0 i = 0 := by
  unfold bytesOf dig
  show ((0 : Nat) : Int) / 256 ^ i % 256 = 0
  simp
theorem k0_at (i : Nat) (h : i < 32) : k0 i = 0 := by
  have : ∀ j : Fin 32, k0 j.val = 0 := by decide +kernel
  exact this ⟨i, h⟩
theorem k9_by : byF k9 := by
  have : ∀ j : Fin 32, 0 ≤ k9 j.val ∧ k9 j.val ≤ 255 := by decide +kernel
  exact fun i hi => this ⟨i, hi⟩
theorem k0_by : byF k0 := by
  have : ∀ j : Fin 32, 0 ≤ k0 j.val ∧ k0 j.val ≤ 255 := by decide +kernel
  exact fun i hi => this ⟨i, hi⟩
theorem rd_k9 : rdF k9 = 9 := by decide +kernel
theorem rd_k0 : rdF k0 = 0 := by decide +kernel
theorem XC_nought (key u : Nat → Int) (h : rdF u = 0) : upTo 32 (XC key u) = upTo 32 k0 := by
  refine map_congr 32 _ _ fun i hi => ?_
  unfold XC ladX
  rw [h, out_nought, bytes_nought, k0_at i hi]
theorem upTo_eq {n : Nat} {f g : Nat → Int} (h : upTo n f = upTo n g) (i : Nat) (hi : i < n) : f i = g i := by
  have := congrArg (fun l : List Int => l.getD i 0) h
  simp only [upTo] at this
  rw [map_get n f i hi, map_get n g i hi] at this
  exact this
theorem nine_not : upTo 32 (XC k8 k9) ≠ upTo 32 k0 := fun h => by
  have hz : ladX (bitC k8) (rdF k9) = 0 := bytes_zero fun i hi => by
    have := upTo_eq h i hi
    rw [k0_at i hi] at this
    exact this
  rw [rd_k9] at hz
  have h1 := ladV_eq (bitC k8) 9
  rw [hz] at h1
  have h2 : ladV (bitC k8) 9 ≠ 0 := by decide +kernel
  exact h2 h1.symm
theorem first_conds : Holds [(!decide (upTo 32 (XC k8 k9) = upTo 32 k0)) = true, byF k9, decide (upTo 32 (XC k8 k0) = upTo 32 k0) = true, byF k0] :=
  AllOf.holds (.cons (by rw [decide_eq_false nine_not]; rfl) (.cons k9_by (.cons (decide_eq_true (XC_nought k8 k0 rd_k0)) (.cons k0_by .nil))))
theorem first_one : OneOK Try.prog 10 orcTrue := by
  refine ⟨body_ok _ _ (by kernel_rfl), ?_⟩
  intro vs g res h _ W η E w _ _ _
  unfold orcTrue at h
  split at h
  · simp only [Option.some.injEq] at h
    subst h
    refine ⟨fun _ => trivial, ?_⟩
    exact calls_of_run' (ctxL_ty _ _ _ _ _) (ctxL_orc _ _ _ _ _ lC_ok) (ctxL_sem _ _ _ _ _) names mixed (first_runs XC) first_conds η w (by simp) (fun _ => trivial)
  · cases h

/-- A public key. -/
def PXc (X : F2) : F1 := fun a => X (K 32 a) k9
theorem pub_runs (X : F2) (a : Nat → Int) : runOf (ctxL Try.prog (lC X) (yesNo [] []) (open_ []) noLoop) Try.prog 100 13 [ints .u8 (upTo 32 a)] = some (ints .u8 (upTo 32 (X (K 32 a) k9)), [byF k9]) := by kernel_rfl
theorem rpub_runs (X : F2) (a : Nat → Int) : runOf (ctxL Try.prog (lC X) (yesNo [] []) (open_ []) noLoop) Try.prog 100 14 [ints .u8 (upTo 32 a)] = some (ints .u8 (upTo 32 (X (K 32 a) k9)), [byF k9]) := by kernel_rfl
theorem pub_one : OneOK Try.prog 13 (orcA1 .u8 32 .u8 32 (PXc XC)) := a1_one (by kernel_rfl) fun a η w =>
  calls_of_run' (ctxL_ty _ _ _ _ _) (ctxL_orc _ _ _ _ _ lC_ok) (ctxL_sem _ _ _ _ _) names mixed (pub_runs XC a) (AllOf.holds (.cons k9_by .nil)) η w (arr_in _ _ _) (SV.plain_in (ints_plain _ _))
theorem rpub_one : OneOK Try.prog 14 (orcA1 .u8 32 .u8 32 (PXc XC)) := a1_one (by kernel_rfl) fun a η w =>
  calls_of_run' (ctxL_ty _ _ _ _ _) (ctxL_orc _ _ _ _ _ lC_ok) (ctxL_sem _ _ _ _ _) names mixed (rpub_runs XC a) (AllOf.holds (.cons k9_by .nil)) η w (arr_in _ _ _) (SV.plain_in (ints_plain _ _))
def lF8 (X : F2) : List (Nat × Orc) := (10, orcTrue) :: (13, orcA1 .u8 32 .u8 32 (PXc X)) :: (14, orcA1 .u8 32 .u8 32 (PXc X)) :: lC X
theorem lF8_ok : ∀ x ∈ lF8 XC, OneOK Try.prog x.1 x.2 := by
  intro x hx
  rcases List.mem_cons.1 hx with rfl | hx
  · exact first_one
  rcases List.mem_cons.1 hx with rfl | hx
  · exact pub_one
  rcases List.mem_cons.1 hx with rfl | hx
  · exact rpub_one
  · exact lC_ok x hx
theorem wf_by {a : Nat → Int} (h : ∀ i, i < 32 → (Lit.int .u8 (a i)).wf = true) : byF a := fun i hi => bounds_u8 (h i hi)
theorem by_K {a : Nat → Int} (h : byF a) : byF (K 32 a) := fun i hi => by rw [K_at 32 a i hi]; exact h i hi
end Go.Proofs.Ytbhmfgjdphphcaa
