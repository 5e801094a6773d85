/-
  courierlaw6.first and PolySays come to true. Conditions: those of a parameter's values.
-/
import Derived.Test.YtiemgibnmanhbaaPOrc
import Derived.OpenShut
namespace Go.Proofs.Ytiemgibnmanhbaa
open Go Go.SX
open Go.RowKit (Below)

def k7 : Nat → Int := fun i => ((List.replicate 32 (0 : Int)).set 16 7).getD i 0
theorem first_runs (TG : TgF) : runOf (ctxL Try.prog (lP TG 0) (yesNo [9, 13] []) (open_ []) noLoop) Try.prog 100 8 [] =
    some (mkBool true, [(TG k7 0 (fun _ => 0) 1 == 0) = true, (TG k7 0 (fun _ => 0) 0 == 7) = true, 0 ≤ 0, 0 ≤ 1000000, byteF k7, byteF fun _ => 0]) := by kernel_rfl
theorem k7_bytes : byteF k7 := by
  intro i
  by_cases h : i < 32
  · have : ∀ j : Fin 32, 0 ≤ k7 j.val ∧ k7 j.val ≤ 255 := by decide +kernel
    exact this ⟨i, h⟩
  · have : k7 i = 0 := by
      unfold k7
      rw [List.getD_eq_getElem?_getD, List.getElem?_eq_none (by simp; omega)]
      rfl
    rw [this]; omega
theorem first_vals : TGc k7 0 (fun _ => 0) 0 = 7 ∧ TGc k7 0 (fun _ => 0) 1 = 0 := by decide +kernel
theorem first_one : OneOK Try.prog 8 orcTrue := by
  refine ⟨body_ok _ _ (by kernel_rfl), ?_⟩
  intro vs g res h _ W η E w _ _ _
  unfold orcTrue at h
  split at h
  · simp only [Option.some.injEq] at h
    subst h
    refine ⟨fun _ => trivial, ?_⟩
    exact calls_of_run' (ctxL_ty _ _ _ _ _) (ctxL_orc _ _ _ _ _ (lP_ok 0)) (ctxL_sem _ _ _ _ _) names mixed (first_runs TGc)
      (AllOf.holds (.cons (by rw [first_vals.2]; rfl) (.cons (by rw [first_vals.1]; rfl) (.cons (by decide) (.cons (by decide) (.cons k7_bytes (.cons (fun _ => ⟨Int.le_refl _, by show (0 : Int) ≤ 255; decide⟩) .nil))))))) η w (by simp) (fun _ => trivial)
  · cases h

def lQ (TG : TgF) (r : Int) : List (Nat × Orc) := (8, orcTrue) :: lP TG r
theorem lQ_ok (r : Int) : ∀ x ∈ lQ TGc r, OneOK Try.prog x.1 x.2 := by
  intro x hx
  rcases List.mem_cons.1 hx with rfl | hx
  · exact first_one
  · exact lP_ok r x hx

theorem says_long (TG : TgF) (key : Nat → Int) (b : BT) :
    runOf (ctxL Try.prog (lQ TG 0) (yesNo [11] []) (open_ []) noLoop) Try.prog 100 3 [ints .u8 (upTo 32 key), vwB b] = some (mkBool true, [decide ((b.n : Int) > 300) = true]) := by kernel_rfl
theorem says_some (TG : TgF) (key : Nat → Int) (b : BT) :
    runOf (ctxL Try.prog (lQ TG 0) (yesNo [21] [11]) (open_ []) noLoop) Try.prog 100 3 [ints .u8 (upTo 32 key), vwB b] =
      some (mkBool true, [decide (upTo 16 (TG (K 32 key) b.n b.f) = upTo 16 (TG (K 32 key) b.n b.f)) = true, b.n ≤ b.ca, b.n ≤ 1000000, byteF (K 32 key), byteF b.f, b.n ≤ b.ca, b.n ≤ 1000000, byteF (K 32 key), byteF b.f, decide ((b.n : Int) > 300) = false]) := by kernel_rfl

theorem K_wf {key : Nat → Int} (h : ∀ i, i < 32 → (Lit.int .u8 (key i)).wf = true) : byteF (K 32 key) := K_bytes 32 key fun i hi => bounds_u8 (h i hi)
theorem vs_in {w : World} {key : Nat → Int} {b : BT} {l : List SV} (hf : SX.BytesAt w b.a b.n .u8 b.f) (hl : l.all SV.plain = true) : ∀ x ∈ [ints .u8 (upTo 32 key), vwB b] ++ l, x.In w fun _ => False := by
  intro x hx
  rcases List.mem_append.1 hx with hx | hx
  · simp only [List.mem_cons, List.not_mem_nil, or_false] at hx
    rcases hx with rfl | rfl
    · exact SV.plain_in (ints_plain _ _) w
    · exact hf
  · exact SV.plain_in (List.all_eq_true.1 hl x hx) w
theorem vwB_den (η : Asg) (b : BT) : (vwB b).den η = .slice b.a b.n b.ca := rfl

theorem says_any (key : Nat → Int) (a : Option Addr) (n ca : Nat) (f : Nat → Int) (w : World) (hk : ∀ i, i < 32 → (Lit.int .u8 (key i)).wf = true)
    (hca : n ≤ ca) (_ : ca ≤ maxLen) (hf : SX.BytesAt w a n .u8 f) (hw : ∀ i, (Lit.int .u8 (f i)).wf = true) :
    Calls Try.prog 3 #[.agg ((upTo 32 key).map (Value.int .u8)).toArray, .slice a n ca] w fun e w' => e = .returned (.bool true) ∧ Below w.heap.size w w' := by
  have hb : byteF f := fun i => bounds_u8 (hw i)
  by_cases h300 : (n : Int) > 300
  · have := calls_of_run' (ctxL_ty _ _ _ _ _) (ctxL_orc _ _ _ _ _ (lQ_ok 0)) (ctxL_sem _ _ _ _ _) names mixed (says_long TGc key ⟨a, n, ca, f⟩) (AllOf.holds (.cons (decide_eq_true h300) .nil)) nil w (vs_in (l := []) hf rfl) (fun _ => trivial)
    simpa only [List.map_cons, List.map_nil, ints_den, mkInt_den, vwB_den, mkBool_den] using this
  · have q : n ≤ 1000000 := by omega
    have := calls_of_run' (ctxL_ty _ _ _ _ _) (ctxL_orc _ _ _ _ _ (lQ_ok 0)) (ctxL_sem _ _ _ _ _) names mixed (says_some TGc key ⟨a, n, ca, f⟩)
      (AllOf.holds (.cons (decide_eq_true rfl) (.cons hca (.cons q (.cons (K_wf hk) (.cons hb (.cons hca (.cons q (.cons (K_wf hk) (.cons hb (.cons (decide_eq_false h300) .nil))))))))))) nil w (vs_in (l := []) hf rfl) (fun _ => trivial)
    simpa only [List.map_cons, List.map_nil, ints_den, mkInt_den, vwB_den, mkBool_den] using this
end Go.Proofs.Ytiemgibnmanhbaa
