/-
  curve.Mul and the document's Mul by their contract: X25519's bytes. Conditions: a coordinate's bytes.
-/
import Derived.Test.YtbhmfgjdphphcaaCvK
namespace Go.Proofs.Ytbhmfgjdphphcaa
open Go Go.SX
open Go.RowKit (Below)

/-- X25519, of bytes. -/
def XC (key u : Nat → Int) : Nat → Int := bytesOf (ladX (bitC key) (rdF u))

def lMc : List (Nat × Orc) := lM ADc SBc MLc INc RDc WRc
theorem lM_ok : ∀ x ∈ lMc, OneOK Try.prog x.1 x.2 := by
  intro x hx
  simp only [lMc, lM, List.mem_cons, List.not_mem_nil, or_false] at hx
  rcases hx with rfl | rfl | rfl | rfl | rfl | rfl | rfl
  · exact swap_one
  · exact add_one
  · exact sub_one
  · exact mulc_one
  · exact inv_one
  · exact read_one
  · exact write_one
def lNc : List (Nat × Orc) := lN ADc SBc MRc IRc UPc PCc
theorem lN_ok : ∀ x ∈ lNc, OneOK Try.prog x.1 x.2 := by
  intro x hx
  simp only [lNc, lN, List.mem_cons, List.not_mem_nil, or_false] at hx
  rcases hx with rfl | rfl | rfl | rfl | rfl | rfl
  · exact radd_one
  · exact rsub_one
  · exact mulr_one
  · exact rinv_one
  · exact unp_one
  · exact pack_one

theorem div8 (m : Nat) (h : m ≤ 254) : IntKind.i64.wrap ((m : Int).tdiv 8) = ((m / 8 : Nat) : Int) := by
  have : ((m : Int).tdiv 8) = ((m / 8 : Nat) : Int) := by rw [Int.tdiv_eq_ediv_of_nonneg (by omega)]; omega
  rw [this, IntKind.wrap_i64]
  omega
theorem mul_steps (key x : Nat → Int) : ∀ k, k < 255 → StepsTo Try.prog 0 XM (sM key x (LD ADc SBc MLc (at_ byL) x (bitC key) k) (254 - (k : Int))) .normal (sM key x (LD ADc SBc MLc (at_ byL) x (bitC key) (k + 1)) (254 - ((k + 1 : Nat) : Int))) := by
  intro k hk
  have hm : (254 - (k : Int)) = ((254 - k : Nat) : Int) := by omega
  have hw : (254 - ((k + 1 : Nat) : Int)) = IntKind.i64.wrap (((254 - k : Nat) : Int) - 1) := by rw [wrap_less _ (by omega)]; omega
  show StepsTo Try.prog 0 XM (sM key x (LD ADc SBc MLc (at_ byL) x (bitC key) k) (254 - (k : Int))) .normal (sM key x (roundS ADc SBc MLc (at_ byL) x (bitC key (254 - k)) (LD ADc SBc MLc (at_ byL) x (bitC key) k)) (254 - ((k + 1 : Nat) : Int)))
  rw [hm, hw]
  refine steps_of_run (ctxL_ty _ _ _ _ _) (ctxL_orc _ _ _ _ _ lM_ok) (ctxL_sem _ _ _ _ _) names mixed (mul_round ADc SBc MLc INc RDc WRc key x (LD ADc SBc MLc (at_ byL) x (bitC key) k) (254 - k)) ?_ (St.with_same _ _)
  rw [St.with_conds, div8 (254 - k) (by omega)]
  exact AllOf.holds (.cons (by omega) (.cons (by omega) (.cons (by omega) (.cons (decide_eq_true (by omega)) .nil))))
theorem mul_leaves (key x : Nat → Int) (q : Q4) : StepsTo Try.prog 0 XM (sM key x q (254 - ((255 : Nat) : Int))) (.exit 0) (sM key x q (-1)) :=
  steps_of_run (ctxL_ty _ _ _ _ _) (ctxL_orc _ _ _ _ _ lM_ok) (ctxL_sem _ _ _ _ _) names mixed (mul_end ADc SBc MLc INc RDc WRc key x q) (by rw [St.with_conds]; exact Holds.nil) (St.with_same _ _)
theorem mul_calls (key u : Nat → Int) (hu : byF u) (η : Asg) (w : World) :
    Calls Try.prog 11 ([ints .u8 (upTo 32 key), ints .u8 (upTo 32 u)].map (SV.den η)).toArray w fun e w' => e = .returned ((ints .u8 (upTo 32 (XC key u))).den η) ∧ Below w.heap.size w w' := by
  have h := calls_of_run' (ctxK_ty _ _ _ _ _ _) (ctxK_orc _ _ _ _ _ _ lM_ok) (ctxK_sem _ _ _ _ _ _) names mixed (mul_runs_all ADc SBc MLc INc RDc WRc key u)
    (AllOf.holds (AllOf.app (.cons (St.same_refl _) (.cons (mul_steps key (RDc (K 32 u))) (.cons (mul_leaves _ _ _) (.cons trivial .nil)))) (AllOf.rep (St.same_refl _)))) η w (arr_in2 _ _ _ _) (SV.plain_in (ints_plain _ _))
  have hk : byF (K 32 u) := fun i hi => by rw [K_at 32 u i hi]; exact hu i hi
  have ho := out_is (AD := ADc) (SB := SBc) (ML := MLc) add_ok sub_ok mulC_ok (IN := INc) (RD := RDc) (WR := WRc) (fun _ => rfl) read_ok write_ok byL_is.1 byL_is.2 hk (bitC key)
  rw [ho] at h
  have e : rdF (K 32 u) = rdF u := by
    unfold rdF
    rw [gv_congr 256 (K 32 u) u 32 fun i hi => K_at 32 u i hi]
  rw [e] at h
  exact h

theorem bitR_is (key : Nat → Int) (m : Nat) (h : m ≤ 254) : (bitR key m == 1) = bitC key m := by
  unfold bitR bitC
  have e : ((m : Int) / (2 ^ 3 : Nat)).toNat = m / 8 := by
    have : ((2 ^ 3 : Nat) : Int) = 8 := by decide
    rw [this]; omega
  have e2 : (IntKind.i64.wrap ((m : Int).tdiv 8)).toNat = m / 8 := by rw [div8 m h]; omega
  rw [e, e2]
theorem psN_ok (key : Nat → Int) (m : Nat) (h : m ≤ 254) (s : Bool) (hs : bitC key m = s) : AllOf (psN key m s) := by
  have e3 : ((2 ^ 3 : Nat) : Int) = 8 := by decide
  have e7 : bits .and .i64 (m : Int) 7 = (m : Int) % 8 := by
    have h7 : (BitVec.ofInt 64 7).toNat = 2 ^ 3 - 1 := by decide
    have key : (BitVec.ofInt 64 (m : Int) &&& BitVec.ofInt 64 7).toNat = ((m : Int) % ((2 ^ 64 : Nat) : Int)).toNat % 2 ^ 3 := by
      rw [BitVec.toNat_and, BitVec.toNat_ofInt, h7, Nat.and_two_pow_sub_one_eq_mod]
    show IntKind.i64.wrap ((BitVec.ofInt 64 (m : Int) &&& BitVec.ofInt 64 7).toNat : Nat) = _
    rw [key, IntKind.wrap_i64]
    omega
  refine .cons ((bitR_is key m h).trans hs) (.cons ?_ (.cons ?_ (.cons ?_ (.cons ?_ (.cons (decide_eq_true (by omega)) .nil)))))
  · rw [e7, IntKind.wrap_u64]; omega
  · rw [e3]; omega
  · rw [e3]; omega
  · rw [e3]; omega
theorem rmul_steps (key x : Nat → Int) : ∀ k, k < 255 → StepsTo Try.prog 0 XN (sN key x (LD ADc SBc MRc (at_ smallL) x (bitC key) k) (254 - (k : Int))) .normal (sN key x (LD ADc SBc MRc (at_ smallL) x (bitC key) (k + 1)) (254 - ((k + 1 : Nat) : Int))) := by
  intro k hk
  have hm : (254 - (k : Int)) = ((254 - k : Nat) : Int) := by omega
  have hw : (254 - ((k + 1 : Nat) : Int)) = IntKind.i64.wrap (((254 - k : Nat) : Int) - 1) := by rw [wrap_less _ (by omega)]; omega
  show StepsTo Try.prog 0 XN (sN key x (LD ADc SBc MRc (at_ smallL) x (bitC key) k) (254 - (k : Int))) .normal (sN key x (roundS ADc SBc MRc (at_ smallL) x (bitC key (254 - k)) (LD ADc SBc MRc (at_ smallL) x (bitC key) k)) (254 - ((k + 1 : Nat) : Int)))
  rw [hm, hw]
  rcases hb : bitC key (254 - k) with _ | _
  · refine steps_of_run (ctxL_ty _ _ _ _ _) (ctxL_orc _ _ _ _ _ lN_ok) (ctxL_sem _ _ _ _ _) names mixed (rmul_no ADc SBc MRc IRc UPc PCc key x (LD ADc SBc MRc (at_ smallL) x (bitC key) k) (254 - k)) ?_ (St.with_same _ _)
    rw [St.with_conds]
    exact AllOf.holds (AllOf.app (.cons ((bitR_is key _ (by omega)).trans hb) .nil) (psN_ok key _ (by omega) _ hb))
  · refine steps_of_run (ctxK_ty _ _ _ _ _ _) (ctxK_orc _ _ _ _ _ _ lN_ok) (ctxK_sem _ _ _ _ _ _) names mixed (rmul_yes ADc SBc MRc IRc UPc PCc key x (LD ADc SBc MRc (at_ smallL) x (bitC key) k) (254 - k)) ?_ (St.with_same _ _)
    rw [St.with_conds]
    exact AllOf.holds (AllOf.app (AllOf.rep (St.same_refl _)) (AllOf.app (.cons ((bitR_is key _ (by omega)).trans hb) .nil) (AllOf.app (AllOf.rep (St.same_refl _)) (psN_ok key _ (by omega) _ hb))))
theorem rmul_leaves (key x : Nat → Int) (q : Q4) : StepsTo Try.prog 0 XN (sN key x q (254 - ((255 : Nat) : Int))) (.exit 0) (sN key x q (-1)) :=
  steps_of_run (ctxL_ty _ _ _ _ _) (ctxL_orc _ _ _ _ _ lN_ok) (ctxL_sem _ _ _ _ _) names mixed (rmul_end ADc SBc MRc IRc UPc PCc key x q) (by rw [St.with_conds]; exact Holds.nil) (St.with_same _ _)
theorem rmul_calls (key u : Nat → Int) (hu : byF u) (η : Asg) (w : World) :
    Calls Try.prog 12 ([ints .u8 (upTo 32 key), ints .u8 (upTo 32 u)].map (SV.den η)).toArray w fun e w' => e = .returned ((ints .u8 (upTo 32 (XC key u))).den η) ∧ Below w.heap.size w w' := by
  have h := calls_of_run' (ctxL_ty _ _ _ _ _) (ctxL_orc _ _ _ _ _ lN_ok) (ctxL_sem _ _ _ _ _) names mixed (rmul_runs_all ADc SBc MRc IRc UPc PCc key u)
    (AllOf.holds (.cons (St.same_refl _) (.cons (rmul_steps key (UPc (K 32 u))) (.cons (rmul_leaves _ _ _) (.cons trivial .nil))))) η w (arr_in2 _ _ _ _) (SV.plain_in (ints_plain _ _))
  have hk : byF (K 32 u) := fun i hi => by rw [K_at 32 u i hi]; exact hu i hi
  have ho := out_is (AD := ADc) (SB := SBc) (ML := MRc) add_ok sub_ok mulR_ok (IN := IRc) (RD := UPc) (WR := PCc) (fun _ => rfl) unp_ok pack_ok smallL_is.1 smallL_is.2 hk (bitC key)
  rw [ho] at h
  have e : rdF (K 32 u) = rdF u := by
    unfold rdF
    rw [gv_congr 256 (K 32 u) u 32 fun i hi => K_at 32 u i hi]
  rw [e] at h
  exact h

/-- X25519 as an oracle. -/
def orcMul (X : F2) : Orc := fun vs _ => match vs with
  | [x, y] => match arrOf .u8 32 x, arrOf .u8 32 y with
    | some a, some b => some (.val (ints .u8 (upTo 32 (X a b))) [byF b])
    | _, _ => none
  | _ => none
theorem mulX_one (f : Nat) (hb : ((Try.prog.funcs[f]?).map fun fn => fn.body.isSome).getD false = true)
    (hc : ∀ (key u : Nat → Int) (_ : byF u) (η : Asg) (w : World), Calls Try.prog f ([ints .u8 (upTo 32 key), ints .u8 (upTo 32 u)].map (SV.den η)).toArray w fun e w' => e = .returned ((ints .u8 (upTo 32 (XC key u))).den η) ∧ Below w.heap.size w w') : OneOK Try.prog f (orcMul XC) := by
  refine ⟨body_ok _ _ hb, ?_⟩
  intro vs g res h hps W η E w _ hvs _
  clear hvs
  unfold orcMul at h
  split at h
  · rename_i x y
    split at h
    · rename_i a b ha hb2
      simp only [Option.some.injEq] at h
      subst h
      have h1 : byF b := hps _ (List.mem_cons_self ..)
      refine ⟨SV.plain_in (ints_plain _ _), ?_⟩
      simp only [List.map_cons, List.map_nil]
      rw [arrOf_den ha, arrOf_den hb2]
      exact hc a b h1 η w
    · cases h
  · cases h
theorem mul11_one : OneOK Try.prog 11 (orcMul XC) := mulX_one 11 (by kernel_rfl) mul_calls
theorem mul12_one : OneOK Try.prog 12 (orcMul XC) := mulX_one 12 (by kernel_rfl) rmul_calls
end Go.Proofs.Ytbhmfgjdphphcaa
