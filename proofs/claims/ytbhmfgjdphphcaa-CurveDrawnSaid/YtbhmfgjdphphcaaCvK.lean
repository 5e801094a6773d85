/-
  Both packages' functions of the curve by their contracts: X25519's bytes, of bytes. Conditions: bytes.
-/
import Derived.Test.YtbhmfgjdphphcaaCvG
import Derived.OpenShut
namespace Go.Proofs.Ytbhmfgjdphphcaa
open Go Go.SX
open Go.RowKit (Below)

theorem stepC_len (L : List Int) (i : Nat) : (stepC L i).length = L.length := by
  unfold stepC
  simp only
  cases Nat.blt i 15 <;> simp
theorem carC_len (L : List Int) : (carC L).length = L.length := by
  unfold carC
  have : ∀ (is : List Nat) (L : List Int), (is.foldl stepC L).length = L.length := by
    intro is
    induction is with
    | nil => intro L; rfl
    | cons i is ih => intro L; exact (ih _).trans (stepC_len L i)
  exact this _ L
theorem stepR_len (L : List Int) (i : Nat) : (stepR L i).length = L.length := by
  unfold stepR
  simp only
  cases Nat.blt i 15 <;> simp
theorem carR_len (a : Nat → Int) : (carR a).length = 16 := by
  unfold carR
  have : ∀ (is : List Nat) (L : List Int), (is.foldl stepR L).length = L.length := by
    intro is
    induction is with
    | nil => intro L; rfl
    | cons i is ih => intro L; exact (ih _).trans (stepR_len L i)
  rw [this]
  simp [upTo]
theorem upTo_len (n : Nat) (f : Nat → Int) : (upTo n f).length = n := by simp [upTo]

def ADc : F2 := fun a b => at_ (addL a b)
def SBc : F2 := fun a b => at_ (subL a b)
def MLc : F2 := fun a b => at_ (mulC a b)
def MRc : F2 := fun a b => at_ (mulR RCc a b)
def INc : F1 := fun a => IV MLc a 254
def IRc : F1 := fun a => IV MRc a 254
def RDc : F1 := fun u => at_ (readL u)
def UPc : F1 := fun u => at_ (unpL u)

theorem add_one : OneOK Try.prog 21 (A2 ADc) := a2_run ty0 orc0 sem0 names mixed (by kernel_rfl) add_runs (fun a b => upTo_len _ _)
theorem sub_one : OneOK Try.prog 22 (A2 SBc) := a2_run ty0 orc0 sem0 names mixed (by kernel_rfl) sub_runs (fun a b => upTo_len _ _)
theorem radd_one : OneOK Try.prog 27 (A2 ADc) := a2_run ty0 orc0 sem0 names mixed (by kernel_rfl) radd_runs (fun a b => upTo_len _ _)
theorem rsub_one : OneOK Try.prog 28 (A2 SBc) := a2_run ty0 orc0 sem0 names mixed (by kernel_rfl) rsub_runs (fun a b => upTo_len _ _)
theorem mulc_one : OneOK Try.prog 23 (A2 MLc) := a2_run ty0 orc0 sem0 names mixed (by kernel_rfl) mul_runs (fun a b => by
  unfold mulC
  rw [carC_len, carC_len]
  simp [foldT])
theorem rcarry_one : OneOK Try.prog 35 (A1 RCc) := a1_run ty0 orc0 sem0 names mixed (by kernel_rfl) rcarry_runs carR_len
theorem lR_ok : ∀ x ∈ lR RCc, OneOK Try.prog x.1 x.2 := by
  intro x hx
  simp only [lR, List.mem_cons, List.not_mem_nil, or_false] at hx
  subst hx
  exact rcarry_one
theorem mulr_one : OneOK Try.prog 29 (A2 MRc) := a2_run (ctxL_ty _ _ _ _ _) (ctxL_orc _ _ _ _ _ lR_ok) (ctxL_sem _ _ _ _ _) names mixed (by kernel_rfl) (rmul_runs RCc) (fun a b => upTo_len _ _)
theorem read_one : OneOK Try.prog 19 (orcA1 .u8 32 .i64 16 RDc) := a1_run ty0 orc0 sem0 names mixed (by kernel_rfl) read_runs (fun u => by simp [readL])
theorem unp_one : OneOK Try.prog 26 (orcA1 .u8 32 .i64 16 UPc) := a1_run ty0 orc0 sem0 names mixed (by kernel_rfl) unpack_runs (fun u => by simp [unpL])

theorem lV_ok (f : Nat) (ML : F2) (h : OneOK Try.prog f (A2 ML)) : ∀ x ∈ lV f ML, OneOK Try.prog x.1 x.2 := by
  intro x hx
  simp only [lV, List.mem_cons, List.not_mem_nil, or_false] at hx
  subst hx
  exact h
theorem wrap_less (m : Nat) (h : m ≤ 254) : IntKind.i64.wrap ((m : Int) - 1) = (m : Int) - 1 := by rw [IntKind.wrap_i64]; omega
theorem IV_other (ML : F2) (a : Nat → Int) (k : Nat) (h : (k == 251 || k == 249) = false) : IV ML a (k + 1) = mk ML (mk ML (IV ML a k) (IV ML a k)) a := by
  show (bif k == 251 || k == 249 then mk ML (IV ML a k) (IV ML a k) else mk ML (mk ML (IV ML a k) (IV ML a k)) a) = _
  rw [h]; rfl
theorem IV_those (ML : F2) (a : Nat → Int) (k : Nat) (h : (k == 251 || k == 249) = true) : IV ML a (k + 1) = mk ML (IV ML a k) (IV ML a k) := by
  show (bif k == 251 || k == 249 then mk ML (IV ML a k) (IV ML a k) else mk ML (mk ML (IV ML a k) (IV ML a k)) a) = _
  rw [h]; rfl
theorem psI_ok (m : Nat) (h2 : m ≠ 2) (h4 : m ≠ 4) : Holds (psI m) := AllOf.holds (.cons (by simpa using (by omega : (m : Int) ≠ 4)) (.cons (by simpa using (by omega : (m : Int) ≠ 2)) (.cons (decide_eq_true (by omega)) .nil)))
theorem inv_steps (a : Nat → Int) : ∀ k, k < 254 → StepsTo Try.prog 0 XV (sV 25 37 a (IV MLc a k) (253 - (k : Int))) .normal (sV 25 37 a (IV MLc a (k + 1)) (253 - ((k + 1 : Nat) : Int))) := by
  intro k hk
  have C := ctxL_orc Try.prog (lV 23 MLc)
  by_cases h2 : k = 251
  · subst h2
    rw [IV_those MLc a 251 rfl]
    exact steps_of_run (ctxL_ty _ _ _ _ _) (C _ _ _ (lV_ok 23 MLc mulc_one)) (ctxL_sem _ _ _ _ _) names mixed (inv_two MLc a (IV MLc a 251)) (by rw [St.with_conds]; exact Holds.nil) (St.with_same _ _)
  by_cases h4 : k = 249
  · subst h4
    rw [IV_those MLc a 249 rfl]
    exact steps_of_run (ctxL_ty _ _ _ _ _) (C _ _ _ (lV_ok 23 MLc mulc_one)) (ctxL_sem _ _ _ _ _) names mixed (inv_four MLc a (IV MLc a 249)) (by rw [St.with_conds]; exact Holds.nil) (St.with_same _ _)
  have hm : (253 - (k : Int)) = ((253 - k : Nat) : Int) := by omega
  have hb : (k == 251 || k == 249) = false := by simp [h2, h4]
  have hw : (253 - ((k + 1 : Nat) : Int)) = IntKind.i64.wrap (((253 - k : Nat) : Int) - 1) := by rw [wrap_less _ (by omega)]; omega
  rw [IV_other MLc a k hb, hm, hw]
  exact steps_of_run (ctxL_ty _ _ _ _ _) (C _ _ _ (lV_ok 23 MLc mulc_one)) (ctxL_sem _ _ _ _ _) names mixed (inv_gen MLc a (IV MLc a k) (253 - k)) (by rw [St.with_conds]; exact psI_ok _ (by omega) (by omega)) (St.with_same _ _)
theorem rinv_steps (a : Nat → Int) : ∀ k, k < 254 → StepsTo Try.prog 0 XU (sV 31 44 a (IV MRc a k) (253 - (k : Int))) .normal (sV 31 44 a (IV MRc a (k + 1)) (253 - ((k + 1 : Nat) : Int))) := by
  intro k hk
  have C := ctxL_orc Try.prog (lV 29 MRc)
  by_cases h2 : k = 251
  · subst h2
    rw [IV_those MRc a 251 rfl]
    exact steps_of_run (ctxL_ty _ _ _ _ _) (C _ _ _ (lV_ok 29 MRc mulr_one)) (ctxL_sem _ _ _ _ _) names mixed (rinv_two MRc a (IV MRc a 251)) (by rw [St.with_conds]; exact Holds.nil) (St.with_same _ _)
  by_cases h4 : k = 249
  · subst h4
    rw [IV_those MRc a 249 rfl]
    exact steps_of_run (ctxL_ty _ _ _ _ _) (C _ _ _ (lV_ok 29 MRc mulr_one)) (ctxL_sem _ _ _ _ _) names mixed (rinv_four MRc a (IV MRc a 249)) (by rw [St.with_conds]; exact Holds.nil) (St.with_same _ _)
  have hm : (253 - (k : Int)) = ((253 - k : Nat) : Int) := by omega
  have hb : (k == 251 || k == 249) = false := by simp [h2, h4]
  have hw : (253 - ((k + 1 : Nat) : Int)) = IntKind.i64.wrap (((253 - k : Nat) : Int) - 1) := by rw [wrap_less _ (by omega)]; omega
  rw [IV_other MRc a k hb, hm, hw]
  exact steps_of_run (ctxL_ty _ _ _ _ _) (C _ _ _ (lV_ok 29 MRc mulr_one)) (ctxL_sem _ _ _ _ _) names mixed (rinv_gen MRc a (IV MRc a k) (253 - k)) (by rw [St.with_conds]; exact psI_ok _ (by omega) (by omega)) (St.with_same _ _)
theorem arr_in (k : IntKind) (L : List Int) (w : World) : ∀ x ∈ [ints k L], x.In w fun _ => False := plain_all (by rw [List.all_cons, ints_plain]; rfl) w
theorem arr_in2 (k : IntKind) (L M : List Int) (w : World) : ∀ x ∈ [ints k L, ints k M], x.In w fun _ => False := plain_all (by rw [List.all_cons, List.all_cons, ints_plain, ints_plain]; rfl) w
theorem inv_one : OneOK Try.prog 25 (A1 INc) := a1_one (by kernel_rfl) fun a η w =>
  calls_of_run' (ctxL_ty _ _ _ _ _) (ctxL_orc _ _ _ _ _ (lV_ok 23 MLc mulc_one)) (ctxL_sem _ _ _ _ _) names mixed (inv_runs MLc a)
    (AllOf.holds (.cons (St.same_refl _) (.cons (inv_steps a) (.cons (steps_of_run (ctxL_ty _ _ _ _ _) (ctxL_orc _ _ _ _ _ (lV_ok 23 MLc mulc_one)) (ctxL_sem _ _ _ _ _) names mixed (inv_end MLc a (IV MLc a 254)) (by rw [St.with_conds]; exact Holds.nil) (St.with_same _ _)) (.cons trivial .nil)))))
    η w (arr_in _ _ _) (SV.plain_in (ints_plain _ _))
theorem rinv_one : OneOK Try.prog 31 (A1 IRc) := a1_one (by kernel_rfl) fun a η w =>
  calls_of_run' (ctxL_ty _ _ _ _ _) (ctxL_orc _ _ _ _ _ (lV_ok 29 MRc mulr_one)) (ctxL_sem _ _ _ _ _) names mixed (rinv_runs MRc a)
    (AllOf.holds (.cons (St.same_refl _) (.cons (rinv_steps a) (.cons (steps_of_run (ctxL_ty _ _ _ _ _) (ctxL_orc _ _ _ _ _ (lV_ok 29 MRc mulr_one)) (ctxL_sem _ _ _ _ _) names mixed (rinv_end MRc a (IV MRc a 254)) (by rw [St.with_conds]; exact Holds.nil) (St.with_same _ _)) (.cons trivial .nil)))))
    η w (arr_in _ _ _) (SV.plain_in (ints_plain _ _))

/-! The exchange. -/
def swapSV (s : Bool) (a b : Nat → Int) : SV := .tup [.agg ((upTo 16 fun i => bif s then b i else a i).map (SC.int .i64)), .agg ((upTo 16 fun i => bif s then a i else b i).map (SC.int .i64))]
def sSy (a b : Nat → Int) : St :=
  { fid := 20, n := 13, fr := mkFr [(0, ints .i64 (upTo 16 a)), (1, ints .i64 (upTo 16 b)), (2, mkBool true), (3, pt 0), (4, pt 1), (6, pt 2), (7, pt 3), (8, mkBool true), (9, ints .i64 (upTo 16 b)), (10, ints .i64 (upTo 16 a))],
    regs := [reg64 37 a, reg64 37 b, reg64 37 b, reg64 37 a], conds := [] }
def sSn (a b : Nat → Int) : St :=
  { fid := 20, n := 13, fr := mkFr [(0, ints .i64 (upTo 16 a)), (1, ints .i64 (upTo 16 b)), (2, mkBool false), (3, pt 0), (4, pt 1), (6, pt 2), (7, pt 3), (8, mkBool false), (11, ints .i64 (upTo 16 a)), (12, ints .i64 (upTo 16 b))],
    regs := [reg64 37 a, reg64 37 b, reg64 37 a, reg64 37 b], conds := [] }
theorem swap_yes (a b : Nat → Int) : runOf cx0 Try.prog 100 20 [ints .i64 (upTo 16 a), ints .i64 (upTo 16 b), mkBool true] = some (swapSV true a b, List.replicate 2 (St.same (sSy a b) (sSy a b))) := by kernel_rfl
theorem swap_no (a b : Nat → Int) : runOf cx0 Try.prog 100 20 [ints .i64 (upTo 16 a), ints .i64 (upTo 16 b), mkBool false] = some (swapSV false a b, List.replicate 2 (St.same (sSn a b) (sSn a b))) := by kernel_rfl
theorem swapSV_in (s : Bool) (a b : Nat → Int) (W : World) : (swapSV s a b).In W fun _ => False := fun x hx => by
  simp only [List.mem_cons, List.not_mem_nil, or_false] at hx
  rcases hx with rfl | rfl
  · exact fun y hy => by obtain ⟨z, _, rfl⟩ := List.mem_map.1 hy; trivial
  · exact fun y hy => by obtain ⟨z, _, rfl⟩ := List.mem_map.1 hy; trivial
theorem swap_one : OneOK Try.prog 20 orcSwap := by
  refine ⟨body_ok _ _ (by kernel_rfl), ?_⟩
  intro vs g res h _ W η E w _ hvs _
  clear hvs
  unfold orcSwap at h
  split at h
  · rename_i x y s
    split at h
    · rename_i a b ha hb
      simp only [Option.some.injEq] at h
      subst h
      refine ⟨swapSV_in s a b, ?_⟩
      simp only [List.map_cons, List.map_nil]
      rw [arrOf_den ha, arrOf_den hb]
      have hin : ∀ t : Bool, ∀ x ∈ [ints .i64 (upTo 16 a), ints .i64 (upTo 16 b), mkBool t], x.In w fun _ => False := fun t => plain_all (by rw [List.all_cons, List.all_cons, List.all_cons, ints_plain, ints_plain]; rfl) w
      cases s with
      | true => exact calls_of_run' ty0 orc0 sem0 names mixed (swap_yes a b) (AllOf.holds (AllOf.rep (St.same_refl _))) η w (hin true) (swapSV_in true a b)
      | false => exact calls_of_run' ty0 orc0 sem0 names mixed (swap_no a b) (AllOf.holds (AllOf.rep (St.same_refl _))) η w (hin false) (swapSV_in false a b)
    · cases h
  · cases h

/-! Less, and both writings. -/
theorem lessSV_in (L : List Int) (W : World) : (lessSV L).In W fun _ => False := fun x hx => by
  simp only [List.mem_cons, List.not_mem_nil, or_false] at hx
  rcases hx with rfl | rfl
  · exact fun y hy => by obtain ⟨z, _, rfl⟩ := List.mem_map.1 hy; trivial
  · trivial
theorem foldl_len (f : List Int → Nat → List Int) (h : ∀ L i, (f L i).length = L.length) : ∀ (is : List Nat) (L : List Int), (is.foldl f L).length = L.length := by
  intro is
  induction is with
  | nil => intro L; rfl
  | cons i is ih => intro L; exact (ih _).trans (h L i)
theorem lessL_len (a : Nat → Int) : (lessL a).length = 16 := by
  unfold lessL
  rw [foldl_len stepL (fun L i => by unfold stepL; simp)]
  simp [upTo]
theorem less_one : OneOK Try.prog 34 (orcLess LSc) := by
  refine ⟨body_ok _ _ (by kernel_rfl), ?_⟩
  intro vs g res h _ W η E w _ _ _
  unfold orcLess at h
  split at h
  · rename_i x
    split at h
    · rename_i a ha
      simp only [Option.some.injEq] at h
      subst h
      have e : lessS (LSc a) = lessSV (lessL a) := by
        unfold lessS lessSV LSc
        rw [upTo_list (lessL_len a)]
        rfl
      rw [e]
      refine ⟨lessSV_in _, ?_⟩
      simp only [List.map_cons, List.map_nil]
      rw [arrOf_den ha]
      exact calls_of_run' (ctxK_ty _ _ _ _ _ _) (ctxK_orc _ _ _ _ _ _ (by simp)) (ctxK_sem _ _ _ _ _ _) names mixed (less_runs a) (AllOf.holds (AllOf.rep (St.same_refl _))) η w (arr_in _ _ _) (lessSV_in _)
    · cases h
  · cases h
theorem lW_ok : ∀ x ∈ lW LSc, OneOK Try.prog x.1 x.2 := by
  intro x hx
  simp only [lW, List.mem_cons, List.not_mem_nil, or_false] at hx
  subst hx
  exact less_one
theorem outL_len (a : Nat → Int) : (outL a).length = 32 := by simp [outL]
theorem bif_yes {c : Bool} (h : c = true) (x y : Int) : (bif c then x else y) = x := by subst h; rfl
theorem bif_no {c : Bool} (h : c = false) (x y : Int) : (bif c then x else y) = y := by subst h; rfl
theorem WA_yes' (LS : F1) {a : Nat → Int} (h : decide (LS (K 16 a) 15 ≥ 0) = true) : WA LS a = LS (K 16 a) := funext fun i => bif_yes h (LS (K 16 a) i) (a i)
theorem WA_no' (LS : F1) {a : Nat → Int} (h : decide (LS (K 16 a) 15 ≥ 0) = false) : WA LS a = a := funext fun i => bif_no h (LS (K 16 a) i) (a i)
theorem WA_yes {a : Nat → Int} (h : decide (LSc (K 16 a) 15 ≥ 0) = true) : WA LSc a = LSc (K 16 a) := WA_yes' LSc h
theorem WA_no {a : Nat → Int} (h : decide (LSc (K 16 a) 15 ≥ 0) = false) : WA LSc a = a := WA_no' LSc h
theorem write_steps (a : Nat → Int) : ∀ k, k < 2 → StepsTo Try.prog 0 XW (sW (WK LSc a k) k) .normal (sW (WK LSc a (k + 1)) ((k + 1 : Nat) : Int)) := by
  intro k hk
  have C := ctxL_orc Try.prog (lW LSc)
  show StepsTo Try.prog 0 XW (sW (WK LSc a k) k) .normal (sW (WA LSc (WK LSc a k)) ((k + 1 : Nat) : Int))
  have hk2 : k = 0 ∨ k = 1 := by omega
  rcases h : decide (LSc (K 16 (WK LSc a k)) 15 ≥ 0) with _ | _
  · rw [WA_no h]
    rcases hk2 with rfl | rfl
    · exact steps_of_run (ctxL_ty _ _ _ _ _) (C _ _ _ lW_ok) (ctxL_sem _ _ _ _ _) names mixed (write_no0 LSc (WK LSc a 0)) (by rw [St.with_conds]; exact AllOf.holds (.cons h .nil)) (St.with_same _ _)
    · exact steps_of_run (ctxL_ty _ _ _ _ _) (C _ _ _ lW_ok) (ctxL_sem _ _ _ _ _) names mixed (write_no1 LSc (WK LSc a 1)) (by rw [St.with_conds]; exact AllOf.holds (.cons h .nil)) (St.with_same _ _)
  · rw [WA_yes h]
    rcases hk2 with rfl | rfl
    · exact steps_of_run (ctxL_ty _ _ _ _ _) (C _ _ _ lW_ok) (ctxL_sem _ _ _ _ _) names mixed (write_yes0 LSc (WK LSc a 0)) (by rw [St.with_conds]; exact AllOf.holds (.cons h .nil)) (St.with_same _ _)
    · exact steps_of_run (ctxL_ty _ _ _ _ _) (C _ _ _ lW_ok) (ctxL_sem _ _ _ _ _) names mixed (write_yes1 LSc (WK LSc a 1)) (by rw [St.with_conds]; exact AllOf.holds (.cons h .nil)) (St.with_same _ _)
theorem write_leaves (a : Nat → Int) : StepsTo Try.prog 0 XW (sW a ((2 : Nat) : Int)) (.exit 2) (sW a 2) :=
  steps_of_run (ctxL_ty _ _ _ _ _) (ctxL_orc _ _ _ _ _ lW_ok) (ctxL_sem _ _ _ _ _) names mixed (write_end LSc a) (by rw [St.with_conds]; exact Holds.nil) (St.with_same _ _)
theorem write_one : OneOK Try.prog 24 (orcA1 .i64 16 .u8 32 WRc) := a1_one (by kernel_rfl) fun a η w => by
  unfold WRc
  rw [upTo_list (outL_len _)]
  exact calls_of_run' (ctxL_ty _ _ _ _ _) (ctxL_orc _ _ _ _ _ lW_ok) (ctxL_sem _ _ _ _ _) names mixed (write_runs LSc a)
    (AllOf.holds (.cons (St.same_refl _) (.cons (write_steps _) (.cons (write_leaves _) (.cons trivial .nil)))))
    η w (arr_in _ _ _) (SV.plain_in (ints_plain _ _))
theorem PA_yes {a : Nat → Int} (h : (packB a == 0) = true) : PA a = at_ (packM a) := funext fun i => bif_yes h (at_ (packM a) i) (a i)
theorem PA_no {a : Nat → Int} (h : (packB a == 0) = false) : PA a = a := funext fun i => bif_no h (at_ (packM a) i) (a i)
theorem pack_steps (a : Nat → Int) : ∀ k, k < 2 → StepsTo Try.prog 0 XP (sP (PK a k) k) .normal (sP (PK a (k + 1)) ((k + 1 : Nat) : Int)) := by
  intro k hk
  have C := ctxL_orc Try.prog (lR RCc)
  show StepsTo Try.prog 0 XP (sP (PK a k) k) .normal (sP (PA (PK a k)) ((k + 1 : Nat) : Int))
  have hk2 : k = 0 ∨ k = 1 := by omega
  rcases h : (packB (PK a k) == 0) with _ | _
  · rw [PA_no h]
    rcases hk2 with rfl | rfl
    · exact steps_of_run (ctxL_ty _ _ _ _ _) (C _ _ _ lR_ok) (ctxL_sem _ _ _ _ _) names mixed (pack_no0 RCc (PK a 0)) (by rw [St.with_conds]; exact AllOf.holds (.cons h .nil)) (St.with_same _ _)
    · exact steps_of_run (ctxL_ty _ _ _ _ _) (C _ _ _ lR_ok) (ctxL_sem _ _ _ _ _) names mixed (pack_no1 RCc (PK a 1)) (by rw [St.with_conds]; exact AllOf.holds (.cons h .nil)) (St.with_same _ _)
  · rw [PA_yes h]
    rcases hk2 with rfl | rfl
    · exact steps_of_run (ctxL_ty _ _ _ _ _) (C _ _ _ lR_ok) (ctxL_sem _ _ _ _ _) names mixed (pack_yes0 RCc (PK a 0)) (by rw [St.with_conds]; exact AllOf.holds (.cons h .nil)) (St.with_same _ _)
    · exact steps_of_run (ctxL_ty _ _ _ _ _) (C _ _ _ lR_ok) (ctxL_sem _ _ _ _ _) names mixed (pack_yes1 RCc (PK a 1)) (by rw [St.with_conds]; exact AllOf.holds (.cons h .nil)) (St.with_same _ _)
theorem pack_leaves (a : Nat → Int) : StepsTo Try.prog 0 XP (sP a ((2 : Nat) : Int)) (.exit 0) (sP a 2) :=
  steps_of_run (ctxL_ty _ _ _ _ _) (ctxL_orc _ _ _ _ _ lR_ok) (ctxL_sem _ _ _ _ _) names mixed (pack_end RCc a) (by rw [St.with_conds]; exact Holds.nil) (St.with_same _ _)
theorem pack_one : OneOK Try.prog 30 (orcA1 .i64 16 .u8 32 PCc) := a1_one (by kernel_rfl) fun a η w => by
  unfold PCc
  rw [upTo_list (outL_len _)]
  exact calls_of_run' (ctxL_ty _ _ _ _ _) (ctxL_orc _ _ _ _ _ lR_ok) (ctxL_sem _ _ _ _ _) names mixed (pack_runs RCc a)
    (AllOf.holds (.cons (St.same_refl _) (.cons (pack_steps _) (.cons (pack_leaves _) (.cons trivial .nil)))))
    η w (arr_in _ _ _) (SV.plain_in (ints_plain _ _))
end Go.Proofs.Ytbhmfgjdphphcaa
