/-
  courierref1.round as an oracle. Conditions: 64 bytes.
-/
import Derived.Test.YtbhmfgjdphphcaaHBlk
namespace Go.Proofs.Ytbhmfgjdphphcaa
open Go Go.SX
open Go.RowKit (Below)

theorem wl_i (n : Int) (h0 : 0 ≤ n) (h1 : n ≤ 1000) : wl n = n := wl_id n (by omega) (by omega)
theorem g0_ok (m : Nat) (h : m < 64) : AllOf (g0 m) := .cons (by omega) (.cons (by omega) (.cons (by omega) .nil))
theorem g3_ok (m : Nat) (c : Int) (h : m < 64) (hc : 0 ≤ c ∧ c ≤ m) : AllOf (g3 m c) := by
  unfold g3
  rw [wl_i _ (by omega) (by omega)]
  exact .cons (by omega) (.cons (by omega) (.cons (by omega) .nil))
theorem pB_ok (m : Nat) (h : 16 ≤ m) (h2 : m < 64) : Holds (pB m) :=
  AllOf.holds ((g0_ok m h2).app ((g3_ok m 7 h2 (by omega)).app ((g3_ok m 16 h2 (by omega)).app ((g3_ok m 2 h2 (by omega)).app ((g3_ok m 2 h2 (by omega)).app ((g3_ok m 2 h2 (by omega)).app ((g3_ok m 15 h2 (by omega)).app
    ((g3_ok m 15 h2 (by omega)).app ((g3_ok m 15 h2 (by omega)).app (.cons (decide_eq_true (by omega)) .nil))))))))))
theorem pC_ok (m : Nat) (h2 : m < 64) : Holds (pC m) := AllOf.holds ((g0_ok m h2).app ((g0_ok m h2).app (.cons (decide_eq_true (by omega)) .nil)))
theorem sched_steps (h w : Nat → Int) : ∀ k, k < 48 → StepsTo Try.prog 0 XB (sB h (WW w k) (16 + (k : Int))) .normal (sB h (WW w (k + 1)) (16 + ((k + 1 : Nat) : Int))) := by
  intro k hk
  have hm : (16 + (k : Int)) = ((16 + k : Nat) : Int) := by omega
  have hw : (16 + ((k + 1 : Nat) : Int)) = wl (((16 + k : Nat) : Int) + 1) := by rw [wl_i _ (by omega) (by omega)]; omega
  show StepsTo Try.prog 0 XB (sB h (WW w k) (16 + (k : Int))) .normal (sB h (nW (WW w k) (16 + k)) (16 + ((k + 1 : Nat) : Int)))
  rw [hm, hw]
  exact steps_of_run (ctxL_ty _ _ _ _ _) (ctxL_orc _ _ _ _ _ lH_ok) (ctxL_sem _ _ _ _ _) names mixed (sched_round h (WW w k) (16 + k)) (by rw [St.with_conds]; exact pB_ok _ (by omega) (by omega)) (St.with_same _ _)
theorem sched_leaves (h w : Nat → Int) : StepsTo Try.prog 0 XB (sB h w (16 + ((48 : Nat) : Int))) (.exit 2) (sB h w 64) :=
  steps_of_run (ctxL_ty _ _ _ _ _) (ctxL_orc _ _ _ _ _ lH_ok) (ctxL_sem _ _ _ _ _) names mixed (sched_end h w) (by rw [St.with_conds]; exact Holds.nil) (St.with_same _ _)
theorem comp_steps (h w v : Nat → Int) : ∀ k, k < 64 → StepsTo Try.prog 0 XC_ (sC h w (VV w v k) (k : Int)) .normal (sC h w (VV w v (k + 1)) ((k + 1 : Nat) : Int)) := by
  intro k hk
  have hw : ((k + 1 : Nat) : Int) = wl ((k : Int) + 1) := by rw [wl_i _ (by omega) (by omega)]; omega
  show StepsTo Try.prog 0 XC_ (sC h w (VV w v k) (k : Int)) .normal (sC h w (stV w (VV w v k) k) ((k + 1 : Nat) : Int))
  rw [hw]
  exact steps_of_run (ctxL_ty _ _ _ _ _) (ctxL_orc _ _ _ _ _ lH_ok) (ctxL_sem _ _ _ _ _) names mixed (comp_round h w (VV w v k) k) (by rw [St.with_conds]; exact pC_ok _ hk) (St.with_same _ _)
theorem comp_leaves (h w v : Nat → Int) : StepsTo Try.prog 0 XC_ (sC h w v ((64 : Nat) : Int)) (.exit 4) (sC h w v 64) :=
  steps_of_run (ctxL_ty _ _ _ _ _) (ctxL_orc _ _ _ _ _ lH_ok) (ctxL_sem _ _ _ _ _) names mixed (comp_end h w v) (by rw [St.with_conds]; exact Holds.nil) (St.with_same _ _)
theorem pr_ok (j : Int) (h : 0 ≤ j ∧ j < 64) : AllOf (pr j) := .cons h.1 (.cons h.2 .nil)
theorem pA_ok : AllOf pA := ⟨fun p hp => by
  unfold pA at hp
  obtain ⟨i, hi, hp⟩ := List.mem_flatMap.1 hp
  have hi' : i < 16 := by simpa using hi
  have e0 : wl (4 * (i : Int)) = 4 * i := wl_i _ (by omega) (by omega)
  rw [e0, wl_i (4 * (i : Int) + 3) (by omega) (by omega), wl_i (4 * (i : Int) + 2) (by omega) (by omega), wl_i (4 * (i : Int) + 1) (by omega) (by omega)] at hp
  exact ((pr_ok _ (by omega)).app ((pr_ok _ (by omega)).app ((pr_ok _ (by omega)).app (pr_ok _ (by omega))))).holds p hp⟩
theorem round_conds (h f : Nat → Int) : Holds (pLC h f ++ (pLB h f ++ pA)) :=
  AllOf.holds ((AllOf.cons (St.same_refl _) (.cons (comp_steps h _ h) (.cons (comp_leaves h _ _) (.cons trivial .nil)))).app
    ((AllOf.cons (St.same_refl _) (.cons (sched_steps h _) (.cons (sched_leaves h _) (.cons trivial .nil)))).app pA_ok))
theorem round_calls (h f : Nat → Int) (a : Option Addr) (ca : Nat) (η : Asg) (w : World) (hb : SX.BytesAt w a 64 .u8 f) :
    Calls Try.prog 38 ([ints .u32 (upTo 8 h), vwF a 64 ca f].map (SV.den η)).toArray w fun e w' => e = .returned ((ints .u32 (upTo 8 (RFc h f))).den η) ∧ Below w.heap.size w w' :=
  calls_of_run' (ctxL_ty _ _ _ _ _) (ctxL_orc _ _ _ _ _ lH_ok) (ctxL_sem _ _ _ _ _) names mixed (round_runs h f a ca) (round_conds h f) η w (fun x hx => by
    simp only [List.mem_cons, List.not_mem_nil, or_false] at hx
    rcases hx with rfl | rfl
    · exact SV.plain_in (ints_plain _ _) w
    · exact hb) (SV.plain_in (ints_plain _ _))

/-- One block, of eight words and 64 bytes. -/
def orcRound (RF : F2) : Orc := fun vs g => match vs with
  | [x, s] => match arrOf .u32 8 x, readS g .u8 s with
    | some h, some (n, f, ps) => some (.val (ints .u32 (upTo 8 (RF h (K 64 f)))) (ps ++ [n = 64]))
    | _, _ => none
  | _ => none
theorem bytesAt_congr {w : World} {a : Option Addr} {n : Nat} {k : IntKind} {f g : Nat → Int} (h : SX.BytesAt w a n k f) (e : ∀ i, i < n → f i = g i) : SX.BytesAt w a n k g := by
  rcases h with h | ⟨b, off, h1, h2, h3⟩
  · exact .inl h
  · exact .inr ⟨b, off, h1, h2, fun i hi => by rw [← e i hi]; exact h3 i hi⟩
theorem round_one : OneOK Try.prog 38 (orcRound RFc) := by
  refine ⟨body_ok _ _ (by kernel_rfl), ?_⟩
  intro vs g res h hps W η E w hW hvs hg
  unfold orcRound at h
  split at h
  · rename_i x s
    split at h
    · rename_i hh n f ps hx hs
      simp only [Option.some.injEq] at h
      subst h
      have hp := Holds.app hps
      have h1 : n = 64 := hp.2 _ (by simp)
      subst h1
      obtain ⟨a, ca, hda, hba⟩ := readS_ok (w := w) hs hp.1 (hvs s (by simp)) hW hg
      refine ⟨SV.plain_in (ints_plain _ _), ?_⟩
      simp only [List.map_cons, List.map_nil]
      rw [arrOf_den hx, hda]
      exact round_calls hh (K 64 f) a ca η w (bytesAt_congr hba fun i hi => (K_at 64 f i hi).symm)
    · cases h
  · cases h
end Go.Proofs.Ytbhmfgjdphphcaa
