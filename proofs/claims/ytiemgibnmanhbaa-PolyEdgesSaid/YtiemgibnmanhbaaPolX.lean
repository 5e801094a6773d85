/-
  poly.Sum by its contract. Conditions: bytes, a slice of at most a million.
-/
import Derived.Test.YtiemgibnmanhbaaPolW
namespace Go.Proofs.Ytiemgibnmanhbaa
open Go Go.SX
open Go.RowKit (Below)

def LFc : FL := fun a => if (moreL (lowA CFc a)).2 > 0 then pairL (moreL (lowA CFc a)).1 else pairL (lowA CFc a)

theorem bodyOk (f : Nat) (h : ((Try.prog.funcs[f]?).map fun fn => fn.body.isSome).getD false = true) : ((Try.prog.funcs[f]?).map fun fn => fn.body.isSome).getD false = true := h

theorem parts_one : OneOK Try.prog 14 (orcA1 .u8 17 .u64 5 PFc) := a1_run ty0 orc0 sem0 names mixed (by kernel_rfl) parts_runs (fun b => by rw [parts_chain]; rfl)
theorem carry_one : OneOK Try.prog 19 (orcA1 .u64 5 .u64 5 CFc) := a1_run ty0 orc0 sem0 names mixed (by kernel_rfl) carry_runs (fun a => by
  unfold carryL roundC
  have h : ∀ (l : List Int × Int), l.1.length = 5 → ∀ is : List Nat, (is.foldl stepC l).1.length = 5 := by
    intro l hl is
    induction is generalizing l with
    | nil => exact hl
    | cons i is ih => exact ih _ (by simp [stepC, hl])
  unfold runC
  rw [List.length_set]
  exact h _ (by rw [List.length_set]; exact h _ (by simp [upTo]) _) _)
theorem lC_ok : ∀ x ∈ lC CFc, OneOK Try.prog x.1 x.2 := by
  intro x hx
  simp only [lC, List.mem_cons, List.not_mem_nil, or_false] at hx
  subst hx
  exact carry_one
theorem times_one : OneOK Try.prog 15 (orcA2 .u64 5 .u64 5 .u64 5 TFc) :=
  a2_run (ctxL_ty _ _ _ _ _) (ctxL_orc _ _ _ _ _ lC_ok) (ctxL_sem _ _ _ _ _) names mixed (by kernel_rfl) (times_runs CFc) (fun a b => by simp [timesL, upTo])
theorem low_one : OneOK Try.prog 16 (orcLow LFc) := by
  refine ⟨body_ok _ _ (by kernel_rfl), ?_⟩
  intro vs g res h _ W η E w _ _ _
  unfold orcLow at h
  split at h
  · rename_i x
    split at h
    · rename_i a ha
      simp only [Option.some.injEq] at h
      subst h
      refine ⟨fun W s hs => by
        simp only [List.mem_cons, List.not_mem_nil, or_false] at hs
        rcases hs with rfl | rfl <;> trivial, ?_⟩
      simp only [List.map_cons, List.map_nil]
      rw [arrOf_den ha]
      unfold LFc
      have hv : ∀ (p : Int × Int) W, (pairSV p).In W fun _ => False := fun p W s hs => by
        simp only [List.mem_cons, List.not_mem_nil, or_false] at hs
        rcases hs with rfl | rfl <;> trivial
      by_cases ho : (moreL (lowA CFc a)).2 > 0
      · rw [if_pos ho]
        have := calls_of_run' (ctxL_ty _ _ _ _ _) (ctxL_orc _ _ _ _ _ lC_ok) (ctxL_sem _ _ _ _ _) names mixed (low_yes CFc a) (AllOf.holds (.cons (decide_eq_true ho) .nil)) η w (plain_all (by rw [List.all_cons, ints_plain]; rfl) w) (hv _)
        exact this
      · rw [if_neg ho]
        have := calls_of_run' (ctxL_ty _ _ _ _ _) (ctxL_orc _ _ _ _ _ lC_ok) (ctxL_sem _ _ _ _ _) names mixed (low_no CFc a) (AllOf.holds (.cons (decide_eq_false ho) .nil)) η w (plain_all (by rw [List.all_cons, ints_plain]; rfl) w) (hv _)
        exact this
    · cases h
  · cases h
theorem lS_ok : ∀ x ∈ lS PFc TFc LFc, OneOK Try.prog x.1 x.2 := by
  intro x hx
  simp only [lS, List.mem_cons, List.not_mem_nil, or_false] at hx
  rcases hx with rfl | rfl | rfl
  · exact parts_one
  · exact times_one
  · exact low_one

theorem BS_n (b : BT) (k : Nat) : (BS b k).n = b.n - 16 * k := by
  induction k with
  | zero => rfl
  | succ k ih =>
    show (BS b k).n - (mI (BS b k).n).toNat = _
    unfold mI
    rw [ih]
    split <;> omega
theorem BS_ca (b : BT) (h : b.n ≤ b.ca) (k : Nat) : (BS b k).n ≤ (BS b k).ca := by
  induction k with
  | zero => exact h
  | succ k ih =>
    show (BS b k).n - (mI (BS b k).n).toNat ≤ (BS b k).ca - (mI (BS b k).n).toNat
    omega

def nR (n : Nat) : Nat := (n + 15) / 16

theorem sum_steps (key : Nat → Int) (b : BT) (hca : b.n ≤ b.ca) :
    ∀ k, k < nR b.n → StepsTo Try.prog 0 XS (sS PFc key (BS b k) (SL PFc TFc key b k)) .normal (sS PFc key (BS b (k + 1)) (SL PFc TFc key b (k + 1))) := by
  intro k hk
  have hnk := BS_n b k
  have hck := BS_ca b hca k
  have hpos : 0 < (BS b k).n := by unfold nR at hk; omega
  refine steps_of_run (ctxL_ty _ _ _ _ _) (ctxL_orc _ _ _ _ _ lS_ok) (ctxL_sem _ _ _ _ _) names mixed (sum_round PFc TFc LFc key (BS b k) (SL PFc TFc key b k)) ?_ (St.with_same _ _)
  rw [St.with_conds]
  generalize hm : (BS b k).n = m at *
  have q0 : 0 ≤ mI m := by unfold mI; split <;> omega
  have q1 : (mI m).toNat ≤ m := by unfold mI; split <;> omega
  have q2 : Nat.min m 16 ≤ 16 := Nat.min_le_right _ _
  have q3 : 0 + Nat.min m 16 < 17 := by omega
  have q4 : 0 ≤ ((Nat.min m 16 : Nat) : Int) := Int.natCast_nonneg _
  have q5 : ((Nat.min m 16 : Nat) : Int) < (17 : Nat) := by omega
  have q6 : decide ((m : Int) > 0) = true := decide_eq_true (by omega)
  exact AllOf.holds (.cons q0 (.cons q1 (.cons (Nat.le_refl _) (.cons hck (.cons q3 (.cons q4 (.cons q5 (.cons q6 .nil))))))))
theorem sum_leaves (key : Nat → Int) (b : BT) : StepsTo Try.prog 0 XS (sS PFc key (BS b (nR b.n)) (SL PFc TFc key b (nR b.n))) (.exit 4) (sS PFc key (BS b (nR b.n)) (SL PFc TFc key b (nR b.n))) := by
  have hnk := BS_n b (nR b.n)
  have hz : (BS b (nR b.n)).n = 0 := by rw [hnk]; unfold nR; omega
  refine steps_of_run (ctxL_ty _ _ _ _ _) (ctxL_orc _ _ _ _ _ lS_ok) (ctxL_sem _ _ _ _ _) names mixed (sum_end PFc TFc LFc key (BS b (nR b.n)) (SL PFc TFc key b (nR b.n))) ?_ (St.with_same _ _)
  rw [St.with_conds]
  exact AllOf.holds (.cons (decide_eq_false (by rw [hz]; decide)) .nil)

/-- The tag, as bytes. -/
def tagB (key : Nat → Int) (b : BT) : Nat → Int := byteAt (tagV (HS key b (nR b.n) % pp) key)

theorem sum_out (key : Nat → Int) (b : BT) (hk : ∀ i, 0 ≤ key i ∧ key i ≤ 255) (hf : ∀ i, 0 ≤ b.f i ∧ b.f i ≤ 255) (N : Nat) :
    outS (LFc (K 5 (SL PFc TFc key b N))) key = upTo 16 (byteAt (tagV (HS key b N % pp) key)) := by
  obtain ⟨i0, i1, i2, i3, i4, q, hq⟩ := SL_val key b hk hf N
  generalize hs : SL PFc TFc key b N = s at *
  have hK : lowA CFc (K 5 s) = roundC (roundC [s 0, s 1, s 2, s 3, s 4]) := by
    unfold lowA CFc
    have e : K 5 (K 5 s) = at_ [s 0, s 1, s 2, s 3, s 4] := rfl
    rw [e, carryL_at _ rfl]
    obtain ⟨r0, r1, r2, r3, r4, hr, _⟩ := carry_val (s 0) (s 1) (s 2) (s 3) (s 4) (by have := i0 0; omega) (by omega) (by omega) (by omega) (by omega)
    rw [hr]
    rfl
  obtain ⟨l, h, he, hl, hh, hv⟩ := low_val (s 0) (s 1) (s 2) (s 3) (s 4) (i0 0) i1 i2 i3 i4
  have hL : LFc (K 5 s) = (l, h) := by
    unfold LFc
    rw [hK]
    exact he
  rw [hL, outS_val (l, h) key hl hh hk]
  simp only
  rw [hv]
  have e2 : V5 (s 0) (s 1) (s 2) (s 3) (s 4) = HS key b N + pp * q := by
    have : VF s = HS key b N + q * pp := hq
    unfold VF at this
    rw [this, Int.mul_comm]
  rw [e2, Int.add_mul_emod_self_left]
  have e3 : tagV (HS key b N % pp % 340282366920938463463374607431768211456) key = tagV (HS key b N % pp) key := by
    unfold tagV
    rw [Int.emod_add_emod]
  rw [e3]

theorem sum_calls (key : Nat → Int) (b : BT) (hk : ∀ i, 0 ≤ key i ∧ key i ≤ 255) (hf : ∀ i, 0 ≤ b.f i ∧ b.f i ≤ 255) (hca : b.n ≤ b.ca) (η : Asg) (w : World) (hb : SX.BytesAt w b.a b.n .u8 b.f) :
    Calls Try.prog 9 ([ints .u8 (upTo 32 key), vwB b].map (SV.den η)).toArray w fun e w' => e = .returned ((ints .u8 (upTo 16 (tagB key b))).den η) ∧ Below w.heap.size w w' := by
  have hin : ∀ x ∈ [ints .u8 (upTo 32 key), vwB b], x.In w fun _ => False := by
    intro x hx
    simp only [List.mem_cons, List.not_mem_nil, or_false] at hx
    rcases hx with rfl | rfl
    · exact SV.plain_in (ints_plain _ _) w
    · exact hb
  have := calls_of_run' (ctxL_ty _ _ _ _ _) (ctxL_orc _ _ _ _ _ lS_ok) (ctxL_sem _ _ _ _ _) names mixed (sum_runs PFc TFc LFc key b (nR b.n))
    (AllOf.holds (.cons (St.same_refl _) (.cons (sum_steps key b hca) (.cons (sum_leaves key b) (.cons trivial .nil))))) η w hin (SV.plain_in (ints_plain _ _))
  rw [sum_out key b hk hf (nR b.n)] at this
  exact this
end Go.Proofs.Ytiemgibnmanhbaa
