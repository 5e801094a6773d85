/-
  courierref1.Tag by its contract. Conditions: bytes, a slice of at most a million.
-/
import Derived.Test.YtiemgibnmanhbaaPolZ
namespace Go.Proofs.Ytiemgibnmanhbaa
open Go Go.SX
open Go.RowKit (Below)

theorem plus_len (h c : Nat → Int) : (plusL h c).length = 17 := by
  have : ∀ (s : List Int × Int) (is : List Nat), (is.foldl (stepS h c) s).1.length = s.1.length + is.length := by
    intro s is
    induction is generalizing s with
    | nil => rfl
    | cons i is ih => rw [List.foldl_cons, ih]; simp [stepS]; omega
  unfold plusL
  rw [this]
  simp
theorem times_len (h r : Nat → Int) : (timesR h r).length = 17 := by
  have : ∀ (x : Nat → Int) (s : List Int × Int) (is : List Nat), (is.foldl (stepR x) s).1.length = s.1.length + is.length := by
    intro x s is
    induction is generalizing s with
    | nil => rfl
    | cons i is ih => rw [List.foldl_cons, ih]; simp [stepR]; omega
  unfold timesR fold2
  rw [List.length_append, this]
  simp
theorem plus_one : OneOK Try.prog 18 (orcA2 .u32 17 .u32 17 .u32 17 PLc) := a2_run ty0 orc0 sem0 names mixed (by kernel_rfl) plus_runs plus_len
theorem reft_one : OneOK Try.prog 17 (orcA2 .u32 17 .u32 17 .u32 17 RTc) := a2_run ty0 orc0 sem0 names mixed (by kernel_rfl) reft_runs times_len
theorem lG_ok : ∀ x ∈ lG PLc RTc, OneOK Try.prog x.1 x.2 := by
  intro x hx
  simp only [lG, List.mem_cons, List.not_mem_nil, or_false] at hx
  rcases hx with rfl | rfl
  · exact plus_one
  · exact reft_one

/-! The told loops. -/

theorem mG_is (n k : Nat) (hn : n ≤ 1000000) (hk : 16 * k < n) : mG n (16 * (k : Int)) = ((Nat.min (n - 16 * k) 16 : Nat) : Int) := by
  have e : IntKind.i64.wrap ((n : Int) - 16 * (k : Int)) = ((n - 16 * k : Nat) : Int) := by rw [IntKind.wrap_i64]; omega
  unfold mG
  rw [e]
  have : Nat.min (n - 16 * k) 16 = if n - 16 * k < 16 then n - 16 * k else 16 := by
    show min _ _ = _
    split <;> omega
  rw [this]
  split <;> split <;> omega

theorem in_steps (key : Nat → Int) (b : BT) (h : Nat → Int) (k : Nat) (hn : b.n ≤ 1000000) (hk : 16 * k < b.n) :
    ∀ j, j < (mG b.n (16 * (k : Int))).toNat → StepsTo Try.prog 0 XI (sI key b h (CI b.f (16 * (k : Int)) j) (16 * (k : Int)) (mG b.n (16 * (k : Int))) j) .normal (sI key b h (CI b.f (16 * (k : Int)) (j + 1)) (16 * (k : Int)) (mG b.n (16 * (k : Int))) ((j + 1 : Nat) : Int)) := by
  intro j hj
  have hm := mG_is b.n k hn hk
  have hmin : Nat.min (b.n - 16 * k) 16 ≤ 16 := Nat.min_le_right _ _
  have hmin' : Nat.min (b.n - 16 * k) 16 ≤ b.n - 16 * k := Nat.min_le_left _ _
  have hw : IntKind.i64.wrap ((j : Int) + 1) = ((j + 1 : Nat) : Int) := by rw [IntKind.wrap_i64]; omega
  have hi : IntKind.i64.wrap (16 * (k : Int) + (j : Int)) = 16 * (k : Int) + (j : Int) := by rw [IntKind.wrap_i64]; omega
  refine steps_of_run (ctxL_ty _ _ _ _ _) (ctxL_orc _ _ _ _ _ lG_ok) (ctxL_sem _ _ _ _ _) names mixed (tag_in PLc RTc key b h (CI b.f (16 * (k : Int)) j) (16 * (k : Int)) (mG b.n (16 * (k : Int))) j) ?_ (by rw [hw]; exact St.with_same _ _)
  rw [St.with_conds]
  have q1 : 0 + j < 17 := by omega
  have q2 : 0 ≤ (j : Int) := by omega
  have q3 : (j : Int) < (17 : Nat) := by omega
  have q4 : 0 ≤ IntKind.i64.wrap (16 * (k : Int) + (j : Int)) := by rw [hi]; omega
  have q5 : IntKind.i64.wrap (16 * (k : Int) + (j : Int)) < (b.n : Int) := by rw [hi]; omega
  have q6 : (j : Int) < mG b.n (16 * (k : Int)) := by omega
  exact AllOf.holds (.cons q1 (.cons q2 (.cons q3 (.cons q4 (.cons q5 (.cons (decide_eq_true q6) .nil))))))
theorem in_leaves (key : Nat → Int) (b : BT) (h c : Nat → Int) (i m : Int) (j : Nat) (hj : m ≤ j) : StepsTo Try.prog 0 XI (sI key b h c i m j) (.exit 8) (sI key b h c i m j) := by
  refine steps_of_run (ctxL_ty _ _ _ _ _) (ctxL_orc _ _ _ _ _ lG_ok) (ctxL_sem _ _ _ _ _) names mixed (tag_inend PLc RTc key b h c i m j) ?_ (St.with_same _ _)
  rw [St.with_conds]
  exact AllOf.holds (.cons (decide_eq_false (by omega)) .nil)

theorem tag_steps (key : Nat → Int) (b : BT) (hn : b.n ≤ 1000000) :
    ∀ k, k < nR b.n → StepsTo Try.prog 0 XG (sG key b (HG PLc RTc key b k) (CG b k) (16 * (k : Int))) .normal (sG key b (HG PLc RTc key b (k + 1)) (CG b (k + 1)) (16 * ((k + 1 : Nat) : Int))) := by
  intro k hk
  have hkn : 16 * k < b.n := by unfold nR at hk; omega
  have hm := mG_is b.n k hn hkn
  have hmin : Nat.min (b.n - 16 * k) 16 ≤ 16 := Nat.min_le_right _ _
  have hw : IntKind.i64.wrap (16 * (k : Int) + 16) = 16 * ((k + 1 : Nat) : Int) := by rw [IntKind.wrap_i64]; omega
  refine steps_of_run (ctxL_ty _ _ _ _ _) (ctxL_orc _ _ _ _ _ lG_ok) (ctxL_sem _ _ _ _ _) names mixed (tag_round PLc RTc key b (HG PLc RTc key b k) (CG b k) (16 * (k : Int))) ?_ (by rw [hw]; exact St.with_same _ _)
  rw [St.with_conds]
  have q1 : 0 + (mG b.n (16 * (k : Int))).toNat < 17 := by omega
  have q2 : 0 ≤ mG b.n (16 * (k : Int)) := by omega
  have q3 : mG b.n (16 * (k : Int)) < (17 : Nat) := by omega
  have q4 : decide (16 * (k : Int) < (b.n : Int)) = true := decide_eq_true (by omega)
  exact AllOf.holds (.cons q1 (.cons q2 (.cons q3 (.cons (St.same_refl _) (.cons (in_steps key b _ k hn hkn) (.cons (in_leaves key b _ _ _ _ _ (by omega)) (.cons trivial (.cons q4 .nil))))))))
theorem tag_leaves (key : Nat → Int) (b : BT) (h c : Nat → Int) : StepsTo Try.prog 0 XG (sG key b h c (16 * (nR b.n : Int))) (.exit 6) (sG key b h c (16 * (nR b.n : Int))) := by
  refine steps_of_run (ctxL_ty _ _ _ _ _) (ctxL_orc _ _ _ _ _ lG_ok) (ctxL_sem _ _ _ _ _) names mixed (tag_end PLc RTc key b h c (16 * (nR b.n : Int))) ?_ (St.with_same _ _)
  rw [St.with_conds]
  exact AllOf.holds (.cons (decide_eq_false (by unfold nR; omega)) .nil)
end Go.Proofs.Ytiemgibnmanhbaa
