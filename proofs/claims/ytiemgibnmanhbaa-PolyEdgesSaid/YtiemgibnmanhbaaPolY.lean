/-
  courierref1's sum and product of numbers of 17 bytes. Conditions: the bounds told.
-/
import Derived.Test.YtiemgibnmanhbaaPolX
namespace Go.Proofs.Ytiemgibnmanhbaa
open Go Go.SX

theorem w32_eq (n : Int) : w32 n = n % 4294967296 := IntKind.wrap_u32 n
theorem w32_id (n : Int) (h0 : 0 ≤ n) (h1 : n < 4294967296) : w32 n = n := by rw [w32_eq]; omega
theorem and32 (x : Int) (h0 : 0 ≤ x) (h1 : x < 4294967296) : bits .and .u32 x 255 = x % 256 :=
  bits_mask .u32 32 (by decide) (fun n h0 h1 => w32_id n h0 (by simpa using h1)) 8 (by decide) x h0 (by simpa using h1)
theorem and32_3 (x : Int) (h0 : 0 ≤ x) (h1 : x < 4294967296) : bits .and .u32 x 3 = x % 4 :=
  bits_mask .u32 32 (by decide) (fun n h0 h1 => w32_id n h0 (by simpa using h1)) 2 (by decide) x h0 (by simpa using h1)

theorem plus_chain (h c : Nat → Int) (hh : ∀ i, 0 ≤ h i ∧ h i ≤ 255 * 256) (hc : ∀ i, 0 ≤ c i ∧ c i ≤ 255 * 256) (n : Nat) :
    (List.range n).foldl (stepS h c) ([], 0) = (upTo n (cB (fun j => h j + c j) 0), cU (fun j => h j + c j) 0 n) := by
  induction n with
  | zero => rfl
  | succ n ih =>
    rw [List.range_succ, List.foldl_append, ih]
    have hu := cU_bound (fun j => h j + c j) 0 512 (fun i => by have := hh i; have := hc i; show 0 ≤ h i + c i ∧ h i + c i ≤ _; omega) (by omega) n
    have h1 := hh n
    have h2 := hc n
    show (upTo n (cB (fun j => h j + c j) 0) ++ [bits .and .u32 (w32 (w32 (cU (fun j => h j + c j) 0 n + h n) + c n)) 255], w32 (w32 (cU (fun j => h j + c j) 0 n + h n) + c n) / (2 ^ 8 : Nat)) = _
    rw [w32_id (cU (fun j => h j + c j) 0 n + h n) (by omega) (by omega), w32_id _ (by omega) (by omega), and32 _ (by omega) (by omega)]
    have e : cU (fun j => h j + c j) 0 n + h n + c n = (h n + c n) + cU (fun j => h j + c j) 0 n := by omega
    rw [e]
    simp only [upTo, List.range_succ, List.map_append, List.map_cons, List.map_nil, cU, cB]
    rfl
theorem chain_steps (x : Nat → Int) (u : Int) (hx : ∀ i, 0 ≤ x i ∧ x i ≤ 255 * 8388608) (hu : 0 ≤ u ∧ u ≤ 8388608) (n : Nat) : (List.range n).foldl (stepR x) ([], u) = (upTo n (cB x u), cU x u n) := by
  induction n with
  | zero => rfl
  | succ n ih =>
    rw [List.range_succ, List.foldl_append, ih]
    have hb := cU_bound x u 8388608 hx hu n
    have h1 := hx n
    show (upTo n (cB x u) ++ [bits .and .u32 (w32 (cU x u n + x n)) 255], w32 (cU x u n + x n) / (2 ^ 8 : Nat)) = _
    rw [w32_id _ (by omega) (by omega), and32 _ (by omega) (by omega), Int.add_comm (cU x u n)]
    simp only [upTo, List.range_succ, List.map_append, List.map_cons, List.map_nil, cU, cB]
    rfl

def PLc : F2 := fun h c => at_ (plusL h c)
/-- The sum, but for what runs out above. -/
theorem plus_val (h c : Nat → Int) (hh : ∀ i, 0 ≤ h i ∧ h i ≤ 255 * 256) (hc : ∀ i, 0 ≤ c i ∧ c i ≤ 255 * 256) :
    (∀ i, 0 ≤ PLc h c i ∧ PLc h c i ≤ 255) ∧ ∃ o, bval h 17 + bval c 17 = bval (PLc h c) 17 + o * 256 ^ 17 := by
  have e : plusL h c = upTo 17 (cB (fun j => h j + c j) 0) := by unfold plusL; rw [plus_chain h c hh hc 17]
  have ha : ∀ i, i < 17 → PLc h c i = cB (fun j => h j + c j) 0 i := fun i hi => by unfold PLc at_; rw [e, upTo_getD_at hi]
  refine ⟨fun i => ?_, cU (fun j => h j + c j) 0 17, ?_⟩
  · by_cases hi : i < 17
    · rw [ha i hi]; exact cB_range _ _ _
    · have : PLc h c i = 0 := by unfold PLc at_; rw [e]; simp [upTo, hi]
      rw [this]; omega
  · rw [bval_congr (PLc h c) _ 17 ha]
    have := chain_val (fun j => h j + c j) 0 17
    rw [bval_add] at this
    omega
end Go.Proofs.Ytiemgibnmanhbaa
