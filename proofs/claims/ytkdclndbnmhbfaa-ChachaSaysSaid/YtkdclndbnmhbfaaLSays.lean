/-
  ChachaSays comes to true. Conditions: those of a parameter's values.
-/
import Derived.Test.YtkdclndbnmhbfaaOrc
import Derived.OpenShut
namespace Go.Proofs.Ytkdclndbnmhbfaa
open Go Go.SX
open Go.RowKit (Below)

theorem says_long (BL : BLf) (XF : XFf) (key nonce : Nat → Int) (c : Int) (a : Option Addr) (n ca : Nat) (f : Nat → Int) :
    runOf (cl BL XF (on [15]) (fun _ => false)) Try.prog 100 3 [ints .u8 (upTo 32 key), mkInt .u32 c, ints .u8 (upTo 12 nonce), .one (.sc (.vw a n ca .u8 f))] =
      some (mkBool true, [decide ((n : Int) > 300) = true]) := by kernel_rfl

def hS (t : Nat) : Option Bool := bif t == 15 then some false else bif t == 29 then some true else none
def eqS (BL : BLf) (key nonce : Nat → Int) (c : Int) : Prop := decide (upTo 64 (BL (K 32 key) c (K 12 nonce)) = upTo 64 (BL (K 32 key) c (K 12 nonce))) = true

theorem says_some (BL : BLf) (XF : XFf) (key nonce : Nat → Int) (c : Int) (a : Option Addr) (n ca : Nat) (f : Nat → Int) :
    runOf (cl BL XF hS (fun _ => false)) Try.prog 100 3 [ints .u8 (upTo 32 key), mkInt .u32 c, ints .u8 (upTo 12 nonce), .one (.sc (.vw a n ca .u8 f))] =
      some (mkBool (decide (n = n) && sameB n (fun i => XF (K 32 key) c (K 12 nonce) f (0 + i)) (fun i => XF (K 32 key) c (K 12 nonce) f (0 + i))),
        [eqS BL key nonce c] ++ [0 + n ≤ n, 0 + n ≤ n, n ≤ 4611686018427387904] ++ [eqS BL key nonce c] ++ [0 < n, n ≤ 1000000, 0 ≤ c, c < 4294967296] ++ List.replicate 5 (eqS BL key nonce c) ++
        [n ≤ 1000000, 0 ≤ c, c < 4294967296] ++ List.replicate 5 (eqS BL key nonce c) ++ [decide ((n : Int) > 300) = false]) := by kernel_rfl

theorem says_none (BL : BLf) (XF : XFf) (key nonce : Nat → Int) (c : Int) (a : Option Addr) (n ca : Nat) (f : Nat → Int) :
    runOf (cn BL XF hS (fun _ => false)) Try.prog 100 3 [ints .u8 (upTo 32 key), mkInt .u32 c, ints .u8 (upTo 12 nonce), .one (.sc (.vw a n ca .u8 f))] =
      some (mkBool (decide (n = 0) && sameB n (fun i => XF (K 32 key) c (K 12 nonce) f (0 + i)) (fun _ => 0)),
        [eqS BL key nonce c] ++ [0 + n ≤ n, n ≤ 4611686018427387904] ++ [eqS BL key nonce c] ++ [n = 0] ++ List.replicate 5 (eqS BL key nonce c) ++
        [n ≤ 1000000, 0 ≤ c, c < 4294967296] ++ List.replicate 5 (eqS BL key nonce c) ++ [decide ((n : Int) > 300) = false]) := by kernel_rfl

theorem vs_in {w : World} {key nonce : Nat → Int} {c : Int} {a : Option Addr} {n ca : Nat} {f : Nat → Int} (hf : SX.BytesAt w a n .u8 f) :
    ∀ x ∈ [ints .u8 (upTo 32 key), mkInt .u32 c, ints .u8 (upTo 12 nonce), .one (.sc (.vw a n ca .u8 f))], x.In w fun _ => False := by
  intro x hx
  simp only [List.mem_cons, List.not_mem_nil, or_false] at hx
  rcases hx with rfl | rfl | rfl | rfl
  · exact SV.plain_in (ints_plain _ _) w
  · trivial
  · exact SV.plain_in (ints_plain _ _) w
  · exact hf

theorem says_any (key : Nat → Int) (c : Int) (nonce : Nat → Int) (a : Option Addr) (n ca : Nat) (f : Nat → Int) (w : World) (_ : ∀ i, i < 32 → (Lit.int .u8 (key i)).wf = true) (hc : (Lit.int .u32 c).wf = true) (_ : ∀ i, i < 12 → (Lit.int .u8 (nonce i)).wf = true)
    (_ : n ≤ ca) (_ : ca ≤ maxLen) (hf : SX.BytesAt w a n .u8 f) (_ : ∀ i, (Lit.int .u8 (f i)).wf = true) :
    Calls Try.prog 3 #[.agg ((upTo 32 key).map (Value.int .u8)).toArray, .int .u32 c, .agg ((upTo 12 nonce).map (Value.int .u8)).toArray, .slice a n ca] w fun e w' => e = .returned (.bool true) ∧ Below w.heap.size w w' := by
  have heq : eqS BLc key nonce c := by simp [eqS]
  obtain ⟨hc0, hc1⟩ := bounds_u32 hc
  by_cases h300 : (n : Int) > 300
  · have := calls_of_run' (cl_ty _ _ _ _) (cl_orc _ _) names mixed (says_long BLc XFc key nonce c a n ca f) (AllOf.holds (by (repeat' (first | exact AllOf.nil | apply AllOf.app | apply AllOf.rep | apply AllOf.cons)); all_goals (simpa using h300))) nil w (vs_in hf) (fun _ => trivial)
    simpa only [List.map_cons, List.map_nil, ints_den, mkInt_den, vw_den, mkBool_den] using this
  · by_cases h0 : n = 0
    · have := calls_of_run' (cn_ty _ _ _ _) (cn_orc _ _) names mixed (says_none BLc XFc key nonce c a n ca f) (AllOf.holds (by (repeat' (first | exact AllOf.nil | apply AllOf.app | apply AllOf.rep | apply AllOf.cons)); all_goals (first | omega | (with_reducible exact heq) | simpa using h300))) nil w (vs_in hf) (fun _ => trivial)
      subst h0
      have hs : sameB 0 (fun i => XFc (K 32 key) c (K 12 nonce) f (0 + i)) (fun _ => 0) = true := rfl
      rw [hs, decide_eq_true (rfl : 0 = 0)] at this
      simpa only [List.map_cons, List.map_nil, ints_den, mkInt_den, vw_den, mkBool_den, Bool.and_self] using this
    · have := calls_of_run' (cl_ty _ _ _ _) (cl_orc _ _) names mixed (says_some BLc XFc key nonce c a n ca f) (AllOf.holds (by (repeat' (first | exact AllOf.nil | apply AllOf.app | apply AllOf.rep | apply AllOf.cons)); all_goals (first | omega | (with_reducible exact heq) | simpa using h300))) nil w (vs_in hf) (fun _ => trivial)
      have hs : sameB n (fun i => XFc (K 32 key) c (K 12 nonce) f (0 + i)) (fun i => XFc (K 32 key) c (K 12 nonce) f (0 + i)) = true := sameB_true fun _ _ => rfl
      rw [hs, decide_eq_true (rfl : n = n)] at this
      simpa only [List.map_cons, List.map_nil, ints_den, mkInt_den, vw_den, mkBool_den, Bool.and_self] using this
end Go.Proofs.Ytkdclndbnmhbfaa
