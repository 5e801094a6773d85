/-
  ChachaSays comes to true. Conditions: those of a parameter's values.
-/
import Derived.Test.YtkdclndbnmhbfaaOrc
import Derived.OpenShut
namespace Go.Proofs.Ytkdclndbnmhbfaa
open Go Go.SX
open Go.RowKit (Below)

theorem says_long (BL : BLf) (XF : XFf) (key nonce : Nat → Int) (c : Int) (a : Option Addr) (n ca : Nat) (f : Nat → Int) :
    runOf (cl BL XF (ask [15] []) (open_ [])) Try.prog 100 3 [ints .u8 (upTo 32 key), mkInt .u32 c, ints .u8 (upTo 12 nonce), .one (.sc (.vw a n ca .u8 f))] =
      some (mkBool true, [decide ((n : Int) > 300) = true]) := by kernel_rfl

def eqS (BL : BLf) (key nonce : Nat → Int) (c : Int) : Prop := decide (upTo 64 (BL (K 32 key) c (K 12 nonce)) = upTo 64 (BL (K 32 key) c (K 12 nonce))) = true

theorem says_some (BL : BLf) (XF : XFf) (key nonce : Nat → Int) (c : Int) (a : Option Addr) (n ca : Nat) (f : Nat → Int) :
    runOf (cl BL XF (ask [29, 41] [15]) (open_ [])) Try.prog 100 3 [ints .u8 (upTo 32 key), mkInt .u32 c, ints .u8 (upTo 12 nonce), .one (.sc (.vw a n ca .u8 f))] =
      some (mkBool true, [(decide (n = n) && sameB n (fun i => XF (K 32 key) c (K 12 nonce) f (0 + i)) (fun i => XF (K 32 key) c (K 12 nonce) f (0 + i))) = true,
        0 + n ≤ n, 0 + n ≤ n, n ≤ 4611686018427387904, 0 < n, n ≤ 1000000, 0 ≤ c, c < 4294967296, n ≤ 1000000, 0 ≤ c, c < 4294967296, eqS BL key nonce c, decide ((n : Int) > 300) = false]) := by kernel_rfl

theorem says_none (BL : BLf) (XF : XFf) (key nonce : Nat → Int) (c : Int) (a : Option Addr) (n ca : Nat) (f : Nat → Int) :
    runOf (cn BL XF (ask [29, 41] [15]) (open_ [])) Try.prog 100 3 [ints .u8 (upTo 32 key), mkInt .u32 c, ints .u8 (upTo 12 nonce), .one (.sc (.vw a n ca .u8 f))] =
      some (mkBool true, [(decide (n = 0) && sameB n (fun i => XF (K 32 key) c (K 12 nonce) f (0 + i)) (fun _ => 0)) = true,
        0 + n ≤ n, n ≤ 4611686018427387904, n = 0, n ≤ 1000000, 0 ≤ c, c < 4294967296, eqS BL key nonce c, decide ((n : Int) > 300) = false]) := by kernel_rfl

theorem vs_in {w : World} {key nonce : Nat → Int} {c : Int} {a : Option Addr} {n ca : Nat} {f : Nat → Int} (hf : SX.BytesAt w a n .u8 f) :
    ∀ x ∈ [ints .u8 (upTo 32 key), mkInt .u32 c, ints .u8 (upTo 12 nonce), .one (.sc (.vw a n ca .u8 f))], x.In w fun _ => False := by
  intro x hx
  simp only [List.mem_cons, List.not_mem_nil, or_false] at hx
  rcases hx with rfl | rfl | rfl | rfl
  · exact SV.plain_in (ints_plain _ _) w
  · trivial
  · exact SV.plain_in (ints_plain _ _) w
  · exact hf

theorem says_any (key : Nat → Int) (c : Int) (nonce : Nat → Int) (a : Option Addr) (n ca : Nat) (f : Nat → Int) (w : World) (_ : ∀ i, i < 32 → (Lit.int .u8 (key i)).wf = true) (hc : (Lit.int .u32 c).wf = true) (_ : ∀ i, i < 12 → (Lit.int .u8 (nonce i)).wf = true)
    (_ : n ≤ ca) (_ : ca ≤ maxLen) (hf : SX.BytesAt w a n .u8 f) (_ : ∀ i, (Lit.int .u8 (f i)).wf = true) :
    Calls Try.prog 3 #[.agg ((upTo 32 key).map (Value.int .u8)).toArray, .int .u32 c, .agg ((upTo 12 nonce).map (Value.int .u8)).toArray, .slice a n ca] w fun e w' => e = .returned (.bool true) ∧ Below w.heap.size w w' := by
  have heq : eqS BLc key nonce c := by simp [eqS]
  obtain ⟨hc0, hc1⟩ := bounds_u32 hc
  by_cases h300 : (n : Int) > 300
  · have := calls_of_run' (cl_ty _ _ _ _) (cl_orc _ _) (cl_sem _ _ _ _) names mixed (says_long BLc XFc key nonce c a n ca f) (AllOf.holds (.cons (decide_eq_true h300) .nil)) nil w (vs_in hf) (fun _ => trivial)
    simpa only [List.map_cons, List.map_nil, ints_den, mkInt_den, vw_den, mkBool_den] using this
  · by_cases h0 : n = 0
    · have hs : (decide (n = 0) && sameB n (fun i => XFc (K 32 key) c (K 12 nonce) f (0 + i)) (fun _ => 0)) = true := by subst h0; rfl
      have := calls_of_run' (cn_ty _ _ _ _) (cn_orc _ _) (cn_sem _ _ _ _) names mixed (says_none BLc XFc key nonce c a n ca f)
        (AllOf.holds (.cons hs (.cons (by omega) (.cons (by omega) (.cons h0 (.cons (by omega) (.cons (by omega) (.cons (by omega) (.cons heq (.cons (decide_eq_false h300) .nil)))))))))) nil w (vs_in hf) (fun _ => trivial)
      simpa only [List.map_cons, List.map_nil, ints_den, mkInt_den, vw_den, mkBool_den] using this
    · have hs : (decide (n = n) && sameB n (fun i => XFc (K 32 key) c (K 12 nonce) f (0 + i)) (fun i => XFc (K 32 key) c (K 12 nonce) f (0 + i))) = true := by
        rw [decide_eq_true (rfl : n = n), Bool.true_and]; exact sameB_true fun _ _ => rfl
      have := calls_of_run' (cl_ty _ _ _ _) (cl_orc _ _) (cl_sem _ _ _ _) names mixed (says_some BLc XFc key nonce c a n ca f)
        (AllOf.holds (.cons hs (.cons (by omega) (.cons (by omega) (.cons (by omega) (.cons (by omega) (.cons (by omega) (.cons (by omega) (.cons (by omega) (.cons (by omega) (.cons (by omega) (.cons (by omega) (.cons heq (.cons (decide_eq_false h300) .nil)))))))))))))) nil w (vs_in hf) (fun _ => trivial)
      simpa only [List.map_cons, List.map_nil, ints_den, mkInt_den, vw_den, mkBool_den] using this
end Go.Proofs.Ytkdclndbnmhbfaa
