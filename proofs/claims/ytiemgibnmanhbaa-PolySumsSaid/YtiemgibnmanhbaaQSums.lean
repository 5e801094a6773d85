/-
  PolySums comes to true. Conditions: those of a parameter's values.
-/
import Derived.Test.YtiemgibnmanhbaaPolE
namespace Go.Proofs.Ytiemgibnmanhbaa
open Go Go.SX
open Go.RowKit (Below)

def xK (key : Nat → Int) : Nat → Int := at_ (upTo 16 key ++ List.replicate 16 0)
def yK (key : Nat → Int) (by_ : Int) : Nat → Int := at_ (upTo 16 key ++ by_ :: List.replicate 15 0)
def zK (key : Nat → Int) : Nat → Int := at_ (List.replicate 16 0 ++ upTo 16 fun i => key (16 + i))
def w63 (n : Int) : Int := IntKind.i64.wrap n
def stepU (s : Nat → Int) (a : List Int × Int) (i : Nat) : List Int × Int := (a.1 ++ [IntKind.u8.wrap (w63 (a.2 + w63 (s i)))], w63 (a.2 + w63 (s i)) / (2 ^ 8 : Nat))
def loopU (s : Nat → Int) (by_ : Int) : List Int := ((List.range 16).foldl (stepU s) ([], w63 by_)).1

def psSums (TG : TgF) (key : Nat → Int) (b : BT) (by_ : Int) : List Prop :=
  [0 + 16 ≤ 16, 16 + 16 ≤ 32, 16 ≤ 4611686018427387904, (decide (16 = 16) && sameB 16 (fun i => (upTo 16 (TG (zK key) b.n b.f)).getD (0 + i) 0) (fun i => (upTo 32 key).getD (16 + i) 0)) = true,
   decide (loopU (TG (xK key) b.n b.f) by_ = upTo 16 (TG (yK key by_) b.n b.f)) = true,
   b.n ≤ b.ca, b.n ≤ 1000000, byteF (zK key), byteF b.f,
   b.n ≤ b.ca, b.n ≤ 1000000, byteF (yK key by_), byteF b.f,
   b.n ≤ b.ca, b.n ≤ 1000000, byteF (xK key), byteF b.f,
   decide ((b.n : Int) > 100) = false]

theorem sums_long (TG : TgF) (key : Nat → Int) (b : BT) (by_ : Int) :
    runOf (ctxL Try.prog (lQ TG 0) (yesNo [23] []) (open_ []) noLoop) Try.prog 100 5 [ints .u8 (upTo 32 key), vwB b, mkInt .u8 by_] = some (mkBool true, [decide ((b.n : Int) > 100) = true]) := by kernel_rfl
theorem sums_some (TG : TgF) (key : Nat → Int) (b : BT) (by_ : Int) :
    runOf (ctxL Try.prog (lQ TG 0) (yesNo [77, 82] [23]) (open_ []) noLoop) Try.prog 100 5 [ints .u8 (upTo 32 key), vwB b, mkInt .u8 by_] = some (mkBool true, psSums TG key b by_) := by kernel_rfl

theorem w63_id (n : Int) (h0 : 0 ≤ n) (h1 : n < 9223372036854775808) : w63 n = n := by unfold w63; rw [IntKind.wrap_i64]; omega
theorem loopU_chain (s : Nat → Int) (u : Int) (hs : ∀ i, 0 ≤ s i ∧ s i ≤ 255) (hu : 0 ≤ u ∧ u ≤ 255) (n : Nat) : (List.range n).foldl (stepU s) ([], w63 u) = (upTo n (cB s u), cU s u n) := by
  induction n with
  | zero => rw [w63_id u (by omega) (by omega)]; rfl
  | succ n ih =>
    rw [List.range_succ, List.foldl_append, ih]
    have hb := cU_bound s u 255 (fun i => by have := hs i; omega) hu n
    have h1 := hs n
    show (upTo n (cB s u) ++ [IntKind.u8.wrap (w63 (cU s u n + w63 (s n)))], w63 (cU s u n + w63 (s n)) / (2 ^ 8 : Nat)) = _
    rw [w63_id (s n) (by omega) (by omega), w63_id _ (by omega) (by omega), IntKind.wrap_u8, Int.add_comm (cU s u n)]
    simp only [upTo, List.range_succ, List.map_append, List.map_cons, List.map_nil, cU, cB]
    rfl
theorem pair_at (key : Nat → Int) (l : List Int) (i : Nat) : at_ (upTo 16 key ++ l) i = if i < 16 then key i else l.getD (i - 16) 0 := by
  unfold at_
  rw [List.getD_eq_getElem?_getD]
  by_cases h : i < 16
  · rw [if_pos h, List.getElem?_append_left (by simpa [upTo] using h)]
    simp [upTo, h]
  · rw [if_neg h, List.getElem?_append_right (by simp [upTo]; omega)]
    simp [upTo, List.getD_eq_getElem?_getD]
theorem pair_at' (l : List Int) (hl : l.length = 16) (g : Nat → Int) (i : Nat) : at_ (l ++ upTo 16 g) i = if i < 16 then l.getD i 0 else if i < 32 then g (i - 16) else 0 := by
  unfold at_
  rw [List.getD_eq_getElem?_getD]
  by_cases h : i < 16
  · rw [if_pos h, List.getElem?_append_left (by omega), List.getD_eq_getElem?_getD]
  · rw [if_neg h, List.getElem?_append_right (by omega), hl]
    by_cases h2 : i < 32
    · rw [if_pos h2]
      simp [upTo, show i - 16 < 16 by omega]
    · rw [if_neg h2]
      simp [upTo, show ¬ i - 16 < 16 by omega]
theorem rep_getD (n i : Nat) : (List.replicate n (0 : Int)).getD i 0 = 0 := by
  rw [List.getD_eq_getElem?_getD, List.getElem?_replicate]
  split <;> rfl
theorem cons_getD (x : Int) (n i : Nat) : (x :: List.replicate n (0 : Int)).getD i 0 = if i = 0 then x else 0 := by
  cases i with
  | zero => rfl
  | succ i =>
    rw [if_neg (by omega)]
    show (List.replicate n (0 : Int)).getD i 0 = 0
    exact rep_getD n i
theorem bval_one (x : Int) (n : Nat) : bval (fun i => if i = 0 then x else 0) (n + 1) = x := by
  induction n with
  | zero => simp [bval]
  | succ n ih =>
    rw [show n + 1 + 1 = (n + 1) + 1 from rfl]
    show bval (fun i => if i = 0 then x else 0) (n + 1) + (if n + 1 = 0 then x else 0) * 256 ^ (n + 1) = x
    rw [ih, if_neg (by omega)]
    omega
theorem bval_zero (n : Nat) : bval (fun _ => 0) n = 0 := by
  induction n with
  | zero => rfl
  | succ n ih => simp only [bval]; rw [ih]; omega

theorem sums_eq (key : Nat → Int) (n : Nat) (f : Nat → Int) (u : Int) (hu : 0 ≤ u ∧ u ≤ 255) : decide (loopU (TGc (xK key) n f) u = upTo 16 (TGc (yK key u) n f)) = true := by
  apply decide_eq_true
  unfold loopU
  rw [loopU_chain (TGc (xK key) n f) u (fun i => byteAt_range _ i) hu 16]
  show upTo 16 (cB (TGc (xK key) n f) u) = _
  have hr : rL (yK key u) = rL (xK key) := rL_congr _ _ fun i hi => by unfold xK yK; rw [pair_at, pair_at, if_pos hi, if_pos hi]
  have hx : (fun i => xK key (16 + i)) = fun _ => 0 := by
    funext i
    unfold xK
    rw [pair_at, if_neg (by omega), rep_getD]
  have hy : (fun i => yK key u (16 + i)) = fun i => if i = 0 then u else 0 := by
    funext i
    unfold yK
    rw [pair_at, if_neg (by omega), cons_getD, show 16 + i - 16 = i by omega]
  rw [TGc_is (yK key u), HS_congr _ _ hr]
  have hc := chain_val (TGc (xK key) n f) u 16
  rw [TGc_is (xK key)] at hc ⊢
  generalize HS (xK key) (num n f) (nR n) % pp = X at *
  obtain ⟨t0, t1⟩ := tagV_range X (xK key)
  rw [bval_byteAt _ t0 16 t1] at hc
  have hbr := bval_range _ (cB_range (byteAt (tagV X (xK key))) u) 16
  have ht : tagV X (yK key u) = bval (cB (byteAt (tagV X (xK key))) u) 16 := by
    unfold tagV at hc hbr ⊢
    rw [hx, bval_zero] at hc hbr ⊢
    rw [hy, bval_one u 15]
    simp only [Int.reducePow] at hc hbr
    omega
  rw [ht]
  apply List.map_congr_left
  intro i hi
  exact (byteAt_bval _ (cB_range _ _) 16 i (List.mem_range.1 hi)).symm

theorem HS_zero (key : Nat → Int) (h : rV key = 0) (b : BT) (N : Nat) : HS key b N = 0 := by
  cases N with
  | zero => rfl
  | succ N =>
    show (HS key b N + blkV (BS b N).n (BS b N).f) * rV key = 0
    rw [h, Int.mul_zero]
theorem sums_same (key : Nat → Int) (hk : byteF (K 32 key)) (n : Nat) (f : Nat → Int) : (decide (16 = 16) && sameB 16 (fun i => (upTo 16 (TGc (zK key) n f)).getD (0 + i) 0) (fun i => (upTo 32 key).getD (16 + i) 0)) = true := by
  rw [decide_eq_true (rfl : 16 = 16), Bool.true_and]
  refine sameB_true fun i hi => ?_
  have hz : ∀ i, i < 16 → zK key i = 0 := fun i hi => by unfold zK; rw [pair_at' _ (by simp), if_pos hi, rep_getD]
  have hrl : rL (zK key) = List.replicate 17 0 := by
    unfold rL
    rw [hz 0 (by decide), hz 1 (by decide), hz 2 (by decide), hz 3 (by decide), hz 4 (by decide), hz 5 (by decide), hz 6 (by decide), hz 7 (by decide), hz 8 (by decide), hz 9 (by decide), hz 10 (by decide), hz 11 (by decide), hz 12 (by decide),
      hz 13 (by decide), hz 14 (by decide), hz 15 (by decide)]
    decide +kernel
  have hrv : rV (zK key) = 0 := by
    unfold rV
    rw [hrl]
    decide +kernel
  have hz2 : ∀ i, i < 16 → zK key (16 + i) = K 32 key (16 + i) := fun i hi => by
    unfold zK
    rw [pair_at' _ (by simp), if_neg (by omega), if_pos (by omega), K_at 32 key _ (by omega), show 16 + i - 16 = i by omega]
  have hbr := bval_range (fun i => K 32 key (16 + i)) (fun i => hk _) 16
  have hv : bval (fun i => zK key (16 + i)) 16 = bval (fun i => K 32 key (16 + i)) 16 := bval_congr _ _ 16 hz2
  show (upTo 16 (TGc (zK key) n f)).getD (0 + i) 0 = (upTo 32 key).getD (16 + i) 0
  rw [Nat.zero_add, upTo_getD_at hi, upTo_getD_at (show 16 + i < 32 by omega), TGc_is, HS_zero _ hrv]
  have ht : tagV (0 % pp) (zK key) = bval (fun i => K 32 key (16 + i)) 16 := by
    unfold tagV
    rw [hv]
    simp only [Int.reducePow] at hbr
    rw [Int.zero_emod]
    omega
  rw [ht, byteAt_bval _ (fun i => hk _) 16 i hi, K_at 32 key _ (by omega)]

theorem K_of (key : Nat → Int) (hk : byteF (K 32 key)) (i : Nat) (h : i < 32) : 0 ≤ key i ∧ key i ≤ 255 := by
  have := hk i
  rwa [K_at 32 key i h] at this
theorem xK_bytes (key : Nat → Int) (hk : byteF (K 32 key)) : byteF (xK key) := fun i => by
  unfold xK
  rw [pair_at]
  split
  · exact K_of key hk i (by omega)
  · rw [rep_getD]; omega
theorem yK_bytes (key : Nat → Int) (hk : byteF (K 32 key)) (u : Int) (hu : 0 ≤ u ∧ u ≤ 255) : byteF (yK key u) := fun i => by
  unfold yK
  rw [pair_at]
  split
  · exact K_of key hk i (by omega)
  · rw [cons_getD]; split <;> omega
theorem zK_bytes (key : Nat → Int) (hk : byteF (K 32 key)) : byteF (zK key) := fun i => by
  unfold zK
  rw [pair_at' _ (by simp)]
  split
  · rw [rep_getD]; omega
  · split
    · exact K_of key hk _ (by omega)
    · omega

theorem sums_any (key : Nat → Int) (a : Option Addr) (n ca : Nat) (f : Nat → Int) (u : Int) (w : World) (hk : ∀ i, i < 32 → (Lit.int .u8 (key i)).wf = true)
    (hca : n ≤ ca) (_ : ca ≤ maxLen) (hf : SX.BytesAt w a n .u8 f) (hw : ∀ i, (Lit.int .u8 (f i)).wf = true) (hu : (Lit.int .u8 u).wf = true) :
    Calls Try.prog 5 #[.agg ((upTo 32 key).map (Value.int .u8)).toArray, .slice a n ca, .int .u8 u] w fun e w' => e = .returned (.bool true) ∧ Below w.heap.size w w' := by
  have hb : byteF f := fun i => bounds_u8 (hw i)
  have hK := K_wf hk
  have hu := bounds_u8 hu
  by_cases h100 : (n : Int) > 100
  · have := calls_of_run' (ctxL_ty _ _ _ _ _) (ctxL_orc _ _ _ _ _ (lQ_ok 0)) (ctxL_sem _ _ _ _ _) names mixed (sums_long TGc key ⟨a, n, ca, f⟩ u) (AllOf.holds (.cons (decide_eq_true h100) .nil)) nil w (vs_in (l := [mkInt .u8 u]) hf rfl) (fun _ => trivial)
    simpa only [List.map_cons, List.map_nil, ints_den, mkInt_den, vwB_den, mkBool_den] using this
  · have q : n ≤ 1000000 := by omega
    have h1 := sums_same key hK n f
    have h2 := sums_eq key n f u hu
    have z1 := zK_bytes key hK
    have z2 := yK_bytes key hK u hu
    have z3 := xK_bytes key hK
    have := calls_of_run' (ctxL_ty _ _ _ _ _) (ctxL_orc _ _ _ _ _ (lQ_ok 0)) (ctxL_sem _ _ _ _ _) names mixed (sums_some TGc key ⟨a, n, ca, f⟩ u)
      (AllOf.holds (.cons (by decide) (.cons (by decide) (.cons (by decide) (.cons h1 (.cons h2 (.cons hca (.cons q (.cons z1 (.cons hb (.cons hca (.cons q (.cons z2 (.cons hb (.cons hca (.cons q (.cons z3 (.cons hb
        (.cons (decide_eq_false h100) .nil))))))))))))))))))) nil w (vs_in (l := [mkInt .u8 u]) hf rfl) (fun _ => trivial)
    simpa only [List.map_cons, List.map_nil, ints_den, mkInt_den, vwB_den, mkBool_den] using this
end Go.Proofs.Ytiemgibnmanhbaa
