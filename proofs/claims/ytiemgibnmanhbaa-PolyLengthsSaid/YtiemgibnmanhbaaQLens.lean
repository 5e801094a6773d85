/-
  PolyLengths comes to true. Conditions: those of a parameter's values.
-/
import Derived.Test.YtiemgibnmanhbaaQSums
namespace Go.Proofs.Ytiemgibnmanhbaa
open Go Go.SX
open Go.RowKit (Below)

def oneK (key : Nat → Int) : Nat → Int := at_ (1 :: List.replicate 15 0 ++ upTo 16 fun i => key (16 + i))
def nL (n : Nat) (f : Nat → Int) (i : Nat) : Int := if i < n then w63 (f i) else if i = n then 1 else 0
def stepN (key : Nat → Int) (n : Nat) (f : Nat → Int) (a : List Int × Int) (i : Nat) : List Int × Int :=
  (a.1 ++ [IntKind.u8.wrap (w63 (w63 (a.2 + nL n f i) + w63 (key (16 + i))))], w63 (w63 (a.2 + nL n f i) + w63 (key (16 + i))) / (2 ^ 8 : Nat))
def loopN (key : Nat → Int) (n : Nat) (f : Nat → Int) : List Int := ((List.range 16).foldl (stepN key n f) ([], 0)).1
/-- The longer text. -/
def fL (n : Nat) (f : Nat → Int) : Nat → Int := fun i => if i < n then f (0 + i) else [(0 : Int)].getD (0 + (i - n)) 0
def atEach (n : Nat) : Nat → List Prop
  | 0 => []
  | k + 1 => [0 ≤ (k : Int), (k : Int) < (n : Int)] ++ atEach n k
def tgPs (key : Nat → Int) (n : Nat) (f : Nat → Int) : List Prop := [n ≤ 1000000, byteF key, byteF f]
def psLens (TG : TgF) (key : Nat → Int) (n : Nat) (ca : Nat) (f : Nat → Int) : List Prop :=
  [(decide (upTo 16 (TG (K 32 key) n f) = upTo 16 (TG (K 32 key) (n + 1) fun i => fL n f (0 + i))) == decide (upTo 16 (TG (K 32 key) n f) = upTo 16 (TG (K 32 key) (n + 1) fun i => fL n f (0 + i)))) = true] ++
  ([0 + (n + 1) ≤ n + 1] ++ tgPs (K 32 key) (n + 1) fun i => fL n f (0 + i)) ++
  ([n ≤ ca] ++ tgPs (K 32 key) n f) ++
  ([0 + (n + 1) ≤ n + 1] ++ tgPs (K 32 key) (n + 1) fun i => fL n f (0 + i)) ++
  ([n ≤ ca] ++ tgPs (K 32 key) n f) ++
  [decide (upTo 16 (TG (oneK key) n f) = loopN key n f) = true] ++
  ([n ≤ ca] ++ tgPs (oneK key) n f) ++
  [0 + n ≤ n, 0 + 1 ≤ 1, n < n + 1, n ≤ n, 0 < 1, n + 1 ≤ 1000000] ++
  [n ≤ 1000000] ++
  atEach n n ++
  [((n : Int) == 0) = false, decide ((n : Int) > 14) = false]
theorem lens_long (TG : TgF) (key : Nat → Int) (b : BT) :
    runOf (ctxL Try.prog (lQ TG 0) (yesNo [18] []) (open_ []) noLoop) Try.prog 100 7 [ints .u8 (upTo 32 key), vwB b] = some (mkBool true, [decide ((b.n : Int) > 14) = true]) := by kernel_rfl
theorem lens_none (TG : TgF) (key : Nat → Int) (b : BT) :
    runOf (ctxL Try.prog (lQ TG 0) (yesNo [22] [18]) (open_ []) noLoop) Try.prog 100 7 [ints .u8 (upTo 32 key), vwB b] = some (mkBool true, [((b.n : Int) == 0) = true, decide ((b.n : Int) > 14) = false]) := by kernel_rfl
theorem lens_1 (TG : TgF) (key : Nat → Int) (a : Option Addr) (ca : Nat) (f : Nat → Int) :
    runOf (ctxL Try.prog (lQ TG 0) (yesNo [75, 92] [18, 22]) (open_ [43]) noLoop) Try.prog 100 7 [ints .u8 (upTo 32 key), .one (.sc (.vw a 1 ca .u8 f))] = some (mkBool true, psLens TG key 1 ca f) := by kernel_rfl
theorem lens_2 (TG : TgF) (key : Nat → Int) (a : Option Addr) (ca : Nat) (f : Nat → Int) :
    runOf (ctxL Try.prog (lQ TG 0) (yesNo [75, 92] [18, 22]) (open_ [43]) noLoop) Try.prog 100 7 [ints .u8 (upTo 32 key), .one (.sc (.vw a 2 ca .u8 f))] = some (mkBool true, psLens TG key 2 ca f) := by kernel_rfl
theorem lens_3 (TG : TgF) (key : Nat → Int) (a : Option Addr) (ca : Nat) (f : Nat → Int) :
    runOf (ctxL Try.prog (lQ TG 0) (yesNo [75, 92] [18, 22]) (open_ [43]) noLoop) Try.prog 100 7 [ints .u8 (upTo 32 key), .one (.sc (.vw a 3 ca .u8 f))] = some (mkBool true, psLens TG key 3 ca f) := by kernel_rfl
theorem lens_4 (TG : TgF) (key : Nat → Int) (a : Option Addr) (ca : Nat) (f : Nat → Int) :
    runOf (ctxL Try.prog (lQ TG 0) (yesNo [75, 92] [18, 22]) (open_ [43]) noLoop) Try.prog 100 7 [ints .u8 (upTo 32 key), .one (.sc (.vw a 4 ca .u8 f))] = some (mkBool true, psLens TG key 4 ca f) := by kernel_rfl
theorem lens_5 (TG : TgF) (key : Nat → Int) (a : Option Addr) (ca : Nat) (f : Nat → Int) :
    runOf (ctxL Try.prog (lQ TG 0) (yesNo [75, 92] [18, 22]) (open_ [43]) noLoop) Try.prog 100 7 [ints .u8 (upTo 32 key), .one (.sc (.vw a 5 ca .u8 f))] = some (mkBool true, psLens TG key 5 ca f) := by kernel_rfl
theorem lens_6 (TG : TgF) (key : Nat → Int) (a : Option Addr) (ca : Nat) (f : Nat → Int) :
    runOf (ctxL Try.prog (lQ TG 0) (yesNo [75, 92] [18, 22]) (open_ [43]) noLoop) Try.prog 100 7 [ints .u8 (upTo 32 key), .one (.sc (.vw a 6 ca .u8 f))] = some (mkBool true, psLens TG key 6 ca f) := by kernel_rfl
theorem lens_7 (TG : TgF) (key : Nat → Int) (a : Option Addr) (ca : Nat) (f : Nat → Int) :
    runOf (ctxL Try.prog (lQ TG 0) (yesNo [75, 92] [18, 22]) (open_ [43]) noLoop) Try.prog 100 7 [ints .u8 (upTo 32 key), .one (.sc (.vw a 7 ca .u8 f))] = some (mkBool true, psLens TG key 7 ca f) := by kernel_rfl
theorem lens_8 (TG : TgF) (key : Nat → Int) (a : Option Addr) (ca : Nat) (f : Nat → Int) :
    runOf (ctxL Try.prog (lQ TG 0) (yesNo [75, 92] [18, 22]) (open_ [43]) noLoop) Try.prog 100 7 [ints .u8 (upTo 32 key), .one (.sc (.vw a 8 ca .u8 f))] = some (mkBool true, psLens TG key 8 ca f) := by kernel_rfl
theorem lens_9 (TG : TgF) (key : Nat → Int) (a : Option Addr) (ca : Nat) (f : Nat → Int) :
    runOf (ctxL Try.prog (lQ TG 0) (yesNo [75, 92] [18, 22]) (open_ [43]) noLoop) Try.prog 100 7 [ints .u8 (upTo 32 key), .one (.sc (.vw a 9 ca .u8 f))] = some (mkBool true, psLens TG key 9 ca f) := by kernel_rfl
theorem lens_10 (TG : TgF) (key : Nat → Int) (a : Option Addr) (ca : Nat) (f : Nat → Int) :
    runOf (ctxL Try.prog (lQ TG 0) (yesNo [75, 92] [18, 22]) (open_ [43]) noLoop) Try.prog 100 7 [ints .u8 (upTo 32 key), .one (.sc (.vw a 10 ca .u8 f))] = some (mkBool true, psLens TG key 10 ca f) := by kernel_rfl
theorem lens_11 (TG : TgF) (key : Nat → Int) (a : Option Addr) (ca : Nat) (f : Nat → Int) :
    runOf (ctxL Try.prog (lQ TG 0) (yesNo [75, 92] [18, 22]) (open_ [43]) noLoop) Try.prog 100 7 [ints .u8 (upTo 32 key), .one (.sc (.vw a 11 ca .u8 f))] = some (mkBool true, psLens TG key 11 ca f) := by kernel_rfl
theorem lens_12 (TG : TgF) (key : Nat → Int) (a : Option Addr) (ca : Nat) (f : Nat → Int) :
    runOf (ctxL Try.prog (lQ TG 0) (yesNo [75, 92] [18, 22]) (open_ [43]) noLoop) Try.prog 100 7 [ints .u8 (upTo 32 key), .one (.sc (.vw a 12 ca .u8 f))] = some (mkBool true, psLens TG key 12 ca f) := by kernel_rfl
theorem lens_13 (TG : TgF) (key : Nat → Int) (a : Option Addr) (ca : Nat) (f : Nat → Int) :
    runOf (ctxL Try.prog (lQ TG 0) (yesNo [75, 92] [18, 22]) (open_ [43]) noLoop) Try.prog 100 7 [ints .u8 (upTo 32 key), .one (.sc (.vw a 13 ca .u8 f))] = some (mkBool true, psLens TG key 13 ca f) := by kernel_rfl
theorem lens_14 (TG : TgF) (key : Nat → Int) (a : Option Addr) (ca : Nat) (f : Nat → Int) :
    runOf (ctxL Try.prog (lQ TG 0) (yesNo [75, 92] [18, 22]) (open_ [43]) noLoop) Try.prog 100 7 [ints .u8 (upTo 32 key), .one (.sc (.vw a 14 ca .u8 f))] = some (mkBool true, psLens TG key 14 ca f) := by kernel_rfl
theorem lens_run (TG : TgF) (key : Nat → Int) (a : Option Addr) (n ca : Nat) (f : Nat → Int) (h1 : 1 ≤ n) (h2 : n ≤ 14) :
    runOf (ctxL Try.prog (lQ TG 0) (yesNo [75, 92] [18, 22]) (open_ [43]) noLoop) Try.prog 100 7 [ints .u8 (upTo 32 key), .one (.sc (.vw a n ca .u8 f))] = some (mkBool true, psLens TG key n ca f) := by
  have h : n = 1 ∨ n = 2 ∨ n = 3 ∨ n = 4 ∨ n = 5 ∨ n = 6 ∨ n = 7 ∨ n = 8 ∨ n = 9 ∨ n = 10 ∨ n = 11 ∨ n = 12 ∨ n = 13 ∨ n = 14 := by omega
  rcases h with rfl | rfl | rfl | rfl | rfl | rfl | rfl | rfl | rfl | rfl | rfl | rfl | rfl | rfl
  · exact lens_1 TG key a ca f
  · exact lens_2 TG key a ca f
  · exact lens_3 TG key a ca f
  · exact lens_4 TG key a ca f
  · exact lens_5 TG key a ca f
  · exact lens_6 TG key a ca f
  · exact lens_7 TG key a ca f
  · exact lens_8 TG key a ca f
  · exact lens_9 TG key a ca f
  · exact lens_10 TG key a ca f
  · exact lens_11 TG key a ca f
  · exact lens_12 TG key a ca f
  · exact lens_13 TG key a ca f
  · exact lens_14 TG key a ca f

theorem nL_bytes (n : Nat) (f : Nat → Int) (hf : byteF f) (i : Nat) : 0 ≤ nL n f i ∧ nL n f i ≤ 255 := by
  unfold nL
  have := hf i
  split
  · rw [w63_id _ (by omega) (by omega)]; exact this
  · split <;> omega
theorem loopN_chain (key : Nat → Int) (hk : byteF (K 32 key)) (n : Nat) (f : Nat → Int) (hf : byteF f) (m : Nat) (hm : m ≤ 16) :
    (List.range m).foldl (stepN key n f) ([], 0) = (upTo m (cB (fun i => nL n f i + K 32 key (16 + i)) 0), cU (fun i => nL n f i + K 32 key (16 + i)) 0 m) := by
  induction m with
  | zero => rfl
  | succ m ih =>
    rw [List.range_succ, List.foldl_append, ih (by omega)]
    have hb := cU_bound (fun i => nL n f i + K 32 key (16 + i)) 0 2 (fun i => by have := nL_bytes n f hf i; have := hk (16 + i); show 0 ≤ nL n f i + K 32 key (16 + i) ∧ nL n f i + K 32 key (16 + i) ≤ 255 * 2; omega) (by omega) m
    generalize hx : (fun i => nL n f i + K 32 key (16 + i)) = x at *
    have hxm : x m = nL n f m + K 32 key (16 + m) := by rw [← hx]
    have h1 := nL_bytes n f hf m
    have h2 := hk (16 + m)
    have h3 : key (16 + m) = K 32 key (16 + m) := (K_at 32 key _ (by omega)).symm
    show (upTo m (cB x 0) ++ [IntKind.u8.wrap (w63 (w63 (cU x 0 m + nL n f m) + w63 (key (16 + m))))], w63 (w63 (cU x 0 m + nL n f m) + w63 (key (16 + m))) / (2 ^ 8 : Nat)) = _
    rw [h3, w63_id (K 32 key (16 + m)) (by omega) (by omega), w63_id (cU x 0 m + nL n f m) (by omega) (by omega), w63_id _ (by omega) (by omega), IntKind.wrap_u8]
    have e : cU x 0 m + nL n f m + K 32 key (16 + m) = x m + cU x 0 m := by omega
    rw [e]
    simp only [upTo, List.range_succ, List.map_append, List.map_cons, List.map_nil, cU, cB]
    rfl
theorem lens_eq (key : Nat → Int) (hk : byteF (K 32 key)) (n : Nat) (f : Nat → Int) (hf : byteF f) (h1 : 1 ≤ n) (h2 : n ≤ 14) : decide (upTo 16 (TGc (oneK key) n f) = loopN key n f) = true := by
  apply decide_eq_true
  unfold loopN
  rw [loopN_chain key hk n f hf 16 (Nat.le_refl _)]
  show _ = upTo 16 (cB (fun i => nL n f i + K 32 key (16 + i)) 0)
  have ho : ∀ i, i < 16 → oneK key i = if i = 0 then 1 else 0 := fun i hi => by
    unfold oneK
    rw [pair_at' _ (by simp), if_pos hi, cons_getD]
  have hrl : rL (oneK key) = 1 :: List.replicate 16 0 := by
    unfold rL
    rw [ho 0 (by decide), ho 1 (by decide), ho 2 (by decide), ho 3 (by decide), ho 4 (by decide), ho 5 (by decide), ho 6 (by decide), ho 7 (by decide), ho 8 (by decide), ho 9 (by decide), ho 10 (by decide), ho 11 (by decide), ho 12 (by decide),
      ho 13 (by decide), ho 14 (by decide), ho 15 (by decide)]
    decide +kernel
  have hrv : rV (oneK key) = 1 := by
    unfold rV
    rw [hrl]
    decide +kernel
  have hN : nR n = 1 := by unfold nR; omega
  have hHS : HS (oneK key) (num n f) (nR n) = blkV n f := by
    rw [hN]
    show (0 + blkV n f) * rV (oneK key) = _
    rw [hrv]; omega
  have hmin : Nat.min n 16 = n := Nat.min_eq_left (by omega)
  have hxa : ∀ i, i < 16 → at_ (xL n f) i = nL n f i := fun i hi => by
    rw [xL_at, if_pos (by omega), hmin]
    unfold nL
    by_cases h : i < n
    · rw [if_neg (by omega), if_pos h, if_pos h]
      have := hf i
      exact (w63_id _ (by omega) (by omega)).symm
    · rw [if_neg h]
      by_cases h' : i = n
      · rw [if_pos h', if_neg h]
      · rw [if_neg h', if_neg h]
  have hbv : blkV n f = bval (nL n f) 16 := by
    have e : blkV n f = bval (at_ (xL n f)) 16 + at_ (xL n f) 16 * 256 ^ 16 := rfl
    rw [e, bval_congr _ _ 16 hxa, xL_at, if_pos (by omega), hmin, if_neg (by omega), if_neg (by omega)]
    omega
  have hr := bval_range (nL n f) (nL_bytes n f hf) 16
  have hk2 : (fun i => oneK key (16 + i)) = fun i => K 32 key (16 + i) := by
    funext i
    unfold oneK
    rw [pair_at' _ (by simp), if_neg (by omega)]
    by_cases hi : 16 + i < 32
    · rw [if_pos hi, K_at 32 key _ hi, show 16 + i - 16 = i by omega]
    · rw [if_neg hi]
      simp [K, upTo, hi]
  have hc := chain_val (fun i => nL n f i + K 32 key (16 + i)) 0 16
  rw [bval_add] at hc
  have hbr := bval_range _ (cB_range (fun i => nL n f i + K 32 key (16 + i)) 0) 16
  have ht : tagV (HS (oneK key) (num n f) (nR n) % pp) (oneK key) = bval (cB (fun i => nL n f i + K 32 key (16 + i)) 0) 16 := by
    rw [hHS, hbv]
    unfold tagV pp
    rw [hk2]
    simp only [Int.reducePow] at hc hbr hr
    omega
  rw [TGc_is, ht]
  apply List.map_congr_left
  intro i hi
  exact byteAt_bval _ (cB_range _ _) 16 i (List.mem_range.1 hi)

theorem oneK_bytes (key : Nat → Int) (hk : byteF (K 32 key)) : byteF (oneK key) := fun i => by
  unfold oneK
  rw [pair_at' _ (by simp)]
  split
  · rw [cons_getD]; split <;> omega
  · split
    · exact K_of key hk _ (by omega)
    · omega
theorem fL_bytes (n : Nat) (f : Nat → Int) (hf : byteF f) : byteF fun i => fL n f (0 + i) := fun i => by
  show 0 ≤ fL n f (0 + i) ∧ fL n f (0 + i) ≤ 255
  unfold fL
  split
  · exact hf _
  · have : [(0 : Int)].getD (0 + (0 + i - n)) 0 = 0 := rep_getD 1 _
    rw [this]; omega
theorem atEach_all (n k : Nat) (h : k ≤ n) : AllOf (atEach n k) := by
  induction k with
  | zero => exact .nil
  | succ k ih => exact .cons (Int.natCast_nonneg k) (.cons (by omega) (ih (by omega)))
theorem lens_holds (key : Nat → Int) (hk : byteF (K 32 key)) (n ca : Nat) (f : Nat → Int) (hf : byteF f) (h1 : 1 ≤ n) (h2 : n ≤ 14) (hca : n ≤ ca) : Holds (psLens TGc key n ca f) := by
  have q1 : n ≤ 1000000 := by omega
  have q2 : n + 1 ≤ 1000000 := by omega
  have q3 : 0 + (n + 1) ≤ n + 1 := by omega
  have q4 : 0 + n ≤ n := by omega
  have q5 : n < n + 1 := by omega
  have q6 : ((n : Int) == 0) = false := by simp; omega
  have q7 : decide ((n : Int) > 14) = false := decide_eq_false (by omega)
  have tg : ∀ k m g, m ≤ 1000000 → byteF k → byteF g → AllOf (tgPs k m g) := fun k m g a b c => .cons a (.cons b (.cons c .nil))
  have tl := tg (K 32 key) (n + 1) (fun i => fL n f (0 + i)) q2 hk (fL_bytes n f hf)
  have ts := tg (K 32 key) n f q1 hk hf
  have t1 := tg (oneK key) n f q1 (oneK_bytes key hk) hf
  unfold psLens
  refine AllOf.holds (.app (.app (.app (.app (.app (.app (.app (.app (.app (.app ?_ ?_) ?_) ?_) ?_) ?_) ?_) ?_) ?_) ?_) ?_)
  · exact .cons (by simp) .nil
  · exact .app (.cons q3 .nil) tl
  · exact .app (.cons hca .nil) ts
  · exact .app (.cons q3 .nil) tl
  · exact .app (.cons hca .nil) ts
  · exact .cons (lens_eq key hk n f hf h1 h2) .nil
  · exact .app (.cons hca .nil) t1
  · exact .cons q4 (.cons (by decide) (.cons q5 (.cons (Nat.le_refl _) (.cons (by decide) (.cons q2 .nil)))))
  · exact .cons q1 .nil
  · exact atEach_all n n (Nat.le_refl _)
  · exact .cons q6 (.cons q7 .nil)

theorem lens_any (key : Nat → Int) (a : Option Addr) (n ca : Nat) (f : Nat → Int) (w : World) (hk : ∀ i, i < 32 → (Lit.int .u8 (key i)).wf = true)
    (hca : n ≤ ca) (_ : ca ≤ maxLen) (hf : SX.BytesAt w a n .u8 f) (hw : ∀ i, (Lit.int .u8 (f i)).wf = true) :
    Calls Try.prog 7 #[.agg ((upTo 32 key).map (Value.int .u8)).toArray, .slice a n ca] w fun e w' => e = .returned (.bool true) ∧ Below w.heap.size w w' := by
  have hb : byteF f := fun i => bounds_u8 (hw i)
  have hK := K_wf hk
  have hin := vs_in (w := w) (key := key) (b := ⟨a, n, ca, f⟩) (l := []) hf rfl
  by_cases h14 : (n : Int) > 14
  · have := calls_of_run' (ctxL_ty _ _ _ _ _) (ctxL_orc _ _ _ _ _ (lQ_ok 0)) (ctxL_sem _ _ _ _ _) names mixed (lens_long TGc key ⟨a, n, ca, f⟩) (AllOf.holds (.cons (decide_eq_true h14) .nil)) nil w hin (fun _ => trivial)
    simpa only [List.map_cons, List.map_nil, ints_den, mkInt_den, vwB_den, mkBool_den] using this
  · by_cases h0 : n = 0
    · have e0 : ((n : Int) == 0) = true := by rw [h0]; rfl
      have := calls_of_run' (ctxL_ty _ _ _ _ _) (ctxL_orc _ _ _ _ _ (lQ_ok 0)) (ctxL_sem _ _ _ _ _) names mixed (lens_none TGc key ⟨a, n, ca, f⟩) (AllOf.holds (.cons e0 (.cons (decide_eq_false h14) .nil))) nil w hin (fun _ => trivial)
      simpa only [List.map_cons, List.map_nil, ints_den, mkInt_den, vwB_den, mkBool_den] using this
    · have := calls_of_run' (ctxL_ty _ _ _ _ _) (ctxL_orc _ _ _ _ _ (lQ_ok 0)) (ctxL_sem _ _ _ _ _) names mixed (lens_run TGc key a n ca f (by omega) (by omega)) (lens_holds key hK n ca f hb (by omega) (by omega) hca) nil w hin (fun _ => trivial)
      simp only [List.map_cons, List.map_nil, ints_den, mkBool_den, vw_den] at this
      exact this
end Go.Proofs.Ytiemgibnmanhbaa
