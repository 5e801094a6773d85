/-
  PolyBits comes to true. Conditions: those of a parameter's values.
-/
import Derived.Test.YtiemgibnmanhbaaPolE
namespace Go.Proofs.Ytiemgibnmanhbaa
open Go Go.SX
open Go.RowKit (Below)

def bK (key : Nat → Int) (k : Nat) (m : Int) : List Int := (upTo 32 key).set k (bits .xor .u8 (key k) m)
def psBits (TG : TgF) (key : Nat → Int) (b : BT) (n r : Int) (k : Nat) (m : Int) : List Prop :=
  [decide (upTo 16 (TG (K 32 key) b.n b.f) = upTo 16 (TG (at_ (bK key k m)) b.n b.f)) = true, b.n ≤ b.ca, b.n ≤ 1000000, byteF (at_ (bK key k m)), byteF b.f, b.n ≤ b.ca, b.n ≤ 1000000, byteF (K 32 key), byteF b.f,
   n % 7 = r, (1 : Int) ≤ 7, (7 : Int) ≤ 1000000, decide ((b.n : Int) > 100) = false]
theorem bits_long (TG : TgF) (key : Nat → Int) (b : BT) (n : Int) :
    runOf (ctxL Try.prog (lQ TG 0) (yesNo [16] []) (open_ []) noLoop) Try.prog 100 6 [ints .u8 (upTo 32 key), vwB b, mkInt .i64 n] = some (mkBool true, [decide ((b.n : Int) > 100) = true]) := by kernel_rfl
theorem bits_0 (TG : TgF) (key : Nat → Int) (b : BT) (n : Int) :
    runOf (ctxL Try.prog (lQ TG 0) (yesNo [42] [16]) (open_ []) noLoop) Try.prog 100 6 [ints .u8 (upTo 32 key), vwB b, mkInt .i64 n] = some (mkBool true, psBits TG key b n 0 3 240) := by kernel_rfl
theorem bits_1 (TG : TgF) (key : Nat → Int) (b : BT) (n : Int) :
    runOf (ctxL Try.prog (lQ TG 1) (yesNo [42] [16]) (open_ []) noLoop) Try.prog 100 6 [ints .u8 (upTo 32 key), vwB b, mkInt .i64 n] = some (mkBool true, psBits TG key b n 1 7 240) := by kernel_rfl
theorem bits_2 (TG : TgF) (key : Nat → Int) (b : BT) (n : Int) :
    runOf (ctxL Try.prog (lQ TG 2) (yesNo [42] [16]) (open_ []) noLoop) Try.prog 100 6 [ints .u8 (upTo 32 key), vwB b, mkInt .i64 n] = some (mkBool true, psBits TG key b n 2 11 240) := by kernel_rfl
theorem bits_3 (TG : TgF) (key : Nat → Int) (b : BT) (n : Int) :
    runOf (ctxL Try.prog (lQ TG 3) (yesNo [42] [16]) (open_ []) noLoop) Try.prog 100 6 [ints .u8 (upTo 32 key), vwB b, mkInt .i64 n] = some (mkBool true, psBits TG key b n 3 15 240) := by kernel_rfl
theorem bits_4 (TG : TgF) (key : Nat → Int) (b : BT) (n : Int) :
    runOf (ctxL Try.prog (lQ TG 4) (yesNo [42] [16]) (open_ []) noLoop) Try.prog 100 6 [ints .u8 (upTo 32 key), vwB b, mkInt .i64 n] = some (mkBool true, psBits TG key b n 4 4 3) := by kernel_rfl
theorem bits_5 (TG : TgF) (key : Nat → Int) (b : BT) (n : Int) :
    runOf (ctxL Try.prog (lQ TG 5) (yesNo [42] [16]) (open_ []) noLoop) Try.prog 100 6 [ints .u8 (upTo 32 key), vwB b, mkInt .i64 n] = some (mkBool true, psBits TG key b n 5 8 3) := by kernel_rfl
theorem bits_6 (TG : TgF) (key : Nat → Int) (b : BT) (n : Int) :
    runOf (ctxL Try.prog (lQ TG 6) (yesNo [42] [16]) (open_ []) noLoop) Try.prog 100 6 [ints .u8 (upTo 32 key), vwB b, mkInt .i64 n] = some (mkBool true, psBits TG key b n 6 12 3) := by kernel_rfl

theorem and_xor (x : Int) (h : 0 ≤ x ∧ x ≤ 255) : bits .and .u8 (bits .xor .u8 x 240) 15 = bits .and .u8 x 15 ∧ bits .and .u8 (bits .xor .u8 x 3) 252 = bits .and .u8 x 252 := by
  have e : ∀ i : Fin 256, bits .and .u8 (bits .xor .u8 (i.val : Int) 240) 15 = bits .and .u8 (i.val : Int) 15 ∧ bits .and .u8 (bits .xor .u8 (i.val : Int) 3) 252 = bits .and .u8 (i.val : Int) 252 := by decide +kernel
  have := e ⟨x.toNat, by omega⟩
  have ex : ((x.toNat : Nat) : Int) = x := by omega
  simpa only [ex] using this
theorem xor_u8_le (x m : Int) : 0 ≤ bits .xor .u8 x m ∧ bits .xor .u8 x m ≤ 255 := by
  have h : ∀ v : BitVec 8, 0 ≤ IntKind.u8.wrap (v.toNat : Int) ∧ IntKind.u8.wrap (v.toNat : Int) ≤ 255 := fun v => by rw [IntKind.wrap_u8]; omega
  exact h _
theorem bK_at (key : Nat → Int) (k : Nat) (m : Int) (i : Nat) : at_ (bK key k m) i = if i < 32 then (if i = k then bits .xor .u8 (key k) m else key i) else 0 := by
  unfold at_ bK
  rw [List.getD_eq_getElem?_getD, List.getElem?_set]
  by_cases h : i < 32
  · rw [if_pos h]
    by_cases hk : i = k
    · subst hk
      simp [upTo, h]
    · rw [if_neg (Ne.symm hk), if_neg hk]
      simp [upTo, h]
  · rw [if_neg h]
    split
    · rename_i hk
      simp [upTo]
      rw [if_neg (by omega)]
      rfl
    · simp [upTo, h]
theorem bK_bytes (key : Nat → Int) (hk : byteF (K 32 key)) (k : Nat) (m : Int) : byteF (at_ (bK key k m)) := fun i => by
  rw [bK_at]
  have := hk i
  split
  · rename_i h
    rw [K_at 32 key i h] at this
    split
    · exact xor_u8_le _ _
    · exact this
  · omega
theorem bK_rL (key : Nat → Int) (hk : byteF (K 32 key)) (k : Nat) (m : Int) (h : (m = 240 ∧ (k = 3 ∨ k = 7 ∨ k = 11 ∨ k = 15)) ∨ (m = 3 ∧ (k = 4 ∨ k = 8 ∨ k = 12))) : rL (at_ (bK key k m)) = rL (K 32 key) := by
  have e : ∀ i, i < 32 → K 32 key i = key i := fun i hi => K_at 32 key i hi
  have hx : ∀ i, i < 32 → bits .and .u8 (bits .xor .u8 (key i) 240) 15 = bits .and .u8 (key i) 15 ∧ bits .and .u8 (bits .xor .u8 (key i) 3) 252 = bits .and .u8 (key i) 252 := fun i hi => and_xor _ (by rw [← e i hi]; exact hk i)
  unfold rL
  simp only [bK_at, e, Nat.reduceLT, if_true]
  rcases h with ⟨rfl, rfl | rfl | rfl | rfl⟩ | ⟨rfl, rfl | rfl | rfl⟩ <;> simp [hx]

theorem bits_eq (key : Nat → Int) (hk : byteF (K 32 key)) (n : Nat) (f : Nat → Int) (k : Nat) (m : Int) (h : (m = 240 ∧ (k = 3 ∨ k = 7 ∨ k = 11 ∨ k = 15)) ∨ (m = 3 ∧ (k = 4 ∨ k = 8 ∨ k = 12))) :
    decide (upTo 16 (TGc (K 32 key) n f) = upTo 16 (TGc (at_ (bK key k m)) n f)) = true := by
  have hk16 : k < 16 := by rcases h with ⟨_, h⟩ | ⟨_, h⟩ <;> omega
  have e2 : (fun i => at_ (bK key k m) (16 + i)) = fun i => K 32 key (16 + i) := by
    funext i
    rw [bK_at]
    by_cases hi : 16 + i < 32
    · rw [if_pos hi, if_neg (by omega), K_at 32 key _ hi]
    · rw [if_neg hi]
      simp [K, upTo, hi]
  have e : TGc (K 32 key) n f = TGc (at_ (bK key k m)) n f := by
    rw [TGc_is, TGc_is, HS_congr _ _ (bK_rL key hk k m h)]
    unfold tagV
    rw [e2]
  rw [e]
  exact decide_eq_true rfl

theorem bits_any (key : Nat → Int) (a : Option Addr) (n ca : Nat) (f : Nat → Int) (x : Int) (w : World) (hk : ∀ i, i < 32 → (Lit.int .u8 (key i)).wf = true)
    (hca : n ≤ ca) (_ : ca ≤ maxLen) (hf : SX.BytesAt w a n .u8 f) (hw : ∀ i, (Lit.int .u8 (f i)).wf = true) (_ : (Lit.int .i64 x).wf = true) :
    Calls Try.prog 6 #[.agg ((upTo 32 key).map (Value.int .u8)).toArray, .slice a n ca, .int .i64 x] w fun e w' => e = .returned (.bool true) ∧ Below w.heap.size w w' := by
  have hb : byteF f := fun i => bounds_u8 (hw i)
  have hK := K_wf hk
  by_cases h100 : (n : Int) > 100
  · have := calls_of_run' (ctxL_ty _ _ _ _ _) (ctxL_orc _ _ _ _ _ (lQ_ok 0)) (ctxL_sem _ _ _ _ _) names mixed (bits_long TGc key ⟨a, n, ca, f⟩ x) (AllOf.holds (.cons (decide_eq_true h100) .nil)) nil w (vs_in (l := [mkInt .i64 x]) hf rfl) (fun _ => trivial)
    simpa only [List.map_cons, List.map_nil, ints_den, mkInt_den, vwB_den, mkBool_den] using this
  · have q : n ≤ 1000000 := by omega
    have hps : ∀ (r : Int) (k : Nat) (m : Int), x % 7 = r → ((m = 240 ∧ (k = 3 ∨ k = 7 ∨ k = 11 ∨ k = 15)) ∨ (m = 3 ∧ (k = 4 ∨ k = 8 ∨ k = 12))) → Holds (psBits TGc key ⟨a, n, ca, f⟩ x r k m) := fun r k m hr h =>
      AllOf.holds (.cons (bits_eq key hK n f k m h) (.cons hca (.cons q (.cons (bK_bytes key hK k m) (.cons hb (.cons hca (.cons q (.cons hK (.cons hb (.cons hr (.cons (by decide) (.cons (by decide) (.cons (decide_eq_false h100) .nil)))))))))))))
    have h7 : x % 7 = 0 ∨ x % 7 = 1 ∨ x % 7 = 2 ∨ x % 7 = 3 ∨ x % 7 = 4 ∨ x % 7 = 5 ∨ x % 7 = 6 := by omega
    have hin := vs_in (w := w) (key := key) (b := ⟨a, n, ca, f⟩) (l := [mkInt .i64 x]) hf rfl
    rcases h7 with h | h | h | h | h | h | h
    · have := calls_of_run' (ctxL_ty _ _ _ _ _) (ctxL_orc _ _ _ _ _ (lQ_ok 0)) (ctxL_sem _ _ _ _ _) names mixed (bits_0 TGc key ⟨a, n, ca, f⟩ x) (hps 0 3 240 h (by omega)) nil w hin (fun _ => trivial)
      simpa only [List.map_cons, List.map_nil, ints_den, mkInt_den, vwB_den, mkBool_den] using this
    · have := calls_of_run' (ctxL_ty _ _ _ _ _) (ctxL_orc _ _ _ _ _ (lQ_ok 1)) (ctxL_sem _ _ _ _ _) names mixed (bits_1 TGc key ⟨a, n, ca, f⟩ x) (hps 1 7 240 h (by omega)) nil w hin (fun _ => trivial)
      simpa only [List.map_cons, List.map_nil, ints_den, mkInt_den, vwB_den, mkBool_den] using this
    · have := calls_of_run' (ctxL_ty _ _ _ _ _) (ctxL_orc _ _ _ _ _ (lQ_ok 2)) (ctxL_sem _ _ _ _ _) names mixed (bits_2 TGc key ⟨a, n, ca, f⟩ x) (hps 2 11 240 h (by omega)) nil w hin (fun _ => trivial)
      simpa only [List.map_cons, List.map_nil, ints_den, mkInt_den, vwB_den, mkBool_den] using this
    · have := calls_of_run' (ctxL_ty _ _ _ _ _) (ctxL_orc _ _ _ _ _ (lQ_ok 3)) (ctxL_sem _ _ _ _ _) names mixed (bits_3 TGc key ⟨a, n, ca, f⟩ x) (hps 3 15 240 h (by omega)) nil w hin (fun _ => trivial)
      simpa only [List.map_cons, List.map_nil, ints_den, mkInt_den, vwB_den, mkBool_den] using this
    · have := calls_of_run' (ctxL_ty _ _ _ _ _) (ctxL_orc _ _ _ _ _ (lQ_ok 4)) (ctxL_sem _ _ _ _ _) names mixed (bits_4 TGc key ⟨a, n, ca, f⟩ x) (hps 4 4 3 h (by omega)) nil w hin (fun _ => trivial)
      simpa only [List.map_cons, List.map_nil, ints_den, mkInt_den, vwB_den, mkBool_den] using this
    · have := calls_of_run' (ctxL_ty _ _ _ _ _) (ctxL_orc _ _ _ _ _ (lQ_ok 5)) (ctxL_sem _ _ _ _ _) names mixed (bits_5 TGc key ⟨a, n, ca, f⟩ x) (hps 5 8 3 h (by omega)) nil w hin (fun _ => trivial)
      simpa only [List.map_cons, List.map_nil, ints_den, mkInt_den, vwB_den, mkBool_den] using this
    · have := calls_of_run' (ctxL_ty _ _ _ _ _) (ctxL_orc _ _ _ _ _ (lQ_ok 6)) (ctxL_sem _ _ _ _ _) names mixed (bits_6 TGc key ⟨a, n, ca, f⟩ x) (hps 6 12 3 h (by omega)) nil w hin (fun _ => trivial)
      simpa only [List.map_cons, List.map_nil, ints_den, mkInt_den, vwB_den, mkBool_den] using this
end Go.Proofs.Ytiemgibnmanhbaa
