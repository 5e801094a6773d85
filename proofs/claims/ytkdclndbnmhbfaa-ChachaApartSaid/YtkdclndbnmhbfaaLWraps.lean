/-
  ChachaWraps and ChachaVector come to true. Conditions: those of a parameter's values.
-/
import Derived.Test.YtkdclndbnmhbfaaLTwice
namespace Go.Proofs.Ytkdclndbnmhbfaa
open Go Go.SX
open Go.RowKit (Below)

def nW (n : Int) : Int := IntKind.i64.wrap (n % 200 + 65)
def mW (n : Int) : Int := if 128 < nW n then 128 else nW n
def dW (n : Int) : Int := IntKind.i64.wrap (mW n - 64)

def psW (BL : BLf) (XF : XFf) (key nonce : Nat → Int) (n : Int) : List Prop :=
        [decide (upTo 64 (BL (K 32 key) 4294967295 (K 12 nonce)) = upTo 64 (BL (K 32 key) 4294967295 (K 12 nonce))) = true,
        (decide ((mW n).toNat - 64 = (dW n).toNat - 0) && sameB ((mW n).toNat - 64) (fun i => XF (K 32 key) 4294967295 (K 12 nonce) (fun _ => 0) ((if (nW n).toNat = 64 then 0 else 0 + 64) + i))
          (fun i => (upTo 64 (BL (K 32 key) 0 (K 12 nonce))).getD ((if 64 = 0 then 0 else 0 + 0) + i) 0)) = true,
        (if (nW n).toNat = 64 then 0 else 0 + 64) + ((mW n).toNat - 64) ≤ (nW n).toNat, (if 64 = 0 then 0 else 0 + 0) + ((dW n).toNat - 0) ≤ 64, (mW n).toNat - 64 ≤ 4611686018427387904,
        0 ≤ dW n, 0 ≤ (dW n).toNat, (dW n).toNat ≤ 64,
        (0 : Int) ≤ 64, 0 ≤ mW n, 64 ≤ (mW n).toNat, (mW n).toNat ≤ (nW n).toNat,
        (decide (64 - 0 = 64) && sameB (64 - 0) (fun i => XF (K 32 key) 4294967295 (K 12 nonce) (fun _ => 0) ((if (nW n).toNat = 0 then 0 else 0 + 0) + i))
          (fun i => (upTo 64 (BL (K 32 key) 4294967295 (K 12 nonce))).getD (0 + i) 0)) = true,
        (if (nW n).toNat = 0 then 0 else 0 + 0) + (64 - 0) ≤ (nW n).toNat, 0 + 64 ≤ 64, 64 - 0 ≤ 4611686018427387904,
        (0 : Int) ≤ 64, 0 ≤ 64, 64 ≤ (nW n).toNat,
        (((nW n).toNat : Int) != nW n) = false,
        0 + (nW n).toNat ≤ (nW n).toNat, (nW n).toNat ≤ 1000000, (0 : Int) ≤ 4294967295, (4294967295 : Int) < 4294967296,
        nW n = nW n, 0 ≤ nW n, nW n ≤ 1000000000,
        (1 : Int) ≤ 200, (200 : Int) ≤ 1000000]

theorem wraps_some (BL : BLf) (XF : XFf) (key nonce : Nat → Int) (n : Int) :
    runOf (cl BL XF (ask [38, 49, 56] [25]) (open_ [35, 43, 47])) Try.prog 100 6 [ints .u8 (upTo 32 key), ints .u8 (upTo 12 nonce), mkInt .i64 n] =
      some (mkBool true, psW BL XF key nonce n) := by kernel_rfl

theorem blc_range (K M : Nat → Int) (c : Int) (i : Nat) : 0 ≤ BLc K c M i ∧ BLc K c M i ≤ 255 := by
  unfold BLc blockL outL
  by_cases h : i < 64
  · simp only [List.getD, List.getElem?_map, List.getElem?_range h, Option.map_some, Option.getD_some, IntKind.wrap_u8]
    omega
  · simp only [List.getD, List.getElem?_map]
    rw [List.getElem?_eq_none (by simpa using h)]
    simp
theorem xfc_eq (K M : Nat → Int) (c : Int) (f : Nat → Int) (i : Nat) : XFc K c M f i = bits .xor .u8 (f i) (BLc K ((c + (i / 64 : Nat)) % 4294967296) M (i % 64)) := rfl

theorem xor_zero (y : Int) (h : 0 ≤ y ∧ y ≤ 255) : bits .xor .u8 0 y = y := by
  have e : ∀ v : BitVec 8, IntKind.u8.wrap (v.toNat : Int) = (v.toNat : Int) := fun v => by
    rw [IntKind.wrap_u8]; have := v.isLt; omega
  have eb : ∀ p q : Int, bits .xor .u8 p q = ((BitVec.ofInt 8 p ^^^ BitVec.ofInt 8 q).toNat : Int) := fun p q => e _
  obtain ⟨m, rfl⟩ := Int.eq_ofNat_of_zero_le h.1
  rw [eb, show BitVec.ofInt 8 0 = 0#8 from rfl, BitVec.zero_xor, BitVec.ofInt_natCast, BitVec.toNat_ofNat]
  omega

theorem upTo_at (n : Nat) (f : Nat → Int) (i : Nat) (h : i < n) : (upTo n f).getD i 0 = f i := by simp [upTo, List.getD, h]

set_option maxHeartbeats 1600000 in
theorem wraps_holds (BL : BLf) (XF : XFf) (hB : ∀ (K M : Nat → Int) (c : Int) (i : Nat), 0 ≤ BL K c M i ∧ BL K c M i ≤ 255)
    (hX : ∀ (K M : Nat → Int) (c : Int) (f : Nat → Int) (i : Nat), XF K c M f i = bits .xor .u8 (f i) (BL K ((c + (i / 64 : Nat)) % 4294967296) M (i % 64)))
    (key nonce : Nat → Int) (n : Int) : Holds (psW BL XF key nonce n) := by
  have hn : nW n = n % 200 + 65 := by unfold nW; rw [IntKind.wrap_i64]; omega
  have hn1 : 65 ≤ nW n ∧ nW n ≤ 264 := by omega
  have hm1 : 65 ≤ mW n ∧ mW n ≤ 128 ∧ mW n ≤ nW n := by unfold mW; split <;> omega
  have hd : dW n = mW n - 64 := by unfold dW; rw [IntKind.wrap_i64]; omega
  have s1 : (decide ((mW n).toNat - 64 = (dW n).toNat - 0) && sameB ((mW n).toNat - 64) (fun i => XF (K 32 key) 4294967295 (K 12 nonce) (fun _ => 0) ((if (nW n).toNat = 64 then 0 else 0 + 64) + i))
          (fun i => (upTo 64 (BL (K 32 key) 0 (K 12 nonce))).getD ((if 64 = 0 then 0 else 0 + 0) + i) 0)) = true := by
    rw [show (dW n).toNat - 0 = (mW n).toNat - 64 by omega]
    refine same_yes fun i hi => ?_
    have e1 : (if (nW n).toNat = 64 then 0 else 0 + 64) = 64 := by rw [if_neg (by omega)]
    have e2 : (if 64 = 0 then 0 else 0 + 0) = 0 := rfl
    show XF (K 32 key) 4294967295 (K 12 nonce) (fun _ => 0) ((if (nW n).toNat = 64 then 0 else 0 + 64) + i) = (upTo 64 (BL (K 32 key) 0 (K 12 nonce))).getD ((if 64 = 0 then 0 else 0 + 0) + i) 0
    rw [e1, e2, Nat.zero_add, upTo_at 64 _ i (by omega), hX, show (64 + i) / 64 = 1 by omega, show (64 + i) % 64 = i by omega]
    exact xor_zero _ (hB _ _ _ _)
  have s2 : (decide (64 - 0 = 64) && sameB (64 - 0) (fun i => XF (K 32 key) 4294967295 (K 12 nonce) (fun _ => 0) ((if (nW n).toNat = 0 then 0 else 0 + 0) + i))
          (fun i => (upTo 64 (BL (K 32 key) 4294967295 (K 12 nonce))).getD (0 + i) 0)) = true := by
    refine same_yes (n := 64) fun i hi => ?_
    have e1 : (if (nW n).toNat = 0 then 0 else 0 + 0) = 0 := by split <;> rfl
    show XF (K 32 key) 4294967295 (K 12 nonce) (fun _ => 0) ((if (nW n).toNat = 0 then 0 else 0 + 0) + i) = (upTo 64 (BL (K 32 key) 4294967295 (K 12 nonce))).getD (0 + i) 0
    rw [e1, Nat.zero_add, upTo_at 64 _ i hi, hX, show i / 64 = 0 by omega, show i % 64 = i by omega]
    exact xor_zero _ (hB _ _ _ _)
  have s0 : decide (upTo 64 (BL (K 32 key) 4294967295 (K 12 nonce)) = upTo 64 (BL (K 32 key) 4294967295 (K 12 nonce))) = true := decide_eq_true rfl
  have hne : (((nW n).toNat : Int) != nW n) = false := by
    rw [Int.toNat_of_nonneg (by omega)]; simp
  have a1 : (if (nW n).toNat = 64 then 0 else 0 + 64) + ((mW n).toNat - 64) ≤ (nW n).toNat := by rw [if_neg (by omega)]; omega
  have a2 : (if 64 = 0 then 0 else 0 + 0) + ((dW n).toNat - 0) ≤ 64 := by rw [if_neg (by decide)]; omega
  have a3 : (mW n).toNat - 64 ≤ 4611686018427387904 := by omega
  have a4 : (if (nW n).toNat = 0 then 0 else 0 + 0) + (64 - 0) ≤ (nW n).toNat := by rw [if_neg (by omega)]; omega
  have b1 : 0 ≤ dW n := by omega
  have b2 : (dW n).toNat ≤ 64 := by omega
  have b3 : 0 ≤ mW n := by omega
  have b4 : 64 ≤ (mW n).toNat := by omega
  have b5 : (mW n).toNat ≤ (nW n).toNat := by omega
  have b6 : 64 ≤ (nW n).toNat := by omega
  have b7 : 0 + (nW n).toNat ≤ (nW n).toNat := by omega
  have b8 : (nW n).toNat ≤ 1000000 := by omega
  have b9 : 0 ≤ nW n := by omega
  have b10 : nW n ≤ 1000000000 := by omega
  exact AllOf.holds (.cons s0 (.cons s1 (.cons a1 (.cons a2 (.cons a3 (.cons b1 (.cons (Nat.zero_le _) (.cons b2 (.cons (by decide) (.cons b3 (.cons b4 (.cons b5 (.cons s2 (.cons a4 (.cons (by decide) (.cons (by decide)
    (.cons (by decide) (.cons (by decide) (.cons b6 (.cons hne (.cons b7 (.cons b8 (.cons (by decide) (.cons (by decide) (.cons rfl (.cons b9 (.cons b10 (.cons (by decide) (.cons (by decide) .nil)))))))))))))))))))))))))))))

theorem wraps_any (key nonce : Nat → Int) (n : Int) (w : World) (_ : ∀ i, i < 32 → (Lit.int .u8 (key i)).wf = true) (_ : ∀ i, i < 12 → (Lit.int .u8 (nonce i)).wf = true) (_ : (Lit.int .i64 n).wf = true) :
    Calls Try.prog 6 #[.agg ((upTo 32 key).map (Value.int .u8)).toArray, .agg ((upTo 12 nonce).map (Value.int .u8)).toArray, .int .i64 n] w fun e w' => e = .returned (.bool true) ∧ Below w.heap.size w w' := by
  have := calls_of_run' (cl_ty _ _ _ _) (cl_orc _ _) (cl_sem _ _ _ _) names mixed (wraps_some BLc XFc key nonce n) (wraps_holds BLc XFc (fun K M c i => blc_range K M c i) (fun K M c f i => xfc_eq K M c f i) key nonce n) nil w
    (plain_all (by rw [List.all_cons, List.all_cons, ints_plain, ints_plain]; rfl) w) (fun _ => trivial)
  simpa only [List.map_cons, List.map_nil, ints_den, mkInt_den, vw_den, mkBool_den] using this

/-! The vector. -/

def KV : Nat → Int := fun i => ([0, 1, 2, 3, 4, 5, 6, 7, 8, 9, 10, 11, 12, 13, 14, 15, 16, 17, 18, 19, 20, 21, 22, 23, 24, 25, 26, 27, 28, 29, 30, 31] : List Int).getD i 0
def NV : Nat → Int := fun i => ([0, 0, 0, 9, 0, 0, 0, 74, 0, 0, 0, 0] : List Int).getD i 0
def wantV : List Int := [16, 241, 231, 228, 209, 59, 89, 21, 80, 15, 221, 31, 163, 32, 113, 196]
def KO (t : Int) : Nat → Int := fun i => ((List.range 32).map fun i => if i = 0 + (t % 32).toNat then bits .xor .u8 (KV (0 + (t % 32).toNat)) 1 else KV i).getD i 0
def psV (BL : BLf) (t : Int) : List Prop :=
  [decide (upTo 64 (BL (KO t) 1 NV) = upTo 64 (BL (KO t) 1 NV)) = true, (BL KV 1 NV 63 == 78) = true, (BL KV 1 NV 62 == 60) = true,
   (decide (16 = 16) && sameB 16 (fun i => (upTo 64 (BL KV 1 NV)).getD (0 + i) 0) (fun i => wantV.getD (0 + i) 0)) = true, 0 + 16 ≤ 64, 0 + 16 ≤ 16, 16 ≤ 4611686018427387904,
   0 + (t % 32).toNat < 32, 0 ≤ t % 32, t % 32 < 32, 0 + (t % 32).toNat < 32, 0 ≤ t % 32, t % 32 < 32, (1 : Int) ≤ 32, (32 : Int) ≤ 1000000]

theorem vector_some (BL : BLf) (XF : XFf) (t : Int) :
    runOf (cl BL XF (ask [42, 47, 52, 60] []) (open_ [32, 35])) Try.prog 200 5 [mkInt .i64 t] = some (mkBool true, psV BL t) := by kernel_rfl

theorem vector_bytes : sameB 16 (fun i => (upTo 64 (BLc KV 1 NV)).getD (0 + i) 0) (fun i => wantV.getD (0 + i) 0) = true ∧ BLc KV 1 NV 62 = 60 ∧ BLc KV 1 NV 63 = 78 := by
  refine ⟨?_, ?_, ?_⟩ <;> kernel_rfl

theorem vector_any (t : Int) (w : World) (_ : (Lit.int .i64 t).wf = true) : Calls Try.prog 5 #[.int .i64 t] w fun e w' => e = .returned (.bool true) ∧ Below w.heap.size w w' := by
  have h0 : 0 ≤ t % 32 := by omega
  have h1 : t % 32 < 32 := by omega
  have h2 : 0 + (t % 32).toNat < 32 := by omega
  have s0 : decide (upTo 64 (BLc (KO t) 1 NV) = upTo 64 (BLc (KO t) 1 NV)) = true := decide_eq_true rfl
  have s1 : (BLc KV 1 NV 63 == 78) = true := by rw [vector_bytes.2.2]; rfl
  have s2 : (BLc KV 1 NV 62 == 60) = true := by rw [vector_bytes.2.1]; rfl
  have s3 : (decide (16 = 16) && sameB 16 (fun i => (upTo 64 (BLc KV 1 NV)).getD (0 + i) 0) (fun i => wantV.getD (0 + i) 0)) = true := by rw [vector_bytes.1]; rfl
  have := calls_of_run' (cl_ty _ _ _ _) (cl_orc _ _) (cl_sem _ _ _ _) names mixed (vector_some BLc XFc t)
    (AllOf.holds (.cons s0 (.cons s1 (.cons s2 (.cons s3 (.cons (by decide) (.cons (by decide) (.cons (by decide) (.cons h2 (.cons h0 (.cons h1 (.cons h2 (.cons h0 (.cons h1 (.cons (by decide) (.cons (by decide) .nil)))))))))))))))) nil w
    (plain_all rfl w) (fun _ => trivial)
  simpa only [List.map_cons, List.map_nil, ints_den, mkInt_den, vw_den, mkBool_den] using this
end Go.Proofs.Ytkdclndbnmhbfaa
