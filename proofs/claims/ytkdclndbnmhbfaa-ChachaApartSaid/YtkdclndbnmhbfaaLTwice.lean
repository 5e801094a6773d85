/-
  ChachaTwice comes to true. Conditions: those of a parameter's values.
-/
import Derived.Test.YtkdclndbnmhbfaaLSays
namespace Go.Proofs.Ytkdclndbnmhbfaa
open Go Go.SX
open Go.RowKit (Below)

def cutT (cut : Int) (n : Nat) : Int := if IntKind.i64.wrap (IntKind.i64.wrap ((n : Int).tdiv 64) * 64) < IntKind.i64.wrap (64 * (cut % 6)) then IntKind.i64.wrap (IntKind.i64.wrap ((n : Int).tdiv 64) * 64) else IntKind.i64.wrap (64 * (cut % 6))
def cT (c cut : Int) (n : Nat) : Int := IntKind.u32.wrap (c + IntKind.u32.wrap (IntKind.i64.wrap ((cutT cut n).tdiv 64)))
def lT (cut : Int) (n : Nat) : Nat := (cutT cut n).toNat
def offT (cut : Int) (n : Nat) : Nat := if n = lT cut n then 0 else 0 + lT cut n

theorem twice_long (BL : BLf) (XF : XFf) (key nonce : Nat → Int) (c cut : Int) (a : Option Addr) (n ca : Nat) (f : Nat → Int) :
    runOf (cl BL XF (ask [20] []) (open_ [])) Try.prog 100 4 [ints .u8 (upTo 32 key), mkInt .u32 c, ints .u8 (upTo 12 nonce), .one (.sc (.vw a n ca .u8 f)), mkInt .i64 cut] =
      some (mkBool true, [decide ((n : Int) > 300) = true]) := by kernel_rfl

def psT (XF : XFf) (key nonce : Nat → Int) (c cut : Int) (n ca : Nat) (f : Nat → Int) : List Prop :=
        [(decide (n - lT cut n = n - lT cut n) && sameB (n - lT cut n) (fun i => XF (K 32 key) c (K 12 nonce) f (offT cut n + i)) (fun i => XF (K 32 key) (cT c cut n) (K 12 nonce) (fun j => f (lT cut n + j)) (0 + i))) = true,
        offT cut n + (n - lT cut n) ≤ n, 0 + (n - lT cut n) ≤ n - lT cut n, n - lT cut n ≤ 4611686018427387904,
        0 ≤ cutT cut n, lT cut n ≤ n, n ≤ n,
        n - lT cut n ≤ 1000000, 0 ≤ cT c cut n, cT c cut n < 4294967296,
        0 ≤ cutT cut n, lT cut n ≤ n, n ≤ n, n ≤ ca,
        (1 : Int) ≤ 6, (6 : Int) ≤ 1000000,
        (!(decide (n = n) && sameB n f (fun i => f (0 + i)))) = false, 0 + n ≤ n, n ≤ 4611686018427387904,
        (!(decide (n = n) && sameB n (fun i => XF (K 32 key) c (K 12 nonce) (fun i => XF (K 32 key) c (K 12 nonce) f (0 + i)) (0 + i)) f)) = false, 0 + n ≤ n, n ≤ 4611686018427387904,
        0 + n ≤ n, n ≤ 1000000, 0 ≤ c, c < 4294967296,
        ((n : Int) != (n : Int)) = false,
        n ≤ 1000000, 0 ≤ c, c < 4294967296,
        n ≤ 1000000,
        decide ((n : Int) > 300) = false]

theorem twice_some (BL : BLf) (XF : XFf) (key nonce : Nat → Int) (c cut : Int) (a : Option Addr) (n ca : Nat) (f : Nat → Int) :
    runOf (cl BL XF (ask [76] [20, 33, 42, 48]) (open_ [67, 73])) Try.prog 100 4 [ints .u8 (upTo 32 key), mkInt .u32 c, ints .u8 (upTo 12 nonce), .one (.sc (.vw a n ca .u8 f)), mkInt .i64 cut] =
      some (mkBool true, psT XF key nonce c cut n ca f) := by kernel_rfl

theorem xor_cancel (x y : Int) (h0 : 0 ≤ x) (h1 : x ≤ 255) : bits .xor .u8 (bits .xor .u8 x y) y = x := by
  have e : ∀ v : BitVec 8, IntKind.u8.wrap (v.toNat : Int) = (v.toNat : Int) := fun v => by
    rw [IntKind.wrap_u8]; have := v.isLt; omega
  have eb : ∀ p q : Int, bits .xor .u8 p q = ((BitVec.ofInt 8 p ^^^ BitVec.ofInt 8 q).toNat : Int) := fun p q => e _
  rw [eb, eb, BitVec.ofInt_natCast, BitVec.ofNat_toNat, BitVec.setWidth_eq, BitVec.xor_assoc, BitVec.xor_self, BitVec.xor_zero]
  obtain ⟨m, rfl⟩ := Int.eq_ofNat_of_zero_le h0
  rw [BitVec.ofInt_natCast, BitVec.toNat_ofNat]
  omega

theorem xf_twice (K M : Nat → Int) (c : Int) (f g : Nat → Int) (i : Nat) (hg : g i = XFc K c M f i) (h : 0 ≤ f i ∧ f i ≤ 255) : XFc K c M g i = f i := by
  unfold XFc xorF at *
  rw [hg]
  exact xor_cancel _ _ h.1 h.2

theorem xf_cut (K M : Nat → Int) (c cc : Int) (f : Nat → Int) (l m i : Nat) (hl : l = 64 * m) (hcc : cc = (c + m) % 4294967296) : XFc K c M f (l + i) = XFc K cc M (fun j => f (l + j)) i := by
  have e : (c + ((m + i / 64 : Nat) : Int)) % 4294967296 = (cc + ((i / 64 : Nat) : Int)) % 4294967296 := by
    rw [hcc]; omega
  unfold XFc xorF
  rw [hl, show (64 * m + i) / 64 = m + i / 64 by omega, show (64 * m + i) % 64 = i % 64 by omega, e]

theorem cut_is (cut : Int) (n : Nat) (hn : ¬ (n : Int) > 300) : ∃ m : Nat, cutT cut n = 64 * m ∧ 64 * m ≤ n := by
  have h1 : (n : Int).tdiv 64 = n / 64 := Int.tdiv_eq_ediv_of_nonneg (by omega)
  have h2 : IntKind.i64.wrap (IntKind.i64.wrap ((n : Int).tdiv 64) * 64) = (n : Int) / 64 * 64 := by
    rw [h1, IntKind.wrap_i64, IntKind.wrap_i64]; omega
  have h3 : IntKind.i64.wrap (64 * (cut % 6)) = 64 * (cut % 6) := by rw [IntKind.wrap_i64]; omega
  unfold cutT
  rw [h2, h3]
  split
  · exact ⟨n / 64, by omega, by omega⟩
  · exact ⟨(cut % 6).toNat, by omega, by omega⟩

theorem vs_in5 {w : World} {key nonce : Nat → Int} {c : Int} {a : Option Addr} {n ca : Nat} {f : Nat → Int} {l : List SV} (hf : SX.BytesAt w a n .u8 f) (hl : l.all SV.plain = true) :
    ∀ x ∈ [ints .u8 (upTo 32 key), mkInt .u32 c, ints .u8 (upTo 12 nonce), .one (.sc (.vw a n ca .u8 f))] ++ l, x.In w fun _ => False := by
  intro x hx
  rcases List.mem_append.1 hx with hx | hx
  · exact vs_in hf x hx
  · exact SV.plain_in (List.all_eq_true.1 hl x hx) w

theorem same_yes {n : Nat} {f g : Nat → Int} (h : ∀ i, i < n → f i = g i) : (decide (n = n) && sameB n f g) = true := by
  rw [decide_eq_true (rfl : n = n), Bool.true_and]; exact sameB_true h

set_option maxHeartbeats 1600000 in
theorem twice_holds (XF : XFf) (h2 : ∀ (K M : Nat → Int) (c : Int) (f g : Nat → Int) (i : Nat), g i = XF K c M f i → 0 ≤ f i ∧ f i ≤ 255 → XF K c M g i = f i)
    (h3 : ∀ (K M : Nat → Int) (c cc : Int) (f : Nat → Int) (l m i : Nat), l = 64 * m → cc = (c + m) % 4294967296 → XF K c M f (l + i) = XF K cc M (fun j => f (l + j)) i)
    (key nonce : Nat → Int) (c cut : Int) (n ca : Nat) (f : Nat → Int) (hc0 : 0 ≤ c) (hc1 : c ≤ 4294967295) (h300 : ¬ (n : Int) > 300) (hca : n ≤ ca) (hw : ∀ i, 0 ≤ f i ∧ f i ≤ 255) : Holds (psT XF key nonce c cut n ca f) := by
  obtain ⟨m, hm, hmn⟩ := cut_is cut n h300
  have hl : lT cut n = 64 * m := by unfold lT; rw [hm]; omega
  have hcc : cT c cut n = (c + m) % 4294967296 := by
    unfold cT
    rw [hm, Int.tdiv_eq_ediv_of_nonneg (by omega), IntKind.wrap_i64, IntKind.wrap_u32, IntKind.wrap_u32]
    omega
  have hoff : offT cut n + (n - lT cut n) ≤ n := by unfold offT; split <;> omega
  have hs1 : (decide (n - lT cut n = n - lT cut n) && sameB (n - lT cut n) (fun i => XF (K 32 key) c (K 12 nonce) f (offT cut n + i)) (fun i => XF (K 32 key) (cT c cut n) (K 12 nonce) (fun j => f (lT cut n + j)) (0 + i))) = true := by
    refine same_yes fun i hi => ?_
    have : offT cut n = lT cut n := by unfold offT; rw [if_neg (by omega)]; omega
    show XF (K 32 key) c (K 12 nonce) f (offT cut n + i) = XF (K 32 key) (cT c cut n) (K 12 nonce) (fun j => f (lT cut n + j)) (0 + i)
    rw [this, Nat.zero_add]
    exact h3 _ _ _ _ _ _ m _ hl hcc
  have hs2 : (!(decide (n = n) && sameB n f (fun i => f (0 + i)))) = false := by
    rw [same_yes (fun i _ => by rw [Nat.zero_add])]; rfl
  have hs3 : (!(decide (n = n) && sameB n (fun i => XF (K 32 key) c (K 12 nonce) (fun i => XF (K 32 key) c (K 12 nonce) f (0 + i)) (0 + i)) f)) = false := by
    rw [same_yes (fun i _ => by
      show XF (K 32 key) c (K 12 nonce) (fun i => XF (K 32 key) c (K 12 nonce) f (0 + i)) (0 + i) = f i
      rw [Nat.zero_add]
      exact h2 _ _ _ _ _ _ (by show XF (K 32 key) c (K 12 nonce) f (0 + i) = _; rw [Nat.zero_add]) (hw i))]
    rfl
  have hne : ((n : Int) != (n : Int)) = false := by simp
  have h0 : 0 ≤ cutT cut n := by omega
  have hl0 : lT cut n ≤ n := by omega
  have hp0 : 0 ≤ cT c cut n := by omega
  have hp1 : cT c cut n < 4294967296 := by omega
  have q1 : 0 + (n - lT cut n) ≤ n - lT cut n := by omega
  have q2 : n - lT cut n ≤ 4611686018427387904 := by omega
  have q3 : n - lT cut n ≤ 1000000 := by omega
  have q4 : 0 + n ≤ n := by omega
  have q5 : n ≤ 4611686018427387904 := by omega
  have q6 : n ≤ 1000000 := by omega
  have q7 : c < 4294967296 := by omega
  exact AllOf.holds (.cons hs1 (.cons hoff (.cons q1 (.cons q2 (.cons h0 (.cons hl0 (.cons (Nat.le_refl _) (.cons q3 (.cons hp0 (.cons hp1 (.cons h0 (.cons hl0 (.cons (Nat.le_refl _) (.cons hca
        (.cons (by decide) (.cons (by decide) (.cons hs2 (.cons q4 (.cons q5 (.cons hs3 (.cons q4 (.cons q5 (.cons q4 (.cons q6 (.cons hc0 (.cons q7
        (.cons hne (.cons q6 (.cons hc0 (.cons q7 (.cons q6 (.cons (decide_eq_false h300) .nil))))))))))))))))))))))))))))))))

theorem twice_any (key : Nat → Int) (c : Int) (nonce : Nat → Int) (a : Option Addr) (n ca : Nat) (f : Nat → Int) (cut : Int) (w : World) (_ : ∀ i, i < 32 → (Lit.int .u8 (key i)).wf = true) (hc : (Lit.int .u32 c).wf = true) (_ : ∀ i, i < 12 → (Lit.int .u8 (nonce i)).wf = true)
    (hca : n ≤ ca) (_ : ca ≤ maxLen) (hf : SX.BytesAt w a n .u8 f) (hw : ∀ i, (Lit.int .u8 (f i)).wf = true) (_ : (Lit.int .i64 cut).wf = true) :
    Calls Try.prog 4 #[.agg ((upTo 32 key).map (Value.int .u8)).toArray, .int .u32 c, .agg ((upTo 12 nonce).map (Value.int .u8)).toArray, .slice a n ca, .int .i64 cut] w fun e w' => e = .returned (.bool true) ∧ Below w.heap.size w w' := by
  obtain ⟨hc0, hc1⟩ := bounds_u32 hc
  by_cases h300 : (n : Int) > 300
  · have := calls_of_run' (cl_ty _ _ _ _) (cl_orc _ _) (cl_sem _ _ _ _) names mixed (twice_long BLc XFc key nonce c cut a n ca f) (AllOf.holds (.cons (decide_eq_true h300) .nil)) nil w (vs_in5 hf (l := [mkInt .i64 cut]) rfl) (fun _ => trivial)
    simpa only [List.map_cons, List.map_nil, ints_den, mkInt_den, vw_den, mkBool_den] using this
  · have := calls_of_run' (cl_ty _ _ _ _) (cl_orc _ _) (cl_sem _ _ _ _) names mixed (twice_some BLc XFc key nonce c cut a n ca f)
      (twice_holds XFc xf_twice xf_cut key nonce c cut n ca f hc0 hc1 h300 hca fun i => bounds_u8 (hw i)) nil w (vs_in5 hf (l := [mkInt .i64 cut]) rfl) (fun _ => trivial)
    simpa only [List.map_cons, List.map_nil, ints_den, mkInt_den, vw_den, mkBool_den] using this
end Go.Proofs.Ytkdclndbnmhbfaa
