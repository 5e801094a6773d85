/-
  ChachaApart comes to true. Conditions: those of a parameter's values.
-/
import Derived.Test.YtkdclndbnmhbfaaLWraps
namespace Go.Proofs.Ytkdclndbnmhbfaa
open Go Go.SX
open Go.RowKit (Below)

/-- A law's context with a loop told. -/
noncomputable def ct (BL : BLf) (XF : XFf) (hint : Nat → Option Bool) (sym : Nat → Bool) (sl : Nat → Option SLoop) : Ctx :=
  { ctxOf Try.prog (orcList ((8, orcTrue) :: lawOrc BL XF)) with hint := fun _ s => hint s, sym := fun _ s => sym s, sloop := fun _ i => sl i, sem := StepsTo Try.prog }
theorem ct_ty (BL : BLf) (XF : XFf) (hint : Nat → Option Bool) (sym : Nat → Bool) (sl : Nat → Option SLoop) : TyOK Try.prog (ct BL XF hint sym sl) := tyOf_ok _ _ rfl rfl
theorem ct_sem (BL : BLf) (XF : XFf) (hint : Nat → Option Bool) (sym : Nat → Bool) (sl : Nat → Option SLoop) : SemOK Try.prog (ct BL XF hint sym sl) := sem_ok _ _ rfl
theorem ct_orc (hint : Nat → Option Bool) (sym : Nat → Bool) (sl : Nat → Option SLoop) : OrcOK Try.prog (ct BLc XFc hint sym sl) := orcList_ok rfl law_all

noncomputable def LX : Code := bodyOf Try.prog 7 14
def slA : List Nat := [3, 5, 13, 14, 16, 17, 18]
/-- The state at a round's start. -/
def SA (a : Option Addr) (n ca : Nat) (f : Nat → Int) (b kA : Int) (X Y : Nat → Int) (z : Int) : St :=
  { fid := 7, n := 92, fr := mkFr [(3, .one (.sc (.vw a n ca .u8 f))), (5, mkInt .u8 b), (13, mkBool true), (14, mkInt .i64 kA), (16, .one (.sc (.sl 0 0 n n))), (17, .one (.sc (.sl 1 0 n n))), (18, mkInt .i64 z)],
    regs := [⟨.own .u8 n X, 5⟩, ⟨.own .u8 n Y, 5⟩], conds := [] }

theorem apart_here (BL : BLf) (XF : XFf) (a : Option Addr) (n ca : Nat) (f : Nat → Int) (b kA : Int) (X Y : Nat → Int) (k : Nat) :
    stepOf (cl BL XF (ask [72, 81] [90]) (open_ [77, 87])) Try.prog 50 0 LX slA (SA a n ca f b kA X Y k) =
      some (.normal, (SA a n ca f b kA X Y (IntKind.i64.wrap ((k : Int) + 1))).with [(Y (0 + k) != bits .xor .u8 (X (0 + k)) b) = false, 0 + k < n, 0 ≤ (k : Int), (k : Int) < (n : Int), ((k : Int) == kA) = true,
        0 + k < n, 0 ≤ (k : Int), (k : Int) < (n : Int), decide ((k : Int) < (n : Int)) = true]) := by kernel_rfl
theorem apart_else (BL : BLf) (XF : XFf) (a : Option Addr) (n ca : Nat) (f : Nat → Int) (b kA : Int) (X Y : Nat → Int) (k : Nat) :
    stepOf (cl BL XF (ask [72] [81, 90]) (open_ [77, 87])) Try.prog 50 0 LX slA (SA a n ca f b kA X Y k) =
      some (.normal, (SA a n ca f b kA X Y (IntKind.i64.wrap ((k : Int) + 1))).with [(Y (0 + k) != X (0 + k)) = false, 0 + k < n, 0 ≤ (k : Int), (k : Int) < (n : Int), ((k : Int) == kA) = false,
        0 + k < n, 0 ≤ (k : Int), (k : Int) < (n : Int), decide ((k : Int) < (n : Int)) = true]) := by kernel_rfl
theorem apart_end (BL : BLf) (XF : XFf) (a : Option Addr) (n ca : Nat) (f : Nat → Int) (b kA : Int) (X Y : Nat → Int) :
    stepOf (cl BL XF (ask [] [72]) (open_ [77, 87])) Try.prog 50 0 LX slA (SA a n ca f b kA X Y n) =
      some (.exit 0, (SA a n ca f b kA X Y n).with [decide ((n : Int) < (n : Int)) = false]) := by kernel_rfl

theorem apart_steps (a : Option Addr) (n ca : Nat) (f : Nat → Int) (b kA : Int) (X Y : Nat → Int) (hn : n ≤ 200) (h : ∀ k : Nat, k < n → Y k = if (k : Int) = kA then bits .xor .u8 (X k) b else X k) :
    ∀ k, k < n → StepsTo Try.prog 0 LX (SA a n ca f b kA X Y k) .normal (SA a n ca f b kA X Y ((k + 1 : Nat) : Int)) := by
  intro k hk
  have hw : IntKind.i64.wrap ((k : Int) + 1) = ((k + 1 : Nat) : Int) := by rw [IntKind.wrap_i64]; omega
  have hl : decide ((k : Int) < (n : Int)) = true := decide_eq_true (by omega)
  have h1 : 0 + k < n := by omega
  have h2 : 0 ≤ (k : Int) := by omega
  have h3 : (k : Int) < (n : Int) := by omega
  have hy := h k hk
  by_cases he : (k : Int) = kA
  · rw [if_pos he] at hy
    have e1 : (Y (0 + k) != bits .xor .u8 (X (0 + k)) b) = false := by rw [Nat.zero_add, hy]; simp
    have e2 : ((k : Int) == kA) = true := by simpa using he
    refine steps_of_run (cl_ty _ _ _ _) (cl_orc _ _) (cl_sem _ _ _ _) names mixed (apart_here BLc XFc a n ca f b kA X Y k) ?_ ?_
    · rw [St.with_conds]
      exact AllOf.holds (.cons e1 (.cons h1 (.cons h2 (.cons h3 (.cons e2 (.cons h1 (.cons h2 (.cons h3 (.cons hl .nil)))))))))
    · rw [hw]; exact St.with_same _ _
  · rw [if_neg he] at hy
    have e1 : (Y (0 + k) != X (0 + k)) = false := by rw [Nat.zero_add, hy]; simp
    have e2 : ((k : Int) == kA) = false := by simpa using he
    refine steps_of_run (cl_ty _ _ _ _) (cl_orc _ _) (cl_sem _ _ _ _) names mixed (apart_else BLc XFc a n ca f b kA X Y k) ?_ ?_
    · rw [St.with_conds]
      exact AllOf.holds (.cons e1 (.cons h1 (.cons h2 (.cons h3 (.cons e2 (.cons h1 (.cons h2 (.cons h3 (.cons hl .nil)))))))))
    · rw [hw]; exact St.with_same _ _
theorem apart_leaves (a : Option Addr) (n ca : Nat) (f : Nat → Int) (b kA : Int) (X Y : Nat → Int) : StepsTo Try.prog 0 LX (SA a n ca f b kA X Y n) (.exit 0) (SA a n ca f b kA X Y n) := by
  refine steps_of_run (cl_ty _ _ _ _) (cl_orc _ _) (cl_sem _ _ _ _) names mixed (apart_end BLc XFc a n ca f b kA X Y) ?_ (St.with_same _ _)
  rw [St.with_conds]
  exact AllOf.holds (.cons (decide_eq_false (by omega)) .nil)

/-! The whole. -/

def fcA (f : Nat → Int) (kA b : Int) : Nat → Int := fun i => if i = 0 + kA.toNat then bits .xor .u8 (f (0 + kA.toNat)) b else f i
def XA (XF : XFf) (key nonce : Nat → Int) (c : Int) (f : Nat → Int) : Nat → Int := XF (K 32 key) c (K 12 nonce) f
def YA (XF : XFf) (key nonce : Nat → Int) (c : Int) (f : Nat → Int) (kA b : Int) : Nat → Int := XF (K 32 key) c (K 12 nonce) (fun i => fcA f kA b (0 + i))
def loopA (XF : XFf) (key nonce : Nat → Int) (c : Int) (a : Option Addr) (n ca : Nat) (f : Nat → Int) (kA b : Int) (i : Nat) : Option SLoop :=
  bif i == 14 then some { slots := slA, at_ := fun k => SA a n ca f b kA (XA XF key nonce c f) (YA XF key nonce c f kA b) k, n := n, ex := .exit 0, out := SA a n ca f b kA (XA XF key nonce c f) (YA XF key nonce c f kA b) n } else none

theorem apart_zero (BL : BLf) (XF : XFf) (key nonce : Nat → Int) (c at_ b : Int) (a : Option Addr) (n ca : Nat) (f : Nat → Int) :
    runOf (cl BL XF (ask [26] []) (open_ [])) Try.prog 100 7 [ints .u8 (upTo 32 key), mkInt .u32 c, ints .u8 (upTo 12 nonce), .one (.sc (.vw a n ca .u8 f)), mkInt .i64 at_, mkInt .u8 b] =
      some (mkBool true, [((n : Int) == 0) = true]) := by kernel_rfl
theorem apart_long (BL : BLf) (XF : XFf) (key nonce : Nat → Int) (c at_ b : Int) (a : Option Addr) (n ca : Nat) (f : Nat → Int) :
    runOf (cl BL XF (ask [30] [26]) (open_ [])) Try.prog 100 7 [ints .u8 (upTo 32 key), mkInt .u32 c, ints .u8 (upTo 12 nonce), .one (.sc (.vw a n ca .u8 f)), mkInt .i64 at_, mkInt .u8 b] =
      some (mkBool true, [decide ((n : Int) > 200) = true, ((n : Int) == 0) = false]) := by kernel_rfl

def psA (XF : XFf) (key nonce : Nat → Int) (c at_ b : Int) (a : Option Addr) (n ca : Nat) (f : Nat → Int) : List Prop :=
  [St.same (SA a n ca f b (at_ % (n : Int)) (XA XF key nonce c f) (YA XF key nonce c f (at_ % (n : Int)) b) 0) (SA a n ca f b (at_ % (n : Int)) (XA XF key nonce c f) (YA XF key nonce c f (at_ % (n : Int)) b) ((0 : Nat) : Int)),
   ∀ k, k < n → StepsTo Try.prog 0 LX (SA a n ca f b (at_ % (n : Int)) (XA XF key nonce c f) (YA XF key nonce c f (at_ % (n : Int)) b) k) .normal (SA a n ca f b (at_ % (n : Int)) (XA XF key nonce c f) (YA XF key nonce c f (at_ % (n : Int)) b) ((k + 1 : Nat) : Int)),
   StepsTo Try.prog 0 LX (SA a n ca f b (at_ % (n : Int)) (XA XF key nonce c f) (YA XF key nonce c f (at_ % (n : Int)) b) n) (.exit 0) (SA a n ca f b (at_ % (n : Int)) (XA XF key nonce c f) (YA XF key nonce c f (at_ % (n : Int)) b) n),
   True,
   ((n : Int) != (n : Int)) = false, ((n : Int) != (n : Int)) = false,
   0 + n ≤ n, n ≤ 1000000, 0 ≤ c, c < 4294967296,
   n ≤ 1000000, 0 ≤ c, c < 4294967296,
   0 + (at_ % (n : Int)).toNat < n, 0 ≤ at_ % (n : Int), at_ % (n : Int) < (n : Int), 0 + (at_ % (n : Int)).toNat < n, 0 ≤ at_ % (n : Int), at_ % (n : Int) < (n : Int),
   n ≤ 1000000, 1 ≤ (n : Int), (n : Int) ≤ 1000000,
   decide ((n : Int) > 200) = false, ((n : Int) == 0) = false]

theorem apart_some (BL : BLf) (XF : XFf) (key nonce : Nat → Int) (c at_ b : Int) (a : Option Addr) (n ca : Nat) (f : Nat → Int) :
    runOf (ct BL XF (ask [] [26, 30, 62, 68]) (open_ [42, 46]) (loopA XF key nonce c a n ca f (at_ % (n : Int)) b)) Try.prog 100 7
      [ints .u8 (upTo 32 key), mkInt .u32 c, ints .u8 (upTo 12 nonce), .one (.sc (.vw a n ca .u8 f)), mkInt .i64 at_, mkInt .u8 b] =
      some (mkBool true, psA XF key nonce c at_ b a n ca f) := by kernel_rfl

theorem bits_xor_swap (x y z : Int) : bits .xor .u8 (bits .xor .u8 x y) z = bits .xor .u8 (bits .xor .u8 x z) y := by
  have e : ∀ v : BitVec 8, IntKind.u8.wrap (v.toNat : Int) = (v.toNat : Int) := fun v => by
    rw [IntKind.wrap_u8]; have := v.isLt; omega
  have eb : ∀ p q : Int, bits .xor .u8 p q = ((BitVec.ofInt 8 p ^^^ BitVec.ofInt 8 q).toNat : Int) := fun p q => e _
  have er : ∀ v : BitVec 8, BitVec.ofInt 8 (v.toNat : Int) = v := fun v => by rw [BitVec.ofInt_natCast, BitVec.ofNat_toNat, BitVec.setWidth_eq]
  rw [eb, eb, eb, eb, er, er, BitVec.xor_assoc, BitVec.xor_assoc, BitVec.xor_comm (BitVec.ofInt 8 y)]

theorem y_is (BL : BLf) (XF : XFf) (hX : ∀ (K M : Nat → Int) (c : Int) (f : Nat → Int) (i : Nat), XF K c M f i = bits .xor .u8 (f i) (BL K ((c + (i / 64 : Nat)) % 4294967296) M (i % 64)))
    (key nonce : Nat → Int) (c b kA : Int) (f : Nat → Int) (h0 : 0 ≤ kA) (k : Nat) :
    YA XF key nonce c f kA b k = if (k : Int) = kA then bits .xor .u8 (XA XF key nonce c f k) b else XA XF key nonce c f k := by
  unfold YA XA
  rw [hX, hX]
  unfold fcA
  rw [Nat.zero_add, Nat.zero_add]
  by_cases he : (k : Int) = kA
  · have : k = kA.toNat := by omega
    rw [if_pos he, if_pos this, ← this]
    exact bits_xor_swap _ _ _
  · have : ¬ k = kA.toNat := by omega
    rw [if_neg he, if_neg this]

theorem vs_in6 {w : World} {key nonce : Nat → Int} {c at_ b : Int} {a : Option Addr} {n ca : Nat} {f : Nat → Int} (hf : SX.BytesAt w a n .u8 f) :
    ∀ x ∈ [ints .u8 (upTo 32 key), mkInt .u32 c, ints .u8 (upTo 12 nonce), .one (.sc (.vw a n ca .u8 f)), mkInt .i64 at_, mkInt .u8 b], x.In w fun _ => False :=
  vs_in5 hf (l := [mkInt .i64 at_, mkInt .u8 b]) rfl

theorem apart_any (key : Nat → Int) (c : Int) (nonce : Nat → Int) (a : Option Addr) (n ca : Nat) (f : Nat → Int) (at_ b : Int) (w : World) (_ : ∀ i, i < 32 → (Lit.int .u8 (key i)).wf = true) (hc : (Lit.int .u32 c).wf = true) (_ : ∀ i, i < 12 → (Lit.int .u8 (nonce i)).wf = true)
    (_ : n ≤ ca) (_ : ca ≤ maxLen) (hf : SX.BytesAt w a n .u8 f) (_ : ∀ i, (Lit.int .u8 (f i)).wf = true) (_ : (Lit.int .i64 at_).wf = true) (_ : (Lit.int .u8 b).wf = true) :
    Calls Try.prog 7 #[.agg ((upTo 32 key).map (Value.int .u8)).toArray, .int .u32 c, .agg ((upTo 12 nonce).map (Value.int .u8)).toArray, .slice a n ca, .int .i64 at_, .int .u8 b] w fun e w' => e = .returned (.bool true) ∧ Below w.heap.size w w' := by
  obtain ⟨hc0, hc1⟩ := bounds_u32 hc
  by_cases h0 : n = 0
  · have e0 : ((n : Int) == 0) = true := by rw [h0]; rfl
    have := calls_of_run' (cl_ty _ _ _ _) (cl_orc _ _) (cl_sem _ _ _ _) names mixed (apart_zero BLc XFc key nonce c at_ b a n ca f) (AllOf.holds (.cons e0 .nil)) nil w (vs_in6 hf) (fun _ => trivial)
    simpa only [List.map_cons, List.map_nil, ints_den, mkInt_den, vw_den, mkBool_den] using this
  have e0 : ((n : Int) == 0) = false := by simp; omega
  by_cases h200 : (n : Int) > 200
  · have := calls_of_run' (cl_ty _ _ _ _) (cl_orc _ _) (cl_sem _ _ _ _) names mixed (apart_long BLc XFc key nonce c at_ b a n ca f) (AllOf.holds (.cons (decide_eq_true h200) (.cons e0 .nil))) nil w (vs_in6 hf) (fun _ => trivial)
    simpa only [List.map_cons, List.map_nil, ints_den, mkInt_den, vw_den, mkBool_den] using this
  · have hn : n ≤ 200 := by omega
    have k0 : 0 ≤ at_ % (n : Int) := Int.emod_nonneg _ (by omega)
    have k1 : at_ % (n : Int) < (n : Int) := Int.emod_lt_of_pos _ (by omega)
    have k2 : 0 + (at_ % (n : Int)).toNat < n := by omega
    have q1 : n ≤ 1000000 := by omega
    have q2 : c < 4294967296 := by omega
    have q3 : 0 + n ≤ n := by omega
    have q4 : 1 ≤ (n : Int) := by omega
    have q5 : (n : Int) ≤ 1000000 := by omega
    have hne : ((n : Int) != (n : Int)) = false := by simp
    have := calls_of_run' (ct_ty _ _ _ _ _) (ct_orc _ _ _) (ct_sem _ _ _ _ _) names mixed (apart_some BLc XFc key nonce c at_ b a n ca f)
      (AllOf.holds (.cons (St.same_refl _) (.cons (apart_steps a n ca f b _ _ _ hn fun k _ => y_is BLc XFc (fun K M c f i => xfc_eq K M c f i) key nonce c b _ f k0 k) (.cons (apart_leaves a n ca f b _ _ _) (.cons trivial
        (.cons hne (.cons hne (.cons q3 (.cons q1 (.cons hc0 (.cons q2 (.cons q1 (.cons hc0 (.cons q2 (.cons k2 (.cons k0 (.cons k1 (.cons k2 (.cons k0 (.cons k1 (.cons q1 (.cons q4 (.cons q5
        (.cons (decide_eq_false h200) (.cons e0 .nil))))))))))))))))))))))))) nil w (vs_in6 hf) (fun _ => trivial)
    simpa only [List.map_cons, List.map_nil, ints_den, mkInt_den, vw_den, mkBool_den] using this
end Go.Proofs.Ytkdclndbnmhbfaa
