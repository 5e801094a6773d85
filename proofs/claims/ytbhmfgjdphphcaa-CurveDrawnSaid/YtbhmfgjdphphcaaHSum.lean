/-
  courierref1.Sum of 68 and of 96 bytes. Conditions: those lengths.
-/
import Derived.Test.YtbhmfgjdphphcaaHOne
namespace Go.Proofs.Ytbhmfgjdphphcaa
open Go Go.SX
open Go.RowKit (Below)

def lSm (RF : F2) : List (Nat × Orc) := [(36, orcBytes), (38, orcRound RF)]
theorem lSm_ok : ∀ x ∈ lSm RFc, OneOK Try.prog x.1 x.2 := by
  intro x hx
  simp only [lSm, List.mem_cons, List.not_mem_nil, or_false] at hx
  rcases hx with rfl | rfl
  · exact bytes_one
  · exact round_one
/-- The padded text: two blocks. -/
def msgL (n : Nat) (f : Nat → Int) (c d : Int) : List Int := upTo n f ++ (128 :: (List.replicate (125 - n) 0 ++ [c, d]))
def blkF (n : Nat) (f : Nat → Int) (c d : Int) (j : Nat) : Nat → Int := at_ (upTo 64 fun i => (msgL n f c d).getD (j + i) 0)
def h0L : List Int := [1779033703, 3144134277, 1013904242, 2773480762, 1359893119, 2600822924, 528734635, 1541459225]
def hshW (RF : F2) (n : Nat) (f : Nat → Int) (c d : Int) : Nat → Int := RF (K 8 (RF (at_ h0L) (blkF n f c d 0))) (blkF n f c d 64)
def hshF (RF : F2) (n : Nat) (f : Nat → Int) (c d : Int) (i : Nat) : Int := IntKind.u8.wrap (hshW RF n f c d (i / 4) / (2 ^ (min (24 - 8 * (i % 4)) (IntKind.bits .u32)) : Nat))
def apP (k : Nat) : List Prop := [0 + 1 ≤ 1, 0 < 1, k ≤ 1000000]
def psSm (n : Nat) : List Prop := [64 + 64 ≤ 128, 64 = 64, 0 + 64 ≤ 128, 64 = 64] ++ (((List.range (127 - n)).flatMap fun i => apP (128 - i)) ++ [0 + n ≤ n, 0 + 1 ≤ 1, n < n + 1, n ≤ n, 0 < 1, n + 1 ≤ 1000000, n ≤ 1000000])
theorem sum68_runs (RF : F2) (f : Nat → Int) (a : Option Addr) (ca : Nat) : runOf (ctxL Try.prog (lSm RF) (yesNo [] []) (open_ []) noLoop) Try.prog 5000 37 [vwF a 68 ca f] = some (ints .u8 (upTo 32 (hshF RF 68 f 2 32)), psSm 68) := by kernel_rfl
theorem sum96_runs (RF : F2) (f : Nat → Int) (a : Option Addr) (ca : Nat) : runOf (ctxL Try.prog (lSm RF) (yesNo [] []) (open_ []) noLoop) Try.prog 5000 37 [vwF a 96 ca f] = some (ints .u8 (upTo 32 (hshF RF 96 f 3 0)), psSm 96) := by kernel_rfl
theorem apP_ok (k : Nat) (h : k ≤ 1000000) : AllOf (apP k) := .cons (by omega) (.cons (by omega) (.cons h .nil))
theorem psSm_ok (n : Nat) (h : n ≤ 127) : Holds (psSm n) := by
  refine AllOf.holds ((AllOf.cons (by omega) (.cons rfl (.cons (by omega) (.cons rfl .nil)))).app (AllOf.app ⟨fun p hp => ?_⟩ (.cons (by omega) (.cons (by omega) (.cons (by omega) (.cons (by omega) (.cons (by omega) (.cons (by omega) (.cons (by omega) .nil)))))))))
  obtain ⟨i, hi, hp⟩ := List.mem_flatMap.1 hp
  exact (apP_ok (128 - i) (by omega)).holds p hp

/-- The hash of 68, of 96 bytes. -/
abbrev HF := Nat → (Nat → Int) → Nat → Int
def HFc : HF := fun n f => bif Nat.beq n 68 then hshF RFc 68 f 2 32 else hshF RFc 96 f 3 0
def orcSum (H : HF) : Orc := fun vs g => match vs with
  | [s] => match readS g .u8 s with
    | some (n, f, ps) => bif Nat.beq n 68 || Nat.beq n 96 then some (.val (ints .u8 (upTo 32 (H n (K n f)))) ps) else none
    | none => none
  | _ => none
theorem sum_calls (n : Nat) (hn : n = 68 ∨ n = 96) (f : Nat → Int) (a : Option Addr) (ca : Nat) (η : Asg) (w : World) (hb : SX.BytesAt w a n .u8 f) :
    Calls Try.prog 37 ([vwF a n ca f].map (SV.den η)).toArray w fun e w' => e = .returned ((ints .u8 (upTo 32 (HFc n f))).den η) ∧ Below w.heap.size w w' := by
  have hin : ∀ x ∈ [vwF a n ca f], x.In w fun _ => False := fun x hx => by
    simp only [List.mem_cons, List.not_mem_nil, or_false] at hx
    subst hx
    exact hb
  rcases hn with rfl | rfl
  · exact calls_of_run' (ctxL_ty _ _ _ _ _) (ctxL_orc _ _ _ _ _ lSm_ok) (ctxL_sem _ _ _ _ _) names mixed (sum68_runs RFc f a ca) (psSm_ok 68 (by omega)) η w hin (SV.plain_in (ints_plain _ _))
  · exact calls_of_run' (ctxL_ty _ _ _ _ _) (ctxL_orc _ _ _ _ _ lSm_ok) (ctxL_sem _ _ _ _ _) names mixed (sum96_runs RFc f a ca) (psSm_ok 96 (by omega)) η w hin (SV.plain_in (ints_plain _ _))
theorem sum_one : OneOK Try.prog 37 (orcSum HFc) := by
  refine ⟨body_ok _ _ (by kernel_rfl), ?_⟩
  intro vs g res h hps W η E w hW hvs hg
  unfold orcSum at h
  split at h
  · rename_i s
    split at h
    · rename_i n f ps hs
      cases hb : (Nat.beq n 68 || Nat.beq n 96) with
      | false => simp [hb] at h
      | true =>
        simp only [hb, cond_true, Option.some.injEq] at h
        subst h
        have hn : n = 68 ∨ n = 96 := by
          rcases Bool.or_eq_true _ _ |>.mp hb with h | h
          · exact .inl (Nat.eq_of_beq_eq_true h)
          · exact .inr (Nat.eq_of_beq_eq_true h)
        obtain ⟨a, ca, hda, hba⟩ := readS_ok (w := w) hs hps (hvs s (by simp)) hW hg
        refine ⟨SV.plain_in (ints_plain _ _), ?_⟩
        simp only [List.map_cons, List.map_nil]
        rw [hda]
        exact sum_calls n hn (K n f) a ca η w (bytesAt_congr hba fun i hi => (K_at n f i hi).symm)
    · cases h
  · cases h
def lDr (H : HF) : List (Nat × Orc) := [(36, orcBytes), (37, orcSum H)]
theorem lDr_ok : ∀ x ∈ lDr HFc, OneOK Try.prog x.1 x.2 := by
  intro x hx
  simp only [lDr, List.mem_cons, List.not_mem_nil, or_false] at hx
  rcases hx with rfl | rfl
  · exact bytes_one
  · exact sum_one
end Go.Proofs.Ytbhmfgjdphphcaa
