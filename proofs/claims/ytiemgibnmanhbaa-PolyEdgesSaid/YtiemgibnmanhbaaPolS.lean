/-
  poly.Sum, run over its leaf functions: what it comes to. Conditions: those of a slice.
-/
import Derived.Test.YtiemgibnmanhbaaPolT
namespace Go.Proofs.Ytiemgibnmanhbaa
open Go Go.SX
open Go.RowKit (Below)

def orcLow (LF : (Nat → Int) → Int × Int) : Orc := fun vs _ => match vs with
  | [x] => match arrOf .u64 5 x with
    | some a => some (.val (pairSV (LF a)) [])
    | none => none
  | _ => none
abbrev FL := (Nat → Int) → Int × Int
def lS (PF : F1) (TF : F2) (LF : FL) : List (Nat × Orc) := [(14, orcA1 .u8 17 .u64 5 PF), (15, orcA2 .u64 5 .u64 5 .u64 5 TF), (16, orcLow LF)]

def rL (key : Nat → Int) : List Int :=
  [key 0, key 1, key 2, bits .and .u8 (key 3) 15, bits .and .u8 (key 4) 252, key 5, key 6, bits .and .u8 (key 7) 15, bits .and .u8 (key 8) 252, key 9, key 10, bits .and .u8 (key 11) 15, bits .and .u8 (key 12) 252, key 13, key 14,
    bits .and .u8 (key 15) 15, 0]
def byF (PF : F1) (key : Nat → Int) : Nat → Int := PF (at_ (rL key))
/-- One part, with its one behind. -/
def xL (n : Nat) (f : Nat → Int) : List Int :=
  (List.range 17).map fun i => if i = 0 + Nat.min n 16 then 1 else ((List.range 17).map fun i => if 0 ≤ i ∧ i < 0 + Nat.min n 16 then f (i - 0) else (List.replicate 17 (0 : Int)).getD i 0).getD i 0
def addL (PF : F1) (s : Nat → Int) (n : Nat) (f : Nat → Int) : List Int := upTo 5 fun i => w64 (s i + PF (at_ (xL n f)) i)
def nextS (PF : F1) (TF : F2) (key : Nat → Int) (s : Nat → Int) (n : Nat) (f : Nat → Int) : Nat → Int := TF (at_ (addL PF s n f)) (K 5 (byF PF key))

/-- A slice, as told. -/
structure BT where
  a : Option Addr
  n : Nat
  ca : Nat
  f : Nat → Int
def mI (n : Nat) : Int := if (16 : Int) < (n : Int) then (16 : Int) else (n : Int)
def nextB (b : BT) : BT := ⟨if b.ca = (mI b.n).toNat then b.a else b.a.map (·.add (mI b.n).toNat), b.n - (mI b.n).toNat, b.ca - (mI b.n).toNat, fun j => b.f ((mI b.n).toNat + j)⟩
def BS (b : BT) : Nat → BT
  | 0 => b
  | k + 1 => nextB (BS b k)
def SL (PF : F1) (TF : F2) (key : Nat → Int) (b : BT) : Nat → Nat → Int
  | 0 => fun _ => 0
  | k + 1 => nextS PF TF key (SL PF TF key b k) (BS b k).n (BS b k).f

def vwB (b : BT) : SV := .one (.sc (.vw b.a b.n b.ca .u8 b.f))
def slS : List Nat := [1, 2, 4, 10, 11]
def sS (PF : F1) (key : Nat → Int) (b : BT) (s : Nat → Int) : St :=
  { fid := 9, n := 109, fr := mkFr [(1, vwB b), (2, .one (.sc (.ptr 0 0))), (4, .one (.sc (.ptr 1 0))), (10, .one (.sc (.ptr 2 0))), (11, .one (.sc (.ptr 3 0)))],
    regs := [⟨.cells ((upTo 32 key).map (SC.int .u8)), 23⟩, ⟨.cells (List.replicate 16 (SC.int .u8 0)), 26⟩, ⟨.cells ((upTo 5 (byF PF key)).map (SC.int .u64)), 41⟩, ⟨.cells ((upTo 5 s).map (SC.int .u64)), 41⟩], conds := [] }
noncomputable def XS : Code := bodyOf Try.prog 9 15

theorem sum_round (PF : F1) (TF : F2) (LF : FL) (key : Nat → Int) (b : BT) (s : Nat → Int) :
    stepOf (ctxL Try.prog (lS PF TF LF) (yesNo [49] []) (open_ [54, 57, 58]) noLoop) Try.prog 200 0 XS slS (sS PF key b s) =
      some (.normal, (sS PF key (nextB b) (nextS PF TF key s b.n b.f)).with
        [0 ≤ mI b.n, (mI b.n).toNat ≤ b.n, b.n ≤ b.n, b.n ≤ b.ca, 0 + Nat.min b.n 16 < 17, 0 ≤ ((Nat.min b.n 16 : Nat) : Int), ((Nat.min b.n 16 : Nat) : Int) < (17 : Nat), decide ((b.n : Int) > 0) = true]) := by kernel_rfl
theorem sum_end (PF : F1) (TF : F2) (LF : FL) (key : Nat → Int) (b : BT) (s : Nat → Int) :
    stepOf (ctxL Try.prog (lS PF TF LF) (yesNo [] [49]) (open_ [54, 57, 58]) noLoop) Try.prog 200 0 XS slS (sS PF key b s) = some (.exit 4, (sS PF key b s).with [decide ((b.n : Int) > 0) = false]) := by kernel_rfl

def stepO (p : Int × Int) (key : Nat → Int) (s : List Int × Int) (i : Nat) : List Int × Int :=
  (s.1 ++ [IntKind.u8.wrap (w64 (w64 (bits .and .u64 ((bif Nat.ble 8 i then p.2 else p.1) / (2 ^ (8 * (i % 8)) : Nat)) 255 + w64 (key (16 + i))) + s.2))],
    w64 (w64 (bits .and .u64 ((bif Nat.ble 8 i then p.2 else p.1) / (2 ^ (8 * (i % 8)) : Nat)) 255 + w64 (key (16 + i))) + s.2) / (2 ^ 8 : Nat))
def outS (p : Int × Int) (key : Nat → Int) : List Int := ((List.range 16).foldl (stepO p key) ([], 0)).1
def loopS (PF : F1) (TF : F2) (key : Nat → Int) (b : BT) (N i : Nat) : Option SLoop :=
  bif i == 15 then some { slots := slS, at_ := fun k => sS PF key (BS b k) (SL PF TF key b k), n := N, ex := .exit 4, out := sS PF key (BS b N) (SL PF TF key b N) } else none
theorem sum_runs (PF : F1) (TF : F2) (LF : FL) (key : Nat → Int) (b : BT) (N : Nat) :
    runOf (ctxL Try.prog (lS PF TF LF) (yesNo [] []) (open_ []) (loopS PF TF key b N)) Try.prog 300 9 [ints .u8 (upTo 32 key), vwB b] =
      some (ints .u8 (outS (LF (K 5 (SL PF TF key b N))) key),
        [St.same (sS PF key (BS b 0) (SL PF TF key b 0)) (sS PF key (BS b 0) (SL PF TF key b 0)),
         ∀ k, k < N → StepsTo Try.prog 0 XS (sS PF key (BS b k) (SL PF TF key b k)) .normal (sS PF key (BS b (k + 1)) (SL PF TF key b (k + 1))),
         StepsTo Try.prog 0 XS (sS PF key (BS b N) (SL PF TF key b N)) (.exit 4) (sS PF key (BS b N) (SL PF TF key b N)), True]) := by kernel_rfl
end Go.Proofs.Ytiemgibnmanhbaa
