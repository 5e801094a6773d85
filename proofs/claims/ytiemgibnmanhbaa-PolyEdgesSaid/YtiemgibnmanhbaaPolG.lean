/-
  courierref1.Tag, run over its leaf functions: what it comes to. Conditions: those of a slice.
-/
import Derived.Test.YtiemgibnmanhbaaPolS
namespace Go.Proofs.Ytiemgibnmanhbaa
open Go Go.SX
open Go.RowKit (Below)

def lG (PL RT : F2) : List (Nat × Orc) := [(18, orcA2 .u32 17 .u32 17 .u32 17 PL), (17, orcA2 .u32 17 .u32 17 .u32 17 RT)]

def rG (key : Nat → Int) : List Int :=
  [w32 (key 0), w32 (key 1), w32 (key 2), bits .and .u32 (w32 (key 3)) 15, bits .and .u32 (w32 (key 4)) 252, w32 (key 5), w32 (key 6), bits .and .u32 (w32 (key 7)) 15, bits .and .u32 (w32 (key 8)) 252, w32 (key 9), w32 (key 10),
    bits .and .u32 (w32 (key 11)) 15, bits .and .u32 (w32 (key 12)) 252, w32 (key 13), w32 (key 14), bits .and .u32 (w32 (key 15)) 15, 0]
/-- How many a round takes. -/
def mG (n : Nat) (i : Int) : Int := if IntKind.i64.wrap ((n : Int) - i) < (16 : Int) then IntKind.i64.wrap ((n : Int) - i) else (16 : Int)
/-- A round's bytes, so far. -/
def CI (f : Nat → Int) (i : Int) : Nat → Nat → Int
  | 0 => fun _ => 0
  | j + 1 => fun q => if q = 0 + j then w32 (f (IntKind.i64.wrap (i + (j : Int))).toNat) else K 17 (CI f i j) q
def CN (f : Nat → Int) (n : Nat) (i : Int) : Nat → Int := fun q => if q = 0 + (mG n i).toNat then 1 else K 17 (CI f i (mG n i).toNat) q
def nextG (PL RT : F2) (key h : Nat → Int) (n : Nat) (f : Nat → Int) (i : Int) : Nat → Int := RT (K 17 (PL (K 17 h) (K 17 (CN f n i)))) (at_ (rG key))

def slG : List Nat := [1, 2, 4, 5, 6, 7, 11]
def regG (key h c : Nat → Int) : List Reg :=
  [⟨.cells ((upTo 32 key).map (SC.int .u8)), 23⟩, ⟨.cells (List.replicate 16 (SC.int .u8 0)), 26⟩, ⟨.cells ((rG key).map (SC.int .u32)), 47⟩, ⟨.cells ((upTo 17 h).map (SC.int .u32)), 47⟩, ⟨.cells ((upTo 17 c).map (SC.int .u32)), 47⟩]
def sG (key : Nat → Int) (b : BT) (h c : Nat → Int) (i : Int) : St :=
  { fid := 10, n := 119, fr := mkFr [(1, vwB b), (2, .one (.sc (.ptr 0 0))), (4, .one (.sc (.ptr 1 0))), (5, .one (.sc (.ptr 2 0))), (6, .one (.sc (.ptr 3 0))), (7, .one (.sc (.ptr 4 0))), (11, mkInt .i64 i)], regs := regG key h c, conds := [] }
def slI : List Nat := [1, 2, 4, 5, 6, 7, 11, 12, 13]
def sI (key : Nat → Int) (b : BT) (h c : Nat → Int) (i m j : Int) : St :=
  { fid := 10, n := 119, fr := mkFr [(1, vwB b), (2, .one (.sc (.ptr 0 0))), (4, .one (.sc (.ptr 1 0))), (5, .one (.sc (.ptr 2 0))), (6, .one (.sc (.ptr 3 0))), (7, .one (.sc (.ptr 4 0))), (11, mkInt .i64 i), (12, mkInt .i64 m), (13, mkInt .i64 j)],
    regs := regG key h c, conds := [] }
noncomputable def XG : Code := bodyOf Try.prog 10 15
noncomputable def XI : Code := bodyOf Try.prog 10 20

theorem tag_in (PL RT : F2) (key : Nat → Int) (b : BT) (h c : Nat → Int) (i m : Int) (j : Nat) :
    stepOf (ctxL Try.prog (lG PL RT) (yesNo [63] []) (open_ [71, 74]) noLoop) Try.prog 100 0 XI slI (sI key b h c i m j) =
      some (.normal, (sI key b h (fun q => if q = 0 + j then w32 (b.f (IntKind.i64.wrap (i + (j : Int))).toNat) else K 17 c q) i m (IntKind.i64.wrap ((j : Int) + 1))).with
        [0 + j < 17, 0 ≤ (j : Int), (j : Int) < (17 : Nat), 0 ≤ IntKind.i64.wrap (i + (j : Int)), IntKind.i64.wrap (i + (j : Int)) < (b.n : Int), decide ((j : Int) < m) = true]) := by kernel_rfl
theorem tag_inend (PL RT : F2) (key : Nat → Int) (b : BT) (h c : Nat → Int) (i m : Int) (j : Nat) :
    stepOf (ctxL Try.prog (lG PL RT) (yesNo [] [63]) (open_ [71, 74]) noLoop) Try.prog 100 0 XI slI (sI key b h c i m j) = some (.exit 8, (sI key b h c i m j).with [decide ((j : Int) < m) = false]) := by kernel_rfl

def loopI (key : Nat → Int) (b : BT) (h : Nat → Int) (i : Int) (id : Nat) : Option SLoop :=
  bif id == 20 then some { slots := slI, at_ := fun j => sI key b h (CI b.f i j) i (mG b.n i) j, n := (mG b.n i).toNat, ex := .exit 8, out := sI key b h (CI b.f i (mG b.n i).toNat) i (mG b.n i) (mG b.n i).toNat } else none
theorem tag_round (PL RT : F2) (key : Nat → Int) (b : BT) (h c : Nat → Int) (i : Int) :
    stepOf (ctxL Try.prog (lG PL RT) (yesNo [52] []) (open_ [76]) (loopI key b h i)) Try.prog 200 0 XG slG (sG key b h c i) =
      some (.normal, (sG key b (nextG PL RT key h b.n b.f i) (CN b.f b.n i) (IntKind.i64.wrap (i + 16))).with
        [0 + (mG b.n i).toNat < 17, 0 ≤ mG b.n i, mG b.n i < (17 : Nat),
         St.same (sI key b h (CI b.f i 0) i (mG b.n i) ((0 : Nat) : Int)) (sI key b h (CI b.f i 0) i (mG b.n i) ((0 : Nat) : Int)),
         ∀ j, j < (mG b.n i).toNat → StepsTo Try.prog 0 XI (sI key b h (CI b.f i j) i (mG b.n i) j) .normal (sI key b h (CI b.f i (j + 1)) i (mG b.n i) ((j + 1 : Nat) : Int)),
         StepsTo Try.prog 0 XI (sI key b h (CI b.f i (mG b.n i).toNat) i (mG b.n i) (mG b.n i).toNat) (.exit 8) (sI key b h (CI b.f i (mG b.n i).toNat) i (mG b.n i) (mG b.n i).toNat), True,
         decide (i < (b.n : Int)) = true]) := by kernel_rfl
theorem tag_end (PL RT : F2) (key : Nat → Int) (b : BT) (h c : Nat → Int) (i : Int) :
    stepOf (ctxL Try.prog (lG PL RT) (yesNo [] [52]) (open_ []) noLoop) Try.prog 200 0 XG slG (sG key b h c i) = some (.exit 6, (sG key b h c i).with [decide (i < (b.n : Int)) = false]) := by kernel_rfl

def HG (PL RT : F2) (key : Nat → Int) (b : BT) : Nat → Nat → Int
  | 0 => fun _ => 0
  | k + 1 => nextG PL RT key (HG PL RT key b k) b.n b.f (16 * (k : Int))
def CG (b : BT) : Nat → Nat → Int
  | 0 => fun _ => 0
  | k + 1 => CN b.f b.n (16 * (k : Int))
def minusL : List Int := [5, 0, 0, 0, 0, 0, 0, 0, 0, 0, 0, 0, 0, 0, 0, 0, 252]
def addG (key : Nat → Int) : List Int := upTo 16 (fun j => w32 (key (16 + j))) ++ [0]
def lessG (PL : F2) (h : Nat → Int) : Nat → Int := PL (K 17 h) (at_ minusL)
def outG (PL : F2) (key h : Nat → Int) : List Int := upTo 16 fun j => IntKind.u8.wrap (PL (K 17 h) (at_ (addG key)) j)
def loopG (PL RT : F2) (key : Nat → Int) (b : BT) (N id : Nat) : Option SLoop :=
  bif id == 15 then some { slots := slG, at_ := fun k => sG key b (HG PL RT key b k) (CG b k) (16 * (k : Int)), n := N, ex := .exit 6, out := sG key b (HG PL RT key b N) (CG b N) (16 * (N : Int)) } else none
def psG (PL RT : F2) (key : Nat → Int) (b : BT) (N : Nat) : List Prop :=
  [St.same (sG key b (HG PL RT key b 0) (CG b 0) 0) (sG key b (HG PL RT key b 0) (CG b 0) (16 * ((0 : Nat) : Int))),
   ∀ k, k < N → StepsTo Try.prog 0 XG (sG key b (HG PL RT key b k) (CG b k) (16 * (k : Int))) .normal (sG key b (HG PL RT key b (k + 1)) (CG b (k + 1)) (16 * ((k + 1 : Nat) : Int))),
   StepsTo Try.prog 0 XG (sG key b (HG PL RT key b N) (CG b N) (16 * (N : Int))) (.exit 6) (sG key b (HG PL RT key b N) (CG b N) (16 * (N : Int))), True]
theorem tag_yes (PL RT : F2) (key : Nat → Int) (b : BT) (N : Nat) :
    runOf (ctxL Try.prog (lG PL RT) (yesNo [91] []) (open_ []) (loopG PL RT key b N)) Try.prog 300 10 [ints .u8 (upTo 32 key), vwB b] =
      some (ints .u8 (outG PL key (HG PL RT key b N)), [(lessG PL (HG PL RT key b N) 16 / (2 ^ 7 : Nat) != 0) = true] ++ psG PL RT key b N) := by kernel_rfl
theorem tag_no (PL RT : F2) (key : Nat → Int) (b : BT) (N : Nat) :
    runOf (ctxL Try.prog (lG PL RT) (yesNo [] [91]) (open_ []) (loopG PL RT key b N)) Try.prog 300 10 [ints .u8 (upTo 32 key), vwB b] =
      some (ints .u8 (outG PL key (lessG PL (HG PL RT key b N))), [(lessG PL (HG PL RT key b N) 16 / (2 ^ 7 : Nat) != 0) = false] ++ psG PL RT key b N) := by kernel_rfl
end Go.Proofs.Ytiemgibnmanhbaa
