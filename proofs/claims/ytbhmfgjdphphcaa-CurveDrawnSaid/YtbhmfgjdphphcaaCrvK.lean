/-
  Both ladders' whole runs, over abstract operations on numbers. Conditions: none.
-/
import Derived.Test.YtbhmfgjdphphcaaCrvL
namespace Go.Proofs.Ytbhmfgjdphphcaa
open Go Go.SX
open Go.RowKit (Below)

/-- The ladder behind k rounds. -/
def LD (AD SB ML : F2) (by_ x : Nat → Int) (bit : Nat → Bool) : Nat → Q4
  | 0 => ⟨at_ oneL, x, fun _ => 0, at_ oneL⟩
  | k + 1 => roundS AD SB ML by_ x (bit (254 - k)) (LD AD SB ML by_ x bit k)
def outM (ML : F2) (IN WR : F1) (q : Q4) : Nat → Int := WR (K 16 (mk ML q.a (IN (K 16 q.c))))

def loopM (AD SB ML : F2) (key x : Nat → Int) (id : Nat) : Option SLoop :=
  bif id == 7 then some { slots := slM, at_ := fun k => sM key x (LD AD SB ML (at_ byL) x (bitC key) k) (254 - (k : Int)), n := 255, ex := .exit 0, out := sM key x (LD AD SB ML (at_ byL) x (bitC key) 255) (-1) } else none
def psM (AD SB ML : F2) (key x : Nat → Int) : List Prop :=
  [St.same (sM key x ⟨at_ oneL, x, fun _ => 0, at_ oneL⟩ 254) (sM key x (LD AD SB ML (at_ byL) x (bitC key) 0) (254 - ((0 : Nat) : Int))),
   ∀ k, k < 255 → StepsTo Try.prog 0 XM (sM key x (LD AD SB ML (at_ byL) x (bitC key) k) (254 - (k : Int))) .normal (sM key x (LD AD SB ML (at_ byL) x (bitC key) (k + 1)) (254 - ((k + 1 : Nat) : Int))),
   StepsTo Try.prog 0 XM (sM key x (LD AD SB ML (at_ byL) x (bitC key) 255) (254 - ((255 : Nat) : Int))) (.exit 0) (sM key x (LD AD SB ML (at_ byL) x (bitC key) 255) (-1)), True]
/-- The state behind the four first values. -/
def s5 (key x : Nat → Int) : St :=
  { fid := 11, n := 130, fr := mkFr [(2, pt 0), (4, pt 1), (5, pt 2), (6, pt 3), (7, pt 4), (8, pt 5), (9, pt 6), (10, pt 7), (27, ints .i64 oneL), (28, ints .i64 (upTo 16 x)), (29, ints .i64 (List.replicate 16 0)), (30, ints .i64 oneL)],
    regs := [⟨.cells ((kL key).map (SC.int .u8)), 23⟩, ⟨.cells (List.replicate 32 (SC.int .u8 0)), 23⟩, reg64 37 x, ⟨.cells (byL.map (SC.int .i64)), 37⟩, ⟨.cells (oneL.map (SC.int .i64)), 37⟩, reg64 37 x, ⟨.cells ((List.replicate 16 0).map (SC.int .i64)), 37⟩,
      ⟨.cells (oneL.map (SC.int .i64)), 37⟩], conds := [] }
theorem mul_runs_all (AD SB ML : F2) (IN RD WR : F1) (key u : Nat → Int) :
    runOf (ctxK Try.prog (lM AD SB ML IN RD WR) (yesNo [] []) (open_ []) (loopM AD SB ML key (RD (K 32 u))) (keep1 5 [2, 4, 5, 6])) Try.prog 500 11 [ints .u8 (upTo 32 key), ints .u8 (upTo 32 u)] =
      some (ints .u8 (upTo 32 (outM ML IN WR (LD AD SB ML (at_ byL) (RD (K 32 u)) (bitC key) 255))), psM AD SB ML key (RD (K 32 u)) ++ List.replicate 36 (St.same (s5 key (RD (K 32 u))) (s5 key (RD (K 32 u))))) := by kernel_rfl

/-! The document's. -/
def bitR (key : Nat → Int) (m : Nat) : Int := bits .and .u8 ((kL key).getD (0 + ((m : Int) / (2 ^ 3 : Nat)).toNat) 0 / (2 ^ (min (m % 8) (IntKind.bits .u8)) : Nat)) 1
def lN (AD SB ML : F2) (IN : F1) (RD WR : F1) : List (Nat × Orc) :=
  [(27, A2 AD), (28, A2 SB), (29, A2 ML), (31, A1 IN), (26, orcA1 .u8 32 .i64 16 RD), (30, orcA1 .i64 16 .u8 32 WR)]
def smallL : List Int := 56129 :: 1 :: List.replicate 14 0
def slN : List Nat := [4, 5, 6, 7, 8, 9, 10, 11, 12]
def sN (key x : Nat → Int) (q : Q4) (i : Int) : St :=
  { fid := 12, n := 115, fr := mkFr [(4, pt 0), (5, pt 1), (6, pt 2), (7, pt 3), (8, pt 4), (9, pt 5), (10, pt 6), (11, pt 7), (12, mkInt .i64 i)],
    regs := [⟨.cells (List.replicate 32 (SC.int .u8 0)), 23⟩, ⟨.cells ((kL key).map (SC.int .u8)), 23⟩, reg64 44 x, reg64 44 q.b, reg64 44 q.a, reg64 44 q.c, reg64 44 q.d, ⟨.cells (smallL.map (SC.int .i64)), 44⟩], conds := [] }
noncomputable def XN : Code := bodyOf Try.prog 12 11
def psN (key : Nat → Int) (m : Nat) (s : Bool) : List Prop :=
  [(bitR key m == 1) = s, IntKind.u64.wrap (bits .and .i64 (m : Int) 7) = ((m % 8 : Nat) : Int), 0 + ((m : Int) / (2 ^ 3 : Nat)).toNat < 32, 0 ≤ (m : Int) / (2 ^ 3 : Nat), (m : Int) / (2 ^ 3 : Nat) < (32 : Nat), decide ((m : Int) ≥ 0) = true]
def keepN (id : Nat) : Option (List Nat) := bif id == 15 then some [4, 5, 6, 7, 8, 9, 10, 11, 12, 13] else bif id == 34 then some [4, 5, 6, 7, 8, 9, 10, 11, 12] else none
/-- The states behind both exchanges. -/
def regN (key x : Nat → Int) (q : Q4) : List Reg := [⟨.cells (List.replicate 32 (SC.int .u8 0)), 23⟩, ⟨.cells ((kL key).map (SC.int .u8)), 23⟩, reg64 44 x, reg64 44 q.b, reg64 44 q.a, reg64 44 q.c, reg64 44 q.d, ⟨.cells (smallL.map (SC.int .i64)), 44⟩]
def rev4 (q : Q4) : Q4 := ⟨q.b, q.a, q.d, q.c⟩
def s15 (key x : Nat → Int) (q : Q4) (m : Nat) : St :=
  { fid := 12, n := 115, fr := mkFr [(4, pt 0), (5, pt 1), (6, pt 2), (7, pt 3), (8, pt 4), (9, pt 5), (10, pt 6), (11, pt 7), (12, mkInt .i64 m), (13, mkInt .u8 (bitR key m)), (47, ints .i64 (upTo 16 q.b)), (48, ints .i64 (upTo 16 q.a)), (49, ints .i64 (upTo 16 q.d)), (50, ints .i64 (upTo 16 q.c))],
    regs := regN key x (rev4 q), conds := [] }
def s34 (key x : Nat → Int) (q : Q4) (m : Nat) : St :=
  { fid := 12, n := 115, fr := mkFr [(4, pt 0), (5, pt 1), (6, pt 2), (7, pt 3), (8, pt 4), (9, pt 5), (10, pt 6), (11, pt 7), (12, mkInt .i64 m), (106, ints .i64 (upTo 16 q.b)), (107, ints .i64 (upTo 16 q.a)), (108, ints .i64 (upTo 16 q.d)), (109, ints .i64 (upTo 16 q.c))],
    regs := regN key x (rev4 q), conds := [] }
def psY (AD SB ML : F2) (key x : Nat → Int) (q : Q4) (m : Nat) : List Prop :=
  List.replicate 2 (St.same (s34 key x (roundF AD SB ML (at_ smallL) x (swap4 true q)) m) (s34 key x (roundF AD SB ML (at_ smallL) x (swap4 true q)) m)) ++ ([(bitR key m == 1) = true] ++ (List.replicate 2 (St.same (s15 key x q m) (s15 key x q m)) ++ psN key m true))
theorem rmul_yes (AD SB ML : F2) (IN RD WR : F1) (key x : Nat → Int) (q : Q4) (m : Nat) :
    stepOf (ctxK Try.prog (lN AD SB ML IN RD WR) (telling [33, 46, 105] [] [(42, ((m % 8 : Nat) : Int))]) (open_ [38]) noLoop keepN) Try.prog 200 0 XN slN (sN key x q m) =
      some (.normal, (sN key x (roundS AD SB ML (at_ smallL) x true q) (IntKind.i64.wrap ((m : Int) - 1))).with (psY AD SB ML key x q m)) := by kernel_rfl
theorem rmul_no (AD SB ML : F2) (IN RD WR : F1) (key x : Nat → Int) (q : Q4) (m : Nat) :
    stepOf (ctxL Try.prog (lN AD SB ML IN RD WR) (telling [33] [46, 105] [(42, ((m % 8 : Nat) : Int))]) (open_ [38]) noLoop) Try.prog 200 0 XN slN (sN key x q m) =
      some (.normal, (sN key x (roundS AD SB ML (at_ smallL) x false q) (IntKind.i64.wrap ((m : Int) - 1))).with ([(bitR key m == 1) = false] ++ psN key m false)) := by kernel_rfl
theorem rmul_end (AD SB ML : F2) (IN RD WR : F1) (key x : Nat → Int) (q : Q4) :
    stepOf (ctxL Try.prog (lN AD SB ML IN RD WR) (yesNo [] []) (open_ []) noLoop) Try.prog 200 0 XN slN (sN key x q (-1)) = some (.exit 0, (sN key x q (-1)).with []) := by kernel_rfl
def loopN (AD SB ML : F2) (key x : Nat → Int) (id : Nat) : Option SLoop :=
  bif id == 11 then some { slots := slN, at_ := fun k => sN key x (LD AD SB ML (at_ smallL) x (bitC key) k) (254 - (k : Int)), n := 255, ex := .exit 0, out := sN key x (LD AD SB ML (at_ smallL) x (bitC key) 255) (-1) } else none
def psR (AD SB ML : F2) (key x : Nat → Int) : List Prop :=
  [St.same (sN key x ⟨at_ oneL, x, fun _ => 0, at_ oneL⟩ 254) (sN key x (LD AD SB ML (at_ smallL) x (bitC key) 0) (254 - ((0 : Nat) : Int))),
   ∀ k, k < 255 → StepsTo Try.prog 0 XN (sN key x (LD AD SB ML (at_ smallL) x (bitC key) k) (254 - (k : Int))) .normal (sN key x (LD AD SB ML (at_ smallL) x (bitC key) (k + 1)) (254 - ((k + 1 : Nat) : Int))),
   StepsTo Try.prog 0 XN (sN key x (LD AD SB ML (at_ smallL) x (bitC key) 255) (254 - ((255 : Nat) : Int))) (.exit 0) (sN key x (LD AD SB ML (at_ smallL) x (bitC key) 255) (-1)), True]
theorem rmul_runs_all (AD SB ML : F2) (IN RD WR : F1) (key u : Nat → Int) :
    runOf (ctxL Try.prog (lN AD SB ML IN RD WR) (yesNo [] []) (open_ []) (loopN AD SB ML key (RD (K 32 u)))) Try.prog 500 12 [ints .u8 (upTo 32 key), ints .u8 (upTo 32 u)] =
      some (ints .u8 (upTo 32 (outM ML IN WR (LD AD SB ML (at_ smallL) (RD (K 32 u)) (bitC key) 255))), psR AD SB ML key (RD (K 32 u))) := by kernel_rfl
end Go.Proofs.Ytbhmfgjdphphcaa
