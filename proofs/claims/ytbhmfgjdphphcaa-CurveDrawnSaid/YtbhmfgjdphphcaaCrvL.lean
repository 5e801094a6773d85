/-
  Both ladders, run over abstract operations on numbers. Conditions: none.
-/
import Derived.Test.YtbhmfgjdphphcaaCrvI
namespace Go.Proofs.Ytbhmfgjdphphcaa
open Go Go.SX
open Go.RowKit (Below)

structure Q4 where
  a : Nat → Int
  b : Nat → Int
  c : Nat → Int
  d : Nat → Int
def sel (s : Bool) (A B : Nat → Int) : Nat → Int := fun i => bif s then K 16 B i else K 16 A i
/-- One round's sums and products. -/
def roundF (AD SB ML : F2) (by_ x : Nat → Int) (q : Q4) : Q4 :=
  let e := mk AD q.a q.c
  let a1 := mk SB q.a q.c
  let c1 := mk AD q.b q.d
  let b1 := mk SB q.b q.d
  let d1 := mk ML e e
  let f := mk ML a1 a1
  let a2 := mk ML c1 a1
  let c2 := mk ML b1 e
  let e2 := mk AD a2 c2
  let a3 := mk SB a2 c2
  let b2 := mk ML a3 a3
  let c3 := mk SB d1 f
  let a4 := mk AD (mk ML c3 by_) d1
  ⟨mk ML d1 f, mk ML e2 e2, mk ML c3 a4, mk ML b2 x⟩
def swap4 (s : Bool) (q : Q4) : Q4 := ⟨sel s q.a q.b, sel s q.b q.a, sel s q.c q.d, sel s q.d q.c⟩
def roundS (AD SB ML : F2) (by_ x : Nat → Int) (s : Bool) (q : Q4) : Q4 := swap4 s (roundF AD SB ML by_ x (swap4 s q))

def orcSwap : Orc := fun vs _ => match vs with
  | [x, y, .one (.sc (.bool s))] => match arrOf .i64 16 x, arrOf .i64 16 y with
    | some a, some b => some (.val (.tup [.agg ((upTo 16 fun i => bif s then b i else a i).map (SC.int .i64)), .agg ((upTo 16 fun i => bif s then a i else b i).map (SC.int .i64))]) [])
    | _, _ => none
  | _ => none
/-- The scalar, its bits set as they must be. -/
def kL (key : Nat → Int) : List Int := ((upTo 32 key).set 0 (bits .and .u8 (key 0) 248)).set 31 (bits .or .u8 (bits .and .u8 (key 31) 127) 64)
def bitC (key : Nat → Int) (m : Nat) : Bool := bits .and .u8 ((kL key).getD (0 + (IntKind.i64.wrap ((m : Int).tdiv 8)).toNat) 0 / (2 ^ (min (m % 8) (IntKind.bits .u8)) : Nat)) 1 == 1

def A2 (F : F2) : Orc := orcA2 .i64 16 .i64 16 .i64 16 F
def A1 (F : F1) : Orc := orcA1 .i64 16 .i64 16 F
def lM (AD SB ML : F2) (IN : F1) (RD WR : F1) : List (Nat × Orc) :=
  [(20, orcSwap), (21, A2 AD), (22, A2 SB), (23, A2 ML), (25, A1 IN), (19, orcA1 .u8 32 .i64 16 RD), (24, orcA1 .i64 16 .u8 32 WR)]
def reg64 (t : Nat) (a : Nat → Int) : Reg := ⟨.cells ((upTo 16 a).map (SC.int .i64)), t⟩
def byL : List Int := 121665 :: List.replicate 15 0
def oneL : List Int := 1 :: List.replicate 15 0
def pt (r : Nat) : SV := .one (.sc (.ptr r 0))
def slM : List Nat := [2, 4, 5, 6, 7, 8, 9, 10, 11]
def sM (key x : Nat → Int) (q : Q4) (i : Int) : St :=
  { fid := 11, n := 130, fr := mkFr [(2, pt 0), (4, pt 1), (5, pt 2), (6, pt 3), (7, pt 4), (8, pt 5), (9, pt 6), (10, pt 7), (11, mkInt .i64 i)],
    regs := [⟨.cells ((kL key).map (SC.int .u8)), 23⟩, ⟨.cells (List.replicate 32 (SC.int .u8 0)), 23⟩, reg64 37 x, ⟨.cells (byL.map (SC.int .i64)), 37⟩, reg64 37 q.a, reg64 37 q.b, reg64 37 q.c, reg64 37 q.d], conds := [] }
noncomputable def XM : Code := bodyOf Try.prog 11 7
theorem mul_round (AD SB ML : F2) (IN RD WR : F1) (key x : Nat → Int) (q : Q4) (m : Nat) :
    stepOf (ctxL Try.prog (lM AD SB ML IN RD WR) (yesNo [32] []) (open_ [37]) noLoop) Try.prog 200 0 XM slM (sM key x q m) =
      some (.normal, (sM key x (roundS AD SB ML (at_ byL) x (bitC key m) q) (IntKind.i64.wrap ((m : Int) - 1))).with
        [0 + (IntKind.i64.wrap ((m : Int).tdiv 8)).toNat < 32, 0 ≤ IntKind.i64.wrap ((m : Int).tdiv 8), IntKind.i64.wrap ((m : Int).tdiv 8) < (32 : Nat), decide ((m : Int) ≥ 0) = true]) := by kernel_rfl
theorem mul_end (AD SB ML : F2) (IN RD WR : F1) (key x : Nat → Int) (q : Q4) :
    stepOf (ctxL Try.prog (lM AD SB ML IN RD WR) (yesNo [] []) (open_ [37]) noLoop) Try.prog 200 0 XM slM (sM key x q (-1)) = some (.exit 0, (sM key x q (-1)).with []) := by kernel_rfl
end Go.Proofs.Ytbhmfgjdphphcaa
