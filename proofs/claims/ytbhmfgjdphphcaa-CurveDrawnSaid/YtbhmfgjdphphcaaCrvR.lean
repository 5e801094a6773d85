/-
  Reading and writing of numbers, run: plain lists. Conditions: none.
-/
import Derived.Test.YtbhmfgjdphphcaaCrv
namespace Go.Proofs.Ytbhmfgjdphphcaa
open Go Go.SX
open Go.RowKit (Below)

def readV (u : Nat → Int) (i : Nat) : Int := bits .or .i64 (wl (u (2 * i))) (wl (wl (u (2 * i + 1)) * (2 ^ 8 : Nat)))
def readL (u : Nat → Int) : List Int := (List.range 16).map fun i => bif i == 15 then bits .and .i64 (readV u i) 32767 else readV u i
theorem read_runs (u : Nat → Int) : runOf cx0 Try.prog 500 19 [ints .u8 (upTo 32 u)] = some (ints .i64 (readL u), []) := by kernel_rfl
def unpV (u : Nat → Int) (i : Nat) : Int := wl (wl (u (2 * i)) + wl (wl (u (2 * i + 1)) * (2 ^ 8 : Nat)))
def unpL (u : Nat → Int) : List Int := (List.range 16).map fun i => bif i == 15 then bits .and .i64 (unpV u i) 32767 else unpV u i
theorem unpack_runs (u : Nat → Int) : runOf cx0 Try.prog 500 26 [ints .u8 (upTo 32 u)] = some (ints .i64 (unpL u), []) := by kernel_rfl

/-! A number less the modulus. -/
def stepL (L : List Int) (i : Nat) : List Int :=
  let b := L.getD (i - 1) 0 / (2 ^ 16 : Nat)
  let L1 := L.set (i - 1) (bits .and .i64 (L.getD (i - 1) 0) 65535)
  L1.set i (wl (L1.getD i 0 + wl (b - bif i == 15 then 32767 else 65535)))
def lessL (a : Nat → Int) : List Int := (List.range' 1 15).foldl stepL ((upTo 16 a).set 0 (wl (a 0 - 65517)))
def lessSV (L : List Int) : SV := .tup [.agg (L.map (SC.int .i64)), .sc (.bool (decide (L.getD 15 0 ≥ 0)))]
def sLess (L : List Int) : St :=
  { fid := 34, n := 40, fr := mkFr [(1, .one (.sc (.ptr 0 0))), (2, .one (.sc (.ptr 1 0))), (36, ints .i64 L), (37, .one (.sc (.ptr 0 15))), (38, mkInt .i64 (L.getD 15 0)), (39, mkBool (decide (L.getD 15 0 ≥ 0))), (3, mkBool (decide (L.getD 15 0 ≥ 0)))],
    regs := [⟨.cells (L.map (SC.int .i64)), 37⟩, ⟨.cells (L.map (SC.int .i64)), 37⟩], conds := [] }
theorem less_runs (a : Nat → Int) : runOf (ctxK Try.prog [] (yesNo [] []) (open_ []) noLoop (keep1 11 [1, 2])) Try.prog 500 34 [ints .i64 (upTo 16 a)] = some (lessSV (lessL a), List.replicate 9 (St.same (sLess (lessL a)) (sLess (lessL a)))) := by kernel_rfl

/-! Both written. -/
def outL (a : Nat → Int) : List Int := (List.range 32).map fun j => bif j % 2 == 0 then w8 (a (j / 2)) else w8 (a (j / 2) / (2 ^ 8 : Nat))
def lessS (f : Nat → Int) : SV := .tup [.agg ((upTo 16 f).map (SC.int .i64)), .sc (.bool (decide (f 15 ≥ 0)))]
def orcLess (LS : F1) : Orc := fun vs _ => match vs with
  | [x] => match arrOf .i64 16 x with
    | some a => some (.val (lessS (LS a)) [])
    | none => none
  | _ => none
def zeros (n : Nat) : List SC := List.replicate n (SC.int .u8 0)
def slW : List Nat := [1, 2, 12]
def sW (a : Nat → Int) (k : Int) : St := { fid := 24, n := 41, fr := mkFr [(1, .one (.sc (.ptr 0 0))), (2, .one (.sc (.ptr 1 0))), (12, mkInt .i64 k)], regs := [⟨.cells ((upTo 16 a).map (SC.int .i64)), 37⟩, ⟨.cells (zeros 32), 23⟩], conds := [] }
noncomputable def XW : Code := bodyOf Try.prog 24 6
def lW (LS : F1) : List (Nat × Orc) := [(34, orcLess LS)]
theorem write_yes0 (LS : F1) (a : Nat → Int) :
    stepOf (ctxL Try.prog (lW LS) (yesNo [19] []) (open_ []) noLoop) Try.prog 100 0 XW slW (sW a 0) = some (.normal, (sW (LS (K 16 a)) 1).with [decide (LS (K 16 a) 15 ≥ 0) = true]) := by kernel_rfl
theorem write_no0 (LS : F1) (a : Nat → Int) :
    stepOf (ctxL Try.prog (lW LS) (yesNo [] [19]) (open_ []) noLoop) Try.prog 100 0 XW slW (sW a 0) = some (.normal, (sW a 1).with [decide (LS (K 16 a) 15 ≥ 0) = false]) := by kernel_rfl
theorem write_yes1 (LS : F1) (a : Nat → Int) :
    stepOf (ctxL Try.prog (lW LS) (yesNo [19] []) (open_ []) noLoop) Try.prog 100 0 XW slW (sW a 1) = some (.normal, (sW (LS (K 16 a)) 2).with [decide (LS (K 16 a) 15 ≥ 0) = true]) := by kernel_rfl
theorem write_no1 (LS : F1) (a : Nat → Int) :
    stepOf (ctxL Try.prog (lW LS) (yesNo [] [19]) (open_ []) noLoop) Try.prog 100 0 XW slW (sW a 1) = some (.normal, (sW a 2).with [decide (LS (K 16 a) 15 ≥ 0) = false]) := by kernel_rfl
theorem write_end (LS : F1) (a : Nat → Int) :
    stepOf (ctxL Try.prog (lW LS) (yesNo [] []) (open_ []) noLoop) Try.prog 100 0 XW slW (sW a 2) = some (.exit 2, (sW a 2).with []) := by kernel_rfl
def carC3 (CC : List Int → List Int) (a : Nat → Int) : List Int := CC (CC (CC (upTo 16 a)))
def WA (LS : F1) (a : Nat → Int) : Nat → Int := fun i => bif decide (LS (K 16 a) 15 ≥ 0) then LS (K 16 a) i else a i
def WK (LS : F1) (a : Nat → Int) : Nat → Nat → Int
  | 0 => a
  | k + 1 => WA LS (WK LS a k)
def loopW (LS : F1) (a : Nat → Int) (id : Nat) : Option SLoop := bif id == 6 then some { slots := slW, at_ := fun k => sW (WK LS a k) k, n := 2, ex := .exit 2, out := sW (WK LS a 2) 2 } else none
end Go.Proofs.Ytbhmfgjdphphcaa
