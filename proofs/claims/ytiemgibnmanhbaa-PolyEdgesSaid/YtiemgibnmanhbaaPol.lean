/-
  The leaf functions of both one-time tags over numbers cut into parts, as plain lists of numbers. Conditions: none.
-/

import Derived.Test.YtiemgibnmanhbaaSxEnd
import Derived.Test.YtiemgibnmanhbaaProg
namespace Go.Proofs.Ytiemgibnmanhbaa
open Go Go.SX
open Go.RowKit (Below)

noncomputable def cx0 : Ctx := ctxOf Try.prog fun _ => none
theorem mixed : Try.prog.follows .mixedOrders = true := by kernel_rfl
theorem names : NamesOK Try.prog := names_ok _ (by kernel_rfl)
theorem ty0 : TyOK Try.prog cx0 := tyOf_ok _ _ rfl rfl
theorem orc0 : OrcOK Try.prog cx0 := noOrc_ok _ _ rfl
theorem sem0 : SemOK Try.prog cx0 := noSem_ok _ _ rfl

def w64 (n : Int) : Int := IntKind.u64.wrap n
def w32 (n : Int) : Int := IntKind.u32.wrap n

/-! poly.parts, poly.carry, poly.times, poly.low. -/

def stepP (b : Nat → Int) (s : List Int) (i : Nat) : List Int :=
  s.set (min (i / 26) 4) (bits .or .u64 (s.getD (min (i / 26) 4) 0) (w64 (w64 (bits .and .u8 (b (i / 8) / (2 ^ (i % 8) : Nat)) 1) * (2 ^ (i - 26 * min (i / 26) 4) : Nat))))
def partsL (b : Nat → Int) : List Int := (List.range 136).foldl (stepP b) [0, 0, 0, 0, 0]
def stepC (s : List Int × Int) (i : Nat) : List Int × Int := (s.1.set i (bits .and .u64 (w64 (s.1.getD i 0 + s.2)) 67108863), w64 (s.1.getD i 0 + s.2) / (2 ^ 26 : Nat))
def runC (a : List Int) : List Int × Int := (List.range 5).foldl stepC (a, 0)
def roundC (a : List Int) : List Int := (runC a).1.set 0 (w64 ((runC a).1.getD 0 0 + w64 (5 * (runC a).2)))
def carryL (a : Nat → Int) : List Int := roundC (roundC (upTo 5 a))
def stepT (a b : Nat → Int) (s : List Int) (p : Nat) : List Int :=
  s.set ((p / 5 + p % 5) % 5) (w64 (s.getD ((p / 5 + p % 5) % 5) 0 + (bif Nat.ble 5 (p / 5 + p % 5) then w64 (w64 (a (p / 5) * b (p % 5)) * 5) else w64 (a (p / 5) * b (p % 5)))))
def prodL (a b : Nat → Int) : List Int := (List.range 25).foldl (stepT a b) [0, 0, 0, 0, 0]
def moreL (a : List Int) : List Int × Int := runC (a.set 0 (w64 (a.getD 0 0 + 5)))
def pairL (a : List Int) : Int × Int :=
  (bits .or .u64 (bits .or .u64 (a.getD 0 0) (w64 (a.getD 1 0 * (2 ^ 26 : Nat)))) (w64 (a.getD 2 0 * (2 ^ 52 : Nat))),
   bits .or .u64 (bits .or .u64 (a.getD 2 0 / (2 ^ 12 : Nat)) (w64 (a.getD 3 0 * (2 ^ 14 : Nat)))) (w64 (a.getD 4 0 * (2 ^ 40 : Nat))))

theorem parts_runs (b : Nat → Int) : runOf cx0 Try.prog 2000 14 [ints .u8 (upTo 17 b)] = some (ints .u64 (partsL b), []) := by kernel_rfl
theorem carry_runs (a : Nat → Int) : runOf cx0 Try.prog 2000 19 [ints .u64 (upTo 5 a)] = some (ints .u64 (carryL a), []) := by kernel_rfl

/-! courierref1.plus, courierref1.times. -/

def stepS (h c : Nat → Int) (s : List Int × Int) (j : Nat) : List Int × Int := (s.1 ++ [bits .and .u32 (w32 (w32 (s.2 + h j) + c j)) 255], w32 (w32 (s.2 + h j) + c j) / (2 ^ 8 : Nat))
def plusL (h c : Nat → Int) : List Int := ((List.range 17).foldl (stepS h c) ([], 0)).1
def coefL (h r : Nat → Int) (i : Nat) : Int :=
  (List.range 17).foldl (fun x j => bif Nat.ble j i then w32 (x + w32 (h j * r (i - j))) else w32 (x + w32 (w32 (h j * 320) * r (i + 17 - j)))) 0
def stepR (x : Nat → Int) (s : List Int × Int) (j : Nat) : List Int × Int := (s.1 ++ [bits .and .u32 (w32 (s.2 + x j)) 255], w32 (s.2 + x j) / (2 ^ 8 : Nat))
def fold1 (x : Nat → Int) : List Int × Int := (List.range 16).foldl (stepR x) ([], 0)
def top1 (x : Nat → Int) : Int := w32 ((fold1 x).2 + x 16)
def fold2 (x : Nat → Int) : List Int × Int := (List.range 16).foldl (stepR fun j => (fold1 x).1.getD j 0) ([], w32 (5 * (top1 x / (2 ^ 2 : Nat))))
def timesR (h r : Nat → Int) : List Int := (fold2 (coefL h r)).1 ++ [w32 (bits .and .u32 (top1 (coefL h r)) 3 + (fold2 (coefL h r)).2)]

theorem plus_runs (h c : Nat → Int) : runOf cx0 Try.prog 2000 18 [ints .u32 (upTo 17 h), ints .u32 (upTo 17 c)] = some (ints .u32 (plusL h c), []) := by kernel_rfl
theorem reft_runs (h r : Nat → Int) : runOf cx0 Try.prog 3000 17 [ints .u32 (upTo 17 h), ints .u32 (upTo 17 r)] = some (ints .u32 (timesR h r), []) := by kernel_rfl

end Go.Proofs.Ytiemgibnmanhbaa
