/-
  The program's product, with its two carries. Conditions: none.
-/
import Derived.Test.YtbhmfgjdphphcaaCrvM
namespace Go.Proofs.Ytbhmfgjdphphcaa
open Go Go.SX
open Go.RowKit (Below)

def stepC (L : List Int) (i : Nat) : List Int :=
  let c := L.getD i 0 / (2 ^ 16 : Nat)
  let L1 := L.set i (wl (L.getD i 0 - wl (c * (2 ^ 16 : Nat))))
  bif Nat.blt i 15 then L1.set (i + 1) (wl (L1.getD (i + 1) 0 + c)) else L1.set 0 (wl (L1.getD 0 0 + wl (38 * c)))
def carC (L : List Int) : List Int := (List.range 16).foldl stepC L
def mulC (a b : Nat → Int) : List Int := carC (carC (foldT (prodL a b)))
theorem mul_runs (a b : Nat → Int) : runOf cx0 Try.prog 1500 23 [ints .i64 (upTo 16 a), ints .i64 (upTo 16 b)] = some (ints .i64 (mulC a b), []) := by kernel_rfl
end Go.Proofs.Ytbhmfgjdphphcaa
