/-
  Both curves' products, as plain lists of numbers. Conditions: none.
-/
import Derived.Test.YtbhmfgjdphphcaaCrv
namespace Go.Proofs.Ytbhmfgjdphphcaa
open Go Go.SX
open Go.RowKit (Below)

def stepM (a b : Nat → Int) (t : List Int) (p : Nat) : List Int := t.set (p / 16 + p % 16) (wl (t.getD (p / 16 + p % 16) 0 + wl (a (p / 16) * b (p % 16))))
def prodL (a b : Nat → Int) : List Int := (List.range 256).foldl (stepM a b) (List.replicate 31 0)
def foldT (t : List Int) : List Int := (List.range 16).map fun i => bif Nat.blt i 15 then wl (t.getD i 0 + wl (38 * t.getD (i + 16) 0)) else t.getD i 0
def lR (RC : F1) : List (Nat × Orc) := [(35, orcA1 .i64 16 .i64 16 RC)]
def mulR (RC : F1) (a b : Nat → Int) : List Int := upTo 16 (RC (K 16 (RC (at_ (foldT (prodL a b))))))
set_option maxHeartbeats 0 in
theorem rmul_runs (RC : F1) (a b : Nat → Int) : runOf (ctxL Try.prog (lR RC) (yesNo [] []) (open_ []) noLoop) Try.prog 1500 29 [ints .i64 (upTo 16 a), ints .i64 (upTo 16 b)] = some (ints .i64 (mulR RC a b), []) := by kernel_rfl
end Go.Proofs.Ytbhmfgjdphphcaa
