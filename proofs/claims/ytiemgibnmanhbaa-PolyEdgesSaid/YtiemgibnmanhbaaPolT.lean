/-
  poly.times and poly.low, over poly.carry and poly.parts by their contracts. Conditions: none.
-/
import Derived.Test.YtiemgibnmanhbaaPol
import Derived.Test.YtiemgibnmanhbaaOrx
namespace Go.Proofs.Ytiemgibnmanhbaa
open Go Go.SX
open Go.RowKit (Below)

abbrev F1 := (Nat → Int) → Nat → Int
abbrev F2 := (Nat → Int) → (Nat → Int) → Nat → Int

def lC (CF : F1) : List (Nat × Orc) := [(19, orcA1 .u64 5 .u64 5 CF)]
def timesL (CF : F1) (a b : Nat → Int) : List Int := upTo 5 (CF (at_ (prodL a b)))
theorem times_runs (CF : F1) (a b : Nat → Int) : runOf (ctxL Try.prog (lC CF) (yesNo [] []) (open_ []) noLoop) Try.prog 500 15 [ints .u64 (upTo 5 a), ints .u64 (upTo 5 b)] = some (ints .u64 (timesL CF a b), []) := by kernel_rfl

def lowA (CF : F1) (a : Nat → Int) : List Int := upTo 5 (CF (K 5 a))
def pairSV (p : Int × Int) : SV := .tup [.sc (.int .u64 p.1), .sc (.int .u64 p.2)]
theorem low_yes (CF : F1) (a : Nat → Int) : runOf (ctxL Try.prog (lC CF) (yesNo [34] []) (open_ []) noLoop) Try.prog 500 16 [ints .u64 (upTo 5 a)] =
    some (pairSV (pairL (moreL (lowA CF a)).1), [decide ((moreL (lowA CF a)).2 > 0) = true]) := by kernel_rfl
theorem low_no (CF : F1) (a : Nat → Int) : runOf (ctxL Try.prog (lC CF) (yesNo [] [34]) (open_ []) noLoop) Try.prog 500 16 [ints .u64 (upTo 5 a)] =
    some (pairSV (pairL (lowA CF a)), [decide ((moreL (lowA CF a)).2 > 0) = false]) := by kernel_rfl
end Go.Proofs.Ytiemgibnmanhbaa
