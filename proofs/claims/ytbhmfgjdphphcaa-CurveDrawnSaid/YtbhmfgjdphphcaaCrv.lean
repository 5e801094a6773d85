/-
  The leaf functions of both curves over numbers cut into sixteen parts, as plain lists of numbers. Conditions: none.
-/
import Derived.Test.YtbhmfgjdphphcaaOrx
import Derived.Test.YtbhmfgjdphphcaaProg
namespace Go.Proofs.Ytbhmfgjdphphcaa
open Go Go.SX
open Go.RowKit (Below)

noncomputable def cx0 : Ctx := ctxOf Try.prog fun _ => none
theorem mixed : Try.prog.follows .mixedOrders = true := by kernel_rfl
theorem names : NamesOK Try.prog := names_ok _ (by kernel_rfl)
theorem ty0 : TyOK Try.prog cx0 := tyOf_ok _ _ rfl rfl
theorem orc0 : OrcOK Try.prog cx0 := noOrc_ok _ _ rfl
theorem sem0 : SemOK Try.prog cx0 := noSem_ok _ _ rfl

def wl (n : Int) : Int := IntKind.i64.wrap n
def w8 (n : Int) : Int := IntKind.u8.wrap n
abbrev F1 := (Nat → Int) → Nat → Int
abbrev F2 := (Nat → Int) → (Nat → Int) → Nat → Int

/-! Sums, differences. -/
def addL (a b : Nat → Int) : List Int := upTo 16 fun i => wl (a i + b i)
def subL (a b : Nat → Int) : List Int := upTo 16 fun i => wl (a i - b i)
theorem add_runs (a b : Nat → Int) : runOf cx0 Try.prog 500 21 [ints .i64 (upTo 16 a), ints .i64 (upTo 16 b)] = some (ints .i64 (addL a b), []) := by kernel_rfl
theorem sub_runs (a b : Nat → Int) : runOf cx0 Try.prog 500 22 [ints .i64 (upTo 16 a), ints .i64 (upTo 16 b)] = some (ints .i64 (subL a b), []) := by kernel_rfl
theorem radd_runs (a b : Nat → Int) : runOf cx0 Try.prog 500 27 [ints .i64 (upTo 16 a), ints .i64 (upTo 16 b)] = some (ints .i64 (addL a b), []) := by kernel_rfl
theorem rsub_runs (a b : Nat → Int) : runOf cx0 Try.prog 500 28 [ints .i64 (upTo 16 a), ints .i64 (upTo 16 b)] = some (ints .i64 (subL a b), []) := by kernel_rfl

/-! The document's carry. -/
def stepR (L : List Int) (i : Nat) : List Int :=
  let x := wl (L.getD i 0 + 65536)
  let c := x / (2 ^ 16 : Nat)
  let L1 := L.set i x
  let L2 := bif Nat.blt i 15 then L1.set (i + 1) (wl (wl (L1.getD (i + 1) 0 + c) - 1)) else L1.set 0 (wl (L1.getD 0 0 + wl (38 * wl (c - 1))))
  L2.set i (wl (L2.getD i 0 - wl (c * (2 ^ 16 : Nat))))
def carR (a : Nat → Int) : List Int := (List.range 16).foldl stepR (upTo 16 a)
theorem rcarry_runs (a : Nat → Int) : runOf cx0 Try.prog 1000 35 [ints .i64 (upTo 16 a)] = some (ints .i64 (carR a), []) := by kernel_rfl
end Go.Proofs.Ytbhmfgjdphphcaa
