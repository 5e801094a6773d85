/-
  courierref12.Draw by its contract: what it comes to, as bytes. Conditions: none.
-/
import Derived.Test.YtbhmfgjdphphcaaHSum
namespace Go.Proofs.Ytbhmfgjdphphcaa
open Go Go.SX
open Go.RowKit (Below)

def padK (f : Nat → Int) (i : Nat) : Int := (upTo 32 f ++ List.replicate 32 0).getD i 0
def xL (f : Nat → Int) (c : Int) : List Int := (List.range 64).map fun i => bits .xor .u8 (padK f i) c
def nL (n : Int) : List Int := [IntKind.u8.wrap n, IntKind.u8.wrap (shr n 8), IntKind.u8.wrap (shr n 16), IntKind.u8.wrap (shr n 24)]
def DRf (H : HF) (f : Nat → Int) (n : Int) : Nat → Int := H 96 (at_ (xL f 92 ++ upTo 32 (H 68 (at_ (xL f 54 ++ nL n)))))
def psDr : List Prop :=
  [0 + 96 ≤ 96, 0 + 32 ≤ 32, 0 < 32, 96 ≤ 1000000, 0 + 68 ≤ 68, 0 + 4 ≤ 4, 0 < 4, 68 ≤ 1000000] ++ (((List.range 64).flatMap fun j => apP (64 - j) ++ ((63 - j < 64) :: (apP (64 - j) ++ [63 - j < 64]))) ++
    (((List.range 31).flatMap fun j => apP (64 - j)) ++ [0 + 32 ≤ 32, 0 + 1 ≤ 1, 32 < 33, 32 ≤ 32, 0 < 1, 33 ≤ 1000000, 0 + 32 ≤ 32, 32 ≤ 1000000]))
set_option maxHeartbeats 0 in
theorem draw_runs (H : HF) (f : Nat → Int) (n : Int) : runOf (ctxL Try.prog (lDr H) (yesNo [] []) (open_ []) noLoop) Try.prog 5000 18 [ints .u8 (upTo 32 f), mkInt .u32 n] = some (ints .u8 (upTo 32 (DRf H f n)), psDr) := by kernel_rfl
end Go.Proofs.Ytbhmfgjdphphcaa
