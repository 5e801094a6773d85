/-
  The hash's one block by its contract. Conditions: 64 bytes.
-/
import Derived.Test.YtbhmfgjdphphcaaHRnd
namespace Go.Proofs.Ytbhmfgjdphphcaa
open Go Go.SX
open Go.RowKit (Below)

def shl8 (x : Int) (n : Nat) : Int := u32 (x * (2 ^ (min n (IntKind.bits .u32)) : Nat))
def wA (f : Nat → Int) (i : Nat) : Int := bits .or .u32 (bits .or .u32 (bits .or .u32 (shl8 (u32 (f (4 * i))) 24) (shl8 (u32 (f (4 * i + 1))) 16)) (shl8 (u32 (f (4 * i + 2))) 8)) (u32 (f (4 * i + 3)))
def w0 (f : Nat → Int) : Nat → Int := at_ ((List.range 16).map (wA f) ++ List.replicate 48 0)
def V64 (h f : Nat → Int) : Nat → Int := VV (WW (w0 f) 48) h 64
def RFc (h f : Nat → Int) (i : Nat) : Int := u32 (h i + V64 h f i)
def loopR (h f : Nat → Int) (id : Nat) : Option SLoop :=
  bif id == 8 then some { slots := slB, at_ := fun k => sB h (WW (w0 f) k) (16 + (k : Int)), n := 48, ex := .exit 2, out := sB h (WW (w0 f) 48) 64 }
  else bif id == 15 then some { slots := slC, at_ := fun k => sC h (WW (w0 f) 48) (VV (WW (w0 f) 48) h k) k, n := 64, ex := .exit 4, out := sC h (WW (w0 f) 48) (V64 h f) 64 } else none
def pr (j : Int) : List Prop := [0 ≤ j, j < (64 : Nat)]
def pA : List Prop := (List.range 16).reverse.flatMap fun (i : Nat) => pr (wl (wl (4 * (i : Int)) + 3)) ++ (pr (wl (wl (4 * (i : Int)) + 2)) ++ (pr (wl (wl (4 * (i : Int)) + 1)) ++ pr (wl (4 * (i : Int)))))
def pLB (h f : Nat → Int) : List Prop :=
  [St.same (sB h (w0 f) 16) (sB h (WW (w0 f) 0) (16 + ((0 : Nat) : Int))), ∀ k, k < 48 → StepsTo Try.prog 0 XB (sB h (WW (w0 f) k) (16 + (k : Int))) .normal (sB h (WW (w0 f) (k + 1)) (16 + ((k + 1 : Nat) : Int))),
   StepsTo Try.prog 0 XB (sB h (WW (w0 f) 48) (16 + ((48 : Nat) : Int))) (.exit 2) (sB h (WW (w0 f) 48) 64), True]
def pLC (h f : Nat → Int) : List Prop :=
  [St.same (sC h (WW (w0 f) 48) h 0) (sC h (WW (w0 f) 48) (VV (WW (w0 f) 48) h 0) ((0 : Nat) : Int)), ∀ k, k < 64 → StepsTo Try.prog 0 XC_ (sC h (WW (w0 f) 48) (VV (WW (w0 f) 48) h k) (k : Int)) .normal (sC h (WW (w0 f) 48) (VV (WW (w0 f) 48) h (k + 1)) ((k + 1 : Nat) : Int)),
   StepsTo Try.prog 0 XC_ (sC h (WW (w0 f) 48) (VV (WW (w0 f) 48) h 64) ((64 : Nat) : Int)) (.exit 4) (sC h (WW (w0 f) 48) (V64 h f) 64), True]
theorem round_runs (h f : Nat → Int) (a : Option Addr) (ca : Nat) : runOf (ctxL Try.prog lH (yesNo [] []) (open_ [28, 36, 45, 54]) (loopR h f)) Try.prog 5000 38 [ints .u32 (upTo 8 h), vwF a 64 ca f] =
    some (ints .u32 (upTo 8 (RFc h f)), pLC h f ++ (pLB h f ++ pA)) := by kernel_rfl
end Go.Proofs.Ytbhmfgjdphphcaa
