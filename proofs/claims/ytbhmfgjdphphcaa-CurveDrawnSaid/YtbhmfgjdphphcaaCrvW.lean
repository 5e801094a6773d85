/-
  Both writings of a number as bytes, run. Conditions: none.
-/
import Derived.Test.YtbhmfgjdphphcaaCrvR
import Derived.Test.YtbhmfgjdphphcaaCrvN
namespace Go.Proofs.Ytbhmfgjdphphcaa
open Go Go.SX
open Go.RowKit (Below)

def car3 (a : Nat → Int) : List Int := carC (carC (carC (upTo 16 a)))
def psW (LS : F1) (a : Nat → Int) : List Prop :=
  [St.same (sW (at_ (car3 a)) 0) (sW (at_ (car3 a)) ((0 : Nat) : Int)), ∀ k, k < 2 → StepsTo Try.prog 0 XW (sW (WK LS (at_ (car3 a)) k) k) .normal (sW (WK LS (at_ (car3 a)) (k + 1)) ((k + 1 : Nat) : Int)),
   StepsTo Try.prog 0 XW (sW (WK LS (at_ (car3 a)) 2) (2 : Nat)) (.exit 2) (sW (WK LS (at_ (car3 a)) 2) 2), True]
theorem write_runs (LS : F1) (a : Nat → Int) : runOf (ctxL Try.prog (lW LS) (yesNo [] []) (open_ []) (loopW LS (at_ (car3 a)))) Try.prog 500 24 [ints .i64 (upTo 16 a)] = some (ints .u8 (outL (WK LS (at_ (car3 a)) 2)), psW LS a) := by kernel_rfl

/-! The document's. -/
def stepK (t : Nat → Int) (m : List Int) (i : Nat) : List Int :=
  let m1 := m.set i (wl (wl (t i - 65535) - bits .and .i64 (m.getD (i - 1) 0 / (2 ^ 16 : Nat)) 1))
  m1.set (i - 1) (bits .and .i64 (m1.getD (i - 1) 0) 65535)
def packM0 (t : Nat → Int) : List Int := (List.range' 1 14).foldl (stepK t) ((List.replicate 16 0).set 0 (wl (t 0 - 65517)))
def packM1 (t : Nat → Int) : List Int := (packM0 t).set 15 (wl (wl (t 15 - 32767) - bits .and .i64 ((packM0 t).getD 14 0 / (2 ^ 16 : Nat)) 1))
def packB (t : Nat → Int) : Int := bits .and .i64 ((packM1 t).getD 15 0 / (2 ^ 16 : Nat)) 1
def packM (t : Nat → Int) : List Int := (packM1 t).set 14 (bits .and .i64 ((packM1 t).getD 14 0) 65535)
def slP : List Nat := [2, 3, 4]
def sP (a : Nat → Int) (k : Int) : St := { fid := 30, n := 88, fr := mkFr [(2, .one (.sc (.ptr 0 0))), (3, .one (.sc (.ptr 1 0))), (4, mkInt .i64 k)], regs := [⟨.cells (zeros 32), 23⟩, ⟨.cells ((upTo 16 a).map (SC.int .i64)), 44⟩], conds := [] }
noncomputable def XP : Code := bodyOf Try.prog 30 3
theorem pack_yes0 (RC : F1) (a : Nat → Int) : stepOf (ctxL Try.prog (lR RC) (yesNo [65] []) (open_ []) noLoop) Try.prog 300 0 XP slP (sP a 0) = some (.normal, (sP (at_ (packM a)) 1).with [(packB a == 0) = true]) := by kernel_rfl
theorem pack_no0 (RC : F1) (a : Nat → Int) : stepOf (ctxL Try.prog (lR RC) (yesNo [] [65]) (open_ []) noLoop) Try.prog 300 0 XP slP (sP a 0) = some (.normal, (sP a 1).with [(packB a == 0) = false]) := by kernel_rfl
theorem pack_yes1 (RC : F1) (a : Nat → Int) : stepOf (ctxL Try.prog (lR RC) (yesNo [65] []) (open_ []) noLoop) Try.prog 300 0 XP slP (sP a 1) = some (.normal, (sP (at_ (packM a)) 2).with [(packB a == 0) = true]) := by kernel_rfl
theorem pack_no1 (RC : F1) (a : Nat → Int) : stepOf (ctxL Try.prog (lR RC) (yesNo [] [65]) (open_ []) noLoop) Try.prog 300 0 XP slP (sP a 1) = some (.normal, (sP a 2).with [(packB a == 0) = false]) := by kernel_rfl
theorem pack_end (RC : F1) (a : Nat → Int) : stepOf (ctxL Try.prog (lR RC) (yesNo [] []) (open_ []) noLoop) Try.prog 300 0 XP slP (sP a 2) = some (.exit 0, (sP a 2).with []) := by kernel_rfl
def PA (a : Nat → Int) : Nat → Int := fun i => bif packB a == 0 then at_ (packM a) i else a i
def PK (a : Nat → Int) : Nat → Nat → Int
  | 0 => a
  | k + 1 => PA (PK a k)
def loopP (a : Nat → Int) (id : Nat) : Option SLoop := bif id == 3 then some { slots := slP, at_ := fun k => sP (PK a k) k, n := 2, ex := .exit 0, out := sP (PK a 2) 2 } else none
def rar3 (RC : F1) (a : Nat → Int) : Nat → Int := RC (K 16 (RC (K 16 (RC (K 16 a)))))
def psP (RC : F1) (a : Nat → Int) : List Prop :=
  [St.same (sP (rar3 RC a) 0) (sP (rar3 RC a) ((0 : Nat) : Int)), ∀ k, k < 2 → StepsTo Try.prog 0 XP (sP (PK (rar3 RC a) k) k) .normal (sP (PK (rar3 RC a) (k + 1)) ((k + 1 : Nat) : Int)),
   StepsTo Try.prog 0 XP (sP (PK (rar3 RC a) 2) (2 : Nat)) (.exit 0) (sP (PK (rar3 RC a) 2) 2), True]
theorem pack_runs (RC : F1) (a : Nat → Int) : runOf (ctxL Try.prog (lR RC) (yesNo [] []) (open_ []) (loopP (rar3 RC a))) Try.prog 500 30 [ints .i64 (upTo 16 a)] = some (ints .u8 (outL (PK (rar3 RC a) 2)), psP RC a) := by kernel_rfl
end Go.Proofs.Ytbhmfgjdphphcaa
