/-
  Both inverses, run: the powers one by one. Conditions: none.
-/
import Derived.Test.YtbhmfgjdphphcaaCrv
namespace Go.Proofs.Ytbhmfgjdphphcaa
open Go Go.SX
open Go.RowKit (Below)

def mk (ML : F2) (a b : Nat → Int) : Nat → Int := ML (K 16 a) (K 16 b)
def slV : List Nat := [1, 2, 3, 4]
def sV (f t : Nat) (a c : Nat → Int) (k : Int) : St :=
  { fid := f, n := 23, fr := mkFr [(1, .one (.sc (.ptr 0 0))), (2, .one (.sc (.ptr 1 0))), (3, .one (.sc (.ptr 2 0))), (4, mkInt .i64 k)],
    regs := [⟨.cells ((upTo 16 a).map (SC.int .i64)), t⟩, ⟨.cells ((List.replicate 16 0).map (SC.int .i64)), t⟩, ⟨.cells ((upTo 16 c).map (SC.int .i64)), t⟩], conds := [] }
def lV (g : Nat) (ML : F2) : List (Nat × Orc) := [(g, orcA2 .i64 16 .i64 16 .i64 16 ML)]
noncomputable def XV : Code := bodyOf Try.prog 25 3
noncomputable def XU : Code := bodyOf Try.prog 31 3
def psI (m : Nat) : List Prop := [((m : Int) != 4) = true, ((m : Int) != 2) = true, decide ((m : Int) ≥ 0) = true]
theorem inv_gen (ML : F2) (a c : Nat → Int) (m : Nat) : stepOf (ctxL Try.prog (lV 23 ML) (yesNo [7, 14, 17] []) (open_ []) noLoop) Try.prog 100 0 XV slV (sV 25 37 a c m) = some (.normal, (sV 25 37 a (mk ML (mk ML c c) a) (IntKind.i64.wrap ((m : Int) - 1))).with (psI m)) := by kernel_rfl
theorem inv_two (ML : F2) (a c : Nat → Int) : stepOf (ctxL Try.prog (lV 23 ML) (yesNo [] []) (open_ []) noLoop) Try.prog 100 0 XV slV (sV 25 37 a c 2) = some (.normal, (sV 25 37 a (mk ML c c) 1).with []) := by kernel_rfl
theorem inv_four (ML : F2) (a c : Nat → Int) : stepOf (ctxL Try.prog (lV 23 ML) (yesNo [] []) (open_ []) noLoop) Try.prog 100 0 XV slV (sV 25 37 a c 4) = some (.normal, (sV 25 37 a (mk ML c c) 3).with []) := by kernel_rfl
theorem inv_end (ML : F2) (a c : Nat → Int) : stepOf (ctxL Try.prog (lV 23 ML) (yesNo [] []) (open_ []) noLoop) Try.prog 100 0 XV slV (sV 25 37 a c (-1)) = some (.exit 0, (sV 25 37 a c (-1)).with []) := by kernel_rfl
theorem rinv_gen (ML : F2) (a c : Nat → Int) (m : Nat) : stepOf (ctxL Try.prog (lV 29 ML) (yesNo [7, 14, 17] []) (open_ []) noLoop) Try.prog 100 0 XU slV (sV 31 44 a c m) = some (.normal, (sV 31 44 a (mk ML (mk ML c c) a) (IntKind.i64.wrap ((m : Int) - 1))).with (psI m)) := by kernel_rfl
theorem rinv_two (ML : F2) (a c : Nat → Int) : stepOf (ctxL Try.prog (lV 29 ML) (yesNo [] []) (open_ []) noLoop) Try.prog 100 0 XU slV (sV 31 44 a c 2) = some (.normal, (sV 31 44 a (mk ML c c) 1).with []) := by kernel_rfl
theorem rinv_four (ML : F2) (a c : Nat → Int) : stepOf (ctxL Try.prog (lV 29 ML) (yesNo [] []) (open_ []) noLoop) Try.prog 100 0 XU slV (sV 31 44 a c 4) = some (.normal, (sV 31 44 a (mk ML c c) 3).with []) := by kernel_rfl
theorem rinv_end (ML : F2) (a c : Nat → Int) : stepOf (ctxL Try.prog (lV 29 ML) (yesNo [] []) (open_ []) noLoop) Try.prog 100 0 XU slV (sV 31 44 a c (-1)) = some (.exit 0, (sV 31 44 a c (-1)).with []) := by kernel_rfl

/-- The power behind k rounds. -/
def IV (ML : F2) (a : Nat → Int) : Nat → Nat → Int
  | 0 => a
  | k + 1 => bif k == 251 || k == 249 then mk ML (IV ML a k) (IV ML a k) else mk ML (mk ML (IV ML a k) (IV ML a k)) a
def loopV (f t : Nat) (ML : F2) (a : Nat → Int) (id : Nat) : Option SLoop := bif id == 3 then some { slots := slV, at_ := fun k => sV f t a (IV ML a k) (253 - (k : Int)), n := 254, ex := .exit 0, out := sV f t a (IV ML a 254) (-1) } else none
def psV (f t : Nat) (X : Code) (ML : F2) (a : Nat → Int) : List Prop :=
  [St.same (sV f t a a 253) (sV f t a a (253 - ((0 : Nat) : Int))), ∀ k, k < 254 → StepsTo Try.prog 0 X (sV f t a (IV ML a k) (253 - (k : Int))) .normal (sV f t a (IV ML a (k + 1)) (253 - ((k + 1 : Nat) : Int))),
   StepsTo Try.prog 0 X (sV f t a (IV ML a 254) (253 - ((254 : Nat) : Int))) (.exit 0) (sV f t a (IV ML a 254) (-1)), True]
theorem inv_runs (ML : F2) (a : Nat → Int) : runOf (ctxL Try.prog (lV 23 ML) (yesNo [] []) (open_ []) (loopV 25 37 ML a)) Try.prog 500 25 [ints .i64 (upTo 16 a)] = some (ints .i64 (upTo 16 (IV ML a 254)), psV 25 37 XV ML a) := by kernel_rfl
theorem rinv_runs (ML : F2) (a : Nat → Int) : runOf (ctxL Try.prog (lV 29 ML) (yesNo [] []) (open_ []) (loopV 31 44 ML a)) Try.prog 500 31 [ints .i64 (upTo 16 a)] = some (ints .i64 (upTo 16 (IV ML a 254)), psV 31 44 XU ML a) := by kernel_rfl
end Go.Proofs.Ytbhmfgjdphphcaa
