/-
  How a run's conditions are laid. Conditions: none.
-/
import Derived.Test.YtkdclndbnmhbfaaSxRun
namespace Go.SX

structure AllOf (l : List Prop) : Prop where
  holds : Holds l
theorem AllOf.nil : AllOf [] := ⟨Holds.nil⟩
theorem AllOf.app {l l' : List Prop} (h : AllOf l) (h' : AllOf l') : AllOf (l ++ l') := ⟨fun p hp => (List.mem_append.1 hp).elim (h.holds p) (h'.holds p)⟩
theorem AllOf.cons {p : Prop} {l : List Prop} (h : p) (h' : AllOf l) : AllOf (p :: l) := ⟨fun q hq => by
  rcases List.mem_cons.1 hq with rfl | hq
  · exact h
  · exact h'.holds q hq⟩
theorem AllOf.rep {p : Prop} {n : Nat} (h : p) : AllOf (List.replicate n p) := ⟨fun q hq => by
  rw [List.eq_of_mem_replicate hq]; exact h⟩

theorem vw_den (η : Asg) (a : Option Addr) (n ca : Nat) (k : IntKind) (f : Nat → Int) : (SV.one (.sc (.vw a n ca k f))).den η = .slice a n ca := rfl
theorem mkBool_den (η : Asg) (b : Bool) : (mkBool b).den η = .bool b := rfl
end Go.SX
