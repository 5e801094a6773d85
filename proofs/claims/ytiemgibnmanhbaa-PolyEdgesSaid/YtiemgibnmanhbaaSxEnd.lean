/-
  How a run's conditions are laid. Conditions: none.
-/
import Derived.Test.YtiemgibnmanhbaaSxRun
namespace Go.SX

structure AllOf (l : List Prop) : Prop where
  holds : Holds l
theorem AllOf.nil : AllOf [] := ⟨Holds.nil⟩
theorem AllOf.app {l l' : List Prop} (h : AllOf l) (h' : AllOf l') : AllOf (l ++ l') := ⟨fun p hp => (List.mem_append.1 hp).elim (h.holds p) (h'.holds p)⟩
theorem AllOf.cons {p : Prop} {l : List Prop} (h : p) (h' : AllOf l) : AllOf (p :: l) := ⟨fun q hq => by
  rcases List.mem_cons.1 hq with rfl | hq
  · exact h
  · exact h'.holds q hq⟩
theorem AllOf.rep {p : Prop} {n : Nat} (h : p) : AllOf (List.replicate n p) := ⟨fun q hq => by
  rw [List.eq_of_mem_replicate hq]; exact h⟩

/-- A loop of a function by the number of its first region. -/
def findLoop (id : Nat) : Code → Option Code
  | .loop x => match firstRegion x with
    | some j => bif j == id then some x else findLoop id x
    | none => findLoop id x
  | .seq a b => match findLoop id a with
    | some c => some c
    | none => findLoop id b
  | .cond _ a b => match findLoop id a with
    | some c => some c
    | none => findLoop id b
  | .block _ x => findLoop id x
  | .scope x => findLoop id x
  | _ => none
def bodyOf (P : Program) (f id : Nat) : Code := (((P.funcs[f]?).bind (·.body)).bind (findLoop id)).getD .skip
def mkFr (l : List (Nat × SV)) : T := l.foldl (fun acc p => T.set 12 acc p.1 (some p.2)) .e
def St.with (st : St) (ps : List Prop) : St :=
  match st with
  | ⟨fid, n, fr, regs, _⟩ => ⟨fid, n, fr, regs, ps⟩
theorem St.same_refl (st : St) : St.same st st := ⟨rfl, rfl, rfl, rfl⟩
theorem St.with_same (st : St) (ps : List Prop) : St.same (st.with ps) st := by cases st; exact ⟨rfl, rfl, rfl, rfl⟩
theorem St.with_conds (st : St) (ps : List Prop) : (st.with ps).conds = ps := by cases st; rfl

theorem vw_den (η : Asg) (a : Option Addr) (n ca : Nat) (k : IntKind) (f : Nat → Int) : (SV.one (.sc (.vw a n ca k f))).den η = .slice a n ca := rfl
theorem mkBool_den (η : Asg) (b : Bool) : (mkBool b).den η = .bool b := rfl
end Go.SX
