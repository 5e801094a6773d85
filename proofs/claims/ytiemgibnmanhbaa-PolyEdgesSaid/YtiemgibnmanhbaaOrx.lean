/-
  Functions of arrays of integers as the executor's oracles. Conditions: none.
-/
import Derived.Test.YtiemgibnmanhbaaSxEnd
namespace Go.SX
open Go.RowKit (Below)

def arrOf (k : IntKind) (m : Nat) : SV → Option (Nat → Int)
  | .one (.agg l) => match intsOf k l with
    | some zs => bif zs.length == m then some (fun i => zs.getD i 0) else none
    | none => none
  | _ => none
theorem arrOf_den {k : IntKind} {m : Nat} {v : SV} {a : Nat → Int} (h : arrOf k m v = some a) (η : Asg) : v.den η = (ints k (upTo m a)).den η := by
  unfold arrOf at h
  split at h
  · rename_i l
    split at h
    · rename_i zs hz
      cases hl : zs.length == m with
      | false => simp [hl] at h
      | true =>
        simp only [hl, cond_true, Option.some.injEq] at h
        subst h
        have : zs.length = m := by simpa using hl
        subst this
        rw [upTo_getD, ints_den, intsOf_spec hz]
        simp [SV.den, S1.den, Function.comp_def, SC.den]
    · cases h
  · cases h

/-- One array to one. -/
def orcA1 (k : IntKind) (m : Nat) (k' : IntKind) (m' : Nat) (F : (Nat → Int) → Nat → Int) : Orc := fun vs _ => match vs with
  | [x] => match arrOf k m x with
    | some a => some (.val (ints k' (upTo m' (F a))) [])
    | none => none
  | _ => none
/-- Two arrays to one. -/
def orcA2 (k : IntKind) (m : Nat) (k1 : IntKind) (m1 : Nat) (k' : IntKind) (m' : Nat) (F : (Nat → Int) → (Nat → Int) → Nat → Int) : Orc := fun vs _ => match vs with
  | [x, y] => match arrOf k m x, arrOf k1 m1 y with
    | some a, some b => some (.val (ints k' (upTo m' (F a b))) [])
    | _, _ => none
  | _ => none

section
variable {P : Program}

theorem a1_one {f : Nat} {k k' : IntKind} {m m' : Nat} {F : (Nat → Int) → Nat → Int} (hb : ((P.funcs[f]?).map fun fn => fn.body.isSome).getD false = true)
    (h : ∀ (a : Nat → Int) (η : Asg) (w : World), Calls P f ([ints k (upTo m a)].map (SV.den η)).toArray w fun e w' => e = .returned ((ints k' (upTo m' (F a))).den η) ∧ Below w.heap.size w w') : OneOK P f (orcA1 k m k' m' F) := by
  refine ⟨body_ok _ _ hb, ?_⟩
  intro vs g res hr _ W η E w _ _ _
  unfold orcA1 at hr
  split at hr
  · rename_i x
    split at hr
    · rename_i a ha
      simp only [Option.some.injEq] at hr
      subst hr
      refine ⟨SV.plain_in (ints_plain _ _), ?_⟩
      have := h a η w
      simp only [List.map_cons, List.map_nil] at this ⊢
      rw [arrOf_den ha]
      exact this
    · cases hr
  · cases hr
theorem a2_one {f : Nat} {k k1 k' : IntKind} {m m1 m' : Nat} {F : (Nat → Int) → (Nat → Int) → Nat → Int} (hb : ((P.funcs[f]?).map fun fn => fn.body.isSome).getD false = true)
    (h : ∀ (a b : Nat → Int) (η : Asg) (w : World), Calls P f ([ints k (upTo m a), ints k1 (upTo m1 b)].map (SV.den η)).toArray w fun e w' => e = .returned ((ints k' (upTo m' (F a b))).den η) ∧ Below w.heap.size w w') :
    OneOK P f (orcA2 k m k1 m1 k' m' F) := by
  refine ⟨body_ok _ _ hb, ?_⟩
  intro vs g res hr _ W η E w _ _ _
  unfold orcA2 at hr
  split at hr
  · rename_i x y
    split at hr
    · rename_i a b ha hb
      simp only [Option.some.injEq] at hr
      subst hr
      refine ⟨SV.plain_in (ints_plain _ _), ?_⟩
      have := h a b η w
      simp only [List.map_cons, List.map_nil] at this ⊢
      rw [arrOf_den ha, arrOf_den hb]
      exact this
    · cases hr
  · cases hr

/-- The list that a run comes to, place by place. -/
def at_ (L : List Int) (i : Nat) : Int := L.getD i 0
theorem upTo_list {L : List Int} {m : Nat} (h : L.length = m) : upTo m (at_ L) = L := by subst h; exact upTo_getD L

theorem a1_run {C : Ctx} (hC : TyOK P C) (hO : OrcOK P C) (hS : SemOK P C) (hN : NamesOK P) (hm : P.follows .mixedOrders = true) {fuel f : Nat} {k k' : IntKind} {m m' : Nat} {L : (Nat → Int) → List Int}
    (hb : ((P.funcs[f]?).map fun fn => fn.body.isSome).getD false = true) (hr : ∀ a, runOf C P fuel f [ints k (upTo m a)] = some (ints k' (L a), [])) (hl : ∀ a, (L a).length = m') : OneOK P f (orcA1 k m k' m' fun a => at_ (L a)) :=
  a1_one hb fun a η w => by
    rw [upTo_list (hl a)]
    exact calls_of_run' hC hO hS hN hm (hr a) Holds.nil η w (plain_all (by rw [List.all_cons, ints_plain]; rfl) w) (SV.plain_in (ints_plain _ _))
theorem a2_run {C : Ctx} (hC : TyOK P C) (hO : OrcOK P C) (hS : SemOK P C) (hN : NamesOK P) (hm : P.follows .mixedOrders = true) {fuel f : Nat} {k k1 k' : IntKind} {m m1 m' : Nat} {L : (Nat → Int) → (Nat → Int) → List Int}
    (hb : ((P.funcs[f]?).map fun fn => fn.body.isSome).getD false = true) (hr : ∀ a b, runOf C P fuel f [ints k (upTo m a), ints k1 (upTo m1 b)] = some (ints k' (L a b), [])) (hl : ∀ a b, (L a b).length = m') :
    OneOK P f (orcA2 k m k1 m1 k' m' fun a b => at_ (L a b)) :=
  a2_one hb fun a b η w => by
    rw [upTo_list (hl a b)]
    exact calls_of_run' hC hO hS hN hm (hr a b) Holds.nil η w (plain_all (by rw [List.all_cons, List.all_cons, ints_plain, ints_plain]; rfl) w) (SV.plain_in (ints_plain _ _))
end

/-- An array's elements as the oracles have them. -/
def K (n : Nat) (f : Nat → Int) : Nat → Int := fun i => (upTo n f).getD i 0
theorem K_at (n : Nat) (f : Nat → Int) (i : Nat) (h : i < n) : K n f i = f i := by simp [K, upTo, List.getD, h]
/-- Slots whose tests are answered yes, and no. -/
def yesNo (yes no : List Nat) (t : Nat) : Option Ans := bif yes.contains t then some (.b true) else bif no.contains t then some (.b false) else none
/-- The same, and numbers told. -/
def telling (yes no : List Nat) (l : List (Nat × Int)) (t : Nat) : Option Ans := bif yes.contains t then some (.b true) else bif no.contains t then some (.b false) else (l.find? fun p => p.1 == t).map fun p => .i p.2
def open_ (l : List Nat) (t : Nat) : Bool := l.contains t
/-- A context of oracles, answers, open places, told loops. -/
noncomputable def ctxL (P : Program) (l : List (Nat × Orc)) (hint : Nat → Option Ans) (sym : Nat → Bool) (sl : Nat → Option SLoop) : Ctx :=
  { ctxOf P (orcList l) with hint := fun _ s => hint s, sym := fun _ s => sym s, sloop := fun _ i => sl i, sem := StepsTo P }
theorem ctxL_ty (P : Program) (l : List (Nat × Orc)) (hint : Nat → Option Ans) (sym : Nat → Bool) (sl : Nat → Option SLoop) : TyOK P (ctxL P l hint sym sl) := tyOf_ok _ _ rfl rfl
theorem ctxL_sem (P : Program) (l : List (Nat × Orc)) (hint : Nat → Option Ans) (sym : Nat → Bool) (sl : Nat → Option SLoop) : SemOK P (ctxL P l hint sym sl) := sem_ok _ _ rfl
theorem ctxL_orc (P : Program) (l : List (Nat × Orc)) (hint : Nat → Option Ans) (sym : Nat → Bool) (sl : Nat → Option SLoop) (h : ∀ x ∈ l, OneOK P x.1 x.2) : OrcOK P (ctxL P l hint sym sl) := orcList_ok rfl h
def noLoop (_ : Nat) : Option SLoop := none
/-- The same with slots that stay ahead of a region (by its number). -/
noncomputable def ctxK (P : Program) (l : List (Nat × Orc)) (hint : Nat → Option Ans) (sym : Nat → Bool) (sl : Nat → Option SLoop) (keep : Nat → Option (List Nat)) : Ctx :=
  { ctxL P l hint sym sl with keep := fun _ i => keep i }
theorem ctxK_ty (P : Program) (l : List (Nat × Orc)) (hint : Nat → Option Ans) (sym : Nat → Bool) (sl : Nat → Option SLoop) (keep : Nat → Option (List Nat)) : TyOK P (ctxK P l hint sym sl keep) := tyOf_ok _ _ rfl rfl
theorem ctxK_sem (P : Program) (l : List (Nat × Orc)) (hint : Nat → Option Ans) (sym : Nat → Bool) (sl : Nat → Option SLoop) (keep : Nat → Option (List Nat)) : SemOK P (ctxK P l hint sym sl keep) := sem_ok _ _ rfl
theorem ctxK_orc (P : Program) (l : List (Nat × Orc)) (hint : Nat → Option Ans) (sym : Nat → Bool) (sl : Nat → Option SLoop) (keep : Nat → Option (List Nat)) (h : ∀ x ∈ l, OneOK P x.1 x.2) : OrcOK P (ctxK P l hint sym sl keep) := orcList_ok rfl h
def keep1 (id : Nat) (l : List Nat) (i : Nat) : Option (List Nat) := bif i == id then some l else none
end Go.SX
