/-
  PolyEdges comes to true. Conditions: those of a parameter's values.
-/
import Derived.Test.YtiemgibnmanhbaaQEdO
namespace Go.Proofs.Ytiemgibnmanhbaa
open Go Go.SX
open Go.RowKit (Below)

/-- What is asked where each order of a region is gone through. -/
def anyC (ops : Array Oper) (cs : Nat → List Prop) (Q : Prop) : Nat → Array Bool → List Prop
  | 0, _ => []
  | f + 1, listed => match Region.ready .any ops listed with
    | [] => []
    | i :: is => is.foldl (fun acc j => (Q :: (anyC ops cs Q f (listed.setIfInBounds j true) ++ cs j)) ++ acc) (anyC ops cs Q f (listed.setIfInBounds i true) ++ cs i)
theorem anyC_ok {ops : Array Oper} {cs : Nat → List Prop} {Q : Prop} (hc : ∀ i, AllOf (cs i)) (hq : Q) : ∀ f listed, AllOf (anyC ops cs Q f listed) := by
  intro f
  induction f with
  | zero => intro _; exact AllOf.nil
  | succ f ih =>
    intro listed
    unfold anyC
    split
    · exact AllOf.nil
    · rename_i i is _
      have key : ∀ (is : List Nat) (acc : List Prop), AllOf acc → AllOf (is.foldl (fun acc j => (Q :: (anyC ops cs Q f (listed.setIfInBounds j true) ++ cs j)) ++ acc) acc) := by
        intro is
        induction is with
        | nil => intro acc h; exact h
        | cons j is ih2 => intro acc h; exact ih2 _ ((AllOf.cons hq ((ih _).app (hc j))).app h)
      exact key is _ ((ih _).app (hc i))
def findReg (id : Nat) : Code → Option Code
  | .region i o d => bif i == id then some (.region i o d) else none
  | .loop x => findReg id x
  | .seq a b => match findReg id a with
    | some c => some c
    | none => findReg id b
  | .cond _ a b => match findReg id a with
    | some c => some c
    | none => findReg id b
  | .block _ x => findReg id x
  | .scope x => findReg id x
  | _ => none
noncomputable def opsAt (f id : Nat) : Array Oper := match ((Try.prog.funcs[f]?).bind (·.body)).bind (findReg id) with
  | some (.region _ o _) => o
  | _ => #[]

def stF (v : Int) (f : Nat → Int) (j : Nat) : Nat → Int := fun i => if i = 0 + j then v else f i
/-- Sixteen cells of one value, stored one by one. -/
def rowF (v : Int) : Nat → Int := (List.range 16).foldl (stF v) (fun _ => 0)
def psAll : List Prop := ((List.range 16).map fun i => 0 + (15 - i) < 16) ++ [(16 : Int) = 16, (0 : Int) ≤ 16, (16 : Int) ≤ 1000000000]
def psNum (w r : Int) : List Prop := [w % 4 = r, (1 : Int) ≤ 4, (4 : Int) ≤ 1000000]
def tgP (TG : TgF) (key : List Int) (n : Nat) (f : Nat → Int) (out : List Int) : Prop := decide (upTo 16 (TG (at_ key) n (K n f)) = out) = true
def eK2 : List Int := 2 :: List.replicate 31 0
def eK1 : List Int := 1 :: List.replicate 31 0
def eK3 : List Int := (2 :: List.replicate 15 0) ++ List.replicate 16 255
theorem edges_0 (TG : TgF) (w : Int) : runOf (ctxL Try.prog (lE TG 0) (yesNo [40] []) (open_ []) noLoop) Try.prog 1000 4 [mkInt .i64 w] =
    some (mkBool true, [tgP TG eK2 16 (rowF 255) (3 :: List.replicate 15 0), 0 + 16 ≤ 16, 16 ≤ 16, 16 ≤ 1000000, byteF (at_ eK2), byteF (K 16 (rowF 255))] ++ (psNum w 0 ++ psAll)) := by kernel_rfl
theorem edges_1 (TG : TgF) (w : Int) : runOf (ctxL Try.prog (lE TG 1) (yesNo [56] []) (open_ []) noLoop) Try.prog 1000 4 [mkInt .i64 w] =
    some (mkBool true, [tgP TG eK3 16 (at_ (2 :: List.replicate 15 0)) (3 :: List.replicate 15 0), 0 + 16 ≤ 16, 16 ≤ 16, 16 ≤ 1000000, byteF (at_ eK3), byteF (K 16 (at_ (2 :: List.replicate 15 0)))] ++ (psNum w 1 ++ psAll)) := by kernel_rfl

/-! Three blocks in one slice. -/
def two (f h : Nat → Int) : Nat → Int := fun i => if i < 16 then f i else h (i - 16)
def three (g d : Nat → Int) : Nat → Int := fun i => bif Nat.blt i 32 then g i else d (i - 32)
def cpF (f : Nat → Int) : Nat → Int := fun i => f (0 + i)
def slR (f : Nat → Int) : Nat → Int := fun i => f (0 + i)
def own5 (n : Nat) (f : Nat → Int) : Reg := ⟨.own .u8 n f, 5⟩
def keepE (s : Nat) (l : List Nat) (id : Nat) : Option (List Nat) := bif id == s then some l else none
/-- The state behind the last region. -/
def xE (TG : TgF) (key : List Int) (g d : Nat → Int) (out : List Int) (b dd t : Nat) : St :=
  { fid := 4, n := 117, fr := mkFr [(2, mkBool true), (3, mkBool true), (4, .one (.sc (.ptr 0 0))), (b, .one (.sc (.slU 1 0 32 0))), (dd, .one (.sc (.sl 2 0 16 16))), (t, mkBool true), (t + 1, mkBool true), (t + 2, ints .u8 key), (t + 3, .one (.sc (.slU 1 0 32 0))),
      (t + 4, .one (.sc (.sl 2 0 16 16))), (t + 5, .one (.sc (.slU 3 0 48 0))), (t + 6, ints .u8 (upTo 16 (TG (at_ key) 48 (K 48 (slR (three (slR g) (slR d))))))), (t + 7, ints .u8 out), (t + 8, mkBool true), (t + 9, mkBool true)],
    regs := [⟨.cells (key.map (SC.int .u8)), 23⟩, ⟨.gone, 5⟩, own5 16 d, own5 48 (three g (slR d))], conds := [] }
def csE (TG : TgF) (key : List Int) (g d : Nat → Int) (out : List Int) (i : Nat) : List Prop :=
  match i with
  | 5 => [0 + 16 ≤ 16, 0 < 16, 32 + 16 ≤ 1000000]
  | 6 => [0 + 48 ≤ 48, 48 ≤ 1000000, byteF (at_ key), byteF (K 48 (slR (three g (slR d))))]
  | 8 => [tgP TG key 48 (slR (three g (slR d))) out]
  | _ => []
def g2 : Nat → Int := two (slR (slR (rowF 255))) (slR (stF 240 (slR (rowF 255)) 0))
def d2 : Nat → Int := stF 17 (fun _ => 0) 0
def psE2 (w : Int) : List Prop := [0 + 0 < 16, (16 : Int) = 16, (0 : Int) ≤ 16, (16 : Int) ≤ 1000000000, 0 + 16 ≤ 16, 0 + 16 ≤ 16, 16 < 16 + 16, 16 ≤ 16, 0 < 16, 16 + 16 ≤ 1000000, 0 + 0 < 16, 0 + 16 ≤ 16, 16 ≤ 1000000, 0 + 16 ≤ 16, 16 ≤ 1000000] ++ (psNum w 2 ++ psAll)
def st16 : List Prop := (List.range 16).map fun i => 0 + (15 - i) < 16
def mk16 : List Prop := [(16 : Int) = 16, (0 : Int) ≤ 16, (16 : Int) ≤ 1000000000]
def g3 : Nat → Int := two (slR (slR (rowF 255))) (slR (stF 251 (rowF 254) 0))
def d3 : Nat → Int := rowF 1
def psE3 (w : Int) : List Prop := st16 ++ (mk16 ++ ([0 + 16 ≤ 16, 0 + 16 ≤ 16, 16 < 16 + 16, 16 ≤ 16, 0 < 16, 16 + 16 ≤ 1000000, 0 + 0 < 16] ++ (st16 ++ (mk16 ++ ([0 + 16 ≤ 16, 16 ≤ 1000000] ++ (psNum w 3 ++ psAll))))))
def o2 : List Int := 5 :: List.replicate 15 0
def o3 : List Int := List.replicate 16 0
noncomputable def any2 (TG : TgF) : List Prop := anyC (opsAt 4 29) (csE TG eK1 g2 d2 o2) (St.same (xE TG eK1 g2 d2 o2 9 11 73) (xE TG eK1 g2 d2 o2 9 11 73)) 11 (Array.replicate 11 false)
noncomputable def any3 (TG : TgF) : List Prop := anyC (opsAt 4 44) (csE TG eK1 g3 d3 o3) (St.same (xE TG eK1 g3 d3 o3 12 15 107) (xE TG eK1 g3 d3 o3 12 15 107)) 11 (Array.replicate 11 false)
theorem edges_2 (TG : TgF) (w : Int) : runOf (ctxK Try.prog (lE TG 2) (yesNo [81] []) (open_ [10029]) noLoop (keepE 29 [3, 4, 9, 11])) Try.prog 1000 4 [mkInt .i64 w] = some (mkBool true, any2 TG ++ psE2 w) := by kernel_rfl
theorem edges_3 (TG : TgF) (w : Int) : runOf (ctxK Try.prog (lE TG 3) (yesNo [115] []) (open_ [10044]) noLoop (keepE 44 [3, 4, 12, 15])) Try.prog 1000 4 [mkInt .i64 w] = some (mkBool true, any3 TG ++ psE3 w) := by kernel_rfl

/-! What they come to. -/
theorem byF_list (L : List Int) (h : L.all fun x => decide (0 ≤ x ∧ x ≤ 255)) : byteF (at_ L) := fun i => by
  unfold at_
  rw [List.getD_eq_getElem?_getD]
  cases hl : L[i]? with
  | none => exact ⟨by decide, by decide⟩
  | some x =>
    have := List.all_eq_true.1 h x (List.mem_of_getElem? hl)
    simpa using this
theorem byF_K (n : Nat) (f : Nat → Int) (h : (upTo n f).all fun x => decide (0 ≤ x ∧ x ≤ 255)) : byteF (K n f) := byF_list (upTo n f) h
theorem psAll_ok : AllOf psAll := (⟨fun p hp => by
  obtain ⟨i, _, rfl⟩ := List.mem_map.1 hp
  omega⟩ : AllOf _).app (.cons (by decide) (.cons (by decide) (.cons (by decide) .nil)))
theorem st16_ok : AllOf st16 := ⟨fun p hp => by
  obtain ⟨i, _, rfl⟩ := List.mem_map.1 hp
  omega⟩
theorem mk16_ok : AllOf mk16 := .cons (by decide) (.cons (by decide) (.cons (by decide) .nil))
theorem psNum_ok (w r : Int) (h : w % 4 = r) : AllOf (psNum w r) := .cons h (.cons (by decide) (.cons (by decide) .nil))
theorem csE_ok (key : List Int) (g d : Nat → Int) (out : List Int) (hk : byteF (at_ key)) (hf : byteF (K 48 (slR (three g (slR d))))) (h : tgP TGc key 48 (slR (three g (slR d))) out) (i : Nat) : AllOf (csE TGc key g d out i) := by
  unfold csE
  split
  · exact .cons (by omega) (.cons (by omega) (.cons (by omega) .nil))
  · exact .cons (by omega) (.cons (by omega) (.cons hk (.cons hf .nil)))
  · exact .cons h .nil
  · exact .nil
theorem tg0 : tgP TGc eK2 16 (rowF 255) (3 :: List.replicate 15 0) := by unfold tgP; decide +kernel
theorem tg1 : tgP TGc eK3 16 (at_ (2 :: List.replicate 15 0)) (3 :: List.replicate 15 0) := by unfold tgP; decide +kernel
theorem tg2 : tgP TGc eK1 48 (slR (three g2 (slR d2))) o2 := by unfold tgP; decide +kernel
theorem tg3 : tgP TGc eK1 48 (slR (three g3 (slR d3))) o3 := by unfold tgP; decide +kernel
theorem int_in (k' : IntKind) (n : Int) (w : World) : ∀ x ∈ [mkInt k' n], x.In w fun _ => False := plain_all rfl w
theorem edges_any (which : Int) (w : World) (_ : (Lit.int .i64 which).wf = true) : Calls Try.prog 4 #[.int .i64 which] w fun e w' => e = .returned (.bool true) ∧ Below w.heap.size w w' := by
  have h4 : which % 4 = 0 ∨ which % 4 = 1 ∨ which % 4 = 2 ∨ which % 4 = 3 := by omega
  rcases h4 with h | h | h | h
  · have := calls_of_run' (ctxL_ty _ _ _ _ _) (ctxL_orc _ _ _ _ _ (lE_ok 0)) (ctxL_sem _ _ _ _ _) names mixed (edges_0 TGc which)
      (AllOf.holds ((AllOf.cons tg0 (.cons (by omega) (.cons (by omega) (.cons (by omega) (.cons (byF_list _ (by decide +kernel)) (.cons (byF_K _ _ (by decide +kernel)) .nil)))))).app ((psNum_ok _ _ h).app psAll_ok))) nil w (int_in _ _ _) (fun _ => trivial)
    simpa only [List.map_cons, List.map_nil, mkInt_den, mkBool_den] using this
  · have := calls_of_run' (ctxL_ty _ _ _ _ _) (ctxL_orc _ _ _ _ _ (lE_ok 1)) (ctxL_sem _ _ _ _ _) names mixed (edges_1 TGc which)
      (AllOf.holds ((AllOf.cons tg1 (.cons (by omega) (.cons (by omega) (.cons (by omega) (.cons (byF_list _ (by decide +kernel)) (.cons (byF_K _ _ (by decide +kernel)) .nil)))))).app ((psNum_ok _ _ h).app psAll_ok))) nil w (int_in _ _ _) (fun _ => trivial)
    simpa only [List.map_cons, List.map_nil, mkInt_den, mkBool_den] using this
  · have hp : AllOf (psE2 which) := (AllOf.cons (by omega) (.cons (by decide) (.cons (by decide) (.cons (by decide) (.cons (by omega) (.cons (by omega) (.cons (by omega) (.cons (by omega) (.cons (by omega) (.cons (by omega) (.cons (by omega) (.cons (by omega) (.cons (by omega) (.cons (by omega) (.cons (by omega) .nil))))))))))))))).app
      ((psNum_ok _ _ h).app psAll_ok)
    have := calls_of_run' (ctxK_ty _ _ _ _ _ _) (ctxK_orc _ _ _ _ _ _ (lE_ok 2)) (ctxK_sem _ _ _ _ _ _) names mixed (edges_2 TGc which)
      (AllOf.holds ((anyC_ok (csE_ok eK1 g2 d2 o2 (byF_list _ (by decide +kernel)) (byF_K _ _ (by decide +kernel)) tg2) (St.same_refl _) _ _).app hp)) nil w (int_in _ _ _) (fun _ => trivial)
    simpa only [List.map_cons, List.map_nil, mkInt_den, mkBool_den] using this
  · have hp : AllOf (psE3 which) := st16_ok.app (mk16_ok.app ((AllOf.cons (by omega) (.cons (by omega) (.cons (by omega) (.cons (by omega) (.cons (by omega) (.cons (by omega) (.cons (by omega) .nil))))))).app (st16_ok.app (mk16_ok.app
      ((AllOf.cons (by omega) (.cons (by omega) .nil)).app ((psNum_ok _ _ h).app psAll_ok))))))
    have := calls_of_run' (ctxK_ty _ _ _ _ _ _) (ctxK_orc _ _ _ _ _ _ (lE_ok 3)) (ctxK_sem _ _ _ _ _ _) names mixed (edges_3 TGc which)
      (AllOf.holds ((anyC_ok (csE_ok eK1 g3 d3 o3 (byF_list _ (by decide +kernel)) (byF_K _ _ (by decide +kernel)) tg3) (St.same_refl _) _ _).app hp)) nil w (int_in _ _ _) (fun _ => trivial)
    simpa only [List.map_cons, List.map_nil, mkInt_den, mkBool_den] using this
end Go.Proofs.Ytiemgibnmanhbaa
