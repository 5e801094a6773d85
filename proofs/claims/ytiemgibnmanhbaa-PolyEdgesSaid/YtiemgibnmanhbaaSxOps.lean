/-
  The executor's single operations are what the model's operations come to. Conditions: none.
-/
import Derived.Test.YtiemgibnmanhbaaSx
import Derived.ChangeKeysEq
import Derived.Laws.MakeOwn
import Derived.Laws.Small
import Derived.Laws.AppendOwn
import Derived.Laws.Unary
import Derived.Deep.AppendLies
namespace Go.SX
open Go.RowKit (Below)

theorem T.get_set : ∀ (f : Nat) (t : T) (i : Nat) (x : Option SV) (j : Nat), i + 1 < 2 ^ f → (T.set f t i x).get j = if i = j then x else t.get j
  | 0, _, i, _, _, h => by simp at h
  | f + 1, .e, i, x, j, h => by
    have ih := fun t i' x j' h' => T.get_set f t i' x j' h'
    rw [Nat.pow_succ] at h
    unfold T.set
    rcases Nat.lt_or_ge 0 i with h0 | h0
    · have hi : (i == 0) = false := by simp; omega
      by_cases ho : i % 2 = 1
      · simp only [hi, ho, cond_false, beq_self_eq_true, cond_true, T.get]
        by_cases hj : j = 0
        · subst hj; simp; omega
        · have hj' : (j == 0) = false := by simpa using hj
          simp only [hj', cond_false]
          by_cases hp : j % 2 = 1
          · simp only [hp, beq_self_eq_true, cond_true]; rw [ih _ _ _ _ (by omega)]
            by_cases hij : i = j
            · subst hij; simp
            · rw [if_neg (by omega), if_neg hij]; simp [T.get]
          · have hp' : (j % 2 == 1) = false := by simpa using hp
            simp only [hp', cond_false]; rw [if_neg (by omega)]
      · have ho' : (i % 2 == 1) = false := by simpa using ho
        simp only [hi, ho', cond_false, T.get]
        by_cases hj : j = 0
        · subst hj; simp; omega
        · have hj' : (j == 0) = false := by simpa using hj
          simp only [hj', cond_false]
          by_cases hp : j % 2 = 1
          · simp only [hp, beq_self_eq_true, cond_true]; rw [if_neg (by omega)]
          · have hp' : (j % 2 == 1) = false := by simpa using hp
            simp only [hp', cond_false]; rw [ih _ _ _ _ (by omega)]
            by_cases hij : i = j
            · subst hij; simp
            · rw [if_neg (by omega), if_neg hij]; simp [T.get]
    · obtain rfl : i = 0 := by omega
      simp only [beq_self_eq_true, cond_true, T.get]
      by_cases hj : j = 0
      · subst hj; simp
      · have hj' : (j == 0) = false := by simpa using hj
        simp only [hj', cond_false]; rw [if_neg (by omega)]; cases hb : (j % 2 == 1) <;> simp
  | f + 1, .n l v r, i, x, j, h => by
    have ih := fun t i' x j' h' => T.get_set f t i' x j' h'
    rw [Nat.pow_succ] at h
    unfold T.set
    rcases Nat.lt_or_ge 0 i with h0 | h0
    · have hi : (i == 0) = false := by simp; omega
      by_cases ho : i % 2 = 1
      · simp only [hi, ho, cond_false, beq_self_eq_true, cond_true, T.get]
        by_cases hj : j = 0
        · subst hj; simp; omega
        · have hj' : (j == 0) = false := by simpa using hj
          simp only [hj', cond_false]
          by_cases hp : j % 2 = 1
          · simp only [hp, beq_self_eq_true, cond_true]; rw [ih _ _ _ _ (by omega)]
            by_cases hij : i = j
            · subst hij; simp
            · rw [if_neg (by omega), if_neg hij]
          · have hp' : (j % 2 == 1) = false := by simpa using hp
            simp only [hp', cond_false]; rw [if_neg (by omega)]
      · have ho' : (i % 2 == 1) = false := by simpa using ho
        simp only [hi, ho', cond_false, T.get]
        by_cases hj : j = 0
        · subst hj; simp; omega
        · have hj' : (j == 0) = false := by simpa using hj
          simp only [hj', cond_false]
          by_cases hp : j % 2 = 1
          · simp only [hp, beq_self_eq_true, cond_true]; rw [if_neg (by omega)]
          · have hp' : (j % 2 == 1) = false := by simpa using hp
            simp only [hp', cond_false]; rw [ih _ _ _ _ (by omega)]
            by_cases hij : i = j
            · subst hij; simp
            · rw [if_neg (by omega), if_neg hij]
    · obtain rfl : i = 0 := by omega
      simp only [beq_self_eq_true, cond_true, T.get]
      by_cases hj : j = 0
      · subst hj; simp
      · have hj' : (j == 0) = false := by simpa using hj
        simp only [hj', cond_false]; rw [if_neg (by omega)]

/-! Denotations hang on the named regions alone. -/

theorem SC.den_congr {W : World} {E : Nat → Prop} {η η' : Asg} (h : ∀ r, E r → η r = η' r) {c : SC} (hc : c.In W E) : c.den η = c.den η' := by
  cases c <;> simp only [SC.den, SC.In] at * <;> rw [h _ hc]
theorem map_den_congr {W : World} {E : Nat → Prop} {η η' : Asg} (h : ∀ r, E r → η r = η' r) {l : List SC} (hl : ∀ c ∈ l, c.In W E) : l.map (SC.den η) = l.map (SC.den η') :=
  List.map_congr_left fun c hc => SC.den_congr h (hl c hc)
theorem S1.den_congr {W : World} {E : Nat → Prop} {η η' : Asg} (h : ∀ r, E r → η r = η' r) {s : S1} (hs : s.In W E) : s.den η = s.den η' := by
  cases s with
  | sc c => exact SC.den_congr (W := W) h hs
  | agg l => simp only [S1.den]; rw [map_den_congr h hs]
theorem SV.den_congr {W : World} {E : Nat → Prop} {η η' : Asg} (h : ∀ r, E r → η r = η' r) {v : SV} (hv : v.In W E) : v.den η = v.den η' := by
  cases v with
  | one s => exact S1.den_congr (W := W) h hv
  | tup l => simp only [SV.den]; rw [List.map_congr_left fun s hs => S1.den_congr h (hv s hs)]

theorem SC.In.mono {W : World} {E E' : Nat → Prop} (h : ∀ r, E r → E' r) {c : SC} (hc : c.In W E) : c.In W E' := by
  cases c <;> simp only [SC.In] at * <;> first | exact h _ hc | exact hc
theorem S1.In.mono {W : World} {E E' : Nat → Prop} (h : ∀ r, E r → E' r) {s : S1} (hs : s.In W E) : s.In W E' := by
  cases s with
  | sc c => exact SC.In.mono h hs
  | agg l => exact fun c hc => SC.In.mono h (hs c hc)
theorem SV.In.mono {W : World} {E E' : Nat → Prop} (h : ∀ r, E r → E' r) {v : SV} (hv : v.In W E) : v.In W E' := by
  cases v with
  | one s => exact S1.In.mono h hv
  | tup l => exact fun s hs => S1.In.mono h (hv s hs)
theorem Reg.In.mono {W : World} {E E' : Nat → Prop} (h : ∀ r, E r → E' r) {R : Reg} (hR : R.In W E) : R.In W E' := by
  unfold Reg.In at *
  cases hb : R.body with
  | cells l => rw [hb] at hR; exact fun c hc => SC.In.mono h (hR c hc)
  | own => trivial
  | gone => trivial

theorem S1.cells_den (η : Asg) (s : S1) : (s.den η).cells = (s.cells.map (SC.den η)).toArray := by
  cases s with
  | sc c => cases c <;> rfl
  | agg l => rfl
theorem S1.cells_in {E : Nat → Prop} {W : World} {s : S1} (h : s.In W E) : ∀ c ∈ s.cells, c.In W E := by
  cases s with
  | sc c => intro d hd; simp only [S1.cells, List.mem_singleton] at hd; subst hd; exact h
  | agg l => exact h

/-- The block is of the region's form. -/
def HasB (η : Asg) (w : World) (b : Nat × Nat) (R : Reg) : Prop :=
  match R.body with
  | .cells l => w.heap[b.1]? = some (.cells (l.map (SC.den η)).toArray R.elem (0, 0))
  | .own k n f => ∃ cs, w.heap[b.1]? = some (.cells cs R.elem (0, 0)) ∧ (cs.size = n + b.2 ∧ cs.size ≤ maxLen) ∧ ∀ i, i < n → cs[i]? = some (.int k (f i))
  | .gone => ∃ o, w.heap[b.1]? = some o
abbrev Has (η : Asg) (w : World) (r : Nat) (R : Reg) : Prop := HasB η w (η r) R

theorem HasB.congr {η : Asg} {w w' : World} {b : Nat × Nat} {R : Reg} (h : HasB η w b R) (hw : w'.heap[b.1]? = w.heap[b.1]?) : HasB η w' b R := by
  unfold HasB at *
  rw [hw]
  exact h
theorem HasB.den {W : World} {E : Nat → Prop} {η η' : Asg} {w : World} {b : Nat × Nat} {R : Reg} (h : HasB η w b R) (hR : R.In W E) (hη : ∀ r, E r → η r = η' r) : HasB η' w b R := by
  unfold HasB Reg.In at *
  cases hb : R.body with
  | cells l =>
    rw [hb] at h hR
    simp only at h hR ⊢
    rw [← map_den_congr hη hR]
    exact h
  | own k n f => rw [hb] at h; exact h
  | gone => rw [hb] at h; exact h
theorem HasB.lt {η : Asg} {w : World} {b : Nat × Nat} {R : Reg} (h : HasB η w b R) : b.1 < w.heap.size := by
  rcases Nat.lt_or_ge b.1 w.heap.size with h' | h'
  · exact h'
  · unfold HasB at h
    cases hb : R.body with
    | cells l => rw [hb] at h; simp [Array.getElem?_eq_none h'] at h
    | own k n f => rw [hb] at h; obtain ⟨cs, h1, _⟩ := h; simp [Array.getElem?_eq_none h'] at h1
    | gone => rw [hb] at h; obtain ⟨o, h1⟩ := h; simp [Array.getElem?_eq_none h'] at h1
theorem HasB.gone {η : Asg} {w w' : World} {b : Nat × Nat} {R : Reg} (h : HasB η w b R) (hs : w.heap.size ≤ w'.heap.size) (hg : R.body.live = false) : HasB η w' b R := by
  have hlt := h.lt
  unfold HasB
  cases hb : R.body with
  | gone => exact ⟨_, Array.getElem?_eq_getElem (by omega)⟩
  | cells l => rw [hb] at hg; cases hg
  | own k n f => rw [hb] at hg; cases hg

def Holds (l : List Prop) : Prop := ∀ p ∈ l, p
theorem Holds.nil : Holds [] := fun _ h => by cases h
theorem Holds.app {l l' : List Prop} (h : Holds (l ++ l')) : Holds l ∧ Holds l' := ⟨fun p hp => h p (by simp [hp]), fun p hp => h p (by simp [hp])⟩
theorem Holds.cons {p : Prop} {l : List Prop} (h : Holds (p :: l)) : p ∧ Holds l := ⟨h p (by simp), fun q hq => h q (by simp [hq])⟩

/-- One block is another one, all else stays. -/
structure WUpd (w w' : World) (b : Nat) (H : Prop) : Prop where
  os : w'.os = w.os
  tape : w'.tape = w.tape
  output : w'.output = w.output
  size : w'.heap.size = w.heap.size
  here : H
  other : ∀ k, k ≠ b → w'.heap[k]? = w.heap[k]?

structure TyOK (P : Program) (C : Ctx) : Prop where
  ok : ∀ t i, C.ty t = some i → P.underlying t = some i.desc ∧ ∃ inf, P.info? t = some inf ∧ inf.size = i.size ∧ inf.bytes = i.bytes ∧
    ∀ z, i.zero = some z → (∀ W, ∀ c ∈ z, c.In W fun _ => False) ∧ ∃ v, inf.zero = some v ∧ ∀ η, v.cells = (z.map (SC.den η)).toArray
  eqg : ∀ t, C.eqg t = true → P.eqGuardType P.depth t = false

section
variable {P : Program} {C : Ctx} {W : World}

theorem den_oneCell (η : Asg) (c : SC) : (c.den η).oneCell' = true := by cases c <;> rfl

theorem splice_length {l cs : List SC} {off : Nat} (h : off + cs.length ≤ l.length) : (splice l off cs).length = l.length := by
  simp [splice]; omega

/-- Cells stored one by one into a known row. -/
theorem run_storeCells (η : Asg) (b t : Nat) (cs : List SC) : ∀ (l : List SC) (off i : Nat) (w : World), w.heap[b]? = some (.cells (l.map (SC.den η)).toArray t (0, 0)) → off + i + cs.length ≤ l.length →
    ∃ w', (storeCells ⟨b, off, none⟩ (cs.map (SC.den η)) i).run P w = .ok () w' ∧ WUpd w w' b (w'.heap[b]? = some (.cells ((splice l (off + i) cs).map (SC.den η)).toArray t (0, 0))) := by
  induction cs with
  | nil =>
    intro l off i w hb h
    refine ⟨w, by simp [storeCells], rfl, rfl, rfl, rfl, ?_, fun _ _ => rfl⟩
    simpa [splice] using hb
  | cons c cs ih =>
    intro l off i w hb h
    simp only [List.length_cons] at h
    have hcell : w.cell? ⟨b, off + i, none⟩ = some ((l.map (SC.den η)).getD (off + i) undef) := by
      rw [cell_of_row w b (off + i) _ t (0, 0) hb]
      simp [List.getElem?_eq_getElem (show off + i < l.length by omega)]
    have hadd : Addr.add ⟨b, off, none⟩ i = ⟨b, off + i, none⟩ := Addr.add_lit b off i
    have hb' := heap_setCell_same w b (off + i) _ t (c.den η) hb
    have e1 : ((l.map (SC.den η)).toArray.setIfInBounds (off + i) (c.den η)) = ((l.set (off + i) c).map (SC.den η)).toArray := by
      simp [List.map_set]
    rw [e1] at hb'
    obtain ⟨w', hrun, hu⟩ := ih (l.set (off + i) c) off (i + 1) _ hb' (by simp; omega)
    refine ⟨w', ?_, ?_⟩
    · simp only [List.map_cons, storeCells, hadd, Sem.run_bind]
      rw [run_store P w _ _ _ (den_oneCell η c), hcell]
      simp only [frozen_of_row w b (off + i) _ t hb, Bool.false_eq_true, if_false, Result.andThen_ok]
      exact hrun
    · have hs := hu.here
      refine ⟨hu.os, hu.tape, hu.output, by rw [hu.size]; simp, ?_, fun k hk => by rw [hu.other k hk, heap_setCell_other _ _ _ _ hk]⟩
      rw [hs]
      congr 3
      unfold splice
      simp only [List.length_cons]
      rw [show off + (i + 1) = off + i + 1 by omega, List.take_succ_eq_append_getElem (by simp; omega)]
      simp only [List.getElem_set_self, List.append_assoc, List.cons_append, List.nil_append]
      rw [List.take_set_of_le (by omega), List.drop_set_of_lt (by omega), show off + i + 1 + cs.length = off + i + (cs.length + 1) by omega]

theorem ty_size (hC : TyOK P C) {t : TypeId} {i : TI} (h : C.ty t = some i) (w : World) : (sizeOf t).run P w = .ok i.size w := by
  obtain ⟨_, inf, h1, h2, _, _⟩ := hC.ok t i h
  simp [sizeOf, typeInfo, h1, h2]
theorem ty_under (hC : TyOK P C) {t : TypeId} {i : TI} (h : C.ty t = some i) (w : World) : (underlying t).run P w = .ok i.desc w :=
  run_underlying (hC.ok t i h).1 w
theorem ty_isAgg (hC : TyOK P C) {t : TypeId} {i : TI} (h : C.ty t = some i) (w : World) : (isAgg t).run P w = .ok (aggD i.desc) w := by
  simp only [isAgg, Sem.run_bind, ty_under hC h, Result.andThen_ok]
  cases i.desc <;> simp [aggD]
theorem ty_zero (hC : TyOK P C) {t : TypeId} {i : TI} (h : C.ty t = some i) {z : List SC} (hz : i.zero = some z) (w : World) (η : Asg) :
    ∃ v, (zeroValue t).run P w = .ok v w ∧ v.cells = (z.map (SC.den η)).toArray := by
  obtain ⟨_, inf, h1, _, _, h2⟩ := hC.ok t i h
  obtain ⟨_, v, hv, hv2⟩ := h2 z hz
  exact ⟨v, by simp [zeroValue, typeInfo, h1, hv], hv2 η⟩

theorem intsOf_spec {k : IntKind} : ∀ {l : List SC} {zs : List Int}, intsOf k l = some zs → l = zs.map (SC.int k)
  | [], zs, h => by simp only [intsOf, Option.some.injEq] at h; subst h; rfl
  | c :: l, zs, h => by
    cases c <;> simp only [intsOf] at h <;> try (cases h; done)
    rename_i k' n
    cases hk : k == k' with
    | false => simp [hk] at h
    | true =>
      simp only [hk, cond_true, Option.map_eq_some_iff] at h
      obtain ⟨us, hu, rfl⟩ := h
      have := intsOf_spec hu
      have hkk : k = k' := by simpa using hk
      subst hkk
      simp [← this]

theorem loadS_sound {η : Asg} {E : Nat → Prop} {w : World} {B : Body} {e : TypeId} {bl : Nat × Nat} {off : Nat} {c : SC} {ps : List Prop} (h : loadS B off = some (c, ps)) (hps : Holds ps) (hh : HasB η w bl ⟨B, e⟩) :
    w.cell? ⟨bl.1, off, none⟩ = some (c.den η) ∧ c.In W E := by
  unfold loadS at h
  split at h
  · rename_i l
    split at h
    · rename_i zs hz
      simp only [Option.some.injEq, Prod.mk.injEq] at h
      obtain ⟨rfl, rfl⟩ := h
      have hlt : off < zs.length := hps _ (by simp)
      have hl := intsOf_spec hz
      refine ⟨?_, trivial⟩
      simp only [HasB] at hh
      rw [cell_of_row w bl.1 off _ e (0, 0) hh]
      rw [hl]
      simp [List.getD, hlt, SC.den]
      rw [← hl]
    · cases h
  · rename_i k n f
    simp only [Option.some.injEq, Prod.mk.injEq] at h
    obtain ⟨rfl, rfl⟩ := h
    have hlt : off < n := hps _ (by simp)
    obtain ⟨cs, h1, _, h3⟩ := hh
    exact ⟨by rw [cell_of_row w bl.1 off _ e (0, 0) h1]; exact h3 off hlt, trivial⟩
  · cases h

theorem evLoad_sound (hC : TyOK P C) {η : Asg} {g : Nat → Option Reg} {w : World} {t : TypeId} {a v : SV} {ps : List Prop} (h : evLoad C g t a = some (v, ps)) (hps : Holds ps) (hW : Below W.heap.size W w)
    {E : Nat → Prop} (hin : a.In W E) (hg : ∀ r R, E r → g r = some R → Has η w r R ∧ R.In W E) :
    ∃ b off, a.den η = .pointer (some ⟨b, off, none⟩) ∧ (loadVar t ⟨b, off, none⟩).run P w = .ok (v.den η) w ∧ v.In W E := by
  have hS : ∀ (i : TI) (B : Body) (e : TypeId) (r off : Nat), C.ty t = some i → E r → g r = some ⟨B, e⟩ → (bif aggD i.desc then none else (loadS B off).map fun x => ((.one (.sc x.1) : SV), x.2)) = some (v, ps) →
      (loadVar t ⟨(η r).1, off, none⟩).run P w = .ok (v.den η) w ∧ v.In W E := by
    intro i B e r off hi hr hg' h'
    cases hagg : aggD i.desc with
    | true => simp [hagg] at h'
    | false =>
      simp only [hagg, cond_false, Option.map_eq_some_iff] at h'
      obtain ⟨⟨c, qs⟩, hc, he⟩ := h'
      simp only [Prod.mk.injEq] at he
      obtain ⟨rfl, rfl⟩ := he
      obtain ⟨h1, h2⟩ := loadS_sound (W := W) (E := E) hc hps (hg r _ hr hg').1
      refine ⟨?_, h2⟩
      simp only [loadVar, Sem.run_bind, ty_isAgg hC hi, Result.andThen_ok, hagg, Bool.false_eq_true, if_false, run_load, h1]
      rfl
  unfold evLoad at h
  split at h
  · rename_i i r off hi
    refine ⟨(η r).1, off, rfl, ?_⟩
    split at h
    · rename_i l el hr
      obtain ⟨hh, hcs⟩ := hg r _ hin hr
      simp only [HasB] at hh
      simp only [Reg.In] at hcs
      simp only [loadVar, Sem.run_bind, ty_isAgg hC hi, Result.andThen_ok]
      cases hagg : aggD i.desc with
      | true =>
        simp only [hagg, cond_true] at h
        cases hb : Nat.ble (off + i.size) l.length with
        | false => simp [hb] at h
        | true =>
          simp only [hb, cond_true, Option.some.injEq, Prod.mk.injEq] at h
          obtain ⟨rfl, _⟩ := h
          have hle := Nat.le_of_ble_eq_true hb
          have hlen : (((l.drop off).take i.size).map (SC.den η)).length = i.size := by simp; omega
          have := run_loadCells_list (P := P) w ⟨(η r).1, off, none⟩ (((l.drop off).take i.size).map (SC.den η)) (fun j u hj => by
            rw [Addr.add_lit, cell_of_row w (η r).1 (off + j) _ el (0, 0) hh]
            have hjl : j < i.size := by have := (List.getElem?_eq_some_iff.1 hj).1; omega
            simp only [List.getElem?_map, List.getElem?_take, List.getElem?_drop, if_pos hjl] at hj
            simpa using hj)
          rw [hlen] at this
          simp only [if_true, Sem.run_bind, ty_size hC hi, Result.andThen_ok, this]
          exact ⟨rfl, fun c hc => hcs c (List.mem_of_mem_drop (List.mem_of_mem_take hc))⟩
      | false =>
        simp only [hagg, cond_false] at h
        split at h
        · rename_i c hc
          simp only [Option.some.injEq, Prod.mk.injEq] at h
          obtain ⟨rfl, _⟩ := h
          have : w.cell? ⟨(η r).1, off, none⟩ = some (c.den η) := by
            rw [cell_of_row w (η r).1 off _ el (0, 0) hh]
            simp [hc]
          simp only [Bool.false_eq_true, if_false, run_load, this]
          exact ⟨rfl, hcs c (List.mem_of_getElem? hc)⟩
        · cases h
    · rename_i B el _ hr
      exact hS i B el r off hi hin hr h
    · cases h
  · rename_i i r off hi
    refine ⟨(η r).1, off, rfl, ?_⟩
    split at h
    · rename_i B el hr
      exact hS i B el r off hi hin hr h
    · cases h
  · rename_i i a k n hi
    have hin' : BytesAt W a 1 k fun _ => n := hin
    rcases hin' with h0 | ⟨b, off, rfl, hbl, hcell⟩
    · cases h0
    · refine ⟨b, off, rfl, ?_⟩
      cases hagg : aggD i.desc with
      | true => simp [hagg] at h
      | false =>
        simp only [hagg, cond_false, Option.some.injEq, Prod.mk.injEq] at h
        obtain ⟨rfl, _⟩ := h
        have h1 : w.cell? ⟨b, off, none⟩ = some (.int k n) := by
          rw [← hcell 0 (by omega)]
          unfold World.cell?
          simp only [Nat.add_zero]
          rw [hW.block b hbl]
        refine ⟨?_, trivial⟩
        simp only [loadVar, Sem.run_bind, ty_isAgg hC hi, Result.andThen_ok, hagg, Bool.false_eq_true, if_false, run_load, h1]
        rfl
  · cases h

/-- One cell stored. -/
theorem store1 (w : World) (b off t : Nat) (cs : Array Value) (v : Value) (hv : v.oneCell' = true) (hb : w.heap[b]? = some (.cells cs t (0, 0))) (h : off < cs.size) :
    ∃ w', (storeCells ⟨b, off, none⟩ [v] 0).run P w = .ok () w' ∧ WUpd w w' b (w'.heap[b]? = some (.cells (cs.setIfInBounds off v) t (0, 0))) := by
  have hcell : w.cell? ⟨b, off + 0, none⟩ = some cs[off] := by
    rw [cell_of_row w b (off + 0) _ t (0, 0) hb]
    simp [h]
  have hadd : Addr.add ⟨b, off, none⟩ 0 = ⟨b, off + 0, none⟩ := Addr.add_lit b off 0
  refine ⟨w.setCell ⟨b, off, none⟩ v, ?_, rfl, rfl, rfl, by simp, heap_setCell_same w b off _ t v hb, fun k hk => heap_setCell_other _ _ _ _ hk⟩
  simp only [storeCells, hadd, Sem.run_bind]
  rw [run_store P w _ _ _ hv, hcell]
  simp only [Nat.add_zero, frozen_of_row w b off _ t hb, Bool.false_eq_true, if_false, Result.andThen_ok]
  rfl

theorem storeS_sound {η : Asg} {E : Nat → Prop} {w : World} {B B' : Body} {e : TypeId} {bl : Nat × Nat} {off : Nat} {c : SC} {ps : List Prop} (h : storeS B off c = some (B', ps)) (hps : Holds ps) (hh : HasB η w bl ⟨B, e⟩) :
    (∃ w', (storeCells ⟨bl.1, off, none⟩ [c.den η] 0).run P w = .ok () w' ∧ WUpd w w' bl.1 (HasB η w' bl ⟨B', e⟩)) ∧ Reg.In W E ⟨B', e⟩ ∧ B.live = true := by
  unfold storeS at h
  split at h
  · rename_i l k v
    split at h
    · rename_i zs hz
      simp only [Option.some.injEq, Prod.mk.injEq] at h
      obtain ⟨rfl, rfl⟩ := h
      have hlt : off < zs.length := hps _ (by simp)
      have hl := intsOf_spec hz
      simp only [HasB] at hh
      obtain ⟨w', hrun, hu⟩ := store1 (P := P) w bl.1 off e _ (Value.int k v) rfl hh (by rw [hl]; simpa using hlt)
      refine ⟨⟨w', hrun, hu.os, hu.tape, hu.output, hu.size, ?_, hu.other⟩, ?_, rfl⟩
      · simp only [HasB]
        rw [hu.here]
        congr 2
        apply Array.ext_getElem?
        intro i
        rw [hl]
        simp only [List.map_map, List.getElem?_toArray, List.getElem?_map]
        rw [Array.getElem?_setIfInBounds]
        simp only [List.getElem?_toArray, List.getElem?_map, List.size_toArray, List.length_map]
        by_cases hi : i < zs.length
        · by_cases hoi : off = i
          · subst hoi; simp [hi, SC.den]
          · have : ¬ i = off := fun e => hoi e.symm
            simp [hi, hoi, this, SC.den]
        · have h1 : off ≠ i := by omega
          simp [h1, hi]
      · intro d hd
        simp only [List.mem_map] at hd
        obtain ⟨_, _, rfl⟩ := hd
        trivial
    · cases h
  · rename_i k n f k' v
    cases hk : k == k' with
    | false => simp [hk] at h
    | true =>
      simp only [hk, cond_true, Option.some.injEq, Prod.mk.injEq] at h
      obtain ⟨rfl, rfl⟩ := h
      have hkk : k = k' := by simpa using hk
      subst hkk
      have hlt : off < n := hps _ (by simp)
      obtain ⟨cs, h1, h2, h3⟩ := hh
      simp only at h1
      obtain ⟨w', hrun, hu⟩ := store1 (P := P) w bl.1 off e _ (Value.int k v) rfl h1 (by omega)
      refine ⟨⟨w', hrun, hu.os, hu.tape, hu.output, hu.size, ?_, hu.other⟩, trivial, rfl⟩
      refine ⟨_, hu.here, by simpa using h2, fun i hi => ?_⟩
      rw [Array.getElem?_setIfInBounds]
      by_cases hoi : off = i
      · subst hoi; simp; omega
      · have : ¬ i = off := fun e => hoi e.symm
        simp [hoi, this, h3 i hi]
  · cases h

/-- What an operation's effect says of its run. -/
def Eff.says (W : World) (η : Asg) (E : Nat → Prop) (g : Nat → Option Reg) (w : World) (x : Result Next) : Eff → Prop
  | .val v => x = .ok (.value (v.den η)) w ∧ v.In W E
  | .newp R => (∃ w', x = .ok (.value (.pointer (some ⟨w.heap.size, 0, none⟩))) w' ∧ Below w.heap.size w w' ∧ HasB η w' (w.heap.size, 0) R) ∧ R.In W E
  | .news R len => (∃ w', x = .ok (.value (.slice (some ⟨w.heap.size, 0, none⟩) len len)) w' ∧ Below w.heap.size w w' ∧ HasB η w' (w.heap.size, 0) R) ∧ R.In W E
  | .newu R len => (∃ w' cp, x = .ok (.value (.slice (some ⟨w.heap.size, 0, none⟩) len (len + cp))) w' ∧ Below w.heap.size w w' ∧ HasB η w' (w.heap.size, cp) R) ∧ R.In W E
  | .app r R len => E r ∧ (∃ R0, g r = some R0 ∧ R0.body.live = true) ∧ (∀ W E, R.In W E) ∧ ∃ w' gb cp, x = .ok (.value (.slice (some ⟨gb, 0, none⟩) len (len + cp))) w' ∧ (gb = (η r).1 ∨ gb = w.heap.size) ∧ w.grownBy w' (some (η r).1) ∧ HasB η w' (gb, cp) R
  | .upd r R v => E r ∧ (∃ R0, g r = some R0 ∧ R0.body.live = true) ∧ R.In W E ∧ (v.In W fun _ => False) ∧ ∃ w', (x = .ok .skip w' ∧ v = .tup [] ∨ x = .ok (.value (v.den η)) w') ∧ WUpd w w' (η r).1 (HasB η w' (η r) R)

theorem below_alloc (w : World) (o : Obj) : Below w.heap.size w (w.alloc o) :=
  ⟨rfl, rfl, rfl, by simp, fun k hk => heap_alloc_old w o hk⟩

theorem evBin_sound {op : BinOp} {k k' : IntKind} {a b : Int} {v : SV} (h : evBin op k a k' b = some v) (t : TypeId) (w : World) (η : Asg) (E : Nat → Prop) :
    (binOp op t (.int k a) (.int k' b)).run P w = .ok (v.den η) w ∧ v.In W E := by
  have hk : ∀ {α : Type} {c : Bool} {x y : α}, (bif k == k' && c then some x else none) = some y → k = k' ∧ c = true ∧ x = y := by
    intro α c x y h
    cases hkk : k == k' with
    | false => simp [hkk] at h
    | true => cases c <;> simp [hkk] at h; exact ⟨by simpa using hkk, rfl, h⟩
  have hk1 : ∀ {α : Type} {x y : α}, (bif k == k' then some x else none) = some y → k = k' ∧ x = y := by
    intro α x y h
    have := hk (c := true) (x := x) (y := y) (by simpa using h)
    exact ⟨this.1, this.2.2⟩
  cases op
  case add => obtain ⟨rfl, rfl⟩ := hk1 h; exact ⟨by simp [go_sem, mkInt, SV.den, S1.den, SC.den], trivial⟩
  case sub => obtain ⟨rfl, rfl⟩ := hk1 h; exact ⟨by simp [go_sem, mkInt, SV.den, S1.den, SC.den], trivial⟩
  case mul => obtain ⟨rfl, rfl⟩ := hk1 h; exact ⟨by simp [go_sem, mkInt, SV.den, S1.den, SC.den], trivial⟩
  case quo =>
    obtain ⟨rfl, hb, rfl⟩ := hk h
    have hb0 : b ≠ 0 := by simpa using hb
    exact ⟨by simp [go_sem, mkInt, SV.den, S1.den, SC.den, hb0], trivial⟩
  case rem =>
    obtain ⟨rfl, hb, rfl⟩ := hk h
    have hb0 : b ≠ 0 := by simpa using hb
    exact ⟨by simp [go_sem, mkInt, SV.den, S1.den, SC.den, hb0], trivial⟩
  case and => obtain ⟨rfl, rfl⟩ := hk1 h; exact ⟨by simp [go_sem, mkInt, SV.den, S1.den, SC.den], trivial⟩
  case or => obtain ⟨rfl, rfl⟩ := hk1 h; exact ⟨by simp [go_sem, mkInt, SV.den, S1.den, SC.den], trivial⟩
  case xor => obtain ⟨rfl, rfl⟩ := hk1 h; exact ⟨by simp [go_sem, mkInt, SV.den, S1.den, SC.den], trivial⟩
  case andNot => obtain ⟨rfl, rfl⟩ := hk1 h; exact ⟨by simp [go_sem, mkInt, SV.den, S1.den, SC.den], trivial⟩
  case shl =>
    cases b with
    | negSucc n => simp [evBin] at h
    | ofNat n =>
      simp only [evBin, Option.some.injEq] at h
      subst h
      refine ⟨?_, trivial⟩
      rw [binOp_shl]
      simp [Op.shift, mkInt, SV.den, S1.den, SC.den, Int.natCast_pow]
      omega
  case shr =>
    cases b with
    | negSucc n => simp [evBin] at h
    | ofNat n =>
      simp only [evBin, Option.some.injEq] at h
      subst h
      refine ⟨?_, trivial⟩
      rw [binOp_shr]
      have hp : (0 : Int) ≤ 2 ^ (min n k.bits) := Int.pow_nonneg (by decide)
      simp [Op.shift, mkInt, SV.den, S1.den, SC.den, Int.fdiv_eq_ediv_of_nonneg _ hp, Int.natCast_pow]
      omega
  case eql => obtain ⟨rfl, rfl⟩ := hk1 h; exact ⟨by simp [go_sem, mkBool, SV.den, S1.den, SC.den], trivial⟩
  case neq => obtain ⟨rfl, rfl⟩ := hk1 h; exact ⟨by simp [go_sem, mkBool, SV.den, S1.den, SC.den], trivial⟩
  case lss => obtain ⟨rfl, rfl⟩ := hk1 h; exact ⟨by simp [go_sem, mkBool, SV.den, S1.den, SC.den], trivial⟩
  case leq => obtain ⟨rfl, rfl⟩ := hk1 h; exact ⟨by simp [go_sem, mkBool, SV.den, S1.den, SC.den], trivial⟩
  case gtr => obtain ⟨rfl, rfl⟩ := hk1 h; exact ⟨by simp [go_sem, mkBool, SV.den, S1.den, SC.den], trivial⟩
  case geq => obtain ⟨rfl, rfl⟩ := hk1 h; exact ⟨by simp [go_sem, mkBool, SV.den, S1.den, SC.den], trivial⟩

theorem fill_sound {η : Asg} {E : Nat → Prop} {ρ : Operand → Option SV} {ev : Operand → Value} : ∀ (l : List (Nat × Operand)) (z z' : List SC),
    (∀ p ∈ l, ∀ v, ρ p.2 = some v → ev p.2 = v.den η ∧ v.In W E) → (∀ c ∈ z, c.In W E) → fillS ρ z l = some z' →
    Instr.fill (fun i => some (i * 1, 1)) (z.map (SC.den η)).toArray (l.map fun p => (p.1, ev p.2)) = some (z'.map (SC.den η)).toArray ∧ ∀ c ∈ z', c.In W E
  | [], z, z', _, hz, h => by
    simp only [fillS, Option.some.injEq] at h
    subst h
    exact ⟨rfl, hz⟩
  | (i, x) :: rest, z, z', hρ, hz, h => by
    simp only [fillS] at h
    split at h
    · rename_i c hx
      cases hb : Nat.blt i z.length with
      | false => simp [hb] at h
      | true =>
        simp only [hb, cond_true] at h
        have hlt : i < z.length := by simpa [Nat.blt_eq] using hb
        obtain ⟨he, hin⟩ := hρ (i, x) (by simp) _ hx
        have hz1 : ∀ d ∈ z.set i c, d.In W E := fun d hd => by
          rcases List.mem_or_eq_of_mem_set hd with h' | h'
          · exact hz d h'
          · subst h'; exact hin
        have ih := fill_sound rest (z.set i c) z' (fun p hp => hρ p (by simp [hp])) hz1 h
        refine ⟨?_, ih.2⟩
        rw [← ih.1]
        have hc : (ev x).cells = #[c.den η] := by rw [he]; cases c <;> rfl
        have e1 : ((z.map (SC.den η)).toArray.setIfInBounds i (c.den η)) = ((z.set i c).map (SC.den η)).toArray := by simp [List.map_set]
        simp only [List.map_cons, Instr.fill, hc]
        simp [e1]
        omega
    · simp at h

theorem bnd_sound {ρ : Operand → Option SV} {ev : Operand → Value} {η : Asg} {E : Nat → Prop} {x : Option Operand} {d n : Nat} (h : bnd ρ x d = some n)
    (hρ : ∀ y ∈ x, ∀ v, ρ y = some v → ev y = v.den η ∧ v.In W E) :
    (x = none ∧ n = d) ∨ ∃ y k, x = some y ∧ ev y = .int k n := by
  cases x with
  | none => simp only [bnd, Option.some.injEq] at h; exact .inl ⟨rfl, h.symm⟩
  | some y =>
    simp only [bnd] at h
    split at h
    · rename_i k i hy
      cases i with
      | negSucc m => simp [natOf] at h
      | ofNat m =>
        simp only [natOf, Option.some.injEq] at h
        subst h
        exact .inr ⟨y, k, rfl, (hρ y rfl _ hy).1⟩
    · simp at h

theorem bndS_sound {ρ : Operand → Option SV} {ev : Operand → Value} {η : Asg} {E : Nat → Prop} {x : Option Operand} {d n : Nat} {ps : List Prop} (h : bndS ρ x d = some (n, ps)) (hps : Holds ps)
    (hρ : ∀ y ∈ x, ∀ v, ρ y = some v → ev y = v.den η ∧ v.In W E) :
    (x = none ∧ n = d) ∨ ∃ y k, x = some y ∧ ev y = .int k n := by
  cases x with
  | none => simp only [bndS, Option.some.injEq, Prod.mk.injEq] at h; exact .inl ⟨rfl, h.1.symm⟩
  | some y =>
    simp only [bndS] at h
    split at h
    · rename_i k i hy
      simp only [Option.some.injEq, Prod.mk.injEq] at h
      obtain ⟨rfl, rfl⟩ := h
      have h0 : 0 ≤ i := hps _ (by simp)
      refine .inr ⟨y, k, rfl, ?_⟩
      rw [(hρ y rfl _ hy).1]
      simp only [SV.den, S1.den, SC.den]
      rw [Int.toNat_of_nonneg h0]
    · simp at h

def BndOK (ev : Operand → Value) (x : Option Operand) (d n : Nat) : Prop := (x = none ∧ n = d) ∨ ∃ y k, x = some y ∧ ev y = .int k n

theorem run_sliceBounds {ev : Operand → Value} {isS : Bool} {len cap : Nat} {lo hi : Option Operand} {l h : Nat}
    (hl : BndOK ev lo 0 l) (hh : BndOK ev hi len h) (hle : l ≤ h) (hc : h ≤ cap) (w : World) :
    (Instr.sliceBounds isS len cap (lo.map ev) (hi.map ev) none).run P w = .ok (l, h, cap) w := by
  rcases hl with ⟨rfl, rfl⟩ | ⟨y, k, rfl, hy⟩ <;> rcases hh with ⟨rfl, rfl⟩ | ⟨y', k', rfl, hy'⟩
  · simp [Instr.sliceBounds]
  · have e := run_sliceBound (P := P) w k' (h : Int) cap (if isS then .sliceAcap else .sliceAlen) (by omega) (by omega)
    simp [Instr.sliceBounds, hy', e]
  · have e := run_sliceBound (P := P) w k (l : Int) h .sliceB (by omega) (by omega)
    simp [Instr.sliceBounds, hy, e]
  · have e := run_sliceBound (P := P) w k' (h : Int) cap (if isS then .sliceAcap else .sliceAlen) (by omega) (by omega)
    have e' := run_sliceBound (P := P) w k (l : Int) h .sliceB (by omega) (by omega)
    simp [Instr.sliceBounds, hy, hy', e, e']

theorem slice_array (hC : TyOK P C) {ev : Operand → Value} {t e : TypeId} {it i : TI} {n : Nat} (hi' : C.ty t = some it) (hd : it.desc = .array n e) (hty : C.ty e = some i) (hs : i.size = 1) {lo hi : Option Operand} {l h : Nat}
    (hl : BndOK ev lo 0 l) (hh : BndOK ev hi n h) (hle : l ≤ h) (hc : h ≤ n) (b off : Nat) (w : World) :
    (Instr.sliceAt t (.pointer (some ⟨b, off, none⟩)) (lo.map ev) (hi.map ev) none).run P w = .ok (.slice (some ⟨b, if n = l then off else off + l, none⟩) (h - l) (n - l)) w := by
  simp only [Instr.sliceAt, Sem.run_bind, ty_under hC hi', hd, Result.andThen_ok, Instr.sureAddr, Sem.run_pure, run_sliceBounds (isS := false) hl hh hle hc, ty_size hC hty, hs, Nat.mul_one]
  by_cases hln : n = l
  · simp [hln]
  · simp [hln, Addr.add_lit]

theorem slice_slice (hC : TyOK P C) {ev : Operand → Value} {t e : TypeId} {it i : TI} (hi' : C.ty t = some it) (hd : it.desc = .slice e) (hty : C.ty e = some i) (hs : i.size = 1) {lo hi : Option Operand} {len cap l h : Nat}
    (hl : BndOK ev lo 0 l) (hh : BndOK ev hi len h) (hle : l ≤ h) (hc : h ≤ cap) (a : Option Addr) (w : World) :
    (Instr.sliceAt t (.slice a len cap) (lo.map ev) (hi.map ev) none).run P w = .ok (.slice (if cap = l then a else a.map (·.add l)) (h - l) (cap - l)) w := by
  simp only [Instr.sliceAt, Instr.slice, Sem.run_bind, ty_under hC hi', hd, Result.andThen_ok, Sem.run_pure, run_sliceBounds (isS := true) hl hh hle hc, ty_size hC hty, hs, Nat.mul_one]

theorem evSlice_sound (hC : TyOK P C) {ρ : Operand → Option SV} {ev : Operand → Value} {η : Asg} {E : Nat → Prop} {t : TypeId} {v u : SV} {lo hi : Option Operand}
    (h : evSlice C ρ t v lo hi = some u) (hv : v.In W E) (hρ : ∀ y, y ∈ lo ∨ y ∈ hi → ∀ v, ρ y = some v → ev y = v.den η ∧ v.In W E) (w : World) :
    (Instr.sliceAt t (v.den η) (lo.map ev) (hi.map ev) none).run P w = .ok (u.den η) w ∧ u.In W E := by
  unfold evSlice at h
  split at h
  · rename_i n e _ _ _ r off hi'
    split at h
    · rename_i i l hh hty hl hhi
      cases hb : (i.size == 1 && Nat.ble l hh && Nat.ble hh n) with
      | false => simp [hb] at h
      | true =>
        simp only [hb, cond_true, Option.some.injEq] at h
        simp only [Bool.and_eq_true, beq_iff_eq, Nat.ble_eq] at hb
        obtain ⟨⟨hs, hle⟩, hc⟩ := hb
        subst h
        refine ⟨?_, hv⟩
        have := slice_array (P := P) hC hi' rfl hty hs (bnd_sound hl fun y hy => hρ y (.inl hy)) (bnd_sound hhi fun y hy => hρ y (.inr hy)) hle hc (η r).1 off w
        refine this.trans ?_
        simp only [SV.den, S1.den, SC.den]
        by_cases hln : l = n
        · subst hln; simp
        · have : (n = l) = False := by simp; omega
          have h2 : (l == n) = false := by simpa using hln
          simp [this, h2]
    · simp at h
  · rename_i e _ _ _ r off len cap hi'
    split at h
    · rename_i i l hh hty hl hhi
      cases hb : (i.size == 1 && Nat.ble l hh && Nat.ble hh cap) with
      | false => simp [hb] at h
      | true =>
        simp only [hb, cond_true, Option.some.injEq] at h
        simp only [Bool.and_eq_true, beq_iff_eq, Nat.ble_eq] at hb
        obtain ⟨⟨hs, hle⟩, hc⟩ := hb
        subst h
        refine ⟨?_, hv⟩
        have := slice_slice (P := P) hC hi' rfl hty hs (bnd_sound hl fun y hy => hρ y (.inl hy)) (bnd_sound hhi fun y hy => hρ y (.inr hy)) hle hc (some ⟨(η r).1, off, none⟩) w
        refine this.trans ?_
        simp only [SV.den, S1.den, SC.den]
        by_cases hln : l = cap
        · subst hln; simp
        · have : (cap = l) = False := by simp; omega
          have h2 : (l == cap) = false := by simpa using hln
          simp [this, h2, Addr.add_lit]
    · simp at h
  · rename_i e _ _ _ r off len d hi'
    split at h
    · rename_i i l hh hty hl hhi
      cases hb : (i.size == 1 && Nat.ble l hh && Nat.ble hh len && Nat.blt l len) with
      | false => simp [hb] at h
      | true =>
        simp only [hb, cond_true, Option.some.injEq] at h
        simp only [Bool.and_eq_true, beq_iff_eq, Nat.ble_eq, Nat.blt_eq] at hb
        obtain ⟨⟨⟨hs, hle⟩, hc⟩, hlt⟩ := hb
        subst h
        refine ⟨?_, hv⟩
        have := slice_slice (P := P) (cap := len + d + (η r).2) hC hi' rfl hty hs (bnd_sound hl fun y hy => hρ y (.inl hy)) (bnd_sound hhi fun y hy => hρ y (.inr hy)) hle (by omega) (some ⟨(η r).1, off, none⟩) w
        refine this.trans ?_
        simp only [SV.den, S1.den, SC.den]
        have h0 : ¬ len + d + (η r).2 = l := by omega
        have h1 : len + d + (η r).2 - l = hh - l + (len - hh + d) + (η r).2 := by omega
        simp [h0, h1, Addr.add_lit]
    · simp at h
  · simp at h

theorem evSliceS_sound (hC : TyOK P C) {ρ : Operand → Option SV} {ev : Operand → Value} {η : Asg} {E : Nat → Prop} {t : TypeId} {v u : SV} {lo hi : Option Operand} {ps : List Prop}
    (h : evSliceS C ρ t v lo hi = some (u, ps)) (hps : Holds ps) (hv : v.In W E) (hρ : ∀ y, y ∈ lo ∨ y ∈ hi → ∀ v, ρ y = some v → ev y = v.den η ∧ v.In W E) (w : World) :
    (Instr.sliceAt t (v.den η) (lo.map ev) (hi.map ev) none).run P w = .ok (u.den η) w ∧ u.In W E := by
  unfold evSliceS at h
  split at h
  · rename_i n e _ _ _ r off hi'
    split at h
    · rename_i i l p hh q hty hl hhi
      cases hb : (i.size == 1) with
      | false => simp [hb] at h
      | true =>
        simp only [hb, cond_true, Option.some.injEq, Prod.mk.injEq] at h
        simp only [beq_iff_eq] at hb
        obtain ⟨rfl, rfl⟩ := h
        have h1 := hps.app
        have h2 := h1.2.app
        have hle : l ≤ hh := h2.2 _ (by simp)
        have hc : hh ≤ n := h2.2 _ (by simp)
        refine ⟨?_, hv⟩
        have := slice_array (P := P) hC hi' rfl hty hb (bndS_sound hl h1.1 fun y hy => hρ y (.inl hy)) (bndS_sound hhi h2.1 fun y hy => hρ y (.inr hy)) hle hc (η r).1 off w
        exact this
    · simp at h
  · rename_i e _ _ _ r off len cap hi'
    split at h
    · rename_i i l p hh q hty hl hhi
      cases hb : (i.size == 1) with
      | false => simp [hb] at h
      | true =>
        simp only [hb, cond_true, Option.some.injEq, Prod.mk.injEq] at h
        simp only [beq_iff_eq] at hb
        obtain ⟨rfl, rfl⟩ := h
        have h1 := hps.app
        have h2 := h1.2.app
        have hle : l ≤ hh := h2.2 _ (by simp)
        have hc : hh ≤ cap := h2.2 _ (by simp)
        refine ⟨?_, hv⟩
        have := slice_slice (P := P) hC hi' rfl hty hb (bndS_sound hl h1.1 fun y hy => hρ y (.inl hy)) (bndS_sound hhi h2.1 fun y hy => hρ y (.inr hy)) hle hc (some ⟨(η r).1, off, none⟩) w
        refine this.trans ?_
        simp only [SV.den, S1.den, SC.den]
        by_cases hln : cap = l
        · simp [hln]
        · simp [hln, Addr.add_lit]
    · simp at h
  · rename_i e _ _ _ a len cap k f hi'
    split at h
    · rename_i i l p hh q hty hl hhi
      cases hb : (i.size == 1) with
      | false => simp [hb] at h
      | true =>
        simp only [hb, cond_true, Option.some.injEq, Prod.mk.injEq] at h
        simp only [beq_iff_eq] at hb
        obtain ⟨rfl, rfl⟩ := h
        have h1 := hps.app
        have h2 := h1.2.app
        have hle : l ≤ hh := h2.2 _ (by simp)
        have hlen : hh ≤ len := h2.2 _ (by simp)
        have hc : hh ≤ cap := h2.2 _ (by simp)
        have := slice_slice (P := P) hC hi' rfl hty hb (bndS_sound hl h1.1 fun y hy => hρ y (.inl hy)) (bndS_sound hhi h2.1 fun y hy => hρ y (.inr hy)) hle hc a w
        refine ⟨this, ?_⟩
        show BytesAt W _ _ _ _
        rcases Nat.eq_zero_or_pos (hh - l) with h0 | h0
        · exact .inl h0
        · have hv' : BytesAt W a len k f := hv
          rcases hv' with hv' | ⟨b, off, rfl, hbl, hcells⟩
          · omega
          · refine .inr ⟨b, off + l, ?_, hbl, fun j hj => ?_⟩
            · have : ¬ cap = l := by omega
              simp [this, Addr.add_lit]
            · rw [Nat.add_assoc]
              exact hcells (l + j) (by omega)
    · simp at h
  · simp at h

theorem evIndexAddr_sound (hC : TyOK P C) {η : Asg} {E : Nat → Prop} {t : TypeId} {v i u : SV} (h : evIndexAddr C t v i = some u) (hv : v.In W E) (w : World) :
    (Instr.indexAt t (v.den η) (i.den η)).run P w = .ok (u.den η) w ∧ u.In W E := by
  unfold evIndexAddr at h
  split at h
  · rename_i n e _ _ _ r off k j hi'
    split at h
    · rename_i ie hie
      cases hb : (ie.size == 1 && Nat.blt j n) with
      | false => simp [hb] at h
      | true =>
        simp only [hb, cond_true, Option.some.injEq] at h
        simp only [Bool.and_eq_true, beq_iff_eq, Nat.blt_eq] at hb
        subst h
        refine ⟨?_, hv⟩
        have hlt : (0 : Int) ≤ Int.ofNat j ∧ Int.ofNat j < (n : Int) := ⟨Int.natCast_nonneg j, by simpa using hb.2⟩
        simp only [Instr.indexAt, Sem.run_bind, SV.den, S1.den, SC.den, asIntOf, Sem.run_pure, Result.andThen_ok, ty_under hC hi', Instr.sureAddr, Sem.run_ite, if_pos hlt,
          ty_size hC hie, hb.1, Nat.mul_one]
        simp [Addr.add_lit]
    · simp at h
  · rename_i e _ _ _ r off len cap k j hi'
    split at h
    · rename_i ie hie
      cases hb : (ie.size == 1 && Nat.blt j len) with
      | false => simp [hb] at h
      | true =>
        simp only [hb, cond_true, Option.some.injEq] at h
        simp only [Bool.and_eq_true, beq_iff_eq, Nat.blt_eq] at hb
        subst h
        refine ⟨?_, hv⟩
        have hlt : (0 : Int) ≤ Int.ofNat j ∧ Int.ofNat j < (len : Int) := ⟨Int.natCast_nonneg j, by simpa using hb.2⟩
        simp only [Instr.indexAt, Sem.run_bind, SV.den, S1.den, SC.den, asIntOf, Sem.run_pure, Result.andThen_ok, ty_under hC hi', Sem.run_ite, if_pos hlt,
          ty_size hC hie, hb.1, Nat.mul_one]
        simp [Addr.add_lit]
    · simp at h
  · rename_i e _ _ _ r off len d k j hi'
    split at h
    · rename_i ie hie
      cases hb : (ie.size == 1 && Nat.blt j len) with
      | false => simp [hb] at h
      | true =>
        simp only [hb, cond_true, Option.some.injEq] at h
        simp only [Bool.and_eq_true, beq_iff_eq, Nat.blt_eq] at hb
        subst h
        refine ⟨?_, hv⟩
        have hlt : (0 : Int) ≤ Int.ofNat j ∧ Int.ofNat j < (len : Int) := ⟨Int.natCast_nonneg j, by simpa using hb.2⟩
        simp only [Instr.indexAt, Sem.run_bind, SV.den, S1.den, SC.den, asIntOf, Sem.run_pure, Result.andThen_ok, ty_under hC hi', Sem.run_ite, if_pos hlt,
          ty_size hC hie, hb.1, Nat.mul_one]
        simp [Addr.add_lit]
    · simp at h
  · simp at h

theorem evIndexAddrS_sound (hC : TyOK P C) {η : Asg} {E : Nat → Prop} {t : TypeId} {v i u : SV} {ps : List Prop} (h : evIndexAddrS C t v i = some (u, ps)) (hps : Holds ps) (hv : v.In W E) (w : World) :
    (Instr.indexAt t (v.den η) (i.den η)).run P w = .ok (u.den η) w ∧ u.In W E := by
  unfold evIndexAddrS at h
  split at h
  · rename_i n e _ _ _ r off k j hi'
    split at h
    · rename_i ie hie
      cases hb : (ie.size == 1) with
      | false => simp [hb] at h
      | true =>
        simp only [hb, cond_true, Option.some.injEq, Prod.mk.injEq] at h
        simp only [beq_iff_eq] at hb
        obtain ⟨rfl, rfl⟩ := h
        refine ⟨?_, hv⟩
        have hlt : (0 : Int) ≤ j ∧ j < (n : Int) := ⟨hps _ (by simp), hps _ (by simp)⟩
        simp only [Instr.indexAt, Sem.run_bind, SV.den, S1.den, SC.den, asIntOf, Sem.run_pure, Result.andThen_ok, ty_under hC hi', Instr.sureAddr, Sem.run_ite, if_pos hlt,
          ty_size hC hie, hb, Nat.mul_one]
        simp [Addr.add_lit]
    · simp at h
  · rename_i e _ _ _ r off len cap k j hi'
    split at h
    · rename_i ie hie
      cases hb : (ie.size == 1) with
      | false => simp [hb] at h
      | true =>
        simp only [hb, cond_true, Option.some.injEq, Prod.mk.injEq] at h
        simp only [beq_iff_eq] at hb
        obtain ⟨rfl, rfl⟩ := h
        refine ⟨?_, hv⟩
        have hlt : (0 : Int) ≤ j ∧ j < (len : Int) := ⟨hps _ (by simp), hps _ (by simp)⟩
        simp only [Instr.indexAt, Sem.run_bind, SV.den, S1.den, SC.den, asIntOf, Sem.run_pure, Result.andThen_ok, ty_under hC hi', Sem.run_ite, if_pos hlt,
          ty_size hC hie, hb, Nat.mul_one]
        simp [Addr.add_lit]
    · simp at h
  · rename_i e _ _ _ a len cap k f k' j hi'
    split at h
    · rename_i ie hie
      cases hb : (ie.size == 1) with
      | false => simp [hb] at h
      | true =>
        simp only [hb, cond_true, Option.some.injEq, Prod.mk.injEq] at h
        simp only [beq_iff_eq] at hb
        obtain ⟨rfl, rfl⟩ := h
        have h0 : (0 : Int) ≤ j := hps _ (by simp)
        have h1 : j < (len : Int) := hps _ (by simp)
        have hlt : (0 : Int) ≤ j ∧ j < (len : Int) := ⟨h0, h1⟩
        have hv' : BytesAt W a len k f := hv
        rcases hv' with hv' | ⟨b, off, rfl, hbl, hcell⟩
        · omega
        · refine ⟨?_, ?_⟩
          · simp only [Instr.indexAt, Sem.run_bind, SV.den, S1.den, SC.den, asIntOf, Sem.run_pure, Result.andThen_ok, ty_under hC hi', Sem.run_ite, if_pos hlt,
              ty_size hC hie, hb, Nat.mul_one]
            simp [Addr.add_lit]
          · refine .inr ⟨b, off + j.toNat, by simp [Addr.add_lit], hbl, fun i hi => ?_⟩
            have : i = 0 := by omega
            subst this
            exact hcell j.toNat (by omega)
    · simp at h
  · simp at h

theorem evLen_sound (hC : TyOK P C) {η : Asg} {E : Nat → Prop} {t ty : TypeId} {v u : SV} (h : evLen C t v = some u) (w : World) :
    (Builtin.len_ #[t] ty #[v.den η]).run P w = .ok (u.den η) w ∧ u.In W E := by
  unfold evLen at h
  split at h
  · rename_i e _ _ _ r off len cap hi'
    simp only [Option.some.injEq] at h
    subst h
    exact ⟨by simp [Builtin.len_, ty_under hC hi', SV.den, S1.den, SC.den, mkInt, goInt], trivial⟩
  · rename_i e _ _ _ a len cap k f hi'
    simp only [Option.some.injEq] at h
    subst h
    exact ⟨by simp [Builtin.len_, ty_under hC hi', SV.den, S1.den, SC.den, mkInt, goInt], trivial⟩
  · rename_i e _ _ _ r off len hi'
    simp only [Option.some.injEq] at h
    subst h
    exact ⟨by simp [Builtin.len_, ty_under hC hi', SV.den, S1.den, SC.den, mkInt, goInt], trivial⟩
  · rename_i n e _ _ _ _ hi'
    simp only [Option.some.injEq] at h
    subst h
    exact ⟨by simp [Builtin.len_, ty_under hC hi', SV.den, S1.den, SC.den, mkInt, goInt], trivial⟩
  · rename_i _ _ _ s hi'
    simp only [Option.some.injEq] at h
    subst h
    exact ⟨by simp [Builtin.len_, ty_under hC hi', SV.den, S1.den, SC.den, mkInt, goInt], trivial⟩
  · simp at h

theorem splice_in {E : Nat → Prop} {l cs : List SC} {off : Nat} (hl : ∀ c ∈ l, c.In W E) (hcs : ∀ c ∈ cs, c.In W E) : ∀ c ∈ splice l off cs, c.In W E := by
  intro c hc
  simp only [splice, List.mem_append] at hc
  rcases hc with hc | hc | hc
  · exact hl c (List.mem_of_mem_take hc)
  · exact hcs c hc
  · exact hl c (List.mem_of_mem_drop hc)

theorem evStore_sound (hC : TyOK P C) {η : Asg} {E : Nat → Prop} {g : Nat → Option Reg} {t : TypeId} {a x : SV} {eff : Eff} {ps : List Prop} (h : evStore C g t a x = some (eff, ps)) (hps : Holds ps) (ha : a.In W E) (hx : x.In W E)
    {w : World} (hg : ∀ r R, E r → g r = some R → Has η w r R ∧ R.In W E) (y : Next) :
    ∃ r R, eff = .upd r R (.tup []) ∧ E r ∧ (∃ R0, g r = some R0 ∧ R0.body.live = true) ∧ R.In W E ∧
      ∃ w', ((Instr.storeAt t (a.den η) (x.den η)).run P w).andThen (fun _ w => .ok y w) = .ok y w' ∧ WUpd w w' (η r).1 (HasB η w' (η r) R) := by
  have hrunS : ∀ (i : TI) (r off : Nat) (s : S1) (w' : World), C.ty t = some i → s.cells.length = i.size → (storeCells ⟨(η r).1, off, none⟩ (s.cells.map (SC.den η)) 0).run P w = .ok () w' →
      ((Instr.storeAt t (.pointer (some ⟨(η r).1, off, none⟩)) (s.den η)).run P w).andThen (fun _ w => .ok y w) = .ok y w' := by
    intro i r off s w' hi hl hrun
    have hsz : (s.den η).cells.size = i.size := by rw [S1.cells_den]; simp [hl]
    have htl : (s.den η).cells.toList = s.cells.map (SC.den η) := by rw [S1.cells_den]
    generalize s.den η = X at hsz htl ⊢
    simp only [Instr.storeAt, Instr.sureAddr, Sem.run_bind, Sem.run_pure, Result.andThen_ok, storeVar, ty_size hC hi, hsz, ne_eq, not_true_eq_false, if_false, htl, hrun]
  have hS : ∀ (i : TI) (B : Body) (e : TypeId) (r off : Nat) (c : SC), C.ty t = some i → E r → g r = some ⟨B, e⟩ →
      (bif i.size == 1 then (storeS B off c).map fun x => ((.upd r ⟨x.1, e⟩ (.tup []) : Eff), x.2) else none) = some (eff, ps) →
      ∃ r' R, eff = .upd r' R (.tup []) ∧ E r' ∧ (∃ R0, g r' = some R0 ∧ R0.body.live = true) ∧ R.In W E ∧
      ∃ w', ((Instr.storeAt t (.pointer (some ⟨(η r).1, off, none⟩)) (c.den η)).run P w).andThen (fun _ w => .ok y w) = .ok y w' ∧ WUpd w w' (η r').1 (HasB η w' (η r') R) := by
    intro i B e r off c hi hr hg' h'
    cases hs : i.size == 1 with
    | false => simp [hs] at h'
    | true =>
      simp only [hs, cond_true, Option.map_eq_some_iff] at h'
      obtain ⟨⟨B', qs⟩, hB, he⟩ := h'
      simp only [Prod.mk.injEq] at he
      obtain ⟨rfl, rfl⟩ := he
      obtain ⟨⟨w', hrun, hu⟩, hin, hlv⟩ := storeS_sound (P := P) (W := W) (E := E) hB hps (hg r _ hr hg').1
      exact ⟨r, _, rfl, hr, ⟨_, hg', hlv⟩, hin, w', hrunS i r off (.sc c) w' hi (by simp [S1.cells]; simpa using (by simpa using hs : i.size = 1).symm) hrun, hu⟩
  unfold evStore at h
  split at h
  · rename_i i r off s hi'
    split at h
    · rename_i l el hr
      cases hb : (s.cells.length == i.size && Nat.ble (off + i.size) l.length) with
      | false => simp [hb] at h
      | true =>
        simp only [hb, cond_true, Option.some.injEq, Prod.mk.injEq] at h
        simp only [Bool.and_eq_true, beq_iff_eq, Nat.ble_eq] at hb
        obtain ⟨rfl, _⟩ := h
        obtain ⟨hh, hcs⟩ := hg r _ ha hr
        simp only [HasB] at hh
        simp only [Reg.In] at hcs
        obtain ⟨w', hrun, hu⟩ := run_storeCells (P := P) η (η r).1 el s.cells l off 0 w hh (by omega)
        refine ⟨r, _, rfl, ha, ⟨_, hr, rfl⟩, ?_, w', hrunS i r off s w' hi' hb.1 hrun, hu⟩
        exact splice_in hcs (S1.cells_in hx)
    · rename_i B el _ hr
      split at h
      · rename_i c
        exact hS i B el r off c hi' ha hr h
      · cases h
    · cases h
  · rename_i i r off c hi'
    split at h
    · rename_i B el hr
      exact hS i B el r off c hi' ha hr h
    · cases h
  · cases h

theorem copy_sound (hC : TyOK P C) {η : Asg} {E : Nat → Prop} {g : Nat → Option Reg} {t : TypeId} {ts : Array TypeId} (hts : ts[0]? = some t) {d s : SV} {eff : Eff} (h : evCopy C g t d s = some eff) (hd : d.In W E) (hs : s.In W E)
    {w : World} (hg : ∀ r R, E r → g r = some R → Has η w r R ∧ R.In W E) (ty : TypeId) :
    ∃ r R n, eff = .upd r R (mkInt .i64 n) ∧ E r ∧ (∃ R0, g r = some R0 ∧ R0.body.live = true) ∧ R.In W E ∧
      ∃ w', (Builtin.copy_ ts ty #[d.den η, s.den η]).run P w = .ok ((mkInt .i64 n).den η) w' ∧ WUpd w w' (η r).1 (HasB η w' (η r) R) := by
  unfold evCopy at h
  split at h
  · rename_i e _ _ _ r o l cp r' o' l' cp' hi'
    split at h
    · rename_i i R el R' el' hie hr hr'
      cases hb : (i.size == 1 && Nat.ble (o + Nat.min l' l) R.length && Nat.ble (o' + Nat.min l' l) R'.length) with
      | false => simp [hb] at h
      | true =>
        simp only [hb, cond_true, Option.some.injEq] at h
        simp only [Bool.and_eq_true, beq_iff_eq, Nat.ble_eq] at hb
        obtain ⟨⟨h1, h2⟩, h3⟩ := hb
        subst h
        obtain ⟨hh, hcs⟩ := hg r _ hd hr
        obtain ⟨hh', hcs'⟩ := hg r' _ hs hr'
        simp only [HasB] at hh hh'
        simp only [Reg.In] at hcs hcs'
        have hlen : ((R'.drop o').take (Nat.min l' l)).length = Nat.min l' l := by
          rw [List.length_take, List.length_drop]
          exact Nat.min_eq_left (by omega)
        obtain ⟨w', hrun, hu⟩ := run_storeCells (P := P) η (η r).1 el ((R'.drop o').take (Nat.min l' l)) R o 0 w hh (by omega)
        have hld := run_loadCells_list (P := P) w ⟨(η r').1, o', none⟩ (((R'.drop o').take (Nat.min l' l)).map (SC.den η)) (fun j u hj => by
          rw [Addr.add_lit, cell_of_row w (η r').1 (o' + j) _ el' (0, 0) hh']
          have hjl : j < Nat.min l' l := by have := (List.getElem?_eq_some_iff.1 hj).1; simp only [List.length_map, hlen] at this; exact this
          simp only [List.getElem?_map, List.getElem?_take, List.getElem?_drop, if_pos hjl] at hj
          simpa using hj)
        simp only [List.length_map, hlen] at hld
        refine ⟨r, _, _, rfl, hd, ⟨_, hr, rfl⟩, ?_, w', ?_, hu⟩
        · exact splice_in hcs fun c hc => hcs' c (List.mem_of_mem_drop (List.mem_of_mem_take hc))
        · simp only [Builtin.copy_, hts, Sem.run_bind, ty_under hC hi', Result.andThen_ok, SV.den, S1.den, SC.den, Builtin.lenOf, Sem.run_pure, ty_size hC hie, h1, Builtin.firstCells, Nat.mul_one, hld,
            mkInt, goInt, List.getElem?_toArray, List.getElem?_cons_zero, List.getElem?_cons_succ]
          simp only [hrun, Result.andThen_ok]
    · simp at h
  · simp at h

theorem BytesAt.below {w w' : World} {a : Option Addr} {n : Nat} {k : IntKind} {f : Nat → Int} (h : BytesAt w a n k f) (hb : Below w.heap.size w w') : BytesAt w' a n k f := by
  rcases h with h | ⟨b, off, rfl, hl, h⟩
  · exact .inl h
  · refine .inr ⟨b, off, rfl, Nat.lt_of_lt_of_le hl hb.size, fun i hi => ?_⟩
    rw [← h i hi]
    unfold World.cell?
    simp only
    rw [hb.block b hl]

/-- Integers stored one by one: at an open place, so many as is an open term. -/
theorem run_storeInts (k : IntKind) (b t : Nat) (h : Nat → Int) : ∀ (m : Nat) (zs : List Int) (off i : Nat) (w : World), w.heap[b]? = some (.cells (zs.map (Value.int k)).toArray t (0, 0)) → off + i + m ≤ zs.length →
    ∃ w', (storeCells ⟨b, off, none⟩ ((List.range' i m).map fun j => Value.int k (h j)) i).run P w = .ok () w' ∧
      WUpd w w' b (w'.heap[b]? = some (.cells (((List.range zs.length).map fun j => if off + i ≤ j ∧ j < off + i + m then h (j - off) else zs.getD j 0).map (Value.int k)).toArray t (0, 0))) := by
  intro m
  induction m with
  | zero =>
    intro zs off i w hb hl
    refine ⟨w, by simp [storeCells], rfl, rfl, rfl, rfl, ?_, fun _ _ => rfl⟩
    rw [hb]
    congr 4
    apply List.ext_getElem?
    intro j
    by_cases hj : j < zs.length
    · simp [hj]
      intro h1 h2
      omega
    · rw [List.getElem?_eq_none (by omega), List.getElem?_eq_none (by simp; omega)]
  | succ m ih =>
    intro zs off i w hb hl
    have hcell : w.cell? ⟨b, off + i, none⟩ = some (.int k (zs.getD (off + i) 0)) := by
      rw [cell_of_row w b (off + i) _ t (0, 0) hb]
      simp [List.getElem?_eq_getElem (show off + i < zs.length by omega)]
    have hadd : Addr.add ⟨b, off, none⟩ i = ⟨b, off + i, none⟩ := Addr.add_lit b off i
    have hb' := heap_setCell_same w b (off + i) _ t (.int k (h i)) hb
    have e1 : ((zs.map (Value.int k)).toArray.setIfInBounds (off + i) (.int k (h i))) = ((zs.set (off + i) (h i)).map (Value.int k)).toArray := by
      simp [List.map_set]
    rw [e1] at hb'
    obtain ⟨w', hrun, hu⟩ := ih (zs.set (off + i) (h i)) off (i + 1) _ hb' (by simp; omega)
    refine ⟨w', ?_, ?_⟩
    · simp only [List.range'_succ, List.map_cons, storeCells, hadd, Sem.run_bind]
      rw [run_store P w _ _ _ (rfl : (Value.int k (h i)).oneCell' = true), hcell]
      simp only [frozen_of_row w b (off + i) _ t hb, Bool.false_eq_true, if_false, Result.andThen_ok]
      exact hrun
    · have hs := hu.here
      refine ⟨hu.os, hu.tape, hu.output, by rw [hu.size]; simp, ?_, fun q hq => by rw [hu.other q hq, heap_setCell_other _ _ _ _ hq]⟩
      rw [hs]
      congr 4
      apply List.ext_getElem?
      intro j
      by_cases hj : j < zs.length
      · simp only [List.length_set, List.getElem?_map, List.getElem?_range hj, Option.map_some]
        congr 1
        by_cases h1 : off + i = j
        · have h2 : ¬ (off + (i + 1) ≤ j ∧ j < off + (i + 1) + m) := by omega
          have h3 : off + i ≤ j ∧ j < off + i + (m + 1) := by omega
          rw [if_neg h2, if_pos h3, ← h1]
          simp [List.getD, show off + i < zs.length by omega, show off + i - off = i by omega]
        · by_cases h2 : off + (i + 1) ≤ j ∧ j < off + (i + 1) + m
          · have h3 : off + i ≤ j ∧ j < off + i + (m + 1) := by omega
            rw [if_pos h2, if_pos h3]
          · have h3 : ¬ (off + i ≤ j ∧ j < off + i + (m + 1)) := by omega
            rw [if_neg h2, if_neg h3]
            simp [List.getD, h1]
      · rw [List.getElem?_eq_none (by simp; omega), List.getElem?_eq_none (by simp; omega)]

theorem copyS_sound (hC : TyOK P C) {η : Asg} {E : Nat → Prop} {g : Nat → Option Reg} {t : TypeId} {ts : Array TypeId} (hts : ts[0]? = some t) {d s : SV} {eff : Eff} (h : evCopyS C g t d s = some eff) (hd : d.In W E) (hs : s.In W E)
    {w : World} (hW : Below W.heap.size W w) (hg : ∀ r R, E r → g r = some R → Has η w r R ∧ R.In W E) (ty : TypeId) :
    ∃ r R n, eff = .upd r R (mkInt .i64 n) ∧ E r ∧ (∃ R0, g r = some R0 ∧ R0.body.live = true) ∧ R.In W E ∧
      ∃ w', (Builtin.copy_ ts ty #[d.den η, s.den η]).run P w = .ok ((mkInt .i64 n).den η) w' ∧ WUpd w w' (η r).1 (HasB η w' (η r) R) := by
  unfold evCopyS at h
  split at h
  · rename_i e _ _ _ r o l cp a l' cp' k f hi'
    split at h
    · rename_i i R el hie hr
      split at h
      · rename_i zs hz
        cases hb : (i.size == 1 && Nat.ble (o + l) R.length) with
        | false => simp [hb] at h
        | true =>
          simp only [hb, cond_true, Option.some.injEq] at h
          simp only [Bool.and_eq_true, beq_iff_eq, Nat.ble_eq] at hb
          obtain ⟨h1, h2⟩ := hb
          subst h
          obtain ⟨hh, hcs⟩ := hg r _ hd hr
          simp only [HasB] at hh
          have hR := intsOf_spec hz
          have hRl : R.length = zs.length := by rw [hR]; simp
          have hmap : (R.map (SC.den η)).toArray = (zs.map (Value.int k)).toArray := by rw [hR]; simp [Function.comp_def, SC.den]
          rw [hmap] at hh
          have hmin : Nat.min l' l ≤ l := Nat.min_le_right _ _
          have hmin' : Nat.min l' l ≤ l' := Nat.min_le_left _ _
          generalize hn : Nat.min l' l = n at hmin hmin'
          have hsb : BytesAt w a l' k f := BytesAt.below (show BytesAt W a l' k f from hs) hW
          obtain ⟨w', hrun, hu⟩ := run_storeInts (P := P) k (η r).1 el f n zs o 0 w hh (by omega)
          have hfc : (Builtin.firstCells 1 n (.slice a l' cp')).run P w = .ok ((List.range' 0 n).map fun j => Value.int k (f j)).toArray w := by
            rcases hsb with h0 | ⟨b, off, rfl, _, hcell⟩
            · have hn0 : n = 0 := by omega
              subst hn0
              cases a <;> simp [Builtin.firstCells, loadCells, loadCellsFrom]
            · have hld := run_loadCells_list (P := P) w ⟨b, off, none⟩ ((List.range' 0 n).map fun j => Value.int k (f j)) (fun j u hj => by
                rw [Addr.add_lit]
                have hjl : j < n := by have := (List.getElem?_eq_some_iff.1 hj).1; simpa using this
                rw [hcell j (by omega)]
                rw [← hj]
                simp [hjl])
              simp only [List.length_map, List.length_range'] at hld
              simp only [Builtin.firstCells, Nat.mul_one, hld]
          refine ⟨r, _, _, rfl, hd, ⟨_, hr, rfl⟩, ?_, w', ?_, hu.os, hu.tape, hu.output, hu.size, ?_, hu.other⟩
          · intro c hc
            simp only [List.mem_map] at hc
            obtain ⟨_, _, rfl⟩ := hc
            trivial
          · simp only [Builtin.copy_, hts, Sem.run_bind, ty_under hC hi', Result.andThen_ok, SV.den, S1.den, SC.den, Builtin.lenOf, Sem.run_pure, ty_size hC hie, h1, hn, hfc,
              mkInt, goInt, List.getElem?_toArray, List.getElem?_cons_zero, List.getElem?_cons_succ]
            simp only [hrun, Result.andThen_ok]
          · simp only [HasB]
            rw [hu.here, hRl]
            simp only [Nat.add_zero, List.map_map]
            rfl
      · cases h
    · cases h
  · cases h

theorem readR_ok {η : Asg} {w : World} {k : IntKind} {R : Reg} {bl : Nat × Nat} {off len n : Nat} {f : Nat → Int} {ps : List Prop} (h : readR (some R) k off len = some (n, f, ps)) (hps : Holds ps) (hB : HasB η w bl R) :
    n = len ∧ BytesAt w (some ⟨bl.1, off, none⟩) n k f := by
  have hlt := hB.lt
  unfold readR at h
  split at h
  · rename_i k' m f' el hr
    obtain rfl := Option.some.inj hr
    cases hk : k == k' with
    | false => simp [hk] at h
    | true =>
      simp only [hk, cond_true, Option.some.injEq, Prod.mk.injEq] at h
      obtain ⟨rfl, rfl, rfl⟩ := h
      have : k = k' := by simpa using hk
      subst this
      have hle : off + len ≤ m := hps _ (by simp)
      obtain ⟨cs, h1, h2, h3⟩ := hB
      refine ⟨rfl, .inr ⟨bl.1, off, rfl, hlt, fun i hi => ?_⟩⟩
      rw [cell_of_row w bl.1 (off + i) _ el (0, 0) h1]
      exact h3 (off + i) (by omega)
  · rename_i l el hr
    obtain rfl := Option.some.inj hr
    split at h
    · rename_i zs hz
      simp only [Option.some.injEq, Prod.mk.injEq] at h
      obtain ⟨rfl, rfl, rfl⟩ := h
      have hle : off + len ≤ zs.length := hps _ (by simp)
      simp only [HasB] at hB
      refine ⟨rfl, .inr ⟨bl.1, off, rfl, hlt, fun i hi => ?_⟩⟩
      rw [cell_of_row w bl.1 (off + i) _ el (0, 0) hB, intsOf_spec hz]
      have : off + i < zs.length := by omega
      simp [List.getD, this, SC.den]
    · cases h
  · cases h

theorem readS_ok {E : Nat → Prop} {η : Asg} {w : World} {g : Nat → Option Reg} {k : IntKind} {v : SV} {n : Nat} {f : Nat → Int} {ps : List Prop} (h : readS g k v = some (n, f, ps)) (hps : Holds ps) (hv : v.In W E) (hW : Below W.heap.size W w)
    (hg : ∀ r R, E r → g r = some R → Has η w r R ∧ R.In W E) : ∃ a cap, v.den η = .slice a n cap ∧ BytesAt w a n k f := by
  unfold readS at h
  split at h
  · rename_i a len cap k' f'
    cases hk : k == k' with
    | false => simp [hk] at h
    | true =>
      simp only [hk, cond_true, Option.some.injEq, Prod.mk.injEq] at h
      obtain ⟨rfl, rfl, rfl⟩ := h
      have : k = k' := by simpa using hk
      subst this
      exact ⟨a, cap, rfl, BytesAt.below hv hW⟩
  · rename_i r off len cap
    cases hr : g r with
    | none => rw [hr] at h; cases h
    | some R =>
      rw [hr] at h
      obtain ⟨rfl, hB⟩ := readR_ok h hps (hg r R hv hr).1
      exact ⟨_, cap, rfl, hB⟩
  · rename_i r off len d
    cases hr : g r with
    | none => rw [hr] at h; cases h
    | some R =>
      rw [hr] at h
      obtain ⟨rfl, hB⟩ := readR_ok h hps (hg r R hv hr).1
      exact ⟨_, _, rfl, hB⟩
  · cases h

/-- An append onto a row, whose room may do or not. -/
theorem append_row (hC : TyOK P C) {η : Asg} {w : World} {t e : TypeId} {by0 by1 by_ sz : Nat} {z0 : Option (List SC)} {k : IntKind} {z : SC} (hi : C.ty t = some ⟨.slice e, by0, by1, z0⟩) (he : C.ty e = some ⟨.int k, sz, by_, some [z]⟩) (hs1 : sz = 1) (hby8 : by_ ≤ 8)
    {v : Value} {n : Nat} {f : Nat → Int} (hown : w.ownsRow 0 e 1 v n ((List.range n).map fun i => Value.int k (f i))) {a : Option Addr} {m : Nat} {u : Nat → Int} (hba : BytesAt w a m k u) (ca : Nat) (hm : 0 < m) (hnm : n + m ≤ 1000000) (ty : TypeId) :
    ∃ w' gb cp, (Builtin.append_ #[t, t] ty #[v, .slice a m ca]).run P w = .ok (.slice (some ⟨gb, 0, none⟩) (n + m) (n + m + cp)) w' ∧ (v.ownBlock = some gb ∨ gb = w.heap.size) ∧ w.grownBy w' v.ownBlock ∧
      HasB η w' (gb, cp) ⟨.own k (n + m) (fun i => if i < n then f i else u (i - n)), e⟩ := by
  obtain ⟨ht, _⟩ := hC.ok t _ hi
  obtain ⟨_, inf, hinf, hsz, hby, hz⟩ := hC.ok e _ he
  obtain ⟨_, zv, hv, hvc⟩ := hz _ rfl
  have hvs : zv.cells.size = 1 := by rw [hvc fun _ => (0, 0)]; simp
  have hi1 : inf.size = 1 := hsz.trans hs1
  obtain ⟨b', o', rfl, _, hcell'⟩ := hba.resolve_left (by omega)
  have hnews : ∀ j x, ((List.range m).map fun i => Value.int k (u i))[j]? = some x → w.cell? ((⟨b', o', none⟩ : Addr).add j) = some x := by
    intro j x hj
    have hjl : j < m := by have := (List.getElem?_eq_some_iff.1 hj).1; simpa using this
    rw [Addr.add_lit, hcell' j hjl, ← hj]
    simp [hjl]
  have hbytes : (n + m) * by_ ≤ 140737488355328 := by
    have : (n + m) * by_ ≤ 1000000 * 8 := Nat.mul_le_mul hnm hby8
    omega
  have hmx : (1000000 : Nat) ≤ maxLen := by decide
  obtain ⟨gb, cap, w', hrun, hrow, hgr, hat, _⟩ := run_append_lies (P := P) w t ty 0 e inf zv 1 by_ ht hinf hv hi1 hby hvs (by decide) v n _ hown ⟨b', o', none⟩ m ca ((List.range m).map fun i => Value.int k (u i)) (by simp) hnews
    (fun x hx => by obtain ⟨_, _, rfl⟩ := List.mem_map.1 hx; rfl) hm (by omega) hbytes (Nat.zero_le _) w.heap.size rfl
  rcases hrow.2 with ⟨h, _⟩ | ⟨g', cap', cur, hg1, _, hg2, hg3, hg4, hg5, hg6⟩
  · cases h
  · simp only [Value.slice.injEq, Option.some.injEq, Addr.mk.injEq] at hg1
    obtain ⟨⟨rfl, _⟩, _, rfl⟩ := hg1
    obtain ⟨cp, rfl⟩ : ∃ cp, cap = n + m + cp := ⟨_, (Nat.add_sub_cancel' hg3).symm⟩
    refine ⟨w', gb, cp, hrun, hat, hgr, cur, hg2, ⟨by simpa using hg5, by omega⟩, fun i hi => ?_⟩
    have h1 := congrArg (fun l : List Value => l[i]?) hg6
    simp only [List.getElem?_take] at h1
    rw [if_pos (by omega)] at h1
    rw [← Array.getElem?_toList, h1, List.getElem?_append]
    simp only [List.length_map, List.length_range]
    by_cases hin : i < n
    · rw [if_pos hin, if_pos hin]; simp [hin]
    · rw [if_neg hin, if_neg hin]; simp [show i - n < m by omega]

theorem append_sound (hC : TyOK P C) {η : Asg} {E : Nat → Prop} {g : Nat → Option Reg} {t t' : TypeId} {d s : SV} {eff : Eff} {ps : List Prop} (h : evAppend C g t t' d s = some (eff, ps)) (hps : Holds ps) (hd : d.In W E) (hs : s.In W E)
    {w : World} (hW : Below W.heap.size W w) (hg : ∀ r R, E r → g r = some R → Has η w r R ∧ R.In W E) (ty : TypeId) :
    eff.says W η E g w (((Builtin.append_ #[t, t'] ty #[d.den η, s.den η]).run P w).andThen fun v w => .ok (.value v) w) := by
  unfold evAppend at h
  split at h
  · rename_i e _ _ _ r off len cap hi
    split at h
    · rename_i k sz by_ z he
      split at h
      · rename_i n f qs m u rs hrd hrs
        cases hb : (sz == 1 && Nat.ble by_ 8 && t == t') with
        | false => simp [hb] at h
        | true =>
          simp only [hb, cond_true, Option.some.injEq, Prod.mk.injEq] at h
          simp only [Bool.and_eq_true, beq_iff_eq, Nat.ble_eq] at hb
          obtain ⟨⟨hs1, hby8⟩, rfl⟩ := hb
          obtain ⟨rfl, rfl⟩ := h
          have p1 := hps.app
          have p2 := p1.2.app
          have c1 : cap < n + m := p2.2 _ (by simp)
          have c2 : n ≤ cap := p2.2 _ (by simp)
          have c3 : 0 < m := p2.2 _ (by simp)
          have c4 : n + m ≤ 1000000 := p2.2 _ (by simp)
          obtain ⟨a, ca, hda, hba⟩ := readS_ok hrd p1.1 hd hW hg
          obtain ⟨a', ca', hda', hba'⟩ := readS_ok hrs p2.1 hs hW hg
          obtain ⟨ht, _⟩ := hC.ok t _ hi
          obtain ⟨_, inf, hinf, hsz, hby, hz⟩ := hC.ok e _ he
          obtain ⟨_, v, hv, hvc⟩ := hz _ rfl
          have hvs : v.cells.size = 1 := by rw [hvc fun _ => (0, 0)]; simp
          have hi1 : inf.size = 1 := hsz.trans hs1
          simp only [SV.den, S1.den, SC.den] at hda
          simp only [Value.slice.injEq] at hda
          obtain ⟨rfl, rfl, rfl⟩ := hda
          rw [hda']
          have hxs : ∀ j x, ((List.range len).map fun i => Value.int k (f i))[j]? = some x → w.cell? ((⟨(η r).1, off, none⟩ : Addr).add j) = some x := by
            intro j x hj
            rcases hba with h0 | ⟨b, o, he', _, hcell⟩
            · subst h0; simp at hj
            · simp only [Option.some.injEq, Addr.mk.injEq] at he'
              obtain ⟨rfl, rfl, _⟩ := he'
              have hjl : j < len := by have := (List.getElem?_eq_some_iff.1 hj).1; simpa using this
              rw [Addr.add_lit, hcell j hjl, ← hj]
              simp [hjl]
          obtain ⟨b', o', rfl, _, hcell'⟩ := hba'.resolve_left (by omega)
          have hnews : ∀ j x, ((List.range m).map fun i => Value.int k (u i))[j]? = some x → w.cell? ((⟨b', o', none⟩ : Addr).add j) = some x := by
            intro j x hj
            have hjl : j < m := by have := (List.getElem?_eq_some_iff.1 hj).1; simpa using this
            rw [Addr.add_lit, hcell' j hjl, ← hj]
            simp [hjl]
          have hbytes : (len + m) * inf.bytes ≤ 140737488355328 := by
            have h8 : inf.bytes ≤ 8 := by rw [hby]; exact hby8
            have : (len + m) * inf.bytes ≤ 1000000 * 8 := Nat.mul_le_mul c4 h8
            omega
          have hr := run_append_grow (P := P) w t ty e inf v ht hinf hv ⟨(η r).1, off, none⟩ len cap ((List.range len).map fun i => Value.int k (f i)) (by simp [hi1]) hxs ⟨b', o', none⟩ m ca' ((List.range m).map fun i => Value.int k (u i)) (by simp [hi1]) hnews
            (by omega) (by omega) (growslice_fits (by omega) hbytes)
          simp only [SV.den, S1.den, SC.den] at hr ⊢
          rw [hr]
          obtain ⟨ex, hex⟩ : ∃ ex, grownCap w (len + m) cap e = len + m + ex := ⟨_, (Nat.add_sub_cancel' (grownCap_ge w (len + m) cap e)).symm⟩
          rw [hex]
          refine ⟨⟨_, ex, rfl, ?_, ?_⟩, trivial⟩
          · exact ⟨rfl, rfl, rfl, by simp, fun q hq => heap_alloc_old w.drew _ hq⟩
          · refine ⟨_, heap_alloc_new w.drew _, ⟨?_, ?_⟩, fun i hi => ?_⟩
            · simp [size_zeroCells, hvs]
            · have hm := grownCap_le_maxLen w (len + m) cap e (by have : (1000000 : Nat) ≤ maxLen := by decide
                                                                  omega)
              simp [size_zeroCells, hvs]
              omega
            · rw [Array.append_assoc, Array.getElem?_append, Array.getElem?_append]
              simp only [List.size_toArray, List.length_map, List.length_range]
              by_cases h1 : i < len
              · rw [if_pos h1, if_pos h1]; simp [h1]
              · rw [if_neg h1, if_neg h1, if_pos (by omega)]
                simp [show i - len < m by omega]
      · cases h
    · cases h
  · rename_i e _ _ _ k0 f0 hi
    split at h
    · rename_i k sz by_ z he
      split at h
      · rename_i m u qs hrs
        cases hb : (sz == 1 && Nat.ble by_ 8 && t == t') with
        | false => simp [hb] at h
        | true =>
          simp only [hb, cond_true, Option.some.injEq, Prod.mk.injEq] at h
          simp only [Bool.and_eq_true, beq_iff_eq, Nat.ble_eq] at hb
          obtain ⟨⟨hs1, hby8⟩, rfl⟩ := hb
          obtain ⟨rfl, rfl⟩ := h
          have p1 := hps.app
          have c3 : 0 < m := p1.2 _ (by simp)
          have c4 : m ≤ 1000000 := p1.2 _ (by simp)
          obtain ⟨a', ca', hda', hba'⟩ := readS_ok hrs p1.1 hs hW hg
          obtain ⟨w', gb, cp, hrun, hat, hgr, hB⟩ := append_row (P := P) (η := η) hC hi he hs1 hby8 (v := .slice none 0 0) (n := 0) (f := fun _ => 0) (World.ownsRow_nil w 0 e 1) hba' ca' c3 (by omega) ty
          rw [hda']
          refine ⟨⟨w', cp, ?_, ?_, ?_⟩, trivial⟩
          · have e1 : (SV.den η (.one (.sc (.vw none 0 0 k0 f0)))) = .slice none 0 0 := rfl
            rw [e1, hrun]
            have : gb = w.heap.size := by
              rcases hat with h | h
              · cases h
              · exact h
            subst this
            simp
          · exact ⟨hgr.os, hgr.tape, hgr.output, hgr.size, fun q hq => hgr.block q hq (by simp [Value.ownBlock])⟩
          · have : gb = w.heap.size := by
              rcases hat with h | h
              · cases h
              · exact h
            subst this
            have e2 : (fun i => if i < 0 then (fun _ => (0 : Int)) i else u (i - 0)) = u := by funext i; simp
            rw [e2] at hB
            simpa using hB
      · cases h
    · cases h
  · rename_i e _ _ _ r len hi
    split at h
    · rename_i k sz by_ z k' n f e' he hr
      split at h
      · rename_i m u qs hrs
        cases hb : (sz == 1 && Nat.ble by_ 8 && t == t' && k == k' && Nat.beq n len && e == e') with
        | false => simp [hb] at h
        | true =>
          simp only [hb, cond_true, Option.some.injEq, Prod.mk.injEq] at h
          simp only [Bool.and_eq_true, beq_iff_eq, Nat.ble_eq] at hb
          obtain ⟨⟨⟨⟨⟨hs1, hby8⟩, rfl⟩, rfl⟩, hnl⟩, rfl⟩ := hb
          have hnl' := Nat.eq_of_beq_eq_true hnl
          subst hnl'
          obtain ⟨rfl, rfl⟩ := h
          have p1 := hps.app
          have c3 : 0 < m := p1.2 _ (by simp)
          have c4 : n + m ≤ 1000000 := p1.2 _ (by simp)
          have hE : E r := hd
          obtain ⟨hB0, _⟩ := hg r _ hE hr
          obtain ⟨cs, hh1, ⟨hh2, hh3⟩, hh4⟩ := hB0
          obtain ⟨a', ca', hda', hba'⟩ := readS_ok hrs p1.1 hs hW hg
          have hown : w.ownsRow 0 e 1 (.slice (some ⟨(η r).1, 0, none⟩) n (n + (η r).2)) n ((List.range n).map fun i => Value.int k (f i)) := by
            refine ⟨by simp, .inr ⟨(η r).1, n + (η r).2, cs, rfl, Nat.zero_le _, hh1, by omega, by omega, by omega, ?_⟩⟩
            apply List.ext_getElem?
            intro j
            rw [List.getElem?_take]
            by_cases hj : j < n
            · have := hh4 j hj
              rw [if_pos (by omega)]
              simpa [hj] using this
            · rw [if_neg (by omega), List.getElem?_eq_none (by simp; omega)]
          obtain ⟨w', gb, cp, hrun, hat, hgr, hB⟩ := append_row (P := P) (η := η) hC hi he hs1 hby8 hown hba' ca' c3 c4 ty
          rw [hda']
          refine ⟨hE, ⟨_, hr, rfl⟩, fun _ _ => trivial, w', gb, cp, ?_, ?_, hgr, ?_⟩
          · have e1 : (SV.den η (.one (.sc (.slU r 0 n 0)))) = .slice (some ⟨(η r).1, 0, none⟩) n (n + (η r).2) := by simp [SV.den, S1.den, SC.den]
            rw [e1, hrun]
            rfl
          · rcases hat with h | h
            · exact .inl (by simpa [Value.ownBlock] using h.symm)
            · exact .inr h
          · have e2 : (fun i => bif Nat.blt i n then f i else u (i - n)) = fun i => if i < n then f i else u (i - n) := by
              funext i
              by_cases hi : i < n
              · have : Nat.blt i n = true := by simpa [Nat.blt_eq] using hi
                rw [this, if_pos hi]; rfl
              · have : Nat.blt i n = false := by
                  cases hb : Nat.blt i n with
                  | false => rfl
                  | true => exact absurd (by simpa [Nat.blt_eq] using hb) hi
                rw [this, if_neg hi]; rfl
            rw [e2]
            exact hB
      · cases h
    · cases h
  · cases h

/-- Arrays held against each other. -/
theorem run_eqArr (d : Nat) (t e : TypeId) (k k' : IntKind) (n : Nat) (ht : P.underlying t = some (.array n e)) (he : P.underlying e = some (.int k')) (inf : TypeInfo) (hinf : P.info? e = some inf) (hs : inf.size = 1)
    (zs us : List Int) (hz : zs.length = n) (hu : us.length = n) (w : World) :
    (Op.equalIn (d + 2) t (.agg (zs.map (Value.int k)).toArray) (.agg (us.map (Value.int k)).toArray)).run P w = .ok (decide (zs = us)) w := by
  have hpart : ∀ (l : List Int) (i : Nat) (x : Int), l[i]? = some x → (part e (l.map (Value.int k)).toArray i).run P w = .ok (.int k x) w := by
    intro l i x hx
    have e3 : (l.map (Value.int k)).toArray[i]? = some (Value.int k x) := by simp [hx]
    simp [part, isAgg, run_underlying he, e3]
  rw [show d + 2 = (d + 1) + 1 from rfl, run_equalIn_array w (d + 1) _ _ ht hinf, List.range_eq_range']
  have hc : P.cellsOf e = 1 := by simp [Program.cellsOf, hinf, hs]
  rw [hc]
  have key : ∀ (m i : Nat), i + m = n → (∀ j, j < i → zs[j]? = us[j]?) →
      (Op.eqItems (d + 1) e 1 (zs.map (Value.int k)).toArray (us.map (Value.int k)).toArray (List.range' i m)).run P w = .ok (decide (zs = us)) w := by
    intro m
    induction m with
    | zero =>
      intro i hi hbef
      have : zs = us := by
        apply List.ext_getElem?
        intro j
        rcases Nat.lt_or_ge j n with hj | hj
        · exact hbef j (by omega)
        · rw [List.getElem?_eq_none (by omega), List.getElem?_eq_none (by omega)]
      simp [this, Op.eqItems]
    | succ m ih =>
      intro i hi hbef
      have h1 : zs[i]? = some zs[i] := by simp
      have h2 : us[i]? = some us[i] := by simp
      simp only [List.range'_succ, Op.eqItems, Nat.mul_one, Sem.run_bind, hpart zs i _ h1, hpart us i _ h2, Result.andThen_ok, run_equalIn_int w d e k k' _ _ he]
      by_cases hq : zs[i] = us[i]
      · simp only [hq, beq_self_eq_true, Bool.not_true, Bool.false_eq_true, if_false]
        exact ih (i + 1) (by omega) fun j hj => by
          rcases Nat.lt_or_ge j i with h | h
          · exact hbef j h
          · have : j = i := by omega
            subst this
            rw [h1, h2, hq]
      · have hne : ¬ zs = us := fun e => hq (by simp [e])
        simp [hq, hne]
  exact key n 0 (by omega) (fun j hj => by omega)

theorem evEq_sound (hC : TyOK P C) {η : Asg} {t : TypeId} {x y : SV} {b : Bool} (h : evEq C t x y = some b) (w : World) (op : BinOp) (hop : op = .eql ∨ op = .neq) (X Y : Operand) :
    ((eqGuard op t X Y (x.den η) (y.den η)).run P w = .ok () w) ∧ (binOp op t (x.den η) (y.den η)).run P w = .ok (.bool (if op = .eql then b else !b)) w := by
  unfold evEq at h
  split at h
  · rename_i n e _ _ _ xs ys hi
    split at h
    · rename_i k sz _ _ he
      split at h
      · rename_i zs us hz hu
        cases hb : (C.eqg t && sz == 1 && zs.length == n && us.length == n) with
        | false => simp [hb] at h
        | true =>
          simp only [hb, cond_true, Option.some.injEq] at h
          simp only [Bool.and_eq_true, beq_iff_eq] at hb
          obtain ⟨⟨⟨h1, h2⟩, h3⟩, h4⟩ := hb
          subst h
          have ex : SV.den η (.one (.agg xs)) = .agg (zs.map (Value.int k)).toArray := by
            rw [intsOf_spec hz]; simp [SV.den, S1.den, Function.comp_def, SC.den]
          have ey : SV.den η (.one (.agg ys)) = .agg (us.map (Value.int k)).toArray := by
            rw [intsOf_spec hu]; simp [SV.den, S1.den, Function.comp_def, SC.den]
          rw [ex, ey]
          obtain ⟨ht, _⟩ := hC.ok t _ hi
          obtain ⟨he', inf, hinf, hsz, _, _⟩ := hC.ok e _ he
          have heq := run_eqArr (P := P) 9998 t e k k n ht he' inf hinf (hsz.trans h2) zs us h3 h4 w
          refine ⟨run_eqGuard_agg w op t X Y _ _ (hC.eqg t h1), ?_⟩
          rcases hop with rfl | rfl
          · rw [run_eql_struct, heq]; simp
          · rw [run_neq_struct, heq]; simp
      · cases h
    · cases h
  · rename_i _ _ _ p q hi
    simp only [Option.some.injEq] at h
    subst h
    obtain ⟨ht, _⟩ := hC.ok t _ hi
    have heq := run_equalIn_bool w 9999 t p q ht
    refine ⟨by simp [eqGuard, SV.den, S1.den, SC.den], ?_⟩
    rcases hop with rfl | rfl
    · simp only [SV.den, S1.den, SC.den, binOp, if_true]
      simp [Op.equal, Op.maxDepth, heq]
    · simp only [SV.den, S1.den, SC.den, binOp]
      simp [Op.equal, Op.maxDepth, heq]
  · cases h

theorem evMake_sound (hC : TyOK P C) {η : Asg} {E : Nat → Prop} {g : Nat → Option Reg} {t : TypeId} {l c : SV} {eff : Eff} {ps : List Prop} (h : evMake C t l c = some (eff, ps)) (hps : Holds ps) (w : World) :
    eff.says W η E g w (((Instr.makeSlice t (l.den η) (c.den η)).run P w).andThen fun v w => .ok (.value v) w) := by
  unfold evMake at h
  split at h
  · rename_i e _ _ _ ka a kb b hi
    split at h
    · rename_i d sz by_ k z he
      cases hb : (sz == 1 && Nat.ble by_ 8) with
      | false => simp [hb] at h
      | true =>
        simp only [hb, cond_true, Option.some.injEq, Prod.mk.injEq] at h
        simp only [Bool.and_eq_true, beq_iff_eq, Nat.ble_eq] at hb
        obtain ⟨rfl, rfl⟩ := h
        have h1 : a = b := hps _ (by simp)
        have h2 : 0 ≤ a := hps _ (by simp)
        have h3 : a ≤ 1000000000 := hps _ (by simp)
        subst h1
        obtain ⟨ht, _⟩ := hC.ok t _ hi
        obtain ⟨_, inf, hinf, hsz, hby, hz⟩ := hC.ok e _ he
        obtain ⟨_, v, hv, hvc⟩ := hz _ rfl
        have hcells : v.cells = #[Value.int k z] := by rw [hvc fun _ => (0, 0)]; rfl
        have hs1 : inf.size = 1 := hsz.trans hb.1
        have hbytes : (inf.bytes : Int) * a ≤ 281474976710656 := by
          have h8 : (inf.bytes : Int) ≤ 8 := by rw [hby]; exact_mod_cast hb.2
          have : (inf.bytes : Int) * a ≤ 8 * a := Int.mul_le_mul_of_nonneg_right h8 h2
          omega
        have hr := run_make (P := P) w t e inf v ht hinf hv ka kb a a h2 (Int.le_refl _) hbytes (by omega)
        refine ⟨⟨w.alloc (.cells (madeCells v.cells (a.toNat * inf.size)) e), ?_, below_alloc _ _, ?_⟩, trivial⟩
        · show ((Instr.makeSlice t (.int ka a) (.int kb a)).run P w).andThen _ = _
          rw [hr]
          rfl
        · refine ⟨_, heap_alloc_new w _, ?_, fun i hi => ?_⟩
          · have hmx : (1000000000 : Nat) ≤ maxLen := by decide
            simp [madeCells, hs1]
            omega
          · simp [madeCells, hcells, hs1, hi, Nat.mod_one]
    · cases h
  · cases h

theorem settle_spec {hint : Nat → Option Ans} {d : Option Nat} {v v' : SV} {ps : List Prop} (h : settle hint d v = (v', ps)) (hps : Holds ps) : v' = v := by
  unfold settle at h
  split at h
  · split at h
    · split at h
      · simp only [Prod.mk.injEq] at h
        obtain ⟨rfl, rfl⟩ := h
        have := hps _ (List.mem_singleton.2 rfl)
        rw [this]
      · simp only [Prod.mk.injEq] at h
        exact h.1.symm
    · split at h
      · simp only [Prod.mk.injEq] at h
        obtain ⟨rfl, rfl⟩ := h
        have := hps _ (List.mem_singleton.2 rfl)
        rw [this]
      · simp only [Prod.mk.injEq] at h
        exact h.1.symm
    · simp only [Prod.mk.injEq] at h
      exact h.1.symm
  · simp only [Prod.mk.injEq] at h
    exact h.1.symm

theorem valE_spec {x : Option SV} {eff : Eff} {ps : List Prop} (h : valE x = some (eff, ps)) : ∃ v, x = some v ∧ eff = .val v ∧ ps = [] := by
  cases x with
  | none => cases h
  | some v =>
    simp only [valE, Option.map_some, Option.some.injEq, Prod.mk.injEq] at h
    exact ⟨v, rfl, h.1.symm, h.2.symm⟩
theorem valP_spec {x : Option (SV × List Prop)} {eff : Eff} {ps : List Prop} (h : valP x = some (eff, ps)) : ∃ v, x = some (v, ps) ∧ eff = .val v := by
  cases x with
  | none => cases h
  | some v =>
    simp only [valP, Option.map_some, Option.some.injEq, Prod.mk.injEq] at h
    obtain ⟨h1, h2⟩ := h
    exact ⟨v.1, by rw [← h2], h1.symm⟩

theorem evOp_sound (hC : TyOK P C) {sy : Bool} {ρ : Operand → Option SV} {a : Act} {η : Asg} {E : Nat → Prop} {g : Nat → Option Reg} {o : Oper} {eff : Eff} {ps : List Prop}
    (h : evOp C sy ρ g o.op = some (eff, ps)) (hps : Holds ps) (hρ : ∀ x ∈ o.op.operands, ∀ v, ρ x = some v → a.eval x = v.den η ∧ v.In W E)
    {w : World} (hW : Below W.heap.size W w) (hg : ∀ r R, E r → g r = some R → Has η w r R ∧ R.In W E) :
    eff.says W η E g w ((execOp a.eval o).run P w) := by
  obtain ⟨dst, op, type, pos, after, guard⟩ := o
  simp only [] at h hρ
  cases op
  case move x =>
    simp only [evOp] at h
    obtain ⟨v, hv, rfl, rfl⟩ := valE_spec h
    obtain ⟨he, hin⟩ := hρ x (by simp [Op.operands]) v hv
    exact ⟨by simp [execOp, he], hin⟩
  case assign x =>
    simp only [evOp] at h
    obtain ⟨v, hv, rfl, rfl⟩ := valE_spec h
    obtain ⟨he, hin⟩ := hρ x (by simp [Op.operands]) v hv
    exact ⟨by simp [execOp, he], hin⟩
  case pick c x y =>
    simp only [evOp] at h
    split at h
    · rename_i t hc
      have e1 : a.eval c = .bool t := (hρ c (by simp [Op.operands]) _ hc).1
      obtain ⟨v, hv, rfl, rfl⟩ := valE_spec h
      cases t with
      | true =>
        obtain ⟨he, hin⟩ := hρ x (by simp [Op.operands]) v hv
        exact ⟨by simp [execOp, e1, he, asBool], hin⟩
      | false =>
        obtain ⟨he, hin⟩ := hρ y (by simp [Op.operands]) v hv
        exact ⟨by simp [execOp, e1, he, asBool], hin⟩
    · simp at h
  case alloc e =>
    simp only [evOp] at h
    split at h
    · rename_i d sz by_ z hty
      simp only [Option.some.injEq, Prod.mk.injEq] at h
      obtain ⟨rfl, rfl⟩ := h
      obtain ⟨_, inf, _, _, _, hz⟩ := hC.ok e _ hty
      obtain ⟨v, hrun, hcells⟩ := ty_zero hC hty rfl w η
      refine ⟨⟨w.alloc (.cells (z.map (SC.den η)).toArray e (0, 0)), by simp [execOp, Instr.alloc, hrun, newVar, newRow, hcells], below_alloc _ _, heap_alloc_new w _⟩, ?_⟩
      exact fun c hc => SC.In.mono (fun _ h => h.elim) ((hz z rfl).1 W c hc)
    · simp at h
  case box e x =>
    simp only [evOp] at h
    split at h
    · rename_i s hx
      simp only [Option.some.injEq, Prod.mk.injEq] at h
      obtain ⟨rfl, rfl⟩ := h
      obtain ⟨he, hin⟩ := hρ x (by simp [Op.operands]) _ hx
      have e1 : (a.eval x).cells = (s.cells.map (SC.den η)).toArray := by rw [he]; exact S1.cells_den η s
      refine ⟨⟨w.alloc (.cells (s.cells.map (SC.den η)).toArray e (0, 0)), by simp [execOp, Instr.box, newVar, newRow, e1], below_alloc _ _, heap_alloc_new w _⟩, ?_⟩
      exact S1.cells_in hin
    · simp at h
  case build t parts =>
    simp only [evOp] at h
    split at h
    · rename_i n e sz by_ z hty
      split at h
      · rename_i ie hie
        cases hb : ie.size == 1 with
        | false => simp [hb] at h
        | true =>
          simp only [hb, cond_true, Option.map_eq_some_iff, Prod.mk.injEq] at h
          obtain ⟨l, hl, rfl, rfl⟩ := h
          have hs : ie.size = 1 := by simpa using hb
          obtain ⟨_, inf, _, _, _, hz⟩ := hC.ok t _ hty
          obtain ⟨v, hrun, hcells⟩ := ty_zero hC hty rfl w η
          have hf := fill_sound (W := W) (η := η) (E := E) (ρ := ρ) (ev := a.eval) parts.toList z l
            (fun p hp v hv => hρ p.2 (by simp only [Op.operands, List.mem_toArray, List.mem_map]; exact ⟨p, hp, rfl⟩) v hv) (fun c hc => SC.In.mono (fun _ h => h.elim) ((hz z rfl).1 W c hc)) hl
          refine ⟨?_, hf.2⟩
          have e1 : (parts.map fun (p : Nat × Operand) => (p.1, a.eval p.2)).toList = parts.toList.map fun p => (p.1, a.eval p.2) := by simp
          simp only [execOp, Instr.build, Sem.run_bind, hrun, Result.andThen_ok, ty_under hC hty, ty_size hC hie, hs, hcells, e1, hf.1, Sem.run_pure]
          rfl
      · simp at h
    · simp at h
  case load t x =>
    simp only [evOp] at h
    split at h
    · rename_i v hx
      obtain ⟨u, hu, rfl⟩ := valP_spec h
      obtain ⟨he, hin⟩ := hρ x (by simp [Op.operands]) _ hx
      obtain ⟨b, off, hden, hrun, hin'⟩ := evLoad_sound (P := P) hC hu hps hW hin hg
      refine ⟨?_, hin'⟩
      simp only [execOp, he, hden, Instr.loadAt, Instr.sureAddr, Sem.run_bind, Sem.run_pure, Result.andThen_ok, hrun]
    · simp at h
  case store t x y =>
    simp only [evOp] at h
    split at h
    · rename_i v u hx hy
      obtain ⟨he, hin⟩ := hρ x (by simp [Op.operands]) _ hx
      obtain ⟨he', hin'⟩ := hρ y (by simp [Op.operands]) _ hy
      obtain ⟨r, R, rfl, hE, hlv, hcs, w', hrun, hu⟩ := evStore_sound (P := P) hC h hps hin hin' hg .skip
      refine ⟨hE, hlv, hcs, by simp [SV.In], w', .inl ⟨?_, rfl⟩, hu⟩
      simp only [execOp, he, he', Sem.run_bind, Sem.run_pure]
      exact hrun
    · simp at h
  case nilCheck x =>
    simp only [evOp] at h
    split at h
    · rename_i r off hx
      simp only [Option.some.injEq, Prod.mk.injEq] at h
      obtain ⟨rfl, rfl⟩ := h
      obtain ⟨he, hin⟩ := hρ x (by simp [Op.operands]) _ hx
      have e2 : a.eval x = .pointer (some ⟨(η r).1, off, none⟩) := he
      exact ⟨by simp [execOp, e2, SV.den, S1.den, SC.den], hin⟩
    · simp at h
  case binOp op xt x y yt =>
    simp only [evOp] at h
    split at h
    · rename_i k n k' m hx hy
      obtain ⟨u, hu, rfl, rfl⟩ := valE_spec h
      have e1 : a.eval x = .int k n := (hρ x (by simp [Op.operands]) _ hx).1
      have e2 : a.eval y = .int k' m := (hρ y (by simp [Op.operands]) _ hy).1
      obtain ⟨h1, h2⟩ := evBin_sound (P := P) hu xt w η E
      refine ⟨?_, h2⟩
      simp only [execOp, e1, e2, Sem.run_bind, eqGuard_at_int, Sem.run_pure, Result.andThen_ok, h1]
    · rename_i u v _ hx hy
      have e1 := (hρ x (by simp [Op.operands]) _ hx).1
      have e2 := (hρ y (by simp [Op.operands]) _ hy).1
      split at h
      · obtain ⟨z, hz, rfl, rfl⟩ := valE_spec h
        simp only [Option.map_eq_some_iff] at hz
        obtain ⟨b, hb, rfl⟩ := hz
        obtain ⟨h1, h2⟩ := evEq_sound (P := P) hC (η := η) hb w .eql (.inl rfl) x y
        refine ⟨?_, trivial⟩
        simp only [execOp, e1, e2, Sem.run_bind, h1, Result.andThen_ok, h2, Sem.run_pure, if_true]
        rfl
      · obtain ⟨z, hz, rfl, rfl⟩ := valE_spec h
        simp only [Option.map_eq_some_iff] at hz
        obtain ⟨b, hb, rfl⟩ := hz
        obtain ⟨h1, h2⟩ := evEq_sound (P := P) hC (η := η) hb w .neq (.inr rfl) x y
        refine ⟨?_, trivial⟩
        simp only [execOp, e1, e2, Sem.run_bind, h1, Result.andThen_ok, h2, Sem.run_pure]
        rfl
      · cases h
    · simp at h
  case unOp op xt x =>
    cases op <;> simp only [evOp] at h <;> try (simp at h; done)
    · split at h
      · rename_i k n hx
        simp only [Option.some.injEq, Prod.mk.injEq] at h
        obtain ⟨rfl, rfl⟩ := h
        have e1 : a.eval x = .int k n := (hρ x (by simp [Op.operands]) _ hx).1
        exact ⟨by simp only [execOp, e1, unary_xor, intBits_xor, mkInt, SV.den, S1.den, SC.den]; simp, trivial⟩
      · simp at h
    · split at h
      · rename_i b hx
        simp only [Option.some.injEq, Prod.mk.injEq] at h
        obtain ⟨rfl, rfl⟩ := h
        have e1 : a.eval x = .bool b := (hρ x (by simp [Op.operands]) _ hx).1
        exact ⟨by simp [execOp, e1, Op.unary, mkBool, SV.den, S1.den, SC.den], trivial⟩
      · simp at h
  case convert s d x =>
    simp only [evOp] at h
    split at h
    · rename_i is k sz by_ z k' n hs hd hx
      simp only [Option.some.injEq, Prod.mk.injEq] at h
      obtain ⟨rfl, rfl⟩ := h
      have e1 : a.eval x = .int k' n := (hρ x (by simp [Op.operands]) _ hx).1
      exact ⟨by simp [execOp, e1, convert, ty_under hC hs, ty_under hC hd, Conv.intToInt, mkInt, SV.den, S1.den, SC.den], trivial⟩
    · simp at h
  case sliceToArrayPointer t x =>
    simp only [evOp] at h
    split at h
    · rename_i n e _ _ _ r off len cap hs hx
      cases hb : Nat.ble n len with
      | false => simp [hb] at h
      | true =>
        simp only [hb, cond_true, Option.some.injEq, Prod.mk.injEq] at h
        obtain ⟨rfl, rfl⟩ := h
        obtain ⟨he, hin⟩ := hρ x (by simp [Op.operands]) _ hx
        have e1 : a.eval x = .slice (some ⟨(η r).1, off, none⟩) len cap := he
        have hl : ¬ len < n := by have := Nat.le_of_ble_eq_true hb; omega
        exact ⟨by simp [execOp, e1, Instr.arrayAt, ty_under hC hs, hl, SV.den, S1.den, SC.den], hin⟩
    · simp at h
  case slice t x lo hi mx =>
    cases mx with
    | some _ => simp [evOp] at h
    | none =>
      simp only [evOp] at h
      split at h
      · rename_i v hx
        obtain ⟨he, hin⟩ := hρ x (by simp [Op.operands]) _ hx
        have hop : ∀ y, y ∈ lo ∨ y ∈ hi → ∀ v, ρ y = some v → a.eval y = v.den η ∧ v.In W E := fun y hy v hv =>
          hρ y (by rcases hy with hy | hy <;> simp only [Option.mem_def] at hy <;> simp [Op.operands, hy]) v hv
        cases sy with
        | true =>
          simp only [cond_true] at h
          obtain ⟨u, hu, rfl⟩ := valP_spec h
          obtain ⟨h1, h2⟩ := evSliceS_sound (P := P) hC hu hps hin (ev := a.eval) hop w
          refine ⟨?_, h2⟩
          simp only [execOp, he, Option.map_none, Sem.run_bind, h1, Result.andThen_ok, Sem.run_pure]
        | false =>
          simp only [cond_false] at h
          obtain ⟨u, hu, rfl, rfl⟩ := valE_spec h
          obtain ⟨h1, h2⟩ := evSlice_sound (P := P) hC hu hin (ev := a.eval) hop w
          refine ⟨?_, h2⟩
          simp only [execOp, he, Option.map_none, Sem.run_bind, h1, Result.andThen_ok, Sem.run_pure]
      · simp at h
  case buildSlice t n parts =>
    simp only [evOp] at h
    split at h
    · rename_i e _ _ _ hty
      split at h
      · rename_i d sz by_ z hie
        cases hb : (sz == 1 && Nat.ble n 1000000 && !(n == 0)) with
        | false => simp [hb] at h
        | true =>
          simp only [hb, cond_true, Option.map_eq_some_iff, Prod.mk.injEq] at h
          obtain ⟨l, hl, rfl, rfl⟩ := h
          simp only [Bool.and_eq_true, beq_iff_eq, Nat.ble_eq, Bool.not_eq_true', beq_eq_false_iff_ne] at hb
          obtain ⟨⟨hs, hn⟩, hn0⟩ := hb
          subst hs
          obtain ⟨_, inf, _, _, _, hz⟩ := hC.ok e _ hie
          obtain ⟨v, hrun, hcells⟩ := ty_zero hC hie rfl w η
          have hf := fill_sound (W := W) (η := η) (E := E) (ρ := ρ) (ev := a.eval) parts.toList (List.replicate n z) l
            (fun p hp v hv => hρ p.2 (by simp only [Op.operands, List.mem_toArray, List.mem_map]; exact ⟨p, hp, rfl⟩) v hv) (fun c hc => by
              rw [List.eq_of_mem_replicate hc]
              exact SC.In.mono (fun _ h => h.elim) ((hz _ rfl).1 W z (by simp))) hl
          refine ⟨⟨w.alloc (.cells (l.map (SC.den η)).toArray e (0, 0)), ?_, below_alloc _ _, heap_alloc_new w _⟩, hf.2⟩
          have e1 : (parts.map fun (p : Nat × Operand) => (p.1, a.eval p.2)).toList = parts.toList.map fun p => (p.1, a.eval p.2) := by simp
          have e2 : (Array.range (n * 1)).map (fun x => v.cells[x % v.cells.size]!) = ((List.replicate n z).map (SC.den η)).toArray := by
            rw [hcells]
            apply Array.ext_getElem?
            intro i
            by_cases hi : i < n
            · simp [hi, Nat.mod_one]
            · rw [Array.getElem?_eq_none (by simp; omega), Array.getElem?_eq_none (by simp; omega)]
          have h24 : ¬ (n * 1 > 2 ^ 24) := by omega
          have hne : ¬ (n * 1 = 0) := by omega
          simp only [execOp, Instr.buildSlice, Sem.run_bind, ty_under hC hty, Result.andThen_ok, ty_size hC hie, Sem.run_ite, if_neg h24, if_neg hne, hrun, Sem.run_pure, e1, e2, hf.1]
          simp [newRow]
      · simp at h
    · simp at h
  case makeSlice t l c =>
    simp only [evOp] at h
    split at h
    · rename_i u v hl hc
      have e1 := (hρ l (by simp [Op.operands]) _ hl).1
      have e2 := (hρ c (by simp [Op.operands]) _ hc).1
      have := evMake_sound (P := P) (g := g) (W := W) (η := η) (E := E) hC h hps w
      rw [← e1, ← e2] at this
      simpa only [execOp, Sem.run_bind, Sem.run_pure] using this
    · simp at h
  case indexAddr t x i =>
    simp only [evOp] at h
    split at h
    · rename_i v j hx hi
      obtain ⟨he, hin⟩ := hρ x (by simp [Op.operands]) _ hx
      obtain ⟨he', _⟩ := hρ i (by simp [Op.operands]) _ hi
      cases sy with
      | true =>
        simp only [cond_true] at h
        obtain ⟨u, hu, rfl⟩ := valP_spec h
        obtain ⟨h1, h2⟩ := evIndexAddrS_sound (P := P) (η := η) hC hu hps hin w
        refine ⟨?_, h2⟩
        simp only [execOp, he, he', Sem.run_bind, h1, Result.andThen_ok, Sem.run_pure]
      | false =>
        simp only [cond_false] at h
        obtain ⟨u, hu, rfl, rfl⟩ := valE_spec h
        obtain ⟨h1, h2⟩ := evIndexAddr_sound (P := P) (η := η) hC hu hin w
        refine ⟨?_, h2⟩
        simp only [execOp, he, he', Sem.run_bind, h1, Result.andThen_ok, Sem.run_pure]
    · simp at h
  case index t x i =>
    simp only [evOp] at h
    split at h
    · rename_i n e sz by_ z cs k j hty hx hi
      split at h
      · rename_i ie hie
        cases hb : (ie.size == 1 && !aggD ie.desc && Nat.blt j n) with
        | false => simp [hb] at h
        | true =>
          simp only [hb, cond_true] at h
          simp only [Bool.and_eq_true, beq_iff_eq, Nat.blt_eq, Bool.not_eq_true'] at hb
          split at h
          · rename_i c hc
            simp only [Option.some.injEq, Prod.mk.injEq] at h
            obtain ⟨rfl, rfl⟩ := h
            obtain ⟨he, hin⟩ := hρ x (by simp [Op.operands]) _ hx
            have e1 : a.eval x = .agg (cs.map (SC.den η)).toArray := he
            have e2 : a.eval i = .int k (Int.ofNat j) := (hρ i (by simp [Op.operands]) _ hi).1
            have hlt : (0 : Int) ≤ Int.ofNat j ∧ Int.ofNat j < (n : Int) := ⟨Int.natCast_nonneg j, by simpa using hb.2⟩
            refine ⟨?_, hin c (List.mem_of_getElem? hc)⟩
            have e3 : (cs.map (SC.den η)).toArray[j]? = some (c.den η) := by simp [hc]
            simp only [execOp, e1, e2, Instr.index, Sem.run_bind, asIntOf, Sem.run_pure, Result.andThen_ok, ty_under hC hty, Sem.run_ite]
            rw [if_pos hlt]
            simp only [Sem.run_bind, Result.andThen_ok, ty_size hC hie, hb.1.1, Nat.mul_one, part, ty_isAgg hC hie,
              hb.1.2, Bool.false_eq_true, if_false, Int.ofNat_eq_natCast, Int.toNat_natCast, e3]
            rfl
          · simp at h
      · simp at h
    · rename_i sz by_ z s k j hty hx hi
      split at h
      · rename_i b hb
        simp only [Option.some.injEq, Prod.mk.injEq] at h
        obtain ⟨rfl, rfl⟩ := h
        have e1 : a.eval x = .string s := (hρ x (by simp [Op.operands]) _ hx).1
        have e2 : a.eval i = .int k (Int.ofNat j) := (hρ i (by simp [Op.operands]) _ hi).1
        have e3 : s[(Int.ofNat j).toNat]? = some b := by
          obtain ⟨hlt, hbe⟩ := List.getElem?_eq_some_iff.1 hb
          have hlt' : j < s.size := by simpa using hlt
          show (if h : j < s.size then some s[j] else none) = some b
          rw [dif_pos hlt']
          rw [← hbe]
          simp
          rfl
        refine ⟨?_, trivial⟩
        simp only [execOp, e1, e2, Instr.index, Sem.run_bind, asIntOf, Sem.run_pure, Result.andThen_ok, ty_under hC hty]
        rw [if_pos (show (0 : Int) ≤ Int.ofNat j from Int.natCast_nonneg j), e3]
        rfl
      · simp at h
    · simp at h
  case extract x i =>
    simp only [evOp] at h
    split at h
    · rename_i l hx
      split at h
      · rename_i s hs
        simp only [Option.some.injEq, Prod.mk.injEq] at h
        obtain ⟨rfl, rfl⟩ := h
        obtain ⟨he, hin⟩ := hρ x (by simp [Op.operands]) _ hx
        have e1 : a.eval x = .tuple (l.map (S1.den η)).toArray := he
        exact ⟨by simp [execOp, e1, Instr.extract, hs, SV.den], hin s (List.mem_of_getElem? hs)⟩
      · simp at h
    · simp at h
  case call c =>
    obtain ⟨callee, args, ts⟩ := c
    cases callee with
    | value f => simp [evOp] at h
    | invoke r m => simp [evOp] at h
    | builtin b =>
      simp only [evOp] at h
      have hmem : ∀ x ∈ args.toList, ∀ v, ρ x = some v → a.eval x = v.den η ∧ v.In W E := fun x hx => hρ x (by simp [Op.operands, Call.operands]; simpa using hx)
      unfold evBuiltin at h
      split at h
      · rename_i t x hts hargs
        have ha : args = #[x] := by rw [← Array.toArray_toList (xs := args), hargs]
        have hta : ts = #[t] := by rw [← Array.toArray_toList (xs := ts), hts]
        subst ha hta
        split at h
        · rename_i v hx
          simp only [Option.map_eq_some_iff, Prod.mk.injEq] at h
          obtain ⟨u, hu, rfl, _⟩ := h
          obtain ⟨he, _⟩ := hmem x (by simp) _ hx
          obtain ⟨h1, h2⟩ := evLen_sound (P := P) (W := W) (E := E) (ty := type) hC hu w (η := η)
          exact ⟨by simp only [execOp, resolve, Sem.run_bind, Sem.run_pure, Result.andThen_ok, invoke, builtin, List.map_toArray, List.map_cons, List.map_nil, he, h1], h2⟩
        · simp at h
      · rename_i x y hargs
        have ha : args = #[x, y] := by rw [← Array.toArray_toList (xs := args), hargs]
        subst ha
        split at h
        · rename_i k n k' m hx hy
          simp only [Option.some.injEq, Prod.mk.injEq] at h
          obtain ⟨rfl, _⟩ := h
          have e1 : a.eval x = .int k n := (hmem x (by simp) _ hx).1
          have e2 : a.eval y = .int k' m := (hmem y (by simp) _ hy).1
          exact ⟨by simp [execOp, resolve, invoke, builtin, e1, e2, Builtin.min_, Builtin.min2, mkInt, SV.den, S1.den, SC.den], trivial⟩
        · simp at h
      · rename_i t _ x y hts hargs
        have ha : args = #[x, y] := by rw [← Array.toArray_toList (xs := args), hargs]
        subst ha
        have ht0 : ts[0]? = some t := by rw [← Array.getElem?_toList, hts]; rfl
        split at h
        · rename_i d s hx hy
          obtain ⟨he, hin⟩ := hmem x (by simp) _ hx
          obtain ⟨he', hin'⟩ := hmem y (by simp) _ hy
          have hall : ∀ eff', (evCopy C g t d s = some eff' ∨ evCopyS C g t d s = some eff') → eff' = eff →
              eff.says W η E g w ((execOp a.eval { dst := dst, op := .call ⟨.builtin .copy, #[x, y], ts⟩, type := type, pos := pos, after := after, guard := guard }).run P w) := by
            rintro eff' hc rfl
            have key : ∃ r R n, eff' = .upd r R (mkInt .i64 n) ∧ E r ∧ (∃ R0, g r = some R0 ∧ R0.body.live = true) ∧ R.In W E ∧
                ∃ w', (Builtin.copy_ ts type #[d.den η, s.den η]).run P w = .ok ((mkInt .i64 n).den η) w' ∧ WUpd w w' (η r).1 (HasB η w' (η r) R) := by
              rcases hc with hc | hc
              · exact copy_sound (P := P) hC ht0 hc hin hin' hg type
              · exact copyS_sound (P := P) hC ht0 hc hin hin' hW hg type
            obtain ⟨r, R, n, rfl, hE, hlv, hcs, w', hrun, hu⟩ := key
            refine ⟨hE, hlv, hcs, trivial, w', .inr ?_, hu⟩
            simp only [execOp, resolve, Sem.run_bind, Sem.run_pure, Result.andThen_ok, invoke, builtin, List.map_toArray, List.map_cons, List.map_nil, he, he', hrun]
          cases sy with
          | true =>
            simp only [cond_true, Option.map_eq_some_iff, Prod.mk.injEq] at h
            obtain ⟨eff', hc, he'', _⟩ := h
            exact hall eff' (.inr hc) he''
          | false =>
            simp only [cond_false, Option.map_eq_some_iff, Prod.mk.injEq] at h
            obtain ⟨eff', hc, he'', _⟩ := h
            exact hall eff' (.inl hc) he''
        · simp at h
      · rename_i t t' x y hts hargs
        have ha : args = #[x, y] := by rw [← Array.toArray_toList (xs := args), hargs]
        have hta : ts = #[t, t'] := by rw [← Array.toArray_toList (xs := ts), hts]
        subst ha hta
        split at h
        · rename_i d s hx hy
          obtain ⟨he, hin⟩ := hmem x (by simp) _ hx
          obtain ⟨he', hin'⟩ := hmem y (by simp) _ hy
          have := append_sound (P := P) (W := W) (η := η) (E := E) hC h hps hin hin' hW hg type
          rw [← he, ← he'] at this
          simpa only [execOp, resolve, Sem.run_bind, Sem.run_pure, Result.andThen_ok, invoke, builtin, List.map_toArray, List.map_cons, List.map_nil] using this
        · simp at h
      · simp at h
  all_goals simp [evOp] at h


end
end Go.SX
