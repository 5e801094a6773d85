/-
  A region that draws its order: whatever order is drawn, it comes to the state that the text's order comes to. Conditions: none.
-/
import Derived.Test.YtiemgibnmanhbaaSxSound
namespace Go.SX
open Go.RowKit (Below)

theorem count_set (n i : Nat) (p q : Nat → Bool) (hi : i < n) (hp : p i = true) (hq : q i = false) (h : ∀ j, j ≠ i → p j = q j) : (List.range n).countP q + 1 = (List.range n).countP p := by
  induction n with
  | zero => omega
  | succ n ih =>
    rw [List.range_succ, List.countP_append, List.countP_append]
    by_cases hin : i = n
    · subst hin
      have e : (List.range i).countP q = (List.range i).countP p := List.countP_congr fun j hj => by
        have : j ≠ i := by have := List.mem_range.1 hj; omega
        rw [h j this]
      simp [e, hp, hq]
    · have := ih (by omega)
      have hn := h n (fun e => hin e.symm)
      simp only [List.countP_cons, List.countP_nil, hn]
      omega

def unl (n : Nat) (listed : Array Bool) : Nat := (List.range n).countP fun i => !listed.getD i true

theorem unl_zero {n : Nat} {listed : Array Bool} (h : unl n listed = 0) : ∀ i, i < n → listed.getD i true = true := by
  intro i hi
  unfold unl at h
  rw [List.countP_eq_zero] at h
  have := h i (List.mem_range.2 hi)
  cases hb : listed.getD i true with
  | true => rfl
  | false => exact absurd (by rw [hb]; rfl) this

theorem unl_set {n i : Nat} {listed : Array Bool} (hi : i < n) (h : listed.getD i true = false) : unl n (listed.setIfInBounds i true) + 1 = unl n listed := by
  refine count_set n i _ _ hi (by rw [h]; rfl) ?_ fun j hj => ?_
  · have hlt : i < listed.size := by
      rcases Nat.lt_or_ge i listed.size with h' | h'
      · exact h'
      · simp [Array.getElem?_eq_none h'] at h
    simp [hlt]
  · rw [getD_set_ne true (Ne.symm hj)]

/-- The least that is not yet listed. -/
theorem least_unl {n : Nat} {listed : Array Bool} (h : unl n listed ≠ 0) : ∃ i, i < n ∧ listed.getD i true = false ∧ ∀ j, j < i → listed.getD j true = true := by
  have key : ∀ k, k ≤ n → (∀ i, i < k → listed.getD i true = true) ∨ ∃ i, i < n ∧ listed.getD i true = false ∧ ∀ j, j < i → listed.getD j true = true := by
    intro k
    induction k with
    | zero => intro _; exact .inl fun i hi => by omega
    | succ k ih =>
      intro hk
      rcases ih (by omega) with h1 | h1
      · cases hb : listed.getD k true with
        | false => exact .inr ⟨k, by omega, hb, h1⟩
        | true =>
          refine .inl fun i hi => ?_
          by_cases hik : i = k
          · rw [hik]; exact hb
          · exact h1 i (by omega)
      · exact .inr h1
  rcases key n (Nat.le_refl n) with h1 | h1
  · exfalso
    apply h
    unfold unl
    rw [List.countP_eq_zero]
    intro i hi
    rw [h1 i (List.mem_range.1 hi)]
    simp
  · exact h1

section
variable {P : Program} {C : Ctx} {W : World}

/-- The heads, walked in the text's order. -/
structure HS (C : Ctx) (cf : CallF) (ops : Array Oper) (n : Nat) (S : Nat → St) : Prop where
  step : ∀ i, i < n → ∃ o, ops[i]? = some o ∧ headKind C o = true ∧ evOper C cf ops o (S i) = some (S (i + 1))
  holds : ∀ i, i ≤ n → Holds (S i).conds

/-- Only stores and copies write. -/
theorem evOp_upd {sy : Bool} {ρ : Operand → Option SV} {g : Nat → Option Reg} {o : Oper} {r : Nat} {R : Reg} {v : SV} {ps : List Prop} (h : evOp C sy ρ g o.op = some (.upd r R v, ps)) : headKind C o = false := by
  obtain ⟨dst, op, type, pos, after, guard⟩ := o
  simp only at h
  have hE : ∀ {x : Option SV}, valE x ≠ some (.upd r R v, ps) := fun {x} h => by obtain ⟨_, _, h, _⟩ := valE_spec h; cases h
  have hP : ∀ {x : Option (SV × List Prop)}, valP x ≠ some (.upd r R v, ps) := fun {x} h => by obtain ⟨_, _, h⟩ := valP_spec h; cases h
  cases op
  case store => rfl
  case move x => simp only [evOp] at h; exact absurd h hE
  case assign x => simp only [evOp] at h; exact absurd h hE
  case pick c x y =>
    simp only [evOp] at h
    split at h
    · exact absurd h hE
    · cases h
  case alloc e => simp only [evOp] at h; split at h <;> simp at h
  case box e x => simp only [evOp] at h; split at h <;> simp at h
  case build t parts =>
    simp only [evOp] at h
    split at h
    · split at h
      · rename_i ie _
        cases hb : (ie.size == 1) <;> simp [hb] at h
      · simp at h
    · simp at h
  case load t x => simp only [evOp] at h; split at h <;> first | exact absurd h hP | simp at h
  case nilCheck x => simp only [evOp] at h; split at h <;> simp at h
  case binOp op xt x y yt =>
    simp only [evOp] at h
    split at h
    · exact absurd h hE
    · split at h <;> first | exact absurd h hE | simp at h
    · simp at h
  case unOp op xt x =>
    cases op <;> simp only [evOp] at h <;> try (simp at h; done)
    all_goals (split at h <;> simp at h)
  case convert s d x => simp only [evOp] at h; split at h <;> simp at h
  case sliceToArrayPointer t x =>
    simp only [evOp] at h
    split at h
    · rename_i n e _ _ _ r' off len cap hs hx
      cases hb : Nat.ble n len <;> simp [hb] at h
    · simp at h
  case slice t x lo hi mx =>
    cases mx with
    | some _ => simp [evOp] at h
    | none =>
      simp only [evOp] at h
      split at h
      · cases sy with
        | true => exact absurd h hP
        | false => exact absurd h hE
      · simp at h
  case buildSlice t n parts =>
    simp only [evOp] at h
    split at h
    · split at h
      · rename_i d sz by_ z _
        cases hb : (sz == 1 && Nat.ble n 1000000 && !(n == 0)) <;> simp [hb] at h
      · simp at h
    · simp at h
  case makeSlice t l c =>
    simp only [evOp] at h
    split at h
    · unfold evMake at h
      split at h
      · split at h
        · rename_i d sz by_ k z _
          cases hb : (sz == 1 && Nat.ble by_ 8) <;> simp [hb] at h
        · simp at h
      · simp at h
    · simp at h
  case indexAddr t x i =>
    simp only [evOp] at h
    split at h
    · cases sy with
      | true => exact absurd h hP
      | false => exact absurd h hE
    · simp at h
  case index t x i =>
    simp only [evOp] at h
    split at h
    · rename_i n _ _ _ _ _ _ j _ _ _
      split at h
      · rename_i ie _
        cases hb : (ie.size == 1 && !aggD ie.desc && Nat.blt j n) with
        | false => simp [hb] at h
        | true =>
          simp only [hb, cond_true] at h
          split at h <;> simp at h
      · simp at h
    · split at h <;> simp at h
    · simp at h
  case extract x i =>
    simp only [evOp] at h
    split at h
    · split at h <;> simp at h
    · simp at h
  case call c =>
    obtain ⟨callee, args, ts⟩ := c
    cases callee with
    | value f => simp [evOp] at h
    | invoke r m => simp [evOp] at h
    | builtin b =>
      simp only [evOp] at h
      unfold evBuiltin at h
      split at h
      · split at h
        · simp only [Option.map_eq_some_iff, Prod.mk.injEq] at h
          obtain ⟨_, _, h, _⟩ := h
          cases h
        · simp at h
      · split at h <;> simp at h
      · rfl
      · rfl
      · simp at h
  all_goals simp [evOp] at h

theorem evOp_app {sy : Bool} {ρ : Operand → Option SV} {g : Nat → Option Reg} {o : Oper} {r : Nat} {R : Reg} {v : Nat} {ps : List Prop} (h : evOp C sy ρ g o.op = some (.app r R v, ps)) : headKind C o = false := by
  obtain ⟨dst, op, type, pos, after, guard⟩ := o
  simp only at h
  have hE : ∀ {x : Option SV}, valE x ≠ some (.app r R v, ps) := fun {x} h => by obtain ⟨_, _, h, _⟩ := valE_spec h; cases h
  have hP : ∀ {x : Option (SV × List Prop)}, valP x ≠ some (.app r R v, ps) := fun {x} h => by obtain ⟨_, _, h⟩ := valP_spec h; cases h
  cases op
  case store => rfl
  case move x => simp only [evOp] at h; exact absurd h hE
  case assign x => simp only [evOp] at h; exact absurd h hE
  case pick c x y =>
    simp only [evOp] at h
    split at h
    · exact absurd h hE
    · cases h
  case alloc e => simp only [evOp] at h; split at h <;> simp at h
  case box e x => simp only [evOp] at h; split at h <;> simp at h
  case build t parts =>
    simp only [evOp] at h
    split at h
    · split at h
      · rename_i ie _
        cases hb : (ie.size == 1) <;> simp [hb] at h
      · simp at h
    · simp at h
  case load t x => simp only [evOp] at h; split at h <;> first | exact absurd h hP | simp at h
  case nilCheck x => simp only [evOp] at h; split at h <;> simp at h
  case binOp op xt x y yt =>
    simp only [evOp] at h
    split at h
    · exact absurd h hE
    · split at h <;> first | exact absurd h hE | simp at h
    · simp at h
  case unOp op xt x =>
    cases op <;> simp only [evOp] at h <;> try (simp at h; done)
    all_goals (split at h <;> simp at h)
  case convert s d x => simp only [evOp] at h; split at h <;> simp at h
  case sliceToArrayPointer t x =>
    simp only [evOp] at h
    split at h
    · rename_i n e _ _ _ r' off len cap hs hx
      cases hb : Nat.ble n len <;> simp [hb] at h
    · simp at h
  case slice t x lo hi mx =>
    cases mx with
    | some _ => simp [evOp] at h
    | none =>
      simp only [evOp] at h
      split at h
      · cases sy with
        | true => exact absurd h hP
        | false => exact absurd h hE
      · simp at h
  case buildSlice t n parts =>
    simp only [evOp] at h
    split at h
    · split at h
      · rename_i d sz by_ z _
        cases hb : (sz == 1 && Nat.ble n 1000000 && !(n == 0)) <;> simp [hb] at h
      · simp at h
    · simp at h
  case makeSlice t l c =>
    simp only [evOp] at h
    split at h
    · unfold evMake at h
      split at h
      · split at h
        · rename_i d sz by_ k z _
          cases hb : (sz == 1 && Nat.ble by_ 8) <;> simp [hb] at h
        · simp at h
      · simp at h
    · simp at h
  case indexAddr t x i =>
    simp only [evOp] at h
    split at h
    · cases sy with
      | true => exact absurd h hP
      | false => exact absurd h hE
    · simp at h
  case index t x i =>
    simp only [evOp] at h
    split at h
    · rename_i n _ _ _ _ _ _ j _ _ _
      split at h
      · rename_i ie _
        cases hb : (ie.size == 1 && !aggD ie.desc && Nat.blt j n) with
        | false => simp [hb] at h
        | true =>
          simp only [hb, cond_true] at h
          split at h <;> simp at h
      · simp at h
    · split at h <;> simp at h
    · simp at h
  case extract x i =>
    simp only [evOp] at h
    split at h
    · split at h <;> simp at h
    · simp at h
  case call c =>
    obtain ⟨callee, args, ts⟩ := c
    cases callee with
    | value f => simp [evOp] at h
    | invoke r m => simp [evOp] at h
    | builtin b =>
      simp only [evOp] at h
      unfold evBuiltin at h
      split at h
      · split at h
        · simp only [Option.map_eq_some_iff, Prod.mk.injEq] at h
          obtain ⟨_, _, h, _⟩ := h
          cases h
        · simp at h
      · split at h <;> simp at h
      · rfl
      · rfl
      · simp at h
  all_goals simp [evOp] at h

/-- What one head does to the state. -/
theorem head_shape {cf : CallF} {ops : Array Oper} {o : Oper} {s s' : St} (hk : headKind C o = true) (h : evOper C cf ops o s = some s') :
    ∃ v Rs, Rs.length ≤ 1 ∧ Upd s (s.regs ++ Rs) o.dst v s' := by
  rcases evOper_spec h with ⟨hw, hu, hc⟩ | ⟨regs, v, v', qs, hw, hcore, hu, hc⟩
  · exact ⟨.tup [], [], by simp, by simpa using hu⟩
  · unfold evCore at hcore
    split at hcore
    · rename_i f xs hcl
      obtain ⟨args, ts, hop, rfl⟩ := calls_spec hcl
      split at hcore
      · simp at hcore
      · split at hcore
        · split at hcore
          · simp only [Option.some.injEq, Prod.mk.injEq] at hcore
            obtain ⟨rfl, rfl, rfl⟩ := hcore
            exact ⟨_, [], by simp, by simpa using hu⟩
          · simp only [Option.some.injEq, Prod.mk.injEq] at hcore
            obtain ⟨rfl, rfl, rfl⟩ := hcore
            exact ⟨_, [_], by simp, hu⟩
          · simp only [Option.some.injEq, Prod.mk.injEq] at hcore
            obtain ⟨rfl, rfl, rfl⟩ := hcore
            exact ⟨_, [_], by simp, hu⟩
          · simp at hcore
        · rename_i horc
          have : (C.orc f).isSome = true := by simpa [headKind, hop] using hk
          simp [horc] at this
    · split at hcore
      · rename_i eff qs' heff
        cases eff with
        | val v => simp only [effOf, Option.some.injEq, Prod.mk.injEq] at hcore; obtain ⟨rfl, rfl, rfl⟩ := hcore; exact ⟨_, [], by simp, by simpa using hu⟩
        | newp R => simp only [effOf, Option.some.injEq, Prod.mk.injEq] at hcore; obtain ⟨rfl, rfl, rfl⟩ := hcore; exact ⟨_, [R], by simp, hu⟩
        | news R len => simp only [effOf, Option.some.injEq, Prod.mk.injEq] at hcore; obtain ⟨rfl, rfl, rfl⟩ := hcore; exact ⟨_, [R], by simp, hu⟩
        | newu R len => simp only [effOf, Option.some.injEq, Prod.mk.injEq] at hcore; obtain ⟨rfl, rfl, rfl⟩ := hcore; exact ⟨_, [R], by simp, hu⟩
        | upd r R v => rw [evOp_upd heff] at hk; cases hk
        | app r R v => rw [evOp_app heff] at hk; cases hk
      · simp at hcore

variable {cf : CallF} {ops : Array Oper} {n : Nat} {S : Nat → St}

theorem HS.n_eq (h : HS C cf ops n S) : ∀ i, i ≤ n → (S i).n = (S 0).n := by
  intro i
  induction i with
  | zero => intro _; rfl
  | succ i ih =>
    intro hi
    obtain ⟨o, _, hk, hs⟩ := h.step i (by omega)
    obtain ⟨v, Rs, _, hp⟩ := head_shape hk hs
    rw [hp.n]
    exact ih (by omega)

theorem HS.regs_step (h : HS C cf ops n S) {i : Nat} (hi : i < n) : ∃ Rs, Rs.length ≤ 1 ∧ (S (i + 1)).regs = (S i).regs ++ Rs := by
  obtain ⟨o, _, hk, hs⟩ := h.step i hi
  obtain ⟨v, Rs, hl, hp⟩ := head_shape hk hs
  exact ⟨Rs, hl, hp.regs⟩

theorem HS.regs_prefix (h : HS C cf ops n S) : ∀ (k i : Nat), i + k ≤ n → (S i).regs <+: (S (i + k)).regs := by
  intro k
  induction k with
  | zero => intro i _; exact List.prefix_rfl
  | succ k ih =>
    intro i hi
    obtain ⟨Rs, _, hr⟩ := h.regs_step (show i + k < n by omega)
    refine (ih i (by omega)).trans ?_
    rw [show i + (k + 1) = i + k + 1 by omega, hr]
    exact List.prefix_append _ _

theorem HS.regs_get (h : HS C cf ops n S) {i j : Nat} (hij : i ≤ j) (hj : j ≤ n) {r : Nat} {R : Reg} (hr : (S i).regs[r]? = some R) : (S j).regs[r]? = some R := by
  have hp := h.regs_prefix (j - i) i (by omega)
  rw [show i + (j - i) = j by omega] at hp
  obtain ⟨t, ht⟩ := hp
  rw [← ht]
  rw [List.getElem?_append_left (List.getElem?_eq_some_iff.1 hr).1]
  exact hr

theorem HS.len_mono (h : HS C cf ops n S) {i j : Nat} (hij : i ≤ j) (hj : j ≤ n) : (S i).regs.length ≤ (S j).regs.length := by
  have hp := h.regs_prefix (j - i) i (by omega)
  rw [show i + (j - i) = j by omega] at hp
  exact hp.length_le

theorem HS.fr_stable (h : HS C cf ops n S) (h4 : (S 0).n ≤ 4000) {t : Nat} : ∀ (k i : Nat), i + k ≤ n → (∀ j o, i ≤ j → j < i + k → ops[j]? = some o → o.dst ≠ some t) → (S (i + k)).fr.get t = (S i).fr.get t := by
  intro k
  induction k with
  | zero => intro i _ _; rfl
  | succ k ih =>
    intro i hi hno
    obtain ⟨o, ho, hk, hs⟩ := h.step (i + k) (by omega)
    obtain ⟨v, Rs, _, hp⟩ := head_shape hk hs
    have hn := h.n_eq (i + k) (by omega)
    rw [show i + (k + 1) = i + k + 1 by omega, hp.get t (by omega)]
    rw [if_neg (hno (i + k) o (by omega) (by omega) ho)]
    exact ih i (by omega) fun j o' h1 h2 => hno j o' h1 (by omega)

/-- The regions that are there when these heads have been carried out. -/
def EL (n : Nat) (S : Nat → St) (L : Nat → Bool) (r : Nat) : Prop :=
  r < (S 0).regs.length ∨ ∃ i, i < n ∧ L i = true ∧ (S i).regs.length = r ∧ (S (i + 1)).regs.length = r + 1

def visL (ops : Array Oper) (n : Nat) (L : Nat → Bool) (t : Nat) : Prop := ∀ i o, i < n → ops[i]? = some o → o.dst = some t → L i = true

structure PRel (W w0 : World) (base : Nat) (ops : Array Oper) (n : Nat) (S : Nat → St) (L : Nat → Bool) (η : Asg) (a : Act) (w : World) : Prop where
  mem : MR W w0 base η (EL n S L) (fun r => (S n).regs[r]?) w
  frame : FR W η (EL n S L) (visL ops n L) (S n).n (S n).fr a

structure HOk (ops : Array Oper) (n : Nat) : Prop where
  edges : ∀ i o, i < n → ops[i]? = some o → ∀ e ∈ o.after, Region.binds .any e = true → e.on < i
  alone : ∀ i j o o' t, i < n → j < n → ops[i]? = some o → ops[j]? = some o' → o'.dst = some t → o.dst = some t → i = j
  reads : ∀ i j o o' t, i < n → j < n → ops[i]? = some o → ops[j]? = some o' → o'.dst = some t → t ∈ o.looksAt ops → j < i ∧ ∃ e ∈ o.after, Region.binds .any e = true ∧ e.on = j

theorem headsOk_spec {ops : Array Oper} {n : Nat} (h : headsOk ops.toList ops n = true) : HOk ops n := by
  unfold headsOk at h
  rw [List.all_eq_true] at h
  have hz : ∀ i o, i < n → ops[i]? = some o → (o, i) ∈ ops.toList.zipIdx := fun i o _ ho => by
    rw [List.mem_zipIdx_iff_getElem?]
    simpa using ho
  have hmain : ∀ i o, i < n → ops[i]? = some o → (o.after.all (fun e => Nat.blt e.on i || !Region.binds .any e)) = true ∧
      ∀ j o', j < n → ops[j]? = some o' → ∀ t, o'.dst = some t → (i == j || o.dst != some t) = true ∧ (!(o.looksAt ops).contains t || (Nat.blt j i && o.after.any fun e => Region.binds .any e && e.on == j)) = true := by
    intro i o hi ho
    have h1 := h _ (hz i o hi ho)
    simp only [Bool.or_eq_true, Nat.ble_eq] at h1
    have h2 := h1.resolve_left (by omega)
    rw [Bool.and_eq_true] at h2
    refine ⟨h2.1, fun j o' hj ho' t ht => ?_⟩
    have h3 := (List.all_eq_true.1 h2.2) _ (hz j o' hj ho')
    simp only [Bool.or_eq_true, Nat.ble_eq] at h3
    have h4 := h3.resolve_left (by omega)
    rw [ht] at h4
    simpa only [Bool.and_eq_true] using h4
  refine ⟨?_, ?_, ?_⟩
  · intro i o hi ho e he hb
    have h1 := (hmain i o hi ho).1
    rw [Array.all_eq_true'] at h1
    have := h1 e he
    rw [hb] at this
    simpa [Nat.blt_eq] using this
  · intro i j o o' t hi hj ho ho' ht hto
    have h1 := ((hmain i o hi ho).2 j o' hj ho' t ht).1
    rw [hto] at h1
    simpa using h1
  · intro i j o o' t hi hj ho ho' ht hl
    have h1 := ((hmain i o hi ho).2 j o' hj ho' t ht).2
    have hc : (o.looksAt ops).contains t = true := by simpa using hl
    rw [hc] at h1
    simp only [Bool.not_true, Bool.false_or, Bool.and_eq_true, Nat.blt_eq] at h1
    refine ⟨h1.1, ?_⟩
    obtain ⟨e, he, hb⟩ := Array.any_eq_true'.1 h1.2
    simp only [Bool.and_eq_true, beq_iff_eq] at hb
    exact ⟨e, he, hb.1, hb.2⟩

theorem MR.congrE {w0 w : World} {base : Nat} {η : Asg} {E E' : Nat → Prop} {g : Nat → Option Reg} (h : MR W w0 base η E g w) (hE : ∀ r, E r ↔ E' r) : MR W w0 base η E' g w := by
  have : E = E' := funext fun r => propext (hE r)
  rw [← this]; exact h
theorem FR.congrE {η : Asg} {E E' : Nat → Prop} {vis : Nat → Prop} {n : Nat} {fr : T} {a : Act} (h : FR W η E vis n fr a) (hE : ∀ r, E r ↔ E' r) : FR W η E' vis n fr a := by
  have : E = E' := funext fun r => propext (hE r)
  rw [← this]; exact h

def addL (L : Nat → Bool) (i : Nat) : Nat → Bool := fun j => if j = i then true else L j

theorem EL_add {L : Nat → Bool} {i : Nat} (hi : i < n) (r : Nat) : EL n S (addL L i) r ↔ EL n S L r ∨ ((S i).regs.length = r ∧ (S (i + 1)).regs.length = r + 1) := by
  unfold EL addL
  constructor
  · rintro (h | ⟨j, hj, hL, h1, h2⟩)
    · exact .inl (.inl h)
    · by_cases hji : j = i
      · subst hji; exact .inr ⟨h1, h2⟩
      · rw [if_neg hji] at hL
        exact .inl (.inr ⟨j, hj, hL, h1, h2⟩)
  · rintro ((h | ⟨j, hj, hL, h1, h2⟩) | ⟨h1, h2⟩)
    · exact .inl h
    · exact .inr ⟨j, hj, by split <;> simp_all, h1, h2⟩
    · exact .inr ⟨i, hi, by simp, h1, h2⟩

/-- The frame behind a head. -/
theorem frame_add (hS : HS C cf ops n S) (hok : HOk ops n) (h4 : (S 0).n ≤ 4000) {L : Nat → Bool} {i : Nat} (hi : i < n) {o : Oper} (ho : ops[i]? = some o) {v : SV} {Rs : List Reg}
    (hp : Upd (S i) ((S i).regs ++ Rs) o.dst v (S (i + 1))) {η : Asg} {E : Nat → Prop} {a : Act} (hf : FR W η E (visL ops n L) (S n).n (S n).fr a) (hv : v.In W E) :
    FR W η E (visL ops n (addL L i)) (S n).n (S n).fr (a.put o.dst (v.den η)) := by
  have hni := hS.n_eq i (by omega)
  have hnn := hS.n_eq n (by omega)
  have hvis : ∀ t, visL ops n (addL L i) t → o.dst ≠ some t → visL ops n L t := by
    intro t ht hne j oj hj hoj hd
    have := ht j oj hj hoj hd
    unfold addL at this
    by_cases hji : j = i
    · subst hji
      have : oj = o := Option.some.inj (hoj.symm.trans ho)
      subst this
      exact absurd hd hne
    · rwa [if_neg hji] at this
  cases hd : o.dst with
  | none => exact ⟨hf.size, hf.defers, fun t u ht hu => hf.slot t u (hvis t ht (by simp [hd])) hu⟩
  | some d =>
    have hdn : d < (S n).n := Nat.lt_of_lt_of_eq (hp.lt d hd : d < (S i).n) (hni.trans hnn.symm)
    refine ⟨by simp [Act.put, hf.size], hf.defers, fun t u ht hu => ?_⟩
    rw [Act.put_getElem a d _ t (by rw [hf.size]; exact hdn)]
    by_cases hdt : d = t
    · subst hdt
      have h1 := hp.get d (show (S i).n ≤ 4000 by omega)
      rw [if_pos hd] at h1
      have h2 := hS.fr_stable h4 (t := d) (n - (i + 1)) (i + 1) (by omega) (fun j oj h1' h2' hoj hdj => by
        have := hok.alone i j o oj d hi (by omega) ho hoj hdj hd
        omega)
      rw [show i + 1 + (n - (i + 1)) = n by omega, h1] at h2
      rw [h2] at hu
      simp only [Option.some.injEq] at hu
      subst hu
      simp [hv]
    · simp only [hdt, if_false]
      exact hf.slot t u (hvis t ht (by rw [hd]; simpa using hdt)) hu

/-- One head, carried out whenever it comes up. -/
theorem head_step (hC : TyOK P C) (hO : OrcOK P C) (hN : NamesOK P) (hS : HS C cf ops n S) (hok : HOk ops n) (h4 : (S 0).n ≤ 4000) {w0 : World} {base : Nat} (hbase : base ≤ (S 0).regs.length) {L : Nat → Bool} {η : Asg} {a : Act} {w : World}
    (hR : PRel W w0 base ops n S L η a w) {i : Nat} (hi : i < n) (hL : L i = false) (hready : ∀ o, ops[i]? = some o → ∀ e ∈ o.after, Region.binds .any e = true → L e.on = true)
    {K : Act → World → Prop} {Q : Exit → Act → World → Prop} (hK : ∀ η' a' w', (∀ r, r < base → η' r = η r) → PRel W w0 base ops n S (addL L i) η' a' w' → K a' w') : wpOp P ops Q i K a w := by
  obtain ⟨o, ho, hk, hs⟩ := hS.step i hi
  have hh : Holds (S (i + 1)).conds := hS.holds (i + 1) (by omega)
  have hnn := hS.n_eq n (by omega)
  have hni := hS.n_eq i (by omega)
  -- the frame as this operation sees it
  have hF : FR W η (EL n S L) (fun t => t ∈ o.looksAt ops) (S n).n (S i).fr a := ⟨hR.frame.size, hR.frame.defers, fun t v ht hv => by
    have hst := hS.fr_stable h4 (t := t) (n - i) i (by omega) (fun j oj h1 h2 hoj hd => by
      have := (hok.reads i j o oj t hi (by omega) ho hoj hd ht).1
      omega)
    rw [show i + (n - i) = n by omega] at hst
    refine hR.frame.slot t v (fun j oj hj hoj hd => ?_) (by rw [hst]; exact hv)
    obtain ⟨_, e, he, hb, hon⟩ := hok.reads i j o oj t hi hj ho hoj hd ht
    rw [← hon]
    exact hready o ho e he hb⟩
  have hg : ∀ r R, EL n S L r → (S i).regs[r]? = some R → Has η w r R ∧ R.In W (EL n S L) := fun r R hr hR' => hR.mem.has r R hr (hS.regs_get (by omega) (Nat.le_refl n) hR')
  have hguard : ∀ j wn t, o.guard = some (j, wn) → (ops[j]?).bind (·.dst) = some t → t ∈ o.looksAt ops := fun j wn t hgd hdt => by
    simp only [Oper.looksAt, hgd, List.mem_append, Option.mem_toList]
    exact .inr hdt
  -- no new region
  have fin0 : ∀ (v : SV) (w' : World), Below w.heap.size w w' → v.In W (EL n S L) → Upd (S i) (S i).regs o.dst v (S (i + 1)) → K (a.put o.dst (v.den η)) w' := fun v w' hb hv hp => by
    have hlen : (S (i + 1)).regs.length = (S i).regs.length := by rw [hp.regs]
    have hE : ∀ r, EL n S L r ↔ EL n S (addL L i) r := fun r => by
      rw [EL_add hi]
      constructor
      · exact .inl
      · rintro (h | ⟨h1, h2⟩)
        · exact h
        · omega
    refine hK η _ _ (fun _ _ => rfl) ⟨(hR.mem.below hb).congrE hE, ?_⟩
    exact (frame_add hS hok h4 hi ho (Rs := []) (by simpa using hp) hR.frame hv).congrE hE
  have fresh : ∀ (w' : World) (b cp : Nat) (R : Reg) (v : SV), Below w.heap.size w w' → w.heap.size ≤ b → HasB η w' (b, cp) R → R.In W (EL n S L) → (∀ W, v.In W (· = (S i).regs.length)) → Upd (S i) ((S i).regs ++ [R]) o.dst v (S (i + 1)) →
      K (a.put o.dst (v.den (fun _ => (b, cp)))) w' := fun w' b cp R v hw' hbw hB hcs hv hp => by
    have hreg : (S (i + 1)).regs = (S i).regs ++ [R] := hp.regs
    have hlen : (S (i + 1)).regs.length = (S i).regs.length + 1 := by rw [hreg]; simp
    have h0 := hS.len_mono (Nat.zero_le i) (by omega)
    have hnot : ¬ EL n S L (S i).regs.length := by
      rintro (h | ⟨j, hj, hLj, h1, h2⟩)
      · omega
      · rcases Nat.lt_trichotomy j i with hji | hji | hji
        · have := hS.len_mono (show j + 1 ≤ i by omega) (by omega); omega
        · subst hji; rw [hL] at hLj; cases hLj
        · have := hS.len_mono (show i + 1 ≤ j by omega) (by omega); omega
    have hE : ∀ r, (EL n S L r ∨ r = (S i).regs.length) ↔ EL n S (addL L i) r := fun r => by
      rw [EL_add hi]
      constructor
      · rintro (h | h)
        · exact .inl h
        · exact .inr ⟨h.symm, by omega⟩
      · rintro (h | ⟨h1, _⟩)
        · exact .inl h
        · exact .inr h1.symm
    have hgd : (S n).regs[(S i).regs.length]? = some R := hS.regs_get (show i + 1 ≤ n by omega) (Nat.le_refl n) (by rw [hreg]; simp)
    have hm := (hR.mem.fresh hw' (cp := cp) hnot hbw hB hcs hgd (fun _ _ => rfl)).congrE hE
    have hag : ∀ r, EL n S L r → η r = updN η (S i).regs.length (b, cp) r := fun r hr => by
      have : r ≠ (S i).regs.length := fun e => hnot (e ▸ hr)
      simp [updN, this]
    have hden : v.den (fun _ => (b, cp)) = v.den (updN η (S i).regs.length (b, cp)) := SV.den_congr (W := W) (E := (· = (S i).regs.length)) (fun r hr => by simp [updN, hr]) (hv W)
    rw [hden]
    have hpre : ∀ r, r < base → updN η (S i).regs.length (b, cp) r = η r := fun r hr => by
      have : r ≠ (S i).regs.length := by omega
      simp [updN, this]
    refine hK (updN η (S i).regs.length (b, cp)) _ _ hpre ⟨hm, ?_⟩
    have hf' := hR.frame.congr (E' := EL n S (addL L i)) hag (fun r hr => (hE r).1 (.inl hr))
    exact frame_add hS hok h4 hi ho hp hf' (SV.In.mono (fun r hr => (hE r).1 (.inr hr)) (hv W))
  have below_refl : Below w.heap.size w w := Below.refl _ _
  unfold wpOp
  simp only [ho]
  rcases evOper_spec hs with ⟨hw, hu, hc⟩ | ⟨regs, v, v', qs, hw, hcore, _, hc⟩
  · rw [wants_sound hF hw hguard]
    simp only [Bool.false_eq_true, if_false]
    exact fin0 (.tup []) w below_refl (by simp [SV.In]) hu
  · obtain ⟨_, hqs, hu⟩ := hc hh
    rw [wants_sound hF hw hguard]
    simp only [if_true]
    refine .inl ?_
    unfold Oper.wp
    unfold evCore at hcore
    split at hcore
    · rename_i f xs hcl
      obtain ⟨args, ts, hop, rfl⟩ := calls_spec hcl
      split at hcore
      · simp at hcore
      · rename_i vs hvs
        obtain ⟨hev, hin⟩ := evArgs_sound hF _ _ (fun x hx t hxt => by
          subst hxt
          simp only [Oper.looksAt, List.mem_append, List.mem_filterMap]
          refine .inl ⟨.tmp t, ?_, rfl⟩
          rw [hop]
          simp [Op.operands, Call.operands]
          simpa using hx) hvs
        split at hcore
        · rename_i hh' horc
          obtain ⟨⟨fn, hfn, hbody⟩, hor⟩ := hO f hh' horc
          split at hcore
          · rename_i u qs' hv
            simp only [Option.some.injEq, Prod.mk.injEq] at hcore
            obtain ⟨rfl, rfl, rfl⟩ := hcore
            obtain ⟨hvin, hcall⟩ := hor vs _ _ hv hqs W η _ w hR.mem.root hin hg
            rw [run_call hN hop hfn hbody, hev, Oper.upon_enter]
            refine hcall.mono fun e w' ⟨he, hb⟩ => ?_
            subst he
            exact fin0 _ w' hb (SV.In.mono (fun _ h => h.elim) (hvin W)) hu
          · rename_i R len cap qs' hv
            simp only [Option.some.injEq, Prod.mk.injEq] at hcore
            obtain ⟨rfl, rfl, rfl⟩ := hcore
            obtain ⟨hRin, hcall⟩ := hor vs _ _ hv hqs W η _ w hR.mem.root hin hg
            rw [run_call hN hop hfn hbody, hev, Oper.upon_enter]
            refine hcall.mono fun e w' ⟨b, cp, hbw, he, hcp, hlc, hB, hb⟩ => ?_
            subst he
            obtain rfl := hcp cap rfl
            exact fresh w' b (cp - len) R (.one (.sc (.sl (S i).regs.length 0 len cp))) hb hbw hB (Reg.In.mono (fun _ h => h.elim) (hRin W)) (fun _ => by simp [SV.In, S1.In, SC.In]) hu
          · rename_i R len qs' hv
            simp only [Option.some.injEq, Prod.mk.injEq] at hcore
            obtain ⟨rfl, rfl, rfl⟩ := hcore
            obtain ⟨hRin, hcall⟩ := hor vs _ _ hv hqs W η _ w hR.mem.root hin hg
            rw [run_call hN hop hfn hbody, hev, Oper.upon_enter]
            refine hcall.mono fun e w' ⟨b, cp, hbw, he, hcp, hlc, hB, hb⟩ => ?_
            subst he
            obtain ⟨ex, rfl⟩ : ∃ ex, cp = len + ex := ⟨_, (Nat.add_sub_cancel' hlc).symm⟩
            rw [Nat.add_sub_cancel_left] at hB
            exact fresh w' b ex R (.one (.sc (.slU (S i).regs.length 0 len 0))) hb hbw hB (Reg.In.mono (fun _ h => h.elim) (hRin W)) (fun _ => by simp [SV.In, S1.In, SC.In]) hu
          · simp at hcore
        · rename_i horc
          have : (C.orc f).isSome = true := by simpa [headKind, hop] using hk
          simp [horc] at this
    · split at hcore
      · rename_i hcl eff qs' heff
        generalize heo : effOf (S i).regs eff = eo at hcore
        obtain ⟨rs', v'⟩ := eo
        simp only [Option.some.injEq, Prod.mk.injEq] at hcore
        obtain ⟨rfl, rfl, rfl⟩ := hcore
        have hsd := evOp_sound (P := P) (W := W) hC heff hqs (a := a) (η := η) (E := EL n S L) (fun x hx v hv => hF.eval hv (fun t hxt => by
          subst hxt
          simp only [Oper.looksAt, List.mem_append, List.mem_filterMap]
          exact .inl ⟨.tmp t, by simpa using hx, rfl⟩)) (w := w) hR.mem.root hg
        cases eff with
        | val v =>
          simp only [effOf, Prod.mk.injEq] at heo
          obtain ⟨rfl, rfl⟩ := heo
          obtain ⟨hrun, hin⟩ := hsd
          rw [hrun, Oper.upon_value]
          exact fin0 _ w below_refl hin hu
        | newp R =>
          simp only [effOf, Prod.mk.injEq] at heo
          obtain ⟨rfl, rfl⟩ := heo
          obtain ⟨⟨w', hrun, hbel, hB⟩, hin⟩ := hsd
          rw [hrun, Oper.upon_value]
          exact fresh w' _ 0 R _ hbel (Nat.le_refl _) hB hin (fun _ => by simp [SV.In, S1.In, SC.In]) hu
        | news R len =>
          simp only [effOf, Prod.mk.injEq] at heo
          obtain ⟨rfl, rfl⟩ := heo
          obtain ⟨⟨w', hrun, hbel, hB⟩, hin⟩ := hsd
          rw [hrun, Oper.upon_value]
          exact fresh w' _ 0 R _ hbel (Nat.le_refl _) hB hin (fun _ => by simp [SV.In, S1.In, SC.In]) hu
        | newu R len =>
          simp only [effOf, Prod.mk.injEq] at heo
          obtain ⟨rfl, rfl⟩ := heo
          obtain ⟨⟨w', cp, hrun, hbel, hB⟩, hin⟩ := hsd
          rw [hrun, Oper.upon_value]
          exact fresh w' _ cp R _ hbel (Nat.le_refl _) hB hin (fun _ => by simp [SV.In, S1.In, SC.In]) hu
        | upd r R v => rw [evOp_upd heff] at hk; cases hk
        | app r R v => rw [evOp_app heff] at hk; cases hk
      · simp at hcore

end
end Go.SX
