/-
  The executor is sound: what it comes to is what the model's code comes to, in every world and on every order that the tape draws. Conditions: none.
-/
import Derived.Test.YtiemgibnmanhbaaSxOps
namespace Go.SX
open Go.RowKit (Below)

/-! ### Memory -/

theorem below_comp {n : Nat} {w0 w w' : World} (h : Below n w0 w) (hn : n ≤ w.heap.size) (h' : Below w.heap.size w w') : Below n w0 w' :=
  ⟨h'.os.trans h.os, h'.tape.trans h.tape, h'.output.trans h.output, Nat.le_trans h.size h'.size, fun k hk => (h'.block k (by omega)).trans (h.block k hk)⟩

structure MR (W w0 : World) (base : Nat) (η : Asg) (E : Nat → Prop) (g : Nat → Option Reg) (w : World) : Prop where
  os : w.os = w0.os
  tape : w.tape = w0.tape
  output : w.output = w0.output
  size : w0.heap.size ≤ w.heap.size
  root : Below W.heap.size W w
  low : ∀ r, E r → W.heap.size ≤ (η r).1
  has : ∀ r R, E r → g r = some R → Has η w r R ∧ R.In W E
  ex : ∀ r, E r → ∃ R, g r = some R
  inj : ∀ r s R S, E r → E s → g r = some R → g s = some S → R.body.live = true → S.body.live = true → (η r).1 = (η s).1 → r = s
  new : ∀ r, E r → base ≤ r → w0.heap.size ≤ (η r).1 ∨ ∃ s, E s ∧ s < base ∧ (η s).1 = (η r).1
  old : ∀ b, b < w0.heap.size → (∀ r, E r → (η r).1 ≠ b) → w.heap[b]? = w0.heap[b]?

section
variable {W : World}

theorem MR.lt {w0 w : World} {base : Nat} {η : Asg} {E : Nat → Prop} {g : Nat → Option Reg} (h : MR W w0 base η E g w) {r : Nat} (hr : E r) : (η r).1 < w.heap.size := by
  obtain ⟨R, hR⟩ := h.ex r hr
  exact (h.has r R hr hR).1.lt

def updN (η : Asg) (d : Nat) (b : Nat × Nat) : Asg := fun r => if r = d then b else η r

theorem MR.fresh {w0 w w' : World} {base : Nat} {η : Asg} {E : Nat → Prop} {g g' : Nat → Option Reg} (h : MR W w0 base η E g w) (hw : Below w.heap.size w w') {d b cp : Nat} {R : Reg} (hd : ¬ E d) (hb : w.heap.size ≤ b)
    (hB : HasB η w' (b, cp) R) (hR : R.In W E) (hg : g' d = some R) (hg' : ∀ r, E r → g' r = g r) :
    MR W w0 base (updN η d (b, cp)) (fun r => E r ∨ r = d) g' w' := by
  have hne : ∀ r, E r → r ≠ d := fun r hr e => hd (e ▸ hr)
  have hag : ∀ r, E r → η r = updN η d (b, cp) r := fun r hr => by simp [updN, hne r hr]
  have hroot := h.root.size
  refine ⟨hw.os.trans h.os, hw.tape.trans h.tape, hw.output.trans h.output, Nat.le_trans h.size hw.size, below_comp h.root hroot hw, ?_, ?_, ?_, ?_, ?_, ?_⟩
  · intro r hr
    by_cases hrd : r = d
    · simp only [updN, hrd, if_true]; omega
    · simp only [updN, hrd, if_false]; exact h.low r (hr.resolve_right hrd)
  · rintro r S hr hS
    by_cases hrd : r = d
    · subst hrd
      have : S = R := by rw [hg] at hS; exact (Option.some.inj hS).symm
      subst this
      refine ⟨?_, Reg.In.mono (fun _ h => .inl h) hR⟩
      show HasB (updN η r (b, cp)) w' (updN η r (b, cp) r) S
      rw [show updN η r (b, cp) r = (b, cp) by simp [updN]]
      exact hB.den hR hag
    · have hEr : E r := hr.resolve_right hrd
      rw [hg' r hEr] at hS
      obtain ⟨h1, h2⟩ := h.has r S hEr hS
      refine ⟨?_, Reg.In.mono (fun _ h => .inl h) h2⟩
      show HasB _ w' (updN η d (b, cp) r) S
      rw [← hag r hEr]
      exact (h1.congr (hw.block _ (h.lt hEr))).den h2 hag
  · rintro r hr
    by_cases hrd : r = d
    · subst hrd; exact ⟨R, hg⟩
    · have hEr : E r := hr.resolve_right hrd
      obtain ⟨S, hS⟩ := h.ex r hEr
      exact ⟨S, by rw [hg' r hEr]; exact hS⟩
  · rintro r s R1 S1 hr hs hgr hgs hlr hls he
    by_cases hrd : r = d <;> by_cases hsd : s = d
    · rw [hrd, hsd]
    · have hEs : E s := hs.resolve_right hsd
      have := h.lt hEs
      simp only [updN, hrd, hsd, if_true, if_false] at he
      omega
    · have hEr : E r := hr.resolve_right hrd
      have := h.lt hEr
      simp only [updN, hrd, hsd, if_true, if_false] at he
      omega
    · simp only [updN, hrd, hsd, if_false] at he
      have hEr := hr.resolve_right hrd
      have hEs := hs.resolve_right hsd
      rw [hg' r hEr] at hgr
      rw [hg' s hEs] at hgs
      exact h.inj r s R1 S1 hEr hEs hgr hgs hlr hls he
  · rintro r hr hbs
    by_cases hrd : r = d
    · left; have := h.size; simp only [updN, hrd, if_true]; omega
    · rcases h.new r (hr.resolve_right hrd) hbs with h1 | ⟨s, hs, h2, h3⟩
      · left; simp only [updN, hrd, if_false]; exact h1
      · exact .inr ⟨s, .inl hs, h2, by simp only [updN, hrd, hne s hs, if_false]; exact h3⟩
  · intro k hk hno
    have hsz := h.size
    rw [hw.block k (by omega)]
    refine h.old k hk fun r hr he => hno r (.inl hr) ?_
    rw [← hag r hr]; exact he

theorem MR.upd {w0 w w' : World} {base : Nat} {η : Asg} {E : Nat → Prop} {g g' : Nat → Option Reg} (h : MR W w0 base η E g w) {d : Nat} {R : Reg} (hd : E d) (hlv : ∃ R0, g d = some R0 ∧ R0.body.live = true)
    (hR : R.In W E) (hu : WUpd w w' (η d).1 (HasB η w' (η d) R)) (hg : g' d = some R) (hg' : ∀ r, r ≠ d → g' r = g r) : MR W w0 base η E g' w' := by
  have hlow := h.low d hd
  have hr0 := h.root
  obtain ⟨R0, hR0, hl0⟩ := hlv
  refine ⟨hu.os.trans h.os, hu.tape.trans h.tape, hu.output.trans h.output, by rw [hu.size]; exact h.size,
    ⟨hu.os.trans hr0.os, hu.tape.trans hr0.tape, hu.output.trans hr0.output, by rw [hu.size]; exact hr0.size, fun k hk => (hu.other k (by omega)).trans (hr0.block k hk)⟩, h.low, ?_, ?_, ?_, h.new, ?_⟩
  · intro r S hr hS
    by_cases hrd : r = d
    · subst hrd
      have : S = R := by rw [hg] at hS; exact (Option.some.inj hS).symm
      subst this
      exact ⟨hu.here, hR⟩
    · rw [hg' r hrd] at hS
      obtain ⟨h1, h2⟩ := h.has r S hr hS
      refine ⟨?_, h2⟩
      cases hl : S.body.live with
      | true => exact h1.congr (hu.other _ (fun e => hrd (h.inj r d S R0 hr hd hS hR0 hl hl0 e)))
      | false => exact h1.gone (by rw [hu.size]; exact Nat.le_refl _) hl
  · intro r hr
    by_cases hrd : r = d
    · subst hrd; exact ⟨R, hg⟩
    · obtain ⟨S, hS⟩ := h.ex r hr
      exact ⟨S, by rw [hg' r hrd]; exact hS⟩
  · intro r s R1 S1 hr hs hgr hgs hlr hls he
    have old : ∀ q Q, g' q = some Q → Q.body.live = true → ∃ Q0, g q = some Q0 ∧ Q0.body.live = true := fun q Q hq hl => by
      by_cases hqd : q = d
      · subst hqd; exact ⟨R0, hR0, hl0⟩
      · rw [hg' q hqd] at hq; exact ⟨Q, hq, hl⟩
    obtain ⟨R2, a1, a2⟩ := old r R1 hgr hlr
    obtain ⟨S2, b1, b2⟩ := old s S1 hgs hls
    exact h.inj r s R2 S2 hr hs a1 b1 a2 b2 he
  · intro b hb hno
    rw [hu.other b (fun e => hno d hd e.symm)]
    exact h.old b hb hno

/-- A row grown: in its place or elsewhere; the old one is no more. -/
theorem MR.app {w0 w w' : World} {base : Nat} {η : Asg} {E : Nat → Prop} {g g' : Nat → Option Reg} (h : MR W w0 base η E g w) {r0 d gb cp : Nat} {R X : Reg} (hr0 : E r0) (hlv : ∃ R0, g r0 = some R0 ∧ R0.body.live = true) (hd : ¬ E d)
    (hgb : gb = (η r0).1 ∨ gb = w.heap.size) (hgr : w.grownBy w' (some (η r0).1)) (hB : HasB η w' (gb, cp) R) (hR : ∀ W E, R.In W E) (hX : X.body.live = false) (hX2 : X.body = .gone) (hg : g' d = some R) (hg0 : g' r0 = some X) (hg' : ∀ r, E r → r ≠ r0 → g' r = g r) :
    MR W w0 base (updN η d (gb, cp)) (fun r => E r ∨ r = d) g' w' := by
  have hne : ∀ r, E r → r ≠ d := fun r hr e => hd (e ▸ hr)
  have hag : ∀ r, E r → η r = updN η d (gb, cp) r := fun r hr => by simp [updN, hne r hr]
  have hroot := h.root.size
  have hlow := h.low r0 hr0
  have hlt0 := h.lt hr0
  obtain ⟨R0, hR0, hl0⟩ := hlv
  have hgw : W.heap.size ≤ gb := by rcases hgb with e | e <;> omega
  -- a live region that is not the old row lies elsewhere
  have far : ∀ r S, E r → r ≠ r0 → g' r = some S → S.body.live = true → (η r).1 ≠ (η r0).1 := fun r S hr hrr hS hl e => by
    rw [hg' r hr hrr] at hS
    exact hrr (h.inj r r0 S R0 hr hr0 hS hR0 hl hl0 e)
  refine ⟨hgr.os.trans h.os, hgr.tape.trans h.tape, hgr.output.trans h.output, Nat.le_trans h.size hgr.size, ⟨hgr.os.trans h.root.os, hgr.tape.trans h.root.tape, hgr.output.trans h.root.output, Nat.le_trans hroot hgr.size, fun k hk => (hgr.block k (by omega) (fun e => by
    have := Option.some.inj e; omega)).trans (h.root.block k hk)⟩, ?_, ?_, ?_, ?_, ?_, ?_⟩
  · intro r hr
    by_cases hrd : r = d
    · simp only [updN, hrd, if_true]; exact hgw
    · simp only [updN, hrd, if_false]; exact h.low r (hr.resolve_right hrd)
  · rintro r S hr hS
    by_cases hrd : r = d
    · subst hrd
      have : S = R := by rw [hg] at hS; exact (Option.some.inj hS).symm
      subst this
      refine ⟨?_, hR _ _⟩
      show HasB (updN η r (gb, cp)) w' (updN η r (gb, cp) r) S
      rw [show updN η r (gb, cp) r = (gb, cp) by simp [updN]]
      exact hB.den (hR W E) hag
    · have hEr : E r := hr.resolve_right hrd
      by_cases hrr : r = r0
      · subst hrr
        have : S = X := by rw [hg0] at hS; exact (Option.some.inj hS).symm
        subst this
        refine ⟨?_, ?_⟩
        · show HasB _ w' (updN η d (gb, cp) r) S
          rw [← hag r hEr]
          have hsz := hgr.size
          unfold HasB
          rw [hX2]
          exact ⟨_, Array.getElem?_eq_getElem (by omega)⟩
        · unfold Reg.In
          rw [hX2]
          trivial
      · have hS0 := hS
        rw [hg' r hEr hrr] at hS
        obtain ⟨h1, h2⟩ := h.has r S hEr hS
        refine ⟨?_, Reg.In.mono (fun _ h => .inl h) h2⟩
        show HasB _ w' (updN η d (gb, cp) r) S
        rw [← hag r hEr]
        cases hl : S.body.live with
        | true => exact (h1.congr (hgr.block _ (h.lt hEr) (fun e => far r S hEr hrr hS0 hl (Option.some.inj e)))).den h2 hag
        | false => exact (h1.gone hgr.size hl).den h2 hag
  · rintro r hr
    by_cases hrd : r = d
    · subst hrd; exact ⟨R, hg⟩
    · have hEr : E r := hr.resolve_right hrd
      by_cases hrr : r = r0
      · subst hrr; exact ⟨X, hg0⟩
      · obtain ⟨S, hS⟩ := h.ex r hEr
        exact ⟨S, by rw [hg' r hEr hrr]; exact hS⟩
  · rintro r s R1 S1 hr hs hgr' hgs hlr hls he
    -- the old row is not among the live
    have notr0 : ∀ q Q, g' q = some Q → Q.body.live = true → q ≠ r0 := fun q Q hq hl e => by
      subst e
      rw [hg0] at hq
      have := Option.some.inj hq
      subst this
      rw [hX] at hl
      cases hl
    have one : ∀ q Q, E q → g' q = some Q → Q.body.live = true → (η q).1 ≠ gb := fun q Q hq hgq hl e => by
      rcases hgb with e1 | e1
      · exact far q Q hq (notr0 q Q hgq hl) hgq hl (e.trans e1)
      · have := h.lt hq; omega
    by_cases hrd : r = d <;> by_cases hsd : s = d
    · rw [hrd, hsd]
    · simp only [updN, hrd, hsd, if_true, if_false] at he
      exact (one s S1 (hs.resolve_right hsd) hgs hls he.symm).elim
    · simp only [updN, hrd, hsd, if_true, if_false] at he
      exact (one r R1 (hr.resolve_right hrd) hgr' hlr he).elim
    · simp only [updN, hrd, hsd, if_false] at he
      have hEr := hr.resolve_right hrd
      have hEs := hs.resolve_right hsd
      rw [hg' r hEr (notr0 r R1 hgr' hlr)] at hgr'
      rw [hg' s hEs (notr0 s S1 hgs hls)] at hgs
      exact h.inj r s R1 S1 hEr hEs hgr' hgs hlr hls he
  · rintro r hr hbs
    have old : ∀ q, E q → base ≤ q → w0.heap.size ≤ (η q).1 ∨ ∃ s, (E s ∨ s = d) ∧ s < base ∧ (updN η d (gb, cp) s).1 = (η q).1 := fun q hq hb => by
      rcases h.new q hq hb with h1 | ⟨s, hs, h2, h3⟩
      · exact .inl h1
      · exact .inr ⟨s, .inl hs, h2, by rw [← hag s hs]; exact h3⟩
    by_cases hrd : r = d
    · rw [show (updN η d (gb, cp) r).1 = gb by simp [updN, hrd]]
      rcases hgb with e | e
      · by_cases hb0 : base ≤ r0
        · rcases old r0 hr0 hb0 with h1 | ⟨s, h1, h2, h3⟩
          · left; omega
          · exact .inr ⟨s, h1, h2, h3.trans e.symm⟩
        · exact .inr ⟨r0, .inl hr0, by omega, by rw [← hag r0 hr0]; exact e.symm⟩
      · left; have := h.size; omega
    · have hEr := hr.resolve_right hrd
      rw [← hag r hEr]
      exact old r hEr hbs
  · intro k hk hno
    have hsz := h.size
    have hk0 : (η r0).1 ≠ k := by rw [hag r0 hr0]; exact hno r0 (.inl hr0)
    rw [hgr.block k (by omega) (fun e => hk0 (Option.some.inj e).symm)]
    refine h.old k hk fun r hr he => hno r (.inl hr) ?_
    rw [← hag r hr]; exact he

theorem MR.below {w0 w w' : World} {base : Nat} {η : Asg} {E : Nat → Prop} {g : Nat → Option Reg} (h : MR W w0 base η E g w) (hb : Below w.heap.size w w') : MR W w0 base η E g w' := by
  refine ⟨hb.os.trans h.os, hb.tape.trans h.tape, hb.output.trans h.output, Nat.le_trans h.size hb.size, below_comp h.root h.root.size hb, h.low, ?_, h.ex, h.inj, h.new, ?_⟩
  · intro r S hr hS
    obtain ⟨h1, h2⟩ := h.has r S hr hS
    exact ⟨h1.congr (hb.block _ (h.lt hr)), h2⟩
  · intro b hb' hno
    have := h.size
    rw [hb.block b (by omega)]
    exact h.old b hb' hno

theorem MR.rebase {w0 w : World} {base : Nat} {η : Asg} {E : Nat → Prop} {g : Nat → Option Reg} (h : MR W w0 base η E g w) {base' : Nat} (hb : ∀ r, E r → r < base') : MR W w base' η E g w :=
  ⟨rfl, rfl, rfl, Nat.le_refl _, h.root, h.low, h.has, h.ex, h.inj, fun r hr hb' => absurd (hb r hr) (by omega), fun _ _ _ => rfl⟩

/-- A call, from its start to its end. -/
theorem MR.trans {w0 w w' : World} {base base' : Nat} {η η' : Asg} {E E' : Nat → Prop} {g g' : Nat → Option Reg} (h : MR W w0 base η E g w) (h' : MR W w base' η' E' g' w')
    (hE : ∀ r, E r ↔ r < base') (hE' : ∀ r, r < base' → E' r) (hη : ∀ r, r < base' → η' r = η r) : MR W w0 base η' E' g' w' := by
  refine ⟨h'.os.trans h.os, h'.tape.trans h.tape, h'.output.trans h.output, Nat.le_trans h.size h'.size, h'.root, h'.low, h'.has, h'.ex, h'.inj, ?_, ?_⟩
  · have old : ∀ r, r < base' → base ≤ r → w0.heap.size ≤ (η' r).1 ∨ ∃ s, E' s ∧ s < base ∧ (η' s).1 = (η' r).1 := fun r hrb hb => by
      rw [hη r hrb]
      rcases h.new r ((hE r).2 hrb) hb with h1 | ⟨s, hs, h2, h3⟩
      · exact .inl h1
      · have hsb := (hE s).1 hs
        exact .inr ⟨s, hE' s hsb, h2, by rw [hη s hsb]; exact h3⟩
    intro r hr hb
    by_cases hrb : r < base'
    · exact old r hrb hb
    · rcases h'.new r hr (by omega) with h1 | ⟨s, hs, h2, h3⟩
      · exact .inl (Nat.le_trans h.size h1)
      · by_cases hsb : s < base
        · exact .inr ⟨s, hs, hsb, h3⟩
        · rcases old s h2 (by omega) with h4 | ⟨q, hq, h5, h6⟩
          · left; rw [← h3]; exact h4
          · exact .inr ⟨q, hq, h5, h6.trans h3⟩
  · intro b hb hno
    have := h.size
    rw [h'.old b (by omega) hno]
    refine h.old b hb fun r hr he => ?_
    have hrb := (hE r).1 hr
    exact hno r (hE' r hrb) (by rw [hη r hrb]; exact he)

theorem MR.mono_g {w0 w : World} {base : Nat} {η : Asg} {E : Nat → Prop} {g g' : Nat → Option Reg} (h : MR W w0 base η E g w) (hg : ∀ r, E r → g' r = g r) : MR W w0 base η E g' w :=
  ⟨h.os, h.tape, h.output, h.size, h.root, h.low, fun r R hr hR => h.has r R hr (by rw [← hg r hr]; exact hR), fun r hr => let ⟨R, hR⟩ := h.ex r hr; ⟨R, by rw [hg r hr]; exact hR⟩, fun r s R S hr hs hgr hgs => h.inj r s R S hr hs (by rw [← hg r hr]; exact hgr) (by rw [← hg s hs]; exact hgs), h.new, h.old⟩

/-! ### The frame -/

structure FR (W : World) (η : Asg) (E : Nat → Prop) (vis : Nat → Prop) (n : Nat) (fr : T) (a : Act) : Prop where
  size : a.tmps.size = n
  defers : a.defers = []
  slot : ∀ t v, vis t → fr.get t = some v → a.tmps[t]? = some (v.den η) ∧ v.In W E

theorem FR.eval {η : Asg} {E : Nat → Prop} {vis : Nat → Prop} {n : Nat} {fr : T} {a : Act} (h : FR W η E vis n fr a) {x : Operand} {v : SV} (hx : opv fr x = some v) (hv : ∀ t, x = .tmp t → vis t) :
    a.eval x = v.den η ∧ v.In W E := by
  unfold opv at hx
  split at hx
  · rename_i t
    obtain ⟨h1, h2⟩ := h.slot t v (hv t rfl) hx
    exact ⟨by simp [Act.eval, h1], h2⟩
  · simp only [Option.some.injEq] at hx; subst hx; exact ⟨rfl, trivial⟩
  · simp only [Option.some.injEq] at hx; subst hx; exact ⟨rfl, trivial⟩
  · simp only [Option.some.injEq] at hx; subst hx; exact ⟨rfl, trivial⟩
  · simp only [Option.some.injEq] at hx; subst hx; exact ⟨rfl, .inl rfl⟩
  · cases hx

theorem FR.congr {η η' : Asg} {E E' : Nat → Prop} {vis : Nat → Prop} {n : Nat} {fr : T} {a : Act} (h : FR W η E vis n fr a) (hη : ∀ r, E r → η r = η' r) (hE : ∀ r, E r → E' r) : FR W η' E' vis n fr a :=
  ⟨h.size, h.defers, fun t v ht hv => by
    obtain ⟨h1, h2⟩ := h.slot t v ht hv
    exact ⟨by rw [h1, SV.den_congr hη h2], SV.In.mono hE h2⟩⟩

/-! ### The state -/

structure Rel (W w0 : World) (base : Nat) (η : Asg) (st : St) (a : Act) (w : World) : Prop where
  mem : MR W w0 base η (· < st.regs.length) (fun r => st.regs[r]?) w
  frame : FR W η (· < st.regs.length) (fun _ => True) st.n st.fr a
  base : base ≤ st.regs.length
  n : st.n ≤ 4000

theorem Rel.drew {w0 : World} {base : Nat} {η : Asg} {st : St} {a : Act} {w : World} (h : Rel W w0 base η st a w) : Rel W w0 base η st a { w with drawn := w.drawn + 1 } :=
  ⟨h.mem.below ⟨rfl, rfl, rfl, Nat.le_refl _, fun _ _ => rfl⟩, h.frame, h.base, h.n⟩

theorem Rel.cond {w0 : World} {base : Nat} {η : Asg} {st : St} {a : Act} {w : World} (h : Rel W w0 base η st a w) (ps : List Prop) : Rel W w0 base η (st.cond ps) a w := by
  cases ps <;> exact ⟨h.mem, h.frame, h.base, h.n⟩
theorem cond_conds (st : St) (ps : List Prop) : (st.cond ps).conds = ps ++ st.conds := by cases ps <;> rfl

theorem Act.put_getElem (a : Act) (d : Nat) (v : Value) (t : Nat) (hd : d < a.tmps.size) : (a.put (some d) v).tmps[t]? = if d = t then some v else a.tmps[t]? := by
  simp only [Act.put]
  rw [Array.getElem?_setIfInBounds]
  by_cases h : d = t
  · subst h; simp [hd]
  · simp [h]

/-- The state behind an operation. -/
structure Upd (s : St) (regs : List Reg) (d : Option Nat) (v : SV) (s' : St) : Prop where
  n : s'.n = s.n
  regs : s'.regs = regs
  fid : s'.fid = s.fid
  lt : ∀ t, d = some t → t < s.n
  get : ∀ t, s.n ≤ 4000 → s'.fr.get t = if d = some t then some v else s.fr.get t

theorem fin_spec {s s' : St} {regs : List Reg} {d : Option Nat} {v : SV} {ps qs : List Prop} (h : fin s regs d v ps qs = some s') :
    Upd s regs d v s' ∧ (Holds s'.conds → Holds s.conds ∧ Holds ps ∧ Holds qs) := by
  obtain ⟨fid, n, fr, rs, conds⟩ := s
  have key : ∀ s1 : St, Upd ⟨fid, n, fr, rs, conds⟩ regs d v s1 → s1.conds = conds → (s1.cond ps).cond qs = s' → Upd ⟨fid, n, fr, rs, conds⟩ regs d v s' ∧ (Holds s'.conds → Holds conds ∧ Holds ps ∧ Holds qs) := by
    rintro s1 hu hc rfl
    refine ⟨?_, fun hh => ?_⟩
    · have e : ∀ ps : List Prop, ∀ s1 : St, Upd ⟨fid, n, fr, rs, conds⟩ regs d v s1 → Upd ⟨fid, n, fr, rs, conds⟩ regs d v (s1.cond ps) := fun ps s1 h => by cases ps <;> exact ⟨h.n, h.regs, h.fid, h.lt, h.get⟩
      exact e qs _ (e ps _ hu)
    · rw [cond_conds, cond_conds, hc] at hh
      exact ⟨hh.app.2.app.2, hh.app.2.app.1, hh.app.1⟩
  unfold fin at h
  split at h
  · rename_i s1 h1
    simp only [Option.some.injEq] at h
    cases d with
    | none =>
      simp only [St.put, St.setRegs, Option.some.injEq] at h1
      subst h1
      exact key ⟨fid, n, fr, regs, conds⟩ ⟨rfl, rfl, rfl, by simp, fun t _ => by simp⟩ rfl h
    | some d =>
      simp only [St.put, St.setRegs] at h1
      cases hlt : Nat.blt d n with
      | false => simp [hlt] at h1
      | true =>
        simp only [hlt, cond_true, Option.some.injEq] at h1
        subst h1
        have hd : d < n := by simpa [Nat.blt_eq] using hlt
        refine key ⟨fid, n, T.set 12 fr d (some v), regs, conds⟩ ⟨rfl, rfl, rfl, fun t ht => by simp only [Option.some.injEq] at ht; simp only; omega, fun t hn => ?_⟩ rfl h
        simp only at hn ⊢
        rw [T.get_set 12 fr d (some v) t (by omega)]
        simp
  · cases h

/-- The value is put, memory is of the new state. -/
theorem Rel.put {w0 : World} {base : Nat} {η : Asg} {st st' : St} {regs : List Reg} {a : Act} {w : World} {dst : Option Nat} {v : SV} (hu : Upd st regs dst v st') (hm : MR W w0 base η (· < regs.length) (fun r => regs[r]?) w)
    (hf : FR W η (· < regs.length) (fun _ => True) st.n st.fr a) (hb : base ≤ regs.length) (hn : st.n ≤ 4000) (hv : v.In W (· < regs.length)) :
    Rel W w0 base η st' (a.put dst (v.den η)) w := by
  refine ⟨by rw [hu.regs]; exact hm, ?_, by rw [hu.regs]; exact hb, by rw [hu.n]; exact hn⟩
  rw [hu.regs]
  cases dst with
  | none => exact ⟨by rw [hu.n]; exact hf.size, hf.defers, fun t u _ htu => hf.slot t u trivial (by rw [hu.get t hn] at htu; simpa using htu)⟩
  | some d =>
    have hd := hu.lt d rfl
    refine ⟨by simp [Act.put, hf.size, hu.n], hf.defers, fun t u _ htu => ?_⟩
    rw [hu.get t hn] at htu
    rw [Act.put_getElem a d _ t (by rw [hf.size]; exact hd)]
    by_cases hdt : d = t
    · simp only [hdt, if_true, Option.some.injEq] at htu ⊢
      subst htu
      exact ⟨rfl, hv⟩
    · simp only [hdt, if_false, Option.some.injEq] at htu ⊢
      exact hf.slot t u trivial htu

theorem SV.den_undef (η : Asg) : (SV.tup []).den η = undef := rfl

theorem getElem?_append_new (l : List Reg) (R : Reg) : (l ++ [R])[l.length]? = some R := by simp
theorem getElem?_append_old (l : List Reg) (R : Reg) (r : Nat) (h : r < l.length) : (l ++ [R])[r]? = l[r]? := by
  rw [List.getElem?_append_left h]

/-- What is asked of the calls. -/
def CFok (P : Program) (cf : CallF) : Prop :=
  ∀ f vs regs v regs' ps, cf f vs regs = some (v, regs', ps) →
    (∃ fn, P.funcs[f]? = some fn ∧ fn.body.isSome = true) ∧
    (Holds ps → ∀ (W : World) (η : Asg) (w : World), MR W w regs.length η (· < regs.length) (fun r => regs[r]?) w → (∀ x ∈ vs, x.In W (· < regs.length)) →
      Calls P f (vs.map (SV.den η)).toArray w fun e w' => ∃ η', (∀ r, r < regs.length → η' r = η r) ∧ e = .returned (v.den η') ∧ v.In W (· < regs'.length) ∧ regs.length ≤ regs'.length ∧
        MR W w regs.length η' (· < regs'.length) (fun r => regs'[r]?) w')

/-- What an oracle's answer says of the call. -/
def ORes.says (P : Program) (f : Nat) (η : Asg) (args : List SV) (w : World) : ORes → Prop
  | .val v _ => (∀ W, v.In W fun _ => False) ∧ Calls P f (args.map (SV.den η)).toArray w fun e w' => e = .returned (v.den η) ∧ Below w.heap.size w w'
  | .own R len cap _ => (∀ W, R.In W fun _ => False) ∧ Calls P f (args.map (SV.den η)).toArray w fun e w' => ∃ b cp, w.heap.size ≤ b ∧ e = .returned (.slice (some ⟨b, 0, none⟩) len cp) ∧ (∀ c, cap = some c → cp = c) ∧ len ≤ cp ∧ HasB η w' (b, cp - len) R ∧ Below w.heap.size w w'
def ORes.conds : ORes → List Prop
  | .val _ ps => ps
  | .own _ _ _ ps => ps

def OrcOK (P : Program) (C : Ctx) : Prop :=
  ∀ f h, C.orc f = some h → (∃ fn, P.funcs[f]? = some fn ∧ fn.body.isSome = true) ∧ ∀ vs g res, h vs g = some res → Holds res.conds →
    ∀ (W : World) (η : Asg) (E : Nat → Prop) (w : World), Below W.heap.size W w → (∀ v ∈ vs, v.In W E) → (∀ r R, E r → g r = some R → Has η w r R ∧ R.In W E) → res.says P f η vs w

def NamesOK (P : Program) : Prop := ∀ (f : Nat) (fn : Func), P.funcs[f]? = some fn → (fn.name == "runtime.NumGoroutine") = false

end
section
variable {P : Program} {C : Ctx} {W : World}

theorem evArgs_sound {η : Asg} {E : Nat → Prop} {vis : Nat → Prop} {n : Nat} {fr : T} {a : Act} (h : FR W η E vis n fr a) : ∀ (xs : List Operand) (vs : List SV), (∀ x ∈ xs, ∀ t, x = .tmp t → vis t) →
    evArgs fr xs = some vs → xs.map a.eval = vs.map (SV.den η) ∧ ∀ v ∈ vs, v.In W E
  | [], vs, _, hx => by
    simp only [evArgs, Option.some.injEq] at hx
    subst hx
    exact ⟨rfl, by simp⟩
  | x :: xs, vs, hvis, hx => by
    simp only [evArgs] at hx
    split at hx
    · rename_i v us h1 h2
      simp only [Option.some.injEq] at hx
      subst hx
      obtain ⟨e1, i1⟩ := h.eval h1 (hvis x (by simp))
      obtain ⟨e2, i2⟩ := evArgs_sound h xs us (fun y hy => hvis y (by simp [hy])) h2
      exact ⟨by simp [e1, e2], by simpa using ⟨i1, i2⟩⟩
    · simp at hx

theorem calls_spec {o : Op} {f : Nat} {xs : List Operand} (h : calls o = some (f, xs)) : ∃ args ts, o = .call ⟨.value (.func f), args, ts⟩ ∧ xs = args.toList := by
  unfold calls at h
  split at h
  · rename_i g args ts
    simp only [Option.some.injEq, Prod.mk.injEq] at h
    obtain ⟨rfl, rfl⟩ := h
    exact ⟨args, ts, rfl, rfl⟩
  · simp at h

theorem run_call (hN : NamesOK P) {o : Oper} {f : Nat} {args : Array Operand} {ts : Array TypeId} (ho : o.op = .call ⟨.value (.func f), args, ts⟩) {fn : Func} (hf : P.funcs[f]? = some fn) (hb : fn.body.isSome = true) (a : Act) (w : World) :
    (execOp a.eval o).run P w = .ok (.enter f (args.toList.map a.eval).toArray) w := by
  obtain ⟨dst, op, type, pos, after, guard⟩ := o
  simp only at ho
  subst ho
  have hn := hN f fn hf
  have hb' : fn.body.isNone = false := by cases h : fn.body <;> simp_all
  have e1 : (#[] ++ args.map a.eval) ++ #[] = (args.toList.map a.eval).toArray := by simp [← Array.toList_map]
  simp only [execOp, resolve, Act.eval, Deferred.ofValue, Sem.run_bind, Sem.run_pure, Result.andThen_ok, invoke, callFunc, run_program, hf, hn, Bool.false_eq_true, if_false, hb']
  simp [← Array.toList_map]

theorem wants_sound {η : Asg} {E : Nat → Prop} {vis : Nat → Prop} {n : Nat} {fr : T} {a : Act} (h : FR W η E vis n fr a) {ops : Array Oper} {o : Oper} {b : Bool} (hw : wants ops o fr = some b)
    (hvis : ∀ j w t, o.guard = some (j, w) → (ops[j]?).bind (·.dst) = some t → vis t) : Region.wanted o (yielded ops a.tmps) = b := by
  unfold wants at hw
  unfold Region.wanted
  split at hw
  · rename_i hg
    simp only [Option.some.injEq] at hw
    subst hw
    simp [hg]
  · rename_i j wn hg
    simp only [hg]
    unfold yielded
    split at hw
    · rename_i t ht
      simp only [ht, Option.bind_some]
      split at hw
      · rename_i c hc
        simp only [Option.some.injEq] at hw
        subst hw
        have := (h.slot t _ (hvis j wn t hg ht) hc).1
        rw [this]
        simp [SV.den, S1.den, SC.den]
      · rename_i hc
        simp only [Option.some.injEq] at hw
        subst hw
        have := (h.slot t _ (hvis j wn t hg ht) hc).1
        rw [this]
        simp [SV.den]
      · simp at hw
    · simp at hw

/-- The two ways of an operation. -/
theorem evOper_spec {cf : CallF} {ops : Array Oper} {o : Oper} {st st' : St} (h : evOper C cf ops o st = some st') :
    (wants ops o st.fr = some false ∧ Upd st st.regs o.dst (.tup []) st' ∧ (Holds st'.conds → Holds st.conds)) ∨
    ∃ regs v v' qs, wants ops o st.fr = some true ∧ evCore C cf o st = some (regs, v, qs) ∧ Upd st regs o.dst v' st' ∧ (Holds st'.conds → Holds st.conds ∧ Holds qs ∧ Upd st regs o.dst v st') := by
  unfold evOper at h
  split at h
  · cases h
  · rename_i hw
    obtain ⟨h1, h2⟩ := fin_spec h
    exact .inl ⟨hw, h1, fun hh => (h2 hh).1⟩
  · rename_i hw
    split at h
    · rename_i regs v qs hc
      generalize hs : settle (C.hint st.fid) o.dst v = sv at h
      obtain ⟨v', ps⟩ := sv
      simp only at h
      obtain ⟨h1, h2⟩ := fin_spec h
      refine .inr ⟨regs, v, v', qs, hw, hc, h1, fun hh => ?_⟩
      obtain ⟨h3, h4, h5⟩ := h2 hh
      have := settle_spec hs h4
      subst this
      exact ⟨h3, h5, h1⟩
    · cases h

theorem evOper_mono {cf : CallF} {ops : Array Oper} {o : Oper} {st st' : St} (h : evOper C cf ops o st = some st') (hh : Holds st'.conds) : Holds st.conds := by
  rcases evOper_spec h with ⟨_, _, h2⟩ | ⟨_, _, _, _, _, _, _, h2⟩
  · exact h2 hh
  · exact (h2 hh).1

/-- One operation, in the text's order. -/
theorem evOper_sound (hC : TyOK P C) (hO : OrcOK P C) (hN : NamesOK P) {cf : CallF} (hcf : CFok P cf) {ops : Array Oper} {o : Oper} {st st' : St} (h : evOper C cf ops o st = some st') (hh : Holds st'.conds)
    {w0 : World} {base : Nat} {η : Asg} {a : Act} {w : World} (hR : Rel W w0 base η st a w) {K : Act → World → Prop} {Q : Exit → Act → World → Prop}
    (hK : ∀ η' a' w', (∀ r, r < base → η' r = η r) → Rel W w0 base η' st' a' w' → K a' w') :
    if Region.wanted o (yielded ops a.tmps) then o.wp P a w K Q else K (a.put o.dst undef) w := by
  have hb := hR.base
  rcases evOper_spec h with ⟨hw, hu, hc⟩ | ⟨regs, v, v', qs, hw, hcore, _, hc⟩
  · rw [wants_sound hR.frame hw (fun _ _ _ _ _ => trivial)]
    simp only [Bool.false_eq_true, if_false]
    refine hK η _ _ (fun _ _ => rfl) ?_
    have := Rel.put hu hR.mem hR.frame hR.base hR.n (by simp [SV.In])
    rwa [SV.den_undef] at this
  · obtain ⟨_, hqs, hu⟩ := hc hh
    rw [wants_sound hR.frame hw (fun _ _ _ _ _ => trivial)]
    simp only [if_true]
    -- a fresh region
    have fresh : ∀ (w' : World) (b cp : Nat) (R : Reg) (u : SV), Below w.heap.size w w' → w.heap.size ≤ b → HasB η w' (b, cp) R → R.In W (· < st.regs.length) → (∀ W, u.In W (· = st.regs.length)) → Upd st (st.regs ++ [R]) o.dst u st' →
        K (a.put o.dst (u.den fun _ => (b, cp))) w' := fun w' b cp R u hw' hbw hB hin hui hu => by
      have hm := hR.mem.fresh hw' (cp := cp) (d := st.regs.length) (g' := fun r => (st.regs ++ [R])[r]?) (by simp) hbw hB hin (getElem?_append_new _ _) (fun r hr => getElem?_append_old _ _ _ hr)
      have hE : (fun r => r < st.regs.length ∨ r = st.regs.length) = (fun r => r < (st.regs ++ [R]).length) := by funext r; simp; omega
      rw [hE] at hm
      have hag : ∀ r, r < st.regs.length → η r = updN η st.regs.length (b, cp) r := fun r hr => by simp [updN]; omega
      have hden : u.den (fun _ => (b, cp)) = u.den (updN η st.regs.length (b, cp)) := SV.den_congr (W := W) (E := (· = st.regs.length)) (fun r hr => by simp [updN, hr]) (hui W)
      rw [hden]
      refine hK (updN η st.regs.length (b, cp)) _ _ (fun r hr => (hag r (by omega)).symm) ?_
      exact Rel.put hu hm (hR.frame.congr hag (fun r hr => by simp; omega)) (by simp; omega) hR.n (SV.In.mono (fun r hr => by simp [hr]) (hui W))
    unfold Oper.wp
    unfold evCore at hcore
    split at hcore
    · rename_i f xs hcl
      obtain ⟨args, ts, hop, rfl⟩ := calls_spec hcl
      split at hcore
      · simp at hcore
      · rename_i vs hvs
        obtain ⟨hev, hin⟩ := evArgs_sound hR.frame _ _ (fun _ _ _ _ => trivial) hvs
        split at hcore
        · rename_i hh' horc
          obtain ⟨⟨fn, hfn, hbody⟩, hor⟩ := hO f hh' horc
          split at hcore
          · rename_i u qs' hv
            simp only [Option.some.injEq, Prod.mk.injEq] at hcore
            obtain ⟨rfl, rfl, rfl⟩ := hcore
            obtain ⟨hvin, hcall⟩ := hor vs _ _ hv hqs W η _ w hR.mem.root hin (fun r R hr hg => hR.mem.has r R hr hg)
            rw [run_call hN hop hfn hbody, hev, Oper.upon_enter]
            refine hcall.mono fun e w' ⟨he, hb⟩ => ?_
            subst he
            refine hK η _ _ (fun _ _ => rfl) ?_
            exact Rel.put hu (hR.mem.below hb) hR.frame hR.base hR.n (SV.In.mono (fun _ h => h.elim) (hvin W))
          · rename_i R len cap qs' hv
            simp only [Option.some.injEq, Prod.mk.injEq] at hcore
            obtain ⟨rfl, rfl, rfl⟩ := hcore
            obtain ⟨hRin, hcall⟩ := hor vs _ _ hv hqs W η _ w hR.mem.root hin (fun r R hr hg => hR.mem.has r R hr hg)
            rw [run_call hN hop hfn hbody, hev, Oper.upon_enter]
            refine hcall.mono fun e w' ⟨b, cp, hbw, he, hcp, hlc, hB, hb⟩ => ?_
            subst he
            obtain rfl := hcp cap rfl
            have := fresh w' b (cp - len) R (.one (.sc (.sl st.regs.length 0 len cp))) hb hbw hB (Reg.In.mono (fun _ h => h.elim) (hRin W)) (fun _ => by simp [SV.In, S1.In, SC.In]) hu
            exact this
          · rename_i R len qs' hv
            simp only [Option.some.injEq, Prod.mk.injEq] at hcore
            obtain ⟨rfl, rfl, rfl⟩ := hcore
            obtain ⟨hRin, hcall⟩ := hor vs _ _ hv hqs W η _ w hR.mem.root hin (fun r R hr hg => hR.mem.has r R hr hg)
            rw [run_call hN hop hfn hbody, hev, Oper.upon_enter]
            refine hcall.mono fun e w' ⟨b, cp, hbw, he, hcp, hlc, hB, hb⟩ => ?_
            subst he
            obtain ⟨ex, rfl⟩ : ∃ ex, cp = len + ex := ⟨_, (Nat.add_sub_cancel' hlc).symm⟩
            rw [Nat.add_sub_cancel_left] at hB
            have := fresh w' b ex R (.one (.sc (.slU st.regs.length 0 len 0))) hb hbw hB (Reg.In.mono (fun _ h => h.elim) (hRin W)) (fun _ => by simp [SV.In, S1.In, SC.In]) hu
            exact this
          · simp at hcore
        · split at hcore
          · rename_i u regs' qs' hv
            simp only [Option.some.injEq, Prod.mk.injEq] at hcore
            obtain ⟨rfl, rfl, rfl⟩ := hcore
            obtain ⟨⟨fn, hfn, hbody⟩, hcall⟩ := hcf f vs st.regs u regs' qs' hv
            rw [run_call hN hop hfn hbody, hev, Oper.upon_enter]
            refine (hcall hqs W η w (hR.mem.rebase (fun _ h => h)) hin).mono fun e w' ⟨η', hη, he, hvin, hlen, hm⟩ => ?_
            subst he
            have hm' := hR.mem.trans hm (fun _ => Iff.rfl) (fun r hr => Nat.lt_of_lt_of_le hr hlen) hη
            refine hK η' _ _ (fun r hr => hη r (Nat.lt_of_lt_of_le hr hR.base)) ?_
            exact Rel.put hu hm' (hR.frame.congr (fun r hr => (hη r hr).symm) (fun r hr => Nat.lt_of_lt_of_le hr hlen)) (by omega) hR.n hvin
          · simp at hcore
    · split at hcore
      · rename_i eff qs' heff
        generalize heo : effOf st.regs eff = eo at hcore
        obtain ⟨rs', v'⟩ := eo
        simp only [Option.some.injEq, Prod.mk.injEq] at hcore
        obtain ⟨rfl, rfl, rfl⟩ := hcore
        have hs := evOp_sound (P := P) (W := W) hC heff hqs (a := a) (η := η) (E := (· < st.regs.length)) (fun x _ v hv => hR.frame.eval hv (fun _ _ => trivial)) (w := w) hR.mem.root (fun r R hr hg => hR.mem.has r R hr hg)
        cases eff with
        | val v =>
          simp only [effOf, Prod.mk.injEq] at heo
          obtain ⟨rfl, rfl⟩ := heo
          obtain ⟨hrun, hin⟩ := hs
          rw [hrun, Oper.upon_value]
          exact hK η _ _ (fun _ _ => rfl) (Rel.put hu hR.mem hR.frame hR.base hR.n hin)
        | newp R =>
          simp only [effOf, Prod.mk.injEq] at heo
          obtain ⟨rfl, rfl⟩ := heo
          obtain ⟨⟨w', hrun, hbel, hB⟩, hin⟩ := hs
          rw [hrun, Oper.upon_value]
          exact fresh w' _ 0 R _ hbel (Nat.le_refl _) hB hin (fun _ => by simp [SV.In, S1.In, SC.In]) hu
        | news R len =>
          simp only [effOf, Prod.mk.injEq] at heo
          obtain ⟨rfl, rfl⟩ := heo
          obtain ⟨⟨w', hrun, hbel, hB⟩, hin⟩ := hs
          rw [hrun, Oper.upon_value]
          exact fresh w' _ 0 R _ hbel (Nat.le_refl _) hB hin (fun _ => by simp [SV.In, S1.In, SC.In]) hu
        | newu R len =>
          simp only [effOf, Prod.mk.injEq] at heo
          obtain ⟨rfl, rfl⟩ := heo
          obtain ⟨⟨w', cp, hrun, hbel, hB⟩, hin⟩ := hs
          rw [hrun, Oper.upon_value]
          exact fresh w' _ cp R _ hbel (Nat.le_refl _) hB hin (fun _ => by simp [SV.In, S1.In, SC.In]) hu
        | app r R len =>
          simp only [effOf, Prod.mk.injEq] at heo
          obtain ⟨rfl, rfl⟩ := heo
          obtain ⟨hE, hlv, hin, w', gb, cp, hrun, hgb, hgr, hB⟩ := hs
          rw [hrun, Oper.upon_value]
          have hlt : r < st.regs.length := hE
          have hlen : (st.regs.set r ⟨.gone, R.elem⟩).length = st.regs.length := by simp
          have hm := hR.mem.app (d := st.regs.length) (X := ⟨.gone, R.elem⟩) (g' := fun s => (st.regs.set r ⟨.gone, R.elem⟩ ++ [R])[s]?) hE hlv (by simp) hgb hgr hB hin rfl rfl (by simp) (by
              rw [List.getElem?_append_left (by simpa using hlt)]
              simp [hlt]) (fun s hs hsr => by
              rw [List.getElem?_append_left (by simpa using hs)]
              simp [Ne.symm hsr])
          have hE' : (fun s => s < st.regs.length ∨ s = st.regs.length) = (fun s => s < (st.regs.set r ⟨.gone, R.elem⟩ ++ [R]).length) := by funext s; simp; omega
          rw [hE'] at hm
          have hag : ∀ s, s < st.regs.length → η s = updN η st.regs.length (gb, cp) s := fun s hs => by simp [updN]; omega
          have hden : (Value.slice (some ⟨gb, 0, none⟩) len (len + cp)) = (SV.den (updN η st.regs.length (gb, cp)) (.one (.sc (.slU st.regs.length 0 len 0)))) := by simp [SV.den, S1.den, SC.den, updN]
          rw [hden]
          refine hK (updN η st.regs.length (gb, cp)) _ _ (fun s hs => (hag s (by omega)).symm) ?_
          exact Rel.put hu hm (hR.frame.congr hag (fun s hs => by simp; omega)) (by simp; omega) hR.n (by simp [SV.In, S1.In, SC.In])
        | upd r R v =>
          simp only [effOf, Prod.mk.injEq] at heo
          obtain ⟨rfl, rfl⟩ := heo
          obtain ⟨hE, hlv, hcs, hvin, w', hrun, huw⟩ := hs
          have hlt : r < st.regs.length := hE
          have hlen : (st.regs.set r R).length = st.regs.length := by simp
          have hm := hR.mem.upd (g' := fun s => (st.regs.set r R)[s]?) hE hlv hcs huw (by simp [hlt]) (fun s hs => by simp [Ne.symm hs])
          have hrel : Rel W w0 base η st' (a.put o.dst (v.den η)) w' :=
            Rel.put hu (by simpa using hm) (by simpa using hR.frame) (by simpa using hR.base) hR.n (SV.In.mono (fun _ h => h.elim) hvin)
          rcases hrun with ⟨hrun, hv⟩ | hrun
          · rw [hrun, Oper.upon_skip]
            refine hK η _ _ (fun _ _ => rfl) ?_
            rw [hv, SV.den_undef] at hrel
            exact hrel
          · rw [hrun, Oper.upon_value]
            exact hK η _ _ (fun _ _ => rfl) hrel
      · simp at hcore

theorem evOpers_mono {cf : CallF} {ops : Array Oper} : ∀ (l : List Oper) {st st' : St}, evOpers C cf ops l st = some st' → Holds st'.conds → Holds st.conds
  | [], st, st', h, hh => by
    simp only [evOpers, Option.some.injEq] at h
    subst h
    exact hh
  | o :: l, st, st', h, hh => by
    simp only [evOpers] at h
    split at h
    · rename_i st1 h1
      exact evOper_mono h1 (evOpers_mono l h hh)
    · simp at h

/-- A list of operations, in the text's order. -/
theorem evOpers_sound (hC : TyOK P C) (hO : OrcOK P C) (hN : NamesOK P) {cf : CallF} (hcf : CFok P cf) {ops : Array Oper} : ∀ (l : List Oper) {st st' : St}, evOpers C cf ops l st = some st' → Holds st'.conds →
    ∀ {w0 : World} {base : Nat} {η : Asg} {a : Act} {w : World}, Rel W w0 base η st a w → ∀ {Q : Exit → Act → World → Prop},
    (∀ η' a' w', (∀ r, r < base → η' r = η r) → Rel W w0 base η' st' a' w' → Q .normal a' w') → wpList P ops Q l a w
  | [], st, st', h, hh, w0, base, η, a, w, hR, Q, hQ => by
    simp only [evOpers, Option.some.injEq] at h
    subst h
    exact wpList_nil (hQ η a w (fun _ _ => rfl) hR)
  | o :: l, st, st', h, hh, w0, base, η, a, w, hR, Q, hQ => by
    simp only [evOpers] at h
    split at h
    · rename_i st1 h1
      refine wpList_step fun K hK => ?_
      refine evOper_sound hC hO hN hcf h1 (evOpers_mono l h hh) hR fun η1 a1 w1 hη1 hR1 => hK _ _ ?_
      exact evOpers_sound hC hO hN hcf l h hh hR1 fun η2 a2 w2 hη2 hR2 => hQ η2 a2 w2 (fun r hr => (hη2 r hr).trans (hη1 r hr)) hR2
    · simp at h

end
end Go.SX
