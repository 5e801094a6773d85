/-
  The executor is sound: code, calls, functions of values as oracles. Conditions: none.
-/
import Derived.Test.YtiemgibnmanhbaaSxEv
namespace Go.SX
open Go.RowKit (Below)

section
variable {P : Program} {C : Ctx} {W : World}

def EvOK (P : Program) (rec : EvC) : Prop :=
  ∀ base c st ex st', rec base c st = some (ex, st') → Holds st'.conds → Holds st.conds ∧ ∀ {W w0 : World} {η : Asg} {a : Act} {w : World}, Rel W w0 base η st a w → ∀ {Q : Exit → Act → World → Prop},
    (∀ η' a' w', (∀ r, r < base → η' r = η r) → Rel W w0 base η' st' a' w' → Q ex.ex a' w') → c.wp P Q a w

/-- The code leads from one state to another. -/
def StepsTo (P : Program) (base : Nat) (c : Code) (st : St) (ex : Ex) (st' : St) : Prop :=
  ∀ (W w0 : World) (η : Asg) (a : Act) (w : World), Rel W w0 base η st a w → ∀ (Q : Exit → Act → World → Prop),
    (∀ η' a' w', (∀ r, r < base → η' r = η r) → Rel W w0 base η' st' a' w' → Q ex.ex a' w') → c.wp P Q a w

theorem Rel.ofSame {w0 : World} {base : Nat} {η : Asg} {st st' : St} {a : Act} {w : World} (h : Rel W w0 base η st a w) (hs : St.same st st') : Rel W w0 base η st' a w := by
  obtain ⟨fid, n, fr, regs, conds⟩ := st
  obtain ⟨fid', n', fr', regs', conds'⟩ := st'
  obtain ⟨h1, h2, h3, h4⟩ := hs
  simp only at h1 h2 h3 h4
  subst h1 h2 h3 h4
  exact ⟨h.mem, h.frame, h.base, h.n⟩

/-- A loop told, round by round. -/
theorem told_rounds {x : Code} {base n : Nat} {S : Nat → St} {ex : Ex} {out : St} (hex : ex.leaves) (hstep : ∀ k, k < n → StepsTo P base x (S k) .normal (S (k + 1))) (hend : StepsTo P base x (S n) ex out) :
    ∀ (m : Nat), m ≤ n → ∀ {W w0 : World} {η : Asg} {a : Act} {w : World}, Rel W w0 base η (S (n - m)) a w → ∀ {Q : Exit → Act → World → Prop},
    (∀ η' a' w', (∀ r, r < base → η' r = η r) → Rel W w0 base η' out a' w' → Q ex.ex a' w') → Code.rounds P x Q (m + 1) a w := by
  intro m
  induction m with
  | zero =>
    intro _ W w0 η a w hR Q hQ
    rw [rounds_succ]
    refine hend W w0 η a w hR _ fun η1 a1 w1 hη1 hR1 => ?_
    have hq := hQ η1 a1 w1 hη1 hR1
    cases ex with
    | normal => exact hex.elim
    | exit id => exact hq
    | ret => exact hq
  | succ m ih =>
    intro hm W w0 η a w hR Q hQ
    rw [rounds_succ]
    refine hstep (n - (m + 1)) (by omega) W w0 η a w hR _ fun η1 a1 w1 hη1 hR1 => ?_
    rw [show n - (m + 1) + 1 = n - m by omega] at hR1
    exact ih (by omega) hR1 fun η2 a2 w2 hη2 hR2 => hQ η2 a2 w2 (fun r hr => (hη2 r hr).trans (hη1 r hr)) hR2

def LoopOK (P : Program) (rec : EvC) : Prop :=
  ∀ base x st ex st', rec base (.loop x) st = some (ex, st') → Holds st'.conds → Holds st.conds ∧ ∃ n, ∀ {W w0 : World} {η : Asg} {a : Act} {w : World}, Rel W w0 base η st a w → ∀ {Q : Exit → Act → World → Prop},
    (∀ η' a' w', (∀ r, r < base → η' r = η r) → Rel W w0 base η' st' a' w' → Q ex.ex a' w') → Code.rounds P x Q n a w

theorem frameOf_get : ∀ (vs : List SV) (i : Nat) (acc : T) (t : Nat), i + vs.length ≤ 4000 → (frameOf vs i acc).get t = if i ≤ t ∧ t < i + vs.length then vs[t - i]? else acc.get t
  | [], i, acc, t, _ => by
    simp only [frameOf, List.length_nil]
    rw [if_neg (by omega)]
  | v :: vs, i, acc, t, h => by
    simp only [List.length_cons] at h
    simp only [frameOf]
    rw [frameOf_get vs (i + 1) _ t (by omega), T.get_set 12 acc i (some v) t (by omega)]
    simp only [List.length_cons]
    by_cases h1 : i = t
    · subst h1
      rw [if_neg (by omega), if_pos rfl, if_pos (by omega)]
      simp
    · by_cases h2 : i + 1 ≤ t ∧ t < i + 1 + vs.length
      · rw [if_pos h2, if_pos (by omega), show t - i = t - (i + 1) + 1 by omega]
        simp
      · rw [if_neg h2, if_neg h1, if_neg (by omega)]

theorem run_mapM_list {α β : Type} (f : α → Sem β) (w : World) : ∀ (l : List α) (l' : List β), l'.length = l.length → (∀ (i : Nat) x y, l[i]? = some x → l'[i]? = some y → (f x).run P w = .ok y w) → (l.mapM f).run P w = .ok l' w
  | [], l', h, _ => by
    have : l' = [] := by simpa using h
    subst this
    simp
  | x :: l, [], h, _ => by simp at h
  | x :: l, y :: l', h, hf => by
    have h0 := hf 0 x y (by simp) (by simp)
    have ih := run_mapM_list f w l l' (by simpa using h) (fun i x y hx hy => hf (i + 1) x y (by simpa using hx) (by simpa using hy))
    simp [h0, ih]

theorem results_sound (hC : TyOK P C) {st : St} {w0 : World} {base : Nat} {η : Asg} {a : Act} {w : World} (hR : Rel W w0 base η st a w) {fn : Func} {v : SV} {ps : List Prop} (h : evResults C st fn.results.toList = some (v, ps)) (hps : Holds ps) :
    (results fn a.tmps).run P w = .ok (v.den η) w ∧ v.In W (· < st.regs.length) := by
  have hone : ∀ rv s qs, evResult C st rv = some (s, qs) → Holds qs →
      (match rv with
        | .tmp t => (pure (a.tmps.getD t undef) : Sem Value)
        | .cell b t => do loadVar t (← asAddr (a.tmps.getD b undef))).run P w = .ok (s.den η) w ∧ s.In W (· < st.regs.length) := by
    intro rv s qs hs hqs
    cases rv with
    | tmp t =>
      simp only [evResult] at hs
      split at hs
      · rename_i s' ht
        simp only [Option.some.injEq, Prod.mk.injEq] at hs
        obtain ⟨rfl, rfl⟩ := hs
        obtain ⟨h1, h2⟩ := hR.frame.slot t _ trivial ht
        refine ⟨?_, h2⟩
        simp [h1, SV.den]
      · simp at hs
    | cell b t =>
      simp only [evResult] at hs
      split at hs
      · rename_i u hu
        split at hs
        · rename_i s' ps' hl
          simp only [Option.some.injEq, Prod.mk.injEq] at hs
          obtain ⟨rfl, rfl⟩ := hs
          obtain ⟨h1, h2⟩ := hR.frame.slot b _ trivial hu
          obtain ⟨blk, off, hden, hrun, hin⟩ := evLoad_sound (P := P) hC hl hqs hR.mem.root h2 (fun r R hr hg => hR.mem.has r R hr hg)
          refine ⟨?_, hin⟩
          simp only [Array.getD_eq_getD_getElem?, h1, Option.getD_some, hden, asAddr, Sem.run_bind, Sem.run_pure, Result.andThen_ok, hrun]
          rfl
        · simp at hs
      · simp at hs
  unfold evResults at h
  cases hm : mapO (evResult C st) fn.results.toList with
  | none => simp [hm] at h
  | some l =>
    obtain ⟨hlen, hget⟩ := mapO_spec hm
    have hall : ∀ s ∈ l, Holds s.2 := by
      intro s hs p hp
      rw [hm] at h
      match l, h, hs with
      | [], h, hs => cases hs
      | [s'], h, hs =>
        simp only [Option.some.injEq, Prod.mk.injEq] at h
        simp only [List.mem_singleton] at hs
        subst hs
        obtain ⟨_, rfl⟩ := h
        exact hps p hp
      | s' :: s'' :: l, h, hs =>
        simp only [Option.some.injEq, Prod.mk.injEq] at h
        obtain ⟨_, rfl⟩ := h
        exact hps p (List.mem_flatMap.2 ⟨s, hs, hp⟩)
    have hrun : (fn.results.mapM (fun (rv : ResultVar) => (match rv with
        | .tmp t => (pure (a.tmps.getD t undef) : Sem Value)
        | .cell b t => do loadVar t (← asAddr (a.tmps.getD b undef)) : Sem Value))).run P w = .ok (l.map fun s => s.1.den η).toArray w := by
      rw [Array.mapM_eq_mapM_toList]
      simp only [Sem.run_map]
      rw [run_mapM_list _ w fn.results.toList (l.map fun s => s.1.den η) (by simp [hlen]) (fun i x y hx hy => by
        obtain ⟨s, hs, hf⟩ := hget i x hx
        simp only [List.getElem?_map, hs, Option.map_some, Option.some.injEq] at hy
        subst hy
        exact (hone x s.1 s.2 hf (hall s (List.mem_of_getElem? hs))).1)]
      rfl
    have hins : ∀ s ∈ l, s.1.In W (· < st.regs.length) := fun s hs => by
      obtain ⟨x, _, hx⟩ := mapO_mem hm hs
      exact (hone x s.1 s.2 hx (hall s hs)).2
    rw [hm] at h
    have hres : (results fn a.tmps).run P w = .ok (if h : (l.map fun s => s.1.den η).toArray.size = 1 then (l.map fun s => s.1.den η).toArray[0] else Value.tuple (l.map fun s => s.1.den η).toArray) w := by
      unfold results
      rw [Sem.run_bind]
      refine Eq.trans (congrArg (fun r => Result.andThen r _) hrun) ?_
      rfl
    rw [hres]
    have hmul : l.length ≠ 1 → v = .tup (l.map (·.1)) → (Result.ok (if h : (l.map fun s => s.1.den η).toArray.size = 1 then (l.map fun s => s.1.den η).toArray[0] else Value.tuple (l.map fun s => s.1.den η).toArray) w) = .ok (v.den η) w := by
      intro h1 h2
      subst h2
      rw [dif_neg (by simpa using h1)]
      simp [SV.den, Function.comp_def]
    match l, h, hins, hmul with
    | [], h, hins, hmul =>
      simp only [Option.some.injEq, Prod.mk.injEq] at h
      exact ⟨hmul (by simp) h.1.symm, by rw [← h.1]; intro s hs; cases hs⟩
    | [s], h, hins, _ =>
      simp only [Option.some.injEq, Prod.mk.injEq] at h
      obtain ⟨rfl, _⟩ := h
      exact ⟨by simp [SV.den], hins s (by simp)⟩
    | s :: s' :: l, h, hins, hmul =>
      simp only [Option.some.injEq, Prod.mk.injEq] at h
      refine ⟨hmul (by simp) h.1.symm, ?_⟩
      rw [← h.1]
      intro x hx
      obtain ⟨y, hy, rfl⟩ := List.mem_map.1 hx
      exact hins y hy

theorem evCall_ok (hC : TyOK P C) {rec : EvC} (hrec : EvOK P rec) : CFok P (evCall C (fun f => P.funcs[f]?) rec) := by
  intro f vs regs v regs' ps h
  unfold evCall at h
  split at h
  · simp at h
  · rename_i fn hf
    split at h
    · simp at h
    · rename_i c hb
      refine ⟨⟨fn, hf, by simp [hb]⟩, fun hps W η w hm hin => ?_⟩
      cases hbd : (Nat.ble vs.length fn.ntmps && Nat.ble fn.ntmps 4000) with
      | false => simp [hbd] at h
      | true =>
        simp only [hbd, cond_true] at h
        simp only [Bool.and_eq_true, Nat.ble_eq] at hbd
        obtain ⟨h1, h2⟩ := hbd
        have hR0 : Rel W w regs.length η { fid := f, n := fn.ntmps, fr := frameOf vs 0 .e, regs := regs, conds := [] }
            { tmps := (vs.map (SV.den η)).toArray ++ Array.replicate (fn.ntmps - (vs.map (SV.den η)).toArray.size) undef, defers := [] } w := by
          refine ⟨hm, ⟨by simp; omega, rfl, fun t u _ hu => ?_⟩, Nat.le_refl _, h2⟩
          simp only at hu
          rw [frameOf_get vs 0 .e t (by omega)] at hu
          by_cases ht : 0 ≤ t ∧ t < 0 + vs.length
          · rw [if_pos ht] at hu
            simp only [Nat.sub_zero] at hu
            refine ⟨?_, hin u (List.mem_of_getElem? hu)⟩
            simp only
            rw [Array.getElem?_append_left (by simp; omega)]
            simp [hu]
          · rw [if_neg ht] at hu
            simp [T.get] at hu
        have hfin : ∀ ex st', rec regs.length c { fid := f, n := fn.ntmps, fr := frameOf vs 0 .e, regs := regs, conds := [] } = some (ex, st') → (ex = .normal ∨ ex = .ret) →
            (evResults C st' fn.results.toList).map (fun v => (v.1, st'.regs, v.2 ++ st'.conds)) = some (v, regs', ps) →
            Calls P f (vs.map (SV.den η)).toArray w fun e w' => ∃ η', (∀ r, r < regs.length → η' r = η r) ∧ e = .returned (v.den η') ∧ v.In W (· < regs'.length) ∧ regs.length ≤ regs'.length ∧
              MR W w regs.length η' (· < regs'.length) (fun r => regs'[r]?) w' := by
          intro ex st' hrun hex hres
          simp only [Option.map_eq_some_iff, Prod.mk.injEq] at hres
          obtain ⟨⟨u, qs⟩, hu, rfl, rfl, rfl⟩ := hres
          refine calls_of_wp hf hb ((hrec _ _ _ _ _ hrun hps.app.2).2 hR0 fun η' a' w' hη' hR' => ?_)
          obtain ⟨hr, hvi⟩ := results_sound (P := P) hC hR' hu hps.app.1
          have hpost : a'.defers = [] ∧ ∃ v, (results fn a'.tmps).run P w' = .ok v w' ∧ ∃ η', (∀ r, r < regs.length → η' r = η r) ∧ Ending.returned v = .returned (u.den η') ∧ u.In W (· < st'.regs.length) ∧ regs.length ≤ st'.regs.length ∧
              MR W w regs.length η' (· < st'.regs.length) (fun r => st'.regs[r]?) w' :=
            ⟨hR'.frame.defers, _, hr, η', hη', rfl, hvi, hR'.base, hR'.mem⟩
          rcases hex with rfl | rfl
          · exact hpost
          · exact hpost
        split at h
        · rename_i st' hrun; exact hfin _ _ hrun (.inl rfl) h
        · rename_i st' hrun; exact hfin _ _ hrun (.inr rfl) h
        · simp at h

theorem keep_conds {base : Nat} {slots : List Nat} {st st' : St} (h : st.keep base slots = some st') : st'.conds = st.conds := by
  unfold St.keep at h
  simp only at h
  split at h
  · revert h
    generalize (Nat.ble base st.regs.length && _) = bb
    intro h
    cases bb with
    | false => simp at h
    | true => simp only [cond_true, Option.some.injEq] at h; subst h; rfl
  · cases h

theorem keepAt_ok {base : Nat} {body : Code} {st st' : St} (h : keepAt C base body st = some st') : st'.conds = st.conds ∧ ∀ {W w0 : World} {η : Asg} {a : Act} {w : World}, Rel W w0 base η st a w →
    ∃ η', (∀ r, r < base → η' r = η r) ∧ Rel W w0 base η' st' a w := by
  unfold keepAt at h
  split at h
  · simp only [Option.some.injEq] at h; subst h; exact ⟨rfl, fun {_ _ η _ _} hR => ⟨η, fun _ _ => rfl, hR⟩⟩
  · split at h
    · simp only [Option.some.injEq] at h; subst h; exact ⟨rfl, fun {_ _ η _ _} hR => ⟨η, fun _ _ => rfl, hR⟩⟩
    · exact ⟨keep_conds h, fun hR => (hR.keep h).2⟩

/-- What the context takes for a step is one. -/
def SemOK (P : Program) (C : Ctx) : Prop := ∀ base x st ex st', C.sem base x st ex st' → StepsTo P base x st ex st'

theorem alts_spec {go : Nat → Option St} : ∀ (js : List Nat) {F0 F : St}, evAlts go js F0 = some F → Holds F.conds → St.same F0 F ∧ Holds F0.conds ∧ ∀ j ∈ js, ∃ G, go j = some G ∧ Holds G.conds ∧ St.same G F
  | [], F0, F, h, hh => by
    simp only [evAlts, Option.some.injEq] at h
    subst h
    exact ⟨⟨rfl, rfl, rfl, rfl⟩, hh, fun j hj => by cases hj⟩
  | j :: js, F0, F, h, hh => by
    simp only [evAlts] at h
    split at h
    · rename_i G hG
      obtain ⟨h1, h2, h3⟩ := alts_spec js h hh
      obtain ⟨fid, n, fr, regs, conds⟩ := F0
      have hc : Holds ((St.same G ⟨fid, n, fr, regs, conds⟩ :: G.conds) ++ conds) := h2
      have hsG : St.same G ⟨fid, n, fr, regs, conds⟩ := hc _ (by simp)
      have hGc : Holds G.conds := fun p hp => hc p (by simp [hp])
      have h0 : Holds conds := fun p hp => hc p (by simp [hp])
      have h1' : St.same ⟨fid, n, fr, regs, conds⟩ F := h1
      have tr : ∀ {a b c : St}, St.same a b → St.same b c → St.same a c := fun x y => ⟨x.1.trans y.1, x.2.1.trans y.2.1, x.2.2.1.trans y.2.2.1, x.2.2.2.trans y.2.2.2⟩
      refine ⟨h1', h0, fun i hi => ?_⟩
      rcases List.mem_cons.1 hi with rfl | hi
      · exact ⟨G, hG, hGc, tr hsG h1'⟩
      · exact h3 i hi
    · cases h

theorem evAny_sound (hC : TyOK P C) (hO : OrcOK P C) (hN : NamesOK P) {cf : CallF} (hcf : CFok P cf) {ops : Array Oper} : ∀ (f : Nat) (listed : Array Bool) {st st' : St}, evAny C cf ops f listed st = some st' → Holds st'.conds →
    Holds st.conds ∧ ∀ {W w0 : World} {base : Nat} {η : Asg} {a : Act} {w : World}, Rel W w0 base η st a w → ∀ {Q : Exit → Act → World → Prop},
      (∀ η' a' w', (∀ r, r < base → η' r = η r) → Rel W w0 base η' st' a' w' → Q .normal a' w') → wpAny P .any ops Q f listed a w
  | 0, listed, st, st', h, hh => by
    simp only [evAny] at h
    cases hr : (Region.ready .any ops listed).isEmpty with
    | false => simp [hr] at h
    | true =>
      simp only [hr, cond_true, Option.some.injEq] at h
      subst h
      exact ⟨hh, fun {W w0 base η a w} hR {Q} hQ => ⟨List.isEmpty_iff.1 hr, hQ η a w (fun _ _ => rfl) hR⟩⟩
  | f + 1, listed, st, st', h, hh => by
    simp only [evAny] at h
    split at h
    · rename_i hr
      simp only [Option.some.injEq] at h
      subst h
      exact ⟨hh, fun {W w0 base η a w} hR {Q} hQ => ⟨fun _ => hQ η a w (fun _ _ => rfl) hR, fun i hi => by rw [hr] at hi; cases hi⟩⟩
    · rename_i i is hr
      split at h
      · rename_i F0 hF0
        simp only [Option.map_eq_some_iff] at h
        obtain ⟨F, hF, rfl⟩ := h
        have hcl : ∀ (s : St) (ps : List Prop), (s.onto ps).conds = s.conds ++ ps := fun s ps => by cases s; rfl
        rw [hcl] at hh
        have hF1 : Holds F.conds := fun p hp => hh p (by simp [hp])
        obtain ⟨h1, h2, h3⟩ := alts_spec is hF hF1
        have hall : ∀ j ∈ Region.ready .any ops listed, ∃ G, (evAt C cf ops j st.clear).bind (evAny C cf ops f (listed.setIfInBounds j true)) = some G ∧ Holds G.conds ∧ St.same G F := by
          intro j hj
          rw [hr] at hj
          rcases List.mem_cons.1 hj with rfl | hj
          · exact ⟨F0, hF0, h2, h1⟩
          · exact h3 j hj
        refine ⟨fun p hp => hh p (by simp [hp]), fun {W w0 base η a w} hR {Q} hQ => ⟨fun he => (by rw [hr] at he; cases he), fun j hj => ?_⟩⟩
        obtain ⟨G, hG, hGc, hGs⟩ := hall j hj
        simp only [Option.bind_eq_some_iff] at hG
        obtain ⟨s1, hs1, hs2⟩ := hG
        obtain ⟨hc1, hgo⟩ := evAny_sound hC hO hN hcf f _ hs2 hGc
        unfold evAt at hs1
        split at hs1
        · rename_i o ho
          have hR0 : Rel W w0 base η st.clear a w := hR.ofSame (by cases st; exact ⟨rfl, rfl, rfl, rfl⟩)
          have hto : ∀ η' a' w', Rel W w0 base η' G a' w' → Rel W w0 base η' (F.onto st.conds) a' w' := fun η' a' w' hr' => (hr'.ofSame hGs).ofSame (by cases F; exact ⟨rfl, rfl, rfl, rfl⟩)
          have := evOper_sound hC hO hN hcf hs1 hc1 hR0 (K := wpAny P .any ops Q f (listed.setIfInBounds j true)) (Q := Q) fun η1 a1 w1 hη1 hR1 =>
            hgo hR1 fun η2 a2 w2 hη2 hR2 => hQ η2 a2 w2 (fun r hr => (hη2 r hr).trans (hη1 r hr)) (hto η2 a2 w2 hR2)
          unfold wpOp
          simp only [ho]
          by_cases hw : Region.wanted o (yielded ops a.tmps) = true
          · rw [if_pos hw] at this ⊢
            exact .inl this
          · rw [if_neg hw] at this ⊢
            exact this
        · cases hs1
      · cases h

theorem alts'_spec {go : List Nat → Option St} : ∀ (js : List (List Nat)) {F0 F : St}, evAlts' go js F0 = some F → Holds F.conds → St.same F0 F ∧ Holds F0.conds ∧ ∀ j ∈ js, ∃ G, go j = some G ∧ Holds G.conds ∧ St.same G F
  | [], F0, F, h, hh => by
    simp only [evAlts', Option.some.injEq] at h
    subst h
    exact ⟨⟨rfl, rfl, rfl, rfl⟩, hh, fun j hj => by cases hj⟩
  | j :: js, F0, F, h, hh => by
    simp only [evAlts'] at h
    split at h
    · rename_i G hG
      obtain ⟨h1, h2, h3⟩ := alts'_spec js h hh
      obtain ⟨fid, n, fr, regs, conds⟩ := F0
      have hc : Holds ((St.same G ⟨fid, n, fr, regs, conds⟩ :: G.conds) ++ conds) := h2
      have hsG : St.same G ⟨fid, n, fr, regs, conds⟩ := hc _ (by simp)
      have hGc : Holds G.conds := fun p hp => hc p (by simp [hp])
      have h0 : Holds conds := fun p hp => hc p (by simp [hp])
      have h1' : St.same ⟨fid, n, fr, regs, conds⟩ F := h1
      have tr : ∀ {a b c : St}, St.same a b → St.same b c → St.same a c := fun x y => ⟨x.1.trans y.1, x.2.1.trans y.2.1, x.2.2.1.trans y.2.2.1, x.2.2.2.trans y.2.2.2⟩
      refine ⟨h1', h0, fun i hi => ?_⟩
      rcases List.mem_cons.1 hi with rfl | hi
      · exact ⟨G, hG, hGc, tr hsG h1'⟩
      · exact h3 i hi
    · cases h

theorem mem_subs (q : Nat → Bool) : ∀ l : List Nat, l.filter q ∈ subs l
  | [] => by simp [subs]
  | x :: xs => by
    have ih := mem_subs q xs
    simp only [subs, List.filter_cons]
    cases q x with
    | true => simpa using .inr ih
    | false => simpa using .inl ih

/-- A quiet operation yields a value. -/
theorem quiet_val {sy : Bool} {ρ : Operand → Option SV} {g : Nat → Option Reg} {op : Op} {eff : Eff} {ps : List Prop} (hq : quietOp op = true) (h : evOp C sy ρ g op = some (eff, ps)) : ∃ v, eff = .val v := by
  have hE : ∀ {x : Option SV}, valE x = some (eff, ps) → ∃ v, eff = .val v := fun h => by obtain ⟨v, _, h, _⟩ := valE_spec h; exact ⟨v, h⟩
  have hP : ∀ {x : Option (SV × List Prop)}, valP x = some (eff, ps) → ∃ v, eff = .val v := fun h => by obtain ⟨v, _, h⟩ := valP_spec h; exact ⟨v, h⟩
  have hB : ∀ (b : Bool) (z : SV), (bif b then some (Eff.val z, ([] : List Prop)) else none) = some (eff, ps) → ∃ v, eff = .val v := fun b z h => by
    cases b with
    | false => cases h
    | true =>
      simp only [cond_true, Option.some.injEq, Prod.mk.injEq] at h
      exact ⟨_, h.1.symm⟩
  have hN : ∀ (b : Bool), (bif b then none else none : Option (Eff × List Prop)) = some (eff, ps) → ∃ v, eff = .val v := fun b h => by cases b <;> cases h
  cases op <;> simp only [quietOp, Bool.false_eq_true] at hq
  case move x => simp only [evOp] at h; exact hE h
  case assign x => simp only [evOp] at h; exact hE h
  case pick c x y =>
    simp only [evOp] at h
    split at h
    · exact hE h
    · cases h
  case build t parts =>
    simp only [evOp] at h
    split at h
    · split at h
      · rename_i ie _
        cases hb : (ie.size == 1) with
        | false => simp [hb] at h
        | true =>
          simp only [hb, cond_true, Option.map_eq_some_iff, Prod.mk.injEq] at h
          obtain ⟨l, _, h1, _⟩ := h
          exact ⟨_, h1.symm⟩
      · simp at h
    · simp at h
  case load t x =>
    simp only [evOp] at h
    split at h
    · exact hP h
    · cases h
  case nilCheck x =>
    simp only [evOp] at h
    split at h
    · simp only [Option.some.injEq, Prod.mk.injEq] at h
      exact ⟨_, h.1.symm⟩
    · simp at h
  case binOp op xt x y yt =>
    simp only [evOp] at h
    split at h
    · exact hE h
    · split at h <;> first | exact hE h | simp at h
    · simp at h
  case unOp op xt x =>
    cases op <;> simp only [evOp] at h <;> try (simp at h; done)
    all_goals
      split at h
      · simp only [Option.some.injEq, Prod.mk.injEq] at h
        exact ⟨_, h.1.symm⟩
      · simp at h
  case convert s d x =>
    simp only [evOp] at h
    split at h
    · simp only [Option.some.injEq, Prod.mk.injEq] at h
      exact ⟨_, h.1.symm⟩
    · simp at h
  case indexAddr t x i =>
    simp only [evOp] at h
    split at h
    · cases sy with
      | true => exact hP h
      | false => exact hE h
    · cases h
  case index t x i =>
    simp only [evOp] at h
    split at h
    · split at h
      · split at h
        · exact hB _ _ h
        · exact hN _ h
      · cases h
    · split at h
      · simp only [Option.some.injEq, Prod.mk.injEq] at h
        exact ⟨_, h.1.symm⟩
      · cases h
    · cases h
  case extract x i =>
    simp only [evOp] at h
    split at h
    · split at h
      · simp only [Option.some.injEq, Prod.mk.injEq] at h
        exact ⟨_, h.1.symm⟩
      · cases h
    · cases h

theorem quiet_regs {cf : CallF} {ops : Array Oper} {o : Oper} {s s' : St} (hq : quietOp o.op = true) (h : evOper C cf ops o s = some s') : s'.regs = s.regs := by
  rcases evOper_spec h with ⟨_, hu, _⟩ | ⟨regs, v, v', qs, _, hcore, hu, _⟩
  · exact hu.regs
  · rw [hu.regs]
    unfold evCore at hcore
    split at hcore
    · rename_i f xs hcl
      obtain ⟨args, ts, hop, _⟩ := calls_spec hcl
      rw [hop] at hq
      cases hq
    · split at hcore
      · rename_i eff qs' heff
        obtain ⟨u, rfl⟩ := quiet_val hq heff
        simp only [effOf, Option.some.injEq, Prod.mk.injEq] at hcore
        exact hcore.1.symm
      · cases hcore

theorem eraseT_get (ops : Array Oper) : ∀ (p : List Nat) (_ : ∀ i ∈ p, ∀ (o : Oper) (d : Nat), ops[i]? = some o → o.dst = some d → d < 4000) (fr : T) (t : Nat) (v : SV), (eraseT ops p fr).get t = some v →
    fr.get t = some v ∧ ∀ i ∈ p, ∀ o : Oper, ops[i]? = some o → o.dst ≠ some t
  | [], _, fr, t, v, h => ⟨h, fun i hi => by cases hi⟩
  | i :: is, hd, fr, t, v, h => by
    simp only [eraseT] at h
    have hd' : ∀ i ∈ is, ∀ (o : Oper) (d : Nat), ops[i]? = some o → o.dst = some d → d < 4000 := fun j hj => hd j (List.mem_cons_of_mem _ hj)
    split at h
    · rename_i d hdst
      obtain ⟨o, ho, hod⟩ := Option.bind_eq_some_iff.1 hdst
      rw [T.get_set 12 _ d none t (by have := hd i (List.mem_cons_self ..) o d ho hod; omega)] at h
      split at h
      · cases h
      · rename_i hne
        obtain ⟨h1, h2⟩ := eraseT_get ops is hd' fr t v h
        refine ⟨h1, fun j hj o' ho' => ?_⟩
        rcases List.mem_cons.1 hj with rfl | hj
        · have : o' = o := Option.some.inj (ho'.symm.trans ho)
          subst this
          rw [hod]
          simpa using hne
        · exact h2 j hj o' ho'
    · rename_i hdst
      obtain ⟨h1, h2⟩ := eraseT_get ops is hd' fr t v h
      refine ⟨h1, fun j hj o' ho' => ?_⟩
      rcases List.mem_cons.1 hj with rfl | hj
      · rw [ho'] at hdst
        simp only [Option.bind_some] at hdst
        rw [hdst]
        simp
      · exact h2 j hj o' ho'

/-- Heads in whatever order; the tail may begin while some are out. -/
theorem heads_late (hC : TyOK P C) (hO : OrcOK P C) (hN : NamesOK P) {cf : CallF} {ops : Array Oper} {n : Nat} {S : Nat → St} (hS : HS C cf ops n S) (hok : HOk ops n) (h4 : (S 0).n ≤ 4000) (hn : n ≤ ops.size)
    {W w0 : World} {base : Nat} (hbase : base ≤ (S 0).regs.length) {Q : Exit → Act → World → Prop} {η0 : Asg}
    (hend : ∀ η a w, (∀ r, r < base → η r = η0 r) → Rel W w0 base η (S n) a w → wpAny P .any ops Q (ops.size - n) (listedN ops.size n) a w)
    (hout : ∀ (listed : Array Bool) (η : Asg) (a : Act) (w : World) (i : Nat), HeadInv .any ops n listed → (∀ r, r < base → η r = η0 r) → PRel W w0 base ops n S (fun i => listed.getD i true) η a w → unl n listed ≠ 0 → n ≤ i →
      i ∈ Region.ready .any ops listed → wpOp P ops Q i (wpAny P .any ops Q (unl n listed - 1 + (ops.size - n)) (listed.setIfInBounds i true)) a w) :
    ∀ (f : Nat) (listed : Array Bool) (η : Asg) (a : Act) (w : World), (∀ r, r < base → η r = η0 r) → HeadInv .any ops n listed → unl n listed = f → PRel W w0 base ops n S (fun i => listed.getD i true) η a w →
      wpAny P .any ops Q (f + (ops.size - n)) listed a w := by
  intro f
  induction f with
  | zero =>
    intro listed η a w hη inv hu hR
    have hall := unl_zero hu
    have hl : listed = listedN ops.size n := listedN_eq inv.size (fun i hi _ => hall i hi) (fun i hi him => inv.tail i hi him)
    rw [Nat.zero_add, hl]
    refine hend η a w hη ⟨hR.mem.congrE (EL_all hS hall), ?_, ?_, ?_⟩
    · refine ⟨hR.frame.size, hR.frame.defers, fun t v _ hv => ?_⟩
      obtain ⟨h1, h2⟩ := hR.frame.slot t v (fun i _ hi _ _ => hall i hi) hv
      exact ⟨h1, SV.In.mono (fun r hr => (EL_all hS hall r).1 hr) h2⟩
    · exact Nat.le_trans hbase (hS.len_mono (Nat.zero_le n) (Nat.le_refl n))
    · rw [hS.n_eq n (Nat.le_refl n)]; exact h4
  | succ f ih =>
    intro listed η a w hη inv hu hR
    obtain ⟨i0, hi0, hun0, hbefore⟩ := least_unl (n := n) (listed := listed) (by omega)
    have hsz := inv.size
    have hu1 : unl n listed - 1 = f := by omega
    have hout' := hout listed η a w
    rw [hu1] at hout'
    rw [show f + 1 + (ops.size - n) = (f + (ops.size - n)) + 1 by omega]
    refine ⟨fun hnil => ?_, fun i hi => ?_⟩
    · exfalso
      have hmem : i0 ∈ Region.ready .any ops listed := by
        rw [mem_ready]
        refine ⟨hun0, ops[i0]'(by omega), by simp [Array.getElem?_eq_getElem (show i0 < ops.size by omega)], fun e he hb => ?_⟩
        have hlt := hok.edges i0 _ hi0 (by simp [Array.getElem?_eq_getElem (show i0 < ops.size by omega)]) e he hb
        have := hbefore e.on hlt
        have hes : e.on < listed.size := by omega
        simp [hes] at this ⊢
        exact this
      rw [hnil] at hmem
      cases hmem
    · rcases Nat.lt_or_ge i n with hin | hge
      · obtain ⟨hun, o, ho, hall⟩ := mem_ready.1 hi
        have hget : ∀ j, listed.getD j false = true → listed.getD j true = true := by
          intro j hj
          rcases Nat.lt_or_ge j listed.size with h' | h'
          · simp [h'] at hj ⊢; exact hj
          · simp [Array.getElem?_eq_none h']
        refine head_step hC hO hN hS hok h4 hbase hR hin hun (fun o' ho' e he hb => ?_) (fun η' a' w' hη' hR' => ?_)
        · have : o' = o := Option.some.inj (ho'.symm.trans ho)
          subst this
          exact hget _ (hall e he hb)
        · have hu' := unl_set hin hun
          refine ih (listed.setIfInBounds i true) η' a' w' (fun r hr => (hη' r hr).trans (hη r hr)) (inv.set hi hin) (by omega) ?_
          have e : (fun j => (listed.setIfInBounds i true).getD j true) = addL (fun j => listed.getD j true) i := by
            funext j
            unfold addL
            by_cases hji : j = i
            · subst hji
              have : j < listed.size := by omega
              simp [this]
            · rw [if_neg hji, getD_set_ne true (Ne.symm hji)]
          rw [e]
          exact hR'
      · exact hout' i inv hη hR (by omega) hge hi

theorem maskOf_eq {m n : Nat} {p : List Nat} {listed : Array Bool} (hsz : listed.size = m) (h1 : ∀ i, i < n → (listed.getD i true = true ↔ ¬ i ∈ p)) (h2 : ∀ i, n ≤ i → i < m → listed.getD i true = false) : listed = maskOf m n p := by
  apply Array.ext_getElem?
  intro i
  unfold maskOf
  by_cases hi : i < m
  · have e : listed[i]? = some (listed.getD i true) := by
      simp [Array.getElem?_eq_getElem (show i < listed.size by omega)]
    rw [e]
    have e2 : (((List.range m).map fun i => Nat.blt i n && !p.contains i).toArray)[i]? = some (Nat.blt i n && !p.contains i) := by simp [hi]
    rw [e2]
    congr 1
    by_cases hin : i < n
    · have hb : Nat.blt i n = true := by simpa [Nat.blt_eq] using hin
      rw [hb, Bool.true_and]
      have := h1 i hin
      by_cases hp : i ∈ p
      · have hl : listed.getD i true = false := by
          cases hg : listed.getD i true with
          | false => rfl
          | true => exact absurd hp (this.1 hg)
        rw [hl]; simp [hp]
      · rw [this.2 hp]; simp [hp]
    · rw [h2 i (by omega) hi]
      cases hb : Nat.blt i n with
      | false => rfl
      | true => exact absurd (by simpa [Nat.blt_eq] using hb) hin
  · have e : listed[i]? = none := Array.getElem?_eq_none (by omega)
    rw [e]
    exact (Array.getElem?_eq_none (by simp; omega)).symm

theorem evLate0_sound (hC : TyOK P C) (hO : OrcOK P C) (hN : NamesOK P) {cf : CallF} (hcf : CFok P cf) {ops : Array Oper} {st st' : St} (h : evLate0 C cf ops st = some st') (hh : Holds st'.conds) :
    Holds st.conds ∧ ∀ {W w0 : World} {base : Nat} {η : Asg} {a : Act} {w : World}, Rel W w0 base η st a w → ∀ {Q : Exit → Act → World → Prop},
      (∀ η' a' w', (∀ r, r < base → η' r = η r) → Rel W w0 base η' st' a' w' → Q .normal a' w') → wpAny P .any ops Q ops.size (Array.replicate ops.size false) a w := by
  unfold evLate0 at h
  simp only at h
  have hhe := headsN_le ops ops.toList (heads C ops.toList)
  generalize headsN ops ops.toList (heads C ops.toList) = n at h hhe
  cases hb : (headsOk ops.toList ops n && Nat.blt n ops.size && Region.chainB .any ops n && (lateOf ops n).all (quietAt ops)) with
  | false => simp [hb] at h
  | true =>
    simp only [hb, cond_true] at h
    simp only [Bool.and_eq_true, Nat.blt_eq] at hb
    obtain ⟨⟨⟨hho, hlt⟩, hch⟩, hq⟩ := hb
    have hle : n ≤ ops.size := Nat.le_of_lt hlt
    split at h
    · cases h
    · rename_i s h1
      split at h
      · cases h
      · rename_i G hG
        obtain ⟨hGF, hGc, hall⟩ := alts'_spec _ h hh
        obtain ⟨hsc, hgoG⟩ := evAny_sound hC hO hN hcf _ _ hG hGc
        obtain ⟨S, hS0, hSn, hSs⟩ := states ops.toList n (by simpa using hle) h1
        have hdown : ∀ k i, i + k = n → Holds (S i).conds := by
          intro k
          induction k with
          | zero => intro i hi; rw [show i = n by omega, hSn]; exact hsc
          | succ k ih =>
            intro i hi
            have hlt : i < ops.size := by omega
            exact evOper_mono (hSs i ops[i] (by omega) (by simp [hlt])) (ih (i + 1) (by omega))
        have hS : HS C cf ops n S := ⟨fun i hi => by
          have hlt : i < ops.size := by omega
          refine ⟨ops[i], by simp [hlt], ?_, hSs i _ hi (by simp [hlt])⟩
          exact heads_kind ops.toList i _ (by omega) (by simp [hlt]), fun i hi => hdown (n - i) i (by omega)⟩
        have hok := headsOk_spec hho
        have h0 : Holds st.conds := by have := hdown n 0 (by omega); rwa [hS0] at this
        refine ⟨h0, fun {W w0 base η a w} hR {Q} hQ => ?_⟩
        have hinv : HeadInv .any ops n (Array.replicate ops.size false) :=
          ⟨by simp, fun j oj _ hl => (by rw [getD_replicate_false] at hl; cases hl), fun t _ ht => by simp [ht]⟩
        have hun : unl n (Array.replicate ops.size false) = n := by
          unfold unl
          have : ((List.range n).countP fun i => !(Array.replicate ops.size false).getD i true) = (List.range n).countP fun _ => true :=
            List.countP_congr fun i hi => by
              have : i < ops.size := by have := List.mem_range.1 hi; omega
              simp [this]
          rw [this]; simp
        have hSn0 : (S 0).n ≤ 4000 := by rw [hS0]; exact hR.n
        have := heads_late (η0 := η) (w0 := w0) (base := base) (W := W) (Q := Q) hC hO hN hS hok hSn0 hle (by rw [hS0]; exact hR.base)
          (fun η' a' w' hη' hR' => by
            rw [hSn] at hR'
            exact hgoG hR' fun η'' a'' w'' hη'' hR'' => hQ η'' a'' w'' (fun r hr => (hη'' r hr).trans (hη' r hr)) (hR''.ofSame hGF))
          (fun listed η' a' w' i hinv' hη' hP hu hni hi => by
            obtain ⟨huni, oi, hoi, hwait⟩ := mem_ready.1 hi
            have him : i < ops.size := (Array.getElem?_eq_some_iff.1 hoi).1
            have hin : i = n := by
              rcases Nat.lt_or_ge n i with hgt | hle'
              · exfalso
                unfold Region.chainB at hch
                have := List.all_eq_true.1 hch i (List.mem_range.2 him)
                simp only [Bool.or_eq_true, decide_eq_true_eq] at this
                obtain ⟨oj, hoj, e, he, hbe, hon⟩ := Region.waitsFor_spec (this.resolve_left (by omega))
                have : oj = oi := Option.some.inj (hoj.symm.trans hoi)
                subst this
                have h1 := hwait e he hbe
                have h2 := hinv'.tail (i - 1) (by omega) (by omega)
                rw [hon] at h1
                have hlt' : i - 1 < listed.size := by have := hinv'.size; omega
                simp [hlt'] at h1 h2
                rw [h1] at h2
                cases h2
              · omega
            subst hin
            have hnotlate : ∀ j, j < i → j ∉ lateOf ops i → listed.getD j true = true := by
              intro j hj hjl
              have hw : Region.waitsFor .any ops i j = true := by
                cases hwf : Region.waitsFor .any ops i j with
                | true => rfl
                | false => exact absurd (by simp [lateOf, hj, hwf]) hjl
              obtain ⟨oj, hoj, e, he, hbe, hon⟩ := Region.waitsFor_spec hw
              have : oj = oi := Option.some.inj (hoj.symm.trans hoi)
              subst this
              have h1 := hwait e he hbe
              rw [hon] at h1
              have hlt' : j < listed.size := by have := hinv'.size; omega
              simp [hlt'] at h1 ⊢
              exact h1
            generalize hp : (lateOf ops i).filter (fun j => !listed.getD j true) = p
            have hpm : ∀ j, j ∈ p ↔ j ∈ lateOf ops i ∧ listed.getD j true = false := fun j => by rw [← hp]; simp
            have hlateLt : ∀ j, j ∈ lateOf ops i → j < i := fun j hj => by
              unfold lateOf at hj
              exact List.mem_range.1 (List.mem_filter.1 hj).1
            have hmask : listed = maskOf ops.size i p := maskOf_eq hinv'.size (fun j hj => by
              constructor
              · intro hl hjp
                have := ((hpm j).1 hjp).2
                rw [hl] at this; cases this
              · intro hjp
                by_cases hjl : j ∈ lateOf ops i
                · cases hg : listed.getD j true with
                  | true => rfl
                  | false => exact absurd ((hpm j).2 ⟨hjl, hg⟩) hjp
                · exact hnotlate j hj hjl) hinv'.tail
            have hlen : p.length = unl i listed := by
              rw [← hp]
              unfold unl lateOf
              rw [List.filter_filter, ← List.countP_eq_length_filter]
              refine List.countP_congr fun j hj => ?_
              have hj := List.mem_range.1 hj
              by_cases hjl : j ∈ lateOf ops i
              · have : Region.waitsFor .any ops i j = false := by
                  unfold lateOf at hjl
                  simpa using (List.mem_filter.1 hjl).2
                simp [this]
              · simp [hnotlate j hj hjl]
            have hne : p ≠ [] := by
              intro he
              rw [he] at hlen
              exact hu hlen.symm
            obtain ⟨Gp, hGp, hGpc, hGps⟩ := hall p (List.mem_filter.2 ⟨by rw [← hp]; exact mem_subs _ _, by cases p <;> simp at hne ⊢⟩)
            simp only [Option.bind_eq_some_iff] at hGp
            obtain ⟨s1, hs1, hs2⟩ := hGp
            obtain ⟨hc1, hgo⟩ := evAny_sound hC hO hN hcf _ _ hs2 hGpc
            unfold evAt at hs1
            simp only [hoi] at hs1
            -- the state with the slots that are out forgotten
            have hdst : ∀ j ∈ p, ∀ (o : Oper) (d : Nat), ops[j]? = some o → o.dst = some d → d < 4000 := by
              intro j hj o d ho hd
              have hji := hlateLt j ((hpm j).1 hj).1
              obtain ⟨o', ho', hk', hs'⟩ := hS.step j hji
              have : o' = o := Option.some.inj (ho'.symm.trans ho)
              subst this
              obtain ⟨v, Rs, _, hup⟩ := head_shape hk' hs'
              have := hup.lt d hd
              have := hS.n_eq j (by omega)
              omega
            have hEL : ∀ r, EL i S (fun j => listed.getD j true) r ↔ r < (S i).regs.length := by
              intro r
              rw [← EL_all hS (L := fun _ => true) (fun _ _ => rfl) r]
              constructor
              · rintro (h | ⟨j, hj, _, h1, h2⟩)
                · exact .inl h
                · exact .inr ⟨j, hj, rfl, h1, h2⟩
              · rintro (h | ⟨j, hj, _, h1, h2⟩)
                · exact .inl h
                · refine .inr ⟨j, hj, ?_, h1, h2⟩
                  by_cases hjp : j ∈ p
                  · exfalso
                    have hjl := ((hpm j).1 hjp).1
                    have hqj := List.all_eq_true.1 hq j hjl
                    unfold quietAt at hqj
                    obtain ⟨o', ho', hk', hs'⟩ := hS.step j hj
                    rw [ho'] at hqj
                    have := quiet_regs hqj hs'
                    rw [this] at h2
                    omega
                  · by_cases hjl : j ∈ lateOf ops i
                    · cases hg : listed.getD j true with
                      | true => first | rfl | exact hg
                      | false => exact absurd ((hpm j).2 ⟨hjl, hg⟩) hjp
                    · exact hnotlate j hj hjl
            have hRp : Rel W w0 base η' (s.erase ops p) a' w' := by
              have hre : (s.erase ops p).regs = s.regs := by cases s; rfl
              have hfe : (s.erase ops p).fr = eraseT ops p s.fr := by cases s; rfl
              have hnne : (s.erase ops p).n = s.n := by cases s; rfl
              rw [hSn] at hEL
              refine ⟨?_, ?_, ?_, ?_⟩
              · rw [hre]
                have := hP.mem.congrE hEL
                rwa [hSn] at this
              · rw [hre, hfe, hnne]
                refine ⟨by rw [← hSn]; exact hP.frame.size, hP.frame.defers, fun t v _ hv => ?_⟩
                obtain ⟨hv1, hv2⟩ := eraseT_get ops p hdst s.fr t v hv
                obtain ⟨h1, h2⟩ := hP.frame.slot t v (fun j oj hj hoj hd => by
                  by_cases hjp : j ∈ p
                  · exact absurd hd (hv2 j hjp oj hoj)
                  · by_cases hjl : j ∈ lateOf ops i
                    · cases hg : listed.getD j true with
                      | true => first | rfl | exact hg
                      | false => exact absurd ((hpm j).2 ⟨hjl, hg⟩) hjp
                    · exact hnotlate j hj hjl) (by rw [hSn]; exact hv1)
                exact ⟨h1, SV.In.mono (fun r hr => (hEL r).1 hr) h2⟩
              · rw [hre, ← hSn]
                exact Nat.le_trans hR.base (by rw [← hS0]; exact hS.len_mono (Nat.zero_le i) (Nat.le_refl i))
              · rw [hnne, ← hSn, hS.n_eq i (Nat.le_refl i)]; exact hSn0
            have hstep := evOper_sound hC hO hN hcf hs1 hc1 hRp (K := wpAny P .any ops Q (p.length - 1 + (ops.size - i)) ((maskOf ops.size i p).setIfInBounds i true)) (Q := Q) fun η1 a1 w1 hη1 hR1 =>
              hgo hR1 fun η2 a2 w2 hη2 hR2 => hQ η2 a2 w2 (fun r hr => ((hη2 r hr).trans (hη1 r hr)).trans (hη' r hr)) (hR2.ofSame hGps)
            rw [hmask, ← hmask, ← hlen]
            unfold wpOp
            simp only [hoi]
            rw [← hmask] at hstep
            by_cases hw : Region.wanted oi (yielded ops a'.tmps) = true
            · rw [if_pos hw] at hstep ⊢
              exact .inl hstep
            · rw [if_neg hw] at hstep ⊢
              exact hstep)
          n (Array.replicate ops.size false) η a w (fun _ _ => rfl) hinv hun ⟨?_, ?_⟩
        · rwa [show n + (ops.size - n) = ops.size by omega] at this
        · refine ((hS0 ▸ hR.mem : MR W w0 base η (· < (S 0).regs.length) (fun r => (S 0).regs[r]?) _).congrE ?_).mono_g ?_
          · intro r
            constructor
            · exact .inl
            · rintro (h | ⟨i, hi, hL, _, _⟩)
              · exact h
              · exfalso
                have : i < ops.size := by omega
                simp [this] at hL
          · rintro r (h | ⟨i, hi, hL, _, _⟩)
            · obtain ⟨R, hr⟩ : ∃ R, (S 0).regs[r]? = some R := ⟨(S 0).regs[r], by simp [h]⟩
              rw [hr, hS.regs_get (Nat.zero_le n) (Nat.le_refl n) hr]
            · exfalso
              have : i < ops.size := by omega
              simp [this] at hL
        · have hF := hR.frame
          refine ⟨?_, hF.defers, fun t v ht hv => ?_⟩
          · rw [hS.n_eq n (Nat.le_refl n), hS0]; exact hF.size
          · have hst := hS.fr_stable (by rw [hS0]; exact hR.n) (t := t) n 0 (by omega) (fun j oj _ hj hoj hd => by
              have h1 := ht j oj (by omega) hoj hd
              have : j < ops.size := by omega
              simp [this] at h1)
            rw [Nat.zero_add, hS0] at hst
            rw [hst] at hv
            obtain ⟨h1, h2⟩ := hF.slot t v trivial hv
            exact ⟨h1, SV.In.mono (fun r hr => .inl (by rw [hS0]; exact hr)) h2⟩

theorem evLate_sound (hC : TyOK P C) (hO : OrcOK P C) (hN : NamesOK P) {cf : CallF} (hcf : CFok P cf) {ops : Array Oper} {st st' : St} (h : evLate C cf ops st = some st') (hh : Holds st'.conds) :
    Holds st.conds ∧ ∀ {W w0 : World} {base : Nat} {η : Asg} {a : Act} {w : World}, Rel W w0 base η st a w → ∀ {Q : Exit → Act → World → Prop},
      (∀ η' a' w', (∀ r, r < base → η' r = η r) → Rel W w0 base η' st' a' w' → Q .normal a' w') → wpAny P .any ops Q ops.size (Array.replicate ops.size false) a w := by
  unfold evLate at h
  simp only [Option.map_eq_some_iff] at h
  obtain ⟨F, hF, rfl⟩ := h
  have hcl : ∀ (s : St) (ps : List Prop), (s.onto ps).conds = s.conds ++ ps := fun s ps => by cases s; rfl
  rw [hcl] at hh
  obtain ⟨_, hs⟩ := evLate0_sound hC hO hN hcf hF (fun p hp => hh p (by simp [hp]))
  refine ⟨fun p hp => hh p (by simp [hp]), fun {W w0 base η a w} hR {Q} hQ => ?_⟩
  exact hs (hR.ofSame (by cases st; exact ⟨rfl, rfl, rfl, rfl⟩)) fun η' a' w' hη' hR' => hQ η' a' w' hη' (hR'.ofSame (by cases F; exact ⟨rfl, rfl, rfl, rfl⟩))

theorem step_ok (hC : TyOK P C) (hO : OrcOK P C) (hS : SemOK P C) (hN : NamesOK P) (hm : P.follows .mixedOrders = true) {rec : EvC} (hrec : EvOK P rec) (hloop : LoopOK P rec) :
    EvOK P (evStep C (fun f => P.funcs[f]?) rec) ∧ LoopOK P (evStep C (fun f => P.funcs[f]?) rec) := by
  have hl : LoopOK P (evStep C (fun f => P.funcs[f]?) rec) := by
    intro base x st ex st' h hh
    simp only [evStep] at h
    split at h
    · rename_i L hL
      split at h
      · rename_i s0 hk
        simp only [Option.some.injEq, Prod.mk.injEq] at h
        obtain ⟨rfl, rfl⟩ := h
        obtain ⟨slots, S, n, ex, out⟩ := L
        obtain ⟨fid, nn, fr, regs, conds⟩ := out
        obtain ⟨fid', nn', fr', regs', conds'⟩ := s0
        have hkc : conds' = st.conds := keep_conds hk
        simp only [toldEnd] at hh
        have h1 := Holds.app hh
        have hc1 : St.same ⟨fid', nn', fr', regs', []⟩ (S 0) := h1.1 _ (List.mem_cons_self ..)
        have hc2 : ∀ k, k < n → C.sem base x (S k) .normal (S (k + 1)) := h1.1 _ (List.mem_cons_of_mem _ (List.mem_cons_self ..))
        have hc3 : C.sem base x (S n) ex ⟨fid, nn, fr, regs, conds⟩ := h1.1 _ (List.mem_cons_of_mem _ (List.mem_cons_of_mem _ (List.mem_cons_self ..)))
        have hc4 : ex.leaves := h1.1 _ (List.mem_cons_of_mem _ (List.mem_cons_of_mem _ (List.mem_cons_of_mem _ (List.mem_cons_self ..))))
        refine ⟨by rw [← hkc]; exact h1.2, n + 1, fun {W w0 η a w} hR {Q} hQ => ?_⟩
        obtain ⟨_, η1, hη1, hR1⟩ := hR.keep hk
        have hR2 : Rel W w0 base η1 (S (n - n)) a w := by
          rw [Nat.sub_self]
          exact (Rel.ofSame (st' := ⟨fid', nn', fr', regs', []⟩) hR1 ⟨rfl, rfl, rfl, rfl⟩).ofSame hc1
        refine told_rounds hc4 (fun k hk => hS _ _ _ _ _ (hc2 k hk)) (hS _ _ _ _ _ hc3) n (Nat.le_refl _) hR2 fun η' a' w' hη' hR' => ?_
        exact hQ η' a' w' (fun r hr => (hη' r hr).trans (hη1 r hr)) (hR'.ofSame ⟨rfl, rfl, rfl, rfl⟩)
      · cases h
    split at h
    · rename_i st1 h1
      split at h
      · rename_i st2 h2
        obtain ⟨hh2, n, hn⟩ := hloop _ _ _ _ _ h hh
        obtain ⟨hc, hk⟩ := keepAt_ok (C := C) h2
        rw [hc] at hh2
        obtain ⟨hh0, hx⟩ := hrec _ _ _ _ _ h1 hh2
        refine ⟨hh0, n + 1, fun {W w0 η a w} hR {Q} hQ => ?_⟩
        rw [rounds_succ]
        refine hx hR fun η1 a1 w1 hη1 hR1 => ?_
        obtain ⟨η2, hη2, hR2⟩ := hk hR1
        exact hn hR2 fun η3 a3 w3 hη3 hR3 => hQ η3 a3 w3 (fun r hr => ((hη3 r hr).trans (hη2 r hr)).trans (hη1 r hr)) hR3
      · simp at h
    · rename_i hno
      obtain ⟨hh0, hx⟩ := hrec _ _ _ _ _ h hh
      refine ⟨hh0, 1, fun {W w0 η a w} hR {Q} hQ => ?_⟩
      rw [rounds_succ]
      refine hx hR fun η1 a1 w1 hη1 hR1 => ?_
      have hq := hQ η1 a1 w1 hη1 hR1
      cases ex with
      | normal => exact absurd h (fun e => hno _ e)
      | exit id => exact hq
      | ret => exact hq
  refine ⟨?_, hl⟩
  intro base c st ex st' h hh
  cases c with
  | skip =>
    simp only [evStep, Option.some.injEq, Prod.mk.injEq] at h
    obtain ⟨rfl, rfl⟩ := h
    exact ⟨hh, fun {W w0 η a w} hR {Q} hQ => wp_skip (hQ η a w (fun _ _ => rfl) hR)⟩
  | label l =>
    simp only [evStep, Option.some.injEq, Prod.mk.injEq] at h
    obtain ⟨rfl, rfl⟩ := h
    exact ⟨hh, fun {W w0 η a w} hR {Q} hQ => wp_label (hQ η a w (fun _ _ => rfl) hR)⟩
  | region id ops draw =>
    simp only [evStep] at h
    cases hd : (!draw || drawOk C ops) with
    | false =>
      simp only [hd, cond_false] at h
      split at h
      · rename_i st0 hk
        have hdr : draw = true := by cases draw <;> simp_all
        subst hdr
        have key : ∃ st1, ex = .normal ∧ st' = st1 ∧ Holds st0.conds ∧ ∀ {W w0 : World} {base : Nat} {η : Asg} {a : Act} {w : World}, Rel W w0 base η st0 a w → ∀ {Q : Exit → Act → World → Prop},
            (∀ η' a' w', (∀ r, r < base → η' r = η r) → Rel W w0 base η' st1 a' w' → Q .normal a' w') → wpAny P .any ops Q ops.size (Array.replicate ops.size false) a w := by
          cases hsz : (Nat.ble ops.size 7 || C.sym st.fid (10000 + id)) with
          | true =>
            simp only [hsz, cond_true, Option.map_eq_some_iff, Prod.mk.injEq] at h
            obtain ⟨st1, h1, rfl, rfl⟩ := h
            obtain ⟨hh1, hs⟩ := evAny_sound hC hO hN (evCall_ok hC hrec) _ _ h1 hh
            exact ⟨st1, rfl, rfl, hh1, hs⟩
          | false =>
            simp only [hsz, cond_false, Option.map_eq_some_iff, Prod.mk.injEq] at h
            obtain ⟨st1, h1, rfl, rfl⟩ := h
            obtain ⟨hh1, hs⟩ := evLate_sound hC hO hN (evCall_ok hC hrec) h1 hh
            exact ⟨st1, rfl, rfl, hh1, hs⟩
        obtain ⟨st1, rfl, rfl, hh1, hs⟩ := key
        unfold keepR at hk
        split at hk
        · simp only [Option.some.injEq] at hk
          subst hk
          exact ⟨hh1, fun {W w0 η a w} hR {Q} hQ => wp_region_any hm (hs hR.drew hQ)⟩
        · refine ⟨by rw [keep_conds hk] at hh1; exact hh1, fun {W w0 η a w} hR {Q} hQ => wp_region_any hm ?_⟩
          obtain ⟨_, η2, hη2, hR2⟩ := hR.drew.keep hk
          exact hs hR2 fun η' a' w' hη' hR' => hQ η' a' w' (fun r hr => (hη' r hr).trans (hη2 r hr)) hR'
      · cases h
    | true =>
      simp only [hd, cond_true, Option.map_eq_some_iff, Prod.mk.injEq] at h
      obtain ⟨st1, h1, rfl, rfl⟩ := h
      exact ⟨evOpers_mono _ h1 hh, fun {W w0 η a w} hR {Q} hQ => region_sound hC hO hN (evCall_ok hC hrec) hm hd h1 hh hR hQ⟩
  | seq x y =>
    simp only [evStep] at h
    split at h
    · rename_i st1 h1
      obtain ⟨hh1, hy⟩ := hrec _ _ _ _ _ h hh
      obtain ⟨hh0, hx⟩ := hrec _ _ _ _ _ h1 hh1
      refine ⟨hh0, fun {W w0 η a w} hR {Q} hQ => wp_seq (hx hR fun η1 a1 w1 hη1 hR1 => ?_)⟩
      exact hy hR1 fun η2 a2 w2 hη2 hR2 => hQ η2 a2 w2 (fun r hr => (hη2 r hr).trans (hη1 r hr)) hR2
    · rename_i hno
      obtain ⟨hh0, hx⟩ := hrec _ _ _ _ _ h hh
      refine ⟨hh0, fun {W w0 η a w} hR {Q} hQ => wp_seq (hx hR fun η1 a1 w1 hη1 hR1 => ?_)⟩
      have hq := hQ η1 a1 w1 hη1 hR1
      cases ex with
      | normal => exact absurd h (fun e => hno _ e)
      | exit id => exact hq
      | ret => exact hq
  | cond c x y =>
    simp only [evStep] at h
    split at h
    · rename_i t hb
      cases t with
      | true =>
        obtain ⟨hh0, hx⟩ := hrec _ _ _ _ _ h hh
        exact ⟨hh0, fun {W w0 η a w} hR {Q} hQ => wp_cond_true (hR.frame.eval hb (fun _ _ => trivial)).1 (hx hR hQ)⟩
      | false =>
        obtain ⟨hh0, hx⟩ := hrec _ _ _ _ _ h hh
        exact ⟨hh0, fun {W w0 η a w} hR {Q} hQ => wp_cond_false (hR.frame.eval hb (fun _ _ => trivial)).1 (hx hR hQ)⟩
    · simp at h
  | block id x =>
    simp only [evStep] at h
    split at h
    · rename_i i st1 h1
      cases hi : i == id with
      | true =>
        simp only [hi, cond_true, Option.some.injEq, Prod.mk.injEq] at h
        obtain ⟨rfl, rfl⟩ := h
        obtain ⟨hh0, hx⟩ := hrec _ _ _ _ _ h1 hh
        refine ⟨hh0, fun {W w0 η a w} hR {Q} hQ => wp_block (hx hR fun η1 a1 w1 hη1 hR1 => ?_)⟩
        have : i = id := by simpa using hi
        simp only [Ex.ex, Exit.inBlock, this, if_true]
        exact hQ η1 a1 w1 hη1 hR1
      | false =>
        simp only [hi, cond_false, Option.some.injEq, Prod.mk.injEq] at h
        obtain ⟨rfl, rfl⟩ := h
        obtain ⟨hh0, hx⟩ := hrec _ _ _ _ _ h1 hh
        refine ⟨hh0, fun {W w0 η a w} hR {Q} hQ => wp_block (hx hR fun η1 a1 w1 hη1 hR1 => ?_)⟩
        have : ¬ i = id := by simpa using hi
        simp only [Ex.ex, Exit.inBlock, this, if_false]
        exact hQ η1 a1 w1 hη1 hR1
    · rename_i hno
      obtain ⟨hh0, hx⟩ := hrec _ _ _ _ _ h hh
      refine ⟨hh0, fun {W w0 η a w} hR {Q} hQ => wp_block (hx hR fun η1 a1 w1 hη1 hR1 => ?_)⟩
      have hq := hQ η1 a1 w1 hη1 hR1
      cases ex with
      | normal => exact hq
      | exit i => exact absurd h (fun e => hno _ _ e)
      | ret => exact hq
  | loop x =>
    obtain ⟨hh0, n, hn⟩ := hl _ _ _ _ _ h hh
    exact ⟨hh0, fun {W w0 η a w} hR {Q} hQ => wp_loop_rounds n (hn hR hQ)⟩
  | exit id =>
    simp only [evStep, Option.some.injEq, Prod.mk.injEq] at h
    obtain ⟨rfl, rfl⟩ := h
    exact ⟨hh, fun {W w0 η a w} hR {Q} hQ => wp_exit (hQ η a w (fun _ _ => rfl) hR)⟩
  | ret =>
    simp only [evStep, Option.some.injEq, Prod.mk.injEq] at h
    obtain ⟨rfl, rfl⟩ := h
    exact ⟨hh, fun {W w0 η a w} hR {Q} hQ => wp_ret (hQ η a w (fun _ _ => rfl) hR)⟩
  | rangeFunc => simp [evStep] at h
  | scope => simp [evStep] at h
  | goto => simp [evStep] at h
  | refuse => simp [evStep] at h

/-- THE EXECUTOR IS SOUND. -/
theorem ev_ok (hC : TyOK P C) (hO : OrcOK P C) (hS : SemOK P C) (hN : NamesOK P) (hm : P.follows .mixedOrders = true) (fuel : Nat) : EvOK P (ev C (fun f => P.funcs[f]?) fuel) ∧ LoopOK P (ev C (fun f => P.funcs[f]?) fuel) := by
  induction fuel with
  | zero => exact ⟨fun _ _ _ _ _ h => by simp [ev] at h, fun _ _ _ _ _ h => by simp [ev] at h⟩
  | succ fuel ih => exact step_ok hC hO hS hN hm ih.1 ih.2

theorem evF_ok (hC : TyOK P C) (hO : OrcOK P C) (hS : SemOK P C) (hN : NamesOK P) (hm : P.follows .mixedOrders = true) (fuel : Nat) : CFok P (evF C (fun f => P.funcs[f]?) fuel) :=
  evCall_ok hC (ev_ok hC hO hS hN hm fuel).1

theorem SC.plain_in {c : SC} (h : c.plain = true) (W : World) : c.In W fun _ => False := by cases c <;> simp [SC.plain] at h <;> trivial
theorem S1.plain_in {s : S1} (h : s.plain = true) (W : World) : s.In W fun _ => False := by
  cases s with
  | sc c => exact SC.plain_in h W
  | agg l => exact fun c hc => SC.plain_in (List.all_eq_true.1 h c hc) W
theorem SV.plain_in {v : SV} (h : v.plain = true) (W : World) : v.In W fun _ => False := by
  cases v with
  | one s => exact S1.plain_in h W
  | tup l => exact fun s hs => S1.plain_in (List.all_eq_true.1 h s hs) W

theorem mem_start (w : World) (η : Asg) : MR w w 0 η (· < 0) (fun r => ([] : List Reg)[r]?) w :=
  ⟨rfl, rfl, rfl, Nat.le_refl _, Below.refl _ _, fun r hr => absurd hr (by omega), fun r R hr => absurd hr (by omega), fun r hr => absurd hr (by omega), fun r s _ _ hr => absurd hr (by omega), fun r hr => absurd hr (by omega), fun _ _ _ => rfl⟩

/-- A function: what it comes to, in every world. -/
theorem evF_calls (hC : TyOK P C) (hO : OrcOK P C) (hS : SemOK P C) (hN : NamesOK P) (hm : P.follows .mixedOrders = true) {fuel f : Nat} {vs : List SV} {v : SV} {regs' : List Reg} {ps : List Prop} (h : evF C (fun f => P.funcs[f]?) fuel f vs [] = some (v, regs', ps))
    (hps : Holds ps) (η : Asg) (w : World) (hvs : ∀ x ∈ vs, x.In w fun _ => False) :
    Calls P f (vs.map (SV.den η)).toArray w fun e w' => ∃ η', e = .returned (v.den η') ∧ v.In w (· < regs'.length) ∧ MR w w 0 η' (· < regs'.length) (fun r => regs'[r]?) w' := by
  obtain ⟨_, hcall⟩ := evF_ok hC hO hS hN hm fuel f vs [] v regs' ps h
  exact (hcall hps w η w (mem_start w η) (fun x hx => SV.In.mono (fun _ h => h.elim) (hvs x hx))).mono fun e w' ⟨η', _, he, hi, _, hmem⟩ => ⟨η', he, hi, hmem⟩

theorem evF_plain (hC : TyOK P C) (hO : OrcOK P C) (hS : SemOK P C) (hN : NamesOK P) (hm : P.follows .mixedOrders = true) {fuel f : Nat} {vs : List SV} {v : SV} {regs' : List Reg} {ps : List Prop} (h : evF C (fun f => P.funcs[f]?) fuel f vs [] = some (v, regs', ps))
    (hps : Holds ps) (η : Asg) (w : World) (hvs : ∀ x ∈ vs, x.In w fun _ => False) (hv : v.plain = true) :
    Calls P f (vs.map (SV.den η)).toArray w fun e w' => e = .returned (v.den η) ∧ Below w.heap.size w w' := by
  refine (evF_calls hC hO hS hN hm h hps η w hvs).mono fun e w' ⟨η', he, _, hmem⟩ => ⟨?_, hmem.root⟩
  rw [he, SV.den_congr (E := fun _ => False) (η' := η) (fun _ h => h.elim) (SV.plain_in hv w)]

theorem auto_ok (hC : TyOK P C) (hO : OrcOK P C) (hS : SemOK P C) (hN : NamesOK P) (hm : P.follows .mixedOrders = true) {fuel f : Nat} {vs : List SV} {g : Nat → Option Reg} {res : ORes} (h : auto C (fun f => P.funcs[f]?) fuel f vs g = some res) (hps : Holds res.conds) (η : Asg) (w : World) :
    res.says P f η vs w := by
  unfold auto at h
  cases hb : vs.all SV.plain with
  | false => simp [hb] at h
  | true =>
    simp only [hb, cond_true] at h
    split at h
    · rename_i u regs ps hu
      cases hp : u.plain with
      | false => simp [hp] at h
      | true =>
        simp only [hp, cond_true, Option.some.injEq] at h
        subst h
        exact ⟨SV.plain_in hp, evF_plain hC hO hS hN hm hu hps η w (fun x hx => SV.plain_in (List.all_eq_true.1 hb x hx) w) hp⟩
    · simp at h

theorem scOf_spec {v : Value} {c : SC} (h : scOf v = some c) : (∀ η, c.den η = v) ∧ ∀ W, c.In W fun _ => False := by
  cases v <;> simp [scOf] at h <;> subst h <;> exact ⟨fun _ => rfl, fun _ => trivial⟩

theorem tyOf_ok (P : Program) (C : Ctx) (h : C.ty = tyOf P) (hq : C.eqg = eqgOf P) : TyOK P C := by
  refine ⟨fun t i hi => ?_, fun t ht => ?_⟩
  · rw [h] at hi
    unfold tyOf at hi
    split at hi
    · rename_i d inf hd hinf
      split at hi
      · rename_i z hz
        simp only [Option.some.injEq] at hi
        subst hi
        refine ⟨hd, inf, hinf, rfl, rfl, fun l hl => ⟨fun W c hc => ?_, z, hz, fun η => ?_⟩⟩
        · obtain ⟨x, _, hx⟩ := mapO_mem hl hc
          exact (scOf_spec hx).2 W
        · have := mapO_map (f := scOf) (g := id) (g' := SC.den η) (fun x y hxy => (scOf_spec hxy).1 η) hl
          rw [this]; simp
      · simp only [Option.some.injEq] at hi
        subst hi
        exact ⟨hd, inf, hinf, rfl, rfl, fun l hl => by simp at hl⟩
    · simp at hi
  · rw [hq] at ht
    simpa [eqgOf] using ht

theorem names_ok (P : Program) (h : P.funcs.toList.all (fun fn => !(fn.name == "runtime.NumGoroutine")) = true) : NamesOK P := by
  intro f fn hf
  have := List.all_eq_true.1 h fn (by
    obtain ⟨hlt, he⟩ := Array.getElem?_eq_some_iff.1 hf
    rw [← he]; simp)
  simpa using this

theorem noOrc_ok (P : Program) (C : Ctx) (h : C.orc = fun _ => none) : OrcOK P C := fun f hh hf => by rw [h] at hf; cases hf

/-- Functions of values, by the executor under a smaller context, beside elder oracles. -/
noncomputable def orcMore (C : Ctx) (P : Program) (fuel : Nat) (fs : List Nat) (f : Nat) : Option Orc :=
  bif fs.contains f then some (auto C (fun i => P.funcs[i]?) fuel f) else C.orc f

theorem orcMore_ok {C C' : Ctx} (hC : TyOK P C) (hO : OrcOK P C) (hS : SemOK P C) (hN : NamesOK P) (hm : P.follows .mixedOrders = true) {fuel : Nat} {fs : List Nat} (h : C'.orc = orcMore C P fuel fs)
    (hb : (fs.all fun f => ((P.funcs[f]?).map fun fn => fn.body.isSome).getD false) = true) : OrcOK P C' := by
  intro f hh hf
  rw [h] at hf
  unfold orcMore at hf
  cases hc : fs.contains f with
  | false =>
    simp only [hc, cond_false] at hf
    exact hO f hh hf
  | true =>
    simp only [hc, cond_true, Option.some.injEq] at hf
    subst hf
    have hmem : f ∈ fs := by simpa using hc
    have hbf := List.all_eq_true.1 hb f hmem
    refine ⟨?_, fun vs g res hres hps W η E w _ _ _ => auto_ok hC hO hS hN hm hres hps η w⟩
    cases hp : P.funcs[f]? with
    | none => simp [hp] at hbf
    | some fn => exact ⟨fn, rfl, by simpa [hp] using hbf⟩

/-- Oracles given as a list. -/
def orcList (l : List (Nat × Orc)) (f : Nat) : Option Orc :=
  match l with
  | [] => none
  | (g, o) :: l => bif g == f then some o else orcList l f

/-- What is asked of one oracle. -/
def OneOK (P : Program) (f : Nat) (h : Orc) : Prop :=
  (∃ fn, P.funcs[f]? = some fn ∧ fn.body.isSome = true) ∧ ∀ vs g res, h vs g = some res → Holds res.conds →
    ∀ (W : World) (η : Asg) (E : Nat → Prop) (w : World), Below W.heap.size W w → (∀ v ∈ vs, v.In W E) → (∀ r R, E r → g r = some R → Has η w r R ∧ R.In W E) → res.says P f η vs w

theorem orcList_ok {C : Ctx} {l : List (Nat × Orc)} (h : C.orc = orcList l) (hl : ∀ x ∈ l, OneOK P x.1 x.2) : OrcOK P C := by
  intro f hh hf
  rw [h] at hf
  clear h
  induction l with
  | nil => cases hf
  | cons x l ih =>
    obtain ⟨g, o⟩ := x
    simp only [orcList] at hf
    cases hg : g == f with
    | true =>
      simp only [hg, cond_true, Option.some.injEq] at hf
      subst hf
      have : g = f := by simpa using hg
      subst this
      exact hl (g, o) (by simp)
    | false =>
      simp only [hg, cond_false] at hf
      exact ih (fun x hx => hl x (by simp [hx])) hf

theorem body_ok (P : Program) (f : Nat) (h : ((P.funcs[f]?).map fun fn => fn.body.isSome).getD false = true) : ∃ fn, P.funcs[f]? = some fn ∧ fn.body.isSome = true := by
  cases hp : P.funcs[f]? with
  | none => simp [hp] at h
  | some fn => exact ⟨fn, rfl, by simpa [hp] using h⟩

theorem auto_one {C : Ctx} (hC : TyOK P C) (hO : OrcOK P C) (hS : SemOK P C) (hN : NamesOK P) (hm : P.follows .mixedOrders = true) {fuel f : Nat} (hb : ((P.funcs[f]?).map fun fn => fn.body.isSome).getD false = true) :
    OneOK P f (auto C (fun i => P.funcs[i]?) fuel f) :=
  ⟨body_ok P f hb, fun _ _ _ hres hps _ η _ w _ _ _ => auto_ok hC hO hS hN hm hres hps η w⟩

theorem noSem_ok (P : Program) (C : Ctx) (h : C.sem = fun _ _ _ _ _ => False) : SemOK P C := fun base x st ex st' hs => by rw [h] at hs; exact hs.elim
theorem sem_ok (P : Program) (C : Ctx) (h : C.sem = StepsTo P) : SemOK P C := fun base x st ex st' hs => by rw [h] at hs; exact hs

/-- A step, by a run: the state behind it is cut down to the slots that stay. -/
noncomputable def stepOf (C : Ctx) (P : Program) (fuel base : Nat) (x : Code) (slots : List Nat) (st : St) : Option (Ex × St) :=
  match ev C (fun f => P.funcs[f]?) fuel base x st with
  | some (ex, st') => (st'.keep base slots).map fun s => (ex, s)
  | none => none

theorem steps_of_run (hC : TyOK P C) (hO : OrcOK P C) (hS : SemOK P C) (hN : NamesOK P) (hm : P.follows .mixedOrders = true) {fuel base : Nat} {x : Code} {slots : List Nat} {st st' out : St} {ex : Ex}
    (h : stepOf C P fuel base x slots st = some (ex, st')) (hps : Holds st'.conds) (hs : St.same st' out) : StepsTo P base x st ex out := by
  unfold stepOf at h
  split at h
  · rename_i e1 s1 h1
    simp only [Option.map_eq_some_iff, Prod.mk.injEq] at h
    obtain ⟨s2, h2, rfl, rfl⟩ := h
    have hc := keep_conds h2
    rw [hc] at hps
    intro W w0 η a w hR Q hQ
    refine ((ev_ok hC hO hS hN hm fuel).1 _ _ _ _ _ h1 hps).2 hR fun η1 a1 w1 hη1 hR1 => ?_
    obtain ⟨_, η2, hη2, hR2⟩ := hR1.keep h2
    exact hQ η2 a1 w1 (fun r hr => (hη2 r hr).trans (hη1 r hr)) (hR2.ofSame hs)
  · cases h

/-- A run with its conditions. -/
noncomputable def runOf (C : Ctx) (P : Program) (fuel f : Nat) (vs : List SV) : Option (SV × List Prop) := (evF C (fun f => P.funcs[f]?) fuel f vs []).map fun x => (x.1, x.2.2)

/-- No region at all. -/
def nil : Asg := fun _ => (0, 0)

theorem calls_of_run (hC : TyOK P C) (hO : OrcOK P C) (hS : SemOK P C) (hN : NamesOK P) (hm : P.follows .mixedOrders = true) {fuel f : Nat} {vs : List SV} {v : SV} {ps : List Prop} (h : runOf C P fuel f vs = some (v, ps)) (hps : Holds ps)
    (w : World) (hvs : ∀ x ∈ vs, x.In w fun _ => False) (hv : v.plain = true) :
    Calls P f (vs.map (SV.den nil)).toArray w fun e w' => e = .returned (v.den nil) ∧ Below w.heap.size w w' := by
  unfold runOf at h
  cases hr : evF C (fun f => P.funcs[f]?) fuel f vs [] with
  | none => simp [hr] at h
  | some x =>
    obtain ⟨u, regs, qs⟩ := x
    simp only [hr, Option.map_some, Option.some.injEq, Prod.mk.injEq] at h
    obtain ⟨rfl, rfl⟩ := h
    exact evF_plain hC hO hS hN hm hr hps nil w hvs hv

theorem calls_of_run' (hC : TyOK P C) (hO : OrcOK P C) (hS : SemOK P C) (hN : NamesOK P) (hm : P.follows .mixedOrders = true) {fuel f : Nat} {vs : List SV} {v : SV} {ps : List Prop} (h : runOf C P fuel f vs = some (v, ps)) (hps : Holds ps)
    (η : Asg) (w : World) (hvs : ∀ x ∈ vs, x.In w fun _ => False) (hv : ∀ W, v.In W fun _ => False) :
    Calls P f (vs.map (SV.den η)).toArray w fun e w' => e = .returned (v.den η) ∧ Below w.heap.size w w' := by
  unfold runOf at h
  cases hr : evF C (fun f => P.funcs[f]?) fuel f vs [] with
  | none => simp [hr] at h
  | some x =>
    obtain ⟨u, regs, qs⟩ := x
    simp only [hr, Option.map_some, Option.some.injEq, Prod.mk.injEq] at h
    obtain ⟨rfl, rfl⟩ := h
    refine (evF_calls hC hO hS hN hm hr hps η w hvs).mono fun e w' ⟨η', he, _, hmem⟩ => ⟨?_, hmem.root⟩
    rw [he, SV.den_congr (E := fun _ => False) (η' := η) (fun _ h => h.elim) (hv w)]

theorem plain_all {vs : List SV} (h : vs.all SV.plain = true) (w : World) : ∀ x ∈ vs, x.In w fun _ => False := fun x hx => SV.plain_in (List.all_eq_true.1 h x hx) w

def ints (k : IntKind) (l : List Int) : SV := .one (.agg (l.map (SC.int k)))
theorem ints_plain (k : IntKind) (l : List Int) : (ints k l).plain = true := by
  simp only [ints, SV.plain, S1.plain, List.all_map, List.all_eq_true]
  intro x _
  rfl
theorem ints_den (η : Asg) (k : IntKind) (l : List Int) : (ints k l).den η = .agg (l.map (Value.int k)).toArray := by
  simp [ints, SV.den, S1.den, Function.comp_def, SC.den]
theorem mkInt_den (η : Asg) (k : IntKind) (n : Int) : (mkInt k n).den η = .int k n := rfl
def upTo (n : Nat) (f : Nat → Int) : List Int := (List.range n).map f
theorem upTo_getD (l : List Int) : upTo l.length (fun i => l.getD i 0) = l := by
  apply List.ext_getElem
  · simp [upTo]
  · intro i h1 h2
    simp [upTo, List.getD, h2]

end
end Go.SX
