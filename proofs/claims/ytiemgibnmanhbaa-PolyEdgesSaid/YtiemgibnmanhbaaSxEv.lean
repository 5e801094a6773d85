/-
  The executor is sound: regions in whatever order, code, calls. Conditions: none.
-/
import Derived.Test.YtiemgibnmanhbaaSxDraw
namespace Go.SX
open Go.RowKit (Below)

section
variable {P : Program} {C : Ctx} {W : World} {cf : CallF} {ops : Array Oper} {n : Nat} {S : Nat → St}

theorem EL_all (hS : HS C cf ops n S) {L : Nat → Bool} (hL : ∀ i, i < n → L i = true) (r : Nat) : EL n S L r ↔ r < (S n).regs.length := by
  have key : ∀ k, k ≤ n → ∀ r, (S 0).regs.length ≤ r → r < (S k).regs.length → ∃ i, i < k ∧ (S i).regs.length = r ∧ (S (i + 1)).regs.length = r + 1 := by
    intro k
    induction k with
    | zero => intro _ r h1 h2; omega
    | succ k ih =>
      intro hk r h1 h2
      by_cases hlt : r < (S k).regs.length
      · obtain ⟨i, hi, h⟩ := ih (by omega) r h1 hlt
        exact ⟨i, by omega, h⟩
      · obtain ⟨Rs, hl, hr⟩ := hS.regs_step (show k < n by omega)
        have : (S (k + 1)).regs.length = (S k).regs.length + Rs.length := by rw [hr]; simp
        exact ⟨k, by omega, by omega, by omega⟩
  constructor
  · rintro (h | ⟨i, hi, _, h1, h2⟩)
    · have := hS.len_mono (Nat.zero_le n) (Nat.le_refl n); omega
    · have := hS.len_mono (show i + 1 ≤ n by omega) (Nat.le_refl n); omega
  · intro h
    by_cases h0 : r < (S 0).regs.length
    · exact .inl h0
    · obtain ⟨i, hi, h1, h2⟩ := key n (Nat.le_refl n) r (by omega) h
      exact .inr ⟨i, hi, hL i hi, h1, h2⟩

theorem listedN_eq {m n : Nat} {listed : Array Bool} (hsz : listed.size = m) (h1 : ∀ i, i < n → i < m → listed.getD i true = true) (h2 : ∀ i, n ≤ i → i < m → listed.getD i true = false) : listed = listedN m n := by
  apply Array.ext_getElem?
  intro i
  unfold listedN
  by_cases hi : i < m
  · have e : listed[i]? = some (listed.getD i true) := by
      simp [Array.getElem?_eq_getElem (show i < listed.size by omega)]
    rw [e]
    by_cases hin : i < n
    · rw [h1 i hin hi]; simp [hi]; simp [hin]
    · rw [h2 i (by omega) hi]; simp [hi]
      cases hb : Nat.blt i n with
      | false => rfl
      | true => exact absurd (by simpa [Nat.blt_eq] using hb) hin
  · have e : listed[i]? = none := Array.getElem?_eq_none (by omega)
    rw [e]
    exact (Array.getElem?_eq_none (by simp; omega)).symm

/-- The heads in whatever order, then the tail. -/
theorem heads_any (hC : TyOK P C) (hO : OrcOK P C) (hN : NamesOK P) (hS : HS C cf ops n S) (hok : HOk ops n) (h4 : (S 0).n ≤ 4000) (hn : n ≤ ops.size) {w0 : World} {base : Nat} (hbase : base ≤ (S 0).regs.length)
    (htail : n < ops.size → Region.sinkB .any ops n = true ∧ Region.chainB .any ops n = true) {Q : Exit → Act → World → Prop} {η0 : Asg}
    (hend : ∀ η a w, (∀ r, r < base → η r = η0 r) → Rel W w0 base η (S n) a w → wpAny P .any ops Q (ops.size - n) (listedN ops.size n) a w) :
    ∀ (f : Nat) (listed : Array Bool) (η : Asg) (a : Act) (w : World), (∀ r, r < base → η r = η0 r) → HeadInv .any ops n listed → unl n listed = f → PRel W w0 base ops n S (fun i => listed.getD i true) η a w →
      wpAny P .any ops Q (f + (ops.size - n)) listed a w := by
  intro f
  induction f with
  | zero =>
    intro listed η a w hη inv hu hR
    have hall := unl_zero hu
    have hl : listed = listedN ops.size n := listedN_eq inv.size (fun i hi _ => hall i hi) (fun i hi him => inv.tail i hi him)
    rw [Nat.zero_add, hl]
    refine hend η a w hη ⟨hR.mem.congrE (EL_all hS hall), ?_, ?_, ?_⟩
    · refine ⟨hR.frame.size, hR.frame.defers, fun t v _ hv => ?_⟩
      obtain ⟨h1, h2⟩ := hR.frame.slot t v (fun i _ hi _ _ => hall i hi) hv
      exact ⟨h1, SV.In.mono (fun r hr => (EL_all hS hall r).1 hr) h2⟩
    · exact Nat.le_trans hbase (hS.len_mono (Nat.zero_le n) (Nat.le_refl n))
    · rw [hS.n_eq n (Nat.le_refl n)]; exact h4
  | succ f ih =>
    intro listed η a w hη inv hu hR
    obtain ⟨i0, hi0, hun0, hbefore⟩ := least_unl (n := n) (listed := listed) (by omega)
    have hsz := inv.size
    rw [show f + 1 + (ops.size - n) = (f + (ops.size - n)) + 1 by omega]
    refine ⟨fun hnil => ?_, fun i hi => ?_⟩
    · -- the least one is ready
      exfalso
      have hmem : i0 ∈ Region.ready .any ops listed := by
        rw [mem_ready]
        refine ⟨hun0, ops[i0]'(by omega), by simp [Array.getElem?_eq_getElem (show i0 < ops.size by omega)], fun e he hb => ?_⟩
        have hlt := hok.edges i0 _ hi0 (by simp [Array.getElem?_eq_getElem (show i0 < ops.size by omega)]) e he hb
        have := hbefore e.on hlt
        have hes : e.on < listed.size := by omega
        simp [hes] at this ⊢
        exact this
      rw [hnil] at hmem
      cases hmem
    · have hin : i < n := by
        rcases Nat.lt_or_ge i n with h | h
        · exact h
        · exfalso
          have him : i < ops.size := by
            obtain ⟨_, o, ho, _⟩ := mem_ready.1 hi
            exact (Array.getElem?_eq_some_iff.1 ho).1
          obtain ⟨hs, hc⟩ := htail (by omega)
          exact tail_waits hs hc (by omega) inv _ i0 rfl hi0 hun0 i h hi
      obtain ⟨hun, o, ho, hall⟩ := mem_ready.1 hi
      have hget : ∀ j, listed.getD j false = true → listed.getD j true = true := by
        intro j hj
        rcases Nat.lt_or_ge j listed.size with h' | h'
        · simp [h'] at hj ⊢; exact hj
        · simp [Array.getElem?_eq_none h']
      refine head_step hC hO hN hS hok h4 hbase hR hin hun (fun o' ho' e he hb => ?_) (fun η' a' w' hη' hR' => ?_)
      · have : o' = o := Option.some.inj (ho'.symm.trans ho)
        subst this
        exact hget _ (hall e he hb)
      · have hu' := unl_set hin hun
        refine ih (listed.setIfInBounds i true) η' a' w' (fun r hr => (hη' r hr).trans (hη r hr)) (inv.set hi hin) (by omega) ?_
        have e : (fun j => (listed.setIfInBounds i true).getD j true) = addL (fun j => listed.getD j true) i := by
          funext j
          unfold addL
          by_cases hji : j = i
          · subst hji
            have : j < listed.size := by omega
            simp [this]
          · rw [if_neg hji, getD_set_ne true (Ne.symm hji)]
        rw [e]
        exact hR'

theorem evOpers_split (l : List Oper) : ∀ (k : Nat) {st st' : St}, evOpers C cf ops l st = some st' → ∃ st1, evOpers C cf ops (l.take k) st = some st1 ∧ evOpers C cf ops (l.drop k) st1 = some st' := by
  induction l with
  | nil => intro k st st' h; exact ⟨st, by simp [evOpers], by simpa using h⟩
  | cons o l ih =>
    intro k st st' h
    cases k with
    | zero => exact ⟨st, by simp [evOpers], by simpa using h⟩
    | succ k =>
      simp only [evOpers] at h
      split at h
      · rename_i st2 h2
        obtain ⟨st1, h3, h4⟩ := ih k h
        exact ⟨st1, by simp [evOpers, h2, h3], by simpa using h4⟩
      · simp at h

theorem heads_le (l : List Oper) : heads C l ≤ l.length := by
  induction l with
  | nil => simp [heads]
  | cons o l ih =>
    simp only [heads, List.length_cons]
    cases headKind C o <;> simp; omega
theorem headsN_le (ops : Array Oper) (l : List Oper) : ∀ n, headsN ops l n ≤ n
  | 0 => Nat.le_refl _
  | n + 1 => by
    unfold headsN
    cases headsOk l ops (n + 1)
    · simp only [cond_false]; exact Nat.le_succ_of_le (headsN_le ops l n)
    · simp
theorem heads_kind (l : List Oper) : ∀ i o, i < heads C l → l[i]? = some o → headKind C o = true := by
  induction l with
  | nil => intro i o hi; simp [heads] at hi
  | cons o' l ih =>
    intro i o hi ho
    simp only [heads] at hi
    cases hk : headKind C o' with
    | false => simp [hk] at hi
    | true =>
      simp only [hk, cond_true] at hi
      cases i with
      | zero => simp at ho; rw [← ho]; exact hk
      | succ i => exact ih i o (by omega) (by simpa using ho)

/-- The states at the heads. -/
theorem states (l : List Oper) (k : Nat) (hk : k ≤ l.length) : ∀ {st st1 : St}, evOpers C cf ops (l.take k) st = some st1 →
    ∃ S : Nat → St, S 0 = st ∧ S k = st1 ∧ ∀ i o, i < k → l[i]? = some o → evOper C cf ops o (S i) = some (S (i + 1)) := by
  induction l generalizing k with
  | nil =>
    intro st st1 h
    have : k = 0 := by simpa using hk
    subst this
    simp only [List.take_nil, evOpers, Option.some.injEq] at h
    exact ⟨fun _ => st, rfl, h, fun i o hi => by omega⟩
  | cons o l ih =>
    intro st st1 h
    cases k with
    | zero =>
      simp only [List.take_zero, evOpers, Option.some.injEq] at h
      exact ⟨fun _ => st, rfl, h, fun i o hi => by omega⟩
    | succ k =>
      simp only [List.take_succ_cons, evOpers] at h
      split at h
      · rename_i st2 h2
        obtain ⟨S, hS0, hSk, hS⟩ := ih k (by simpa using hk) h
        refine ⟨fun i => match i with
          | 0 => st
          | i + 1 => S i, rfl, hSk, fun i o' hi ho' => ?_⟩
        cases i with
        | zero =>
          simp at ho'
          subst ho'
          simp only [hS0]
          exact h2
        | succ i => exact hS i o' (by omega) (by simpa using ho')
      · simp at h

/-- A region, whatever order it draws. -/
theorem region_sound (hC : TyOK P C) (hO : OrcOK P C) (hN : NamesOK P) (hcf : CFok P cf) (hm : P.follows .mixedOrders = true) {id : Nat} {draw : Bool} (hd : (!draw || drawOk C ops) = true) {st st' : St}
    (h : evOpers C cf ops ops.toList st = some st') (hh : Holds st'.conds) {w0 : World} {base : Nat} {η : Asg} {a : Act} {w : World} (hR : Rel W w0 base η st a w) {Q : Exit → Act → World → Prop}
    (hQ : ∀ η' a' w', (∀ r, r < base → η' r = η r) → Rel W w0 base η' st' a' w' → Q .normal a' w') : (Code.region id ops draw).wp P Q a w := by
  cases draw with
  | false => exact wp_region_list (evOpers_sound hC hO hN hcf _ h hh hR hQ)
  | true =>
    simp only [Bool.not_true, Bool.false_or] at hd
    unfold drawOk at hd
    simp only [Bool.and_eq_true, Bool.or_eq_true, Nat.ble_eq] at hd
    obtain ⟨⟨_, hho⟩, htl⟩ := hd
    have hhe := headsN_le ops ops.toList (heads C ops.toList)
    generalize headsN ops ops.toList (heads C ops.toList) = n at hho htl hhe
    have hle : n ≤ ops.size := by rw [← Array.length_toList]; exact Nat.le_trans hhe (heads_le _)
    obtain ⟨st1, h1, h2⟩ := evOpers_split (C := C) (cf := cf) (ops := ops) ops.toList n h
    obtain ⟨S, hS0, hSn, hSs⟩ := states ops.toList n (by simpa using hle) h1
    have hh1 : Holds st1.conds := evOpers_mono _ h2 hh
    have hdown : ∀ k i, i + k = n → Holds (S i).conds := by
      intro k
      induction k with
      | zero => intro i hi; rw [show i = n by omega, hSn]; exact hh1
      | succ k ih =>
        intro i hi
        have hlt : i < ops.size := by omega
        exact evOper_mono (hSs i ops[i] (by omega) (by simp [hlt])) (ih (i + 1) (by omega))
    have hS : HS C cf ops n S := ⟨fun i hi => by
      have hlt : i < ops.size := by omega
      refine ⟨ops[i], by simp [hlt], ?_, hSs i _ hi (by simp [hlt])⟩
      exact heads_kind ops.toList i _ (by omega) (by simp [hlt]), fun i hi => hdown (n - i) i (by omega)⟩
    have hok := headsOk_spec hho
    refine wp_region_any hm ?_
    have hRd := hR.drew
    have hinv : HeadInv .any ops n (Array.replicate ops.size false) :=
      ⟨by simp, fun j oj _ hl => (by rw [getD_replicate_false] at hl; cases hl), fun t _ ht => by simp [ht]⟩
    have hun : unl n (Array.replicate ops.size false) = n := by
      unfold unl
      have : ((List.range n).countP fun i => !(Array.replicate ops.size false).getD i true) = (List.range n).countP fun _ => true :=
        List.countP_congr fun i hi => by
          have : i < ops.size := by have := List.mem_range.1 hi; omega
          simp [this]
      rw [this]; simp
    have := heads_any (η0 := η) (w0 := w0) (base := base) (Q := Q) hC hO hN hS hok (by rw [hS0]; exact hR.n) hle (by rw [hS0]; exact hR.base)
      (fun hlt => by
        rcases htl with htl | htl
        · omega
        · exact htl.1)
      (fun η' a' w' hη' hR' => by
        rw [hSn] at hR'
        rcases Nat.lt_or_ge n ops.size with hlt | hge
        · have hseq := (htl.resolve_left (by omega)).2
          have hdl : (ops.toList.drop n).length = ops.size - n := by simp
          have := wpAny_of_seq (P := P) (md := .any) (ops := ops) (Q' := Q) (ops.toList.drop n) n (listedN ops.size n) a' w' (fun j => by simp [List.getElem?_drop]) (by rw [hdl]; exact hseq)
            (evOpers_sound hC hO hN hcf _ h2 hh hR' fun η'' a'' w'' hη'' hR'' => hQ η'' a'' w'' (fun r hr => (hη'' r hr).trans (hη' r hr)) hR'')
          rwa [hdl] at this
        · have hne : n = ops.size := by omega
          have e : ops.toList.drop n = [] := by simp [hne]
          rw [e] at h2
          simp only [evOpers, Option.some.injEq] at h2
          subst h2
          rw [show ops.size - n = 0 by omega]
          refine ⟨?_, hQ η' a' w' hη' hR'⟩
          apply List.eq_nil_iff_forall_not_mem.2
          intro i hi
          obtain ⟨hun, o, ho, _⟩ := mem_ready.1 hi
          have hlt := (Array.getElem?_eq_some_iff.1 ho).1
          unfold listedN at hun
          simp [hlt] at hun
          have : Nat.blt i n = true := by simp [Nat.blt_eq]; omega
          rw [this] at hun
          cases hun)
      n (Array.replicate ops.size false) η a { w with drawn := w.drawn + 1 } (fun _ _ => rfl) hinv hun ⟨?_, ?_⟩
    · rwa [show n + (ops.size - n) = ops.size by omega] at this
    · refine ((hS0 ▸ hRd.mem : MR W w0 base η (· < (S 0).regs.length) (fun r => (S 0).regs[r]?) _).congrE ?_).mono_g ?_
      · intro r
        constructor
        · exact .inl
        · rintro (h | ⟨i, hi, hL, _, _⟩)
          · exact h
          · exfalso
            have : i < ops.size := by omega
            simp [this] at hL
      · rintro r (h | ⟨i, hi, hL, _, _⟩)
        · obtain ⟨R, hr⟩ : ∃ R, (S 0).regs[r]? = some R := ⟨(S 0).regs[r], by simp [h]⟩
          rw [hr, hS.regs_get (Nat.zero_le n) (Nat.le_refl n) hr]
        · exfalso
          have : i < ops.size := by omega
          simp [this] at hL
    · have hF := hRd.frame
      refine ⟨?_, hF.defers, fun t v ht hv => ?_⟩
      · rw [hS.n_eq n (Nat.le_refl n), hS0]; exact hF.size
      · have hst := hS.fr_stable (by rw [hS0]; exact hR.n) (t := t) n 0 (by omega) (fun j oj _ hj hoj hd => by
          have h1 := ht j oj (by omega) hoj hd
          have : j < ops.size := by omega
          simp [this] at h1)
        rw [Nat.zero_add, hS0] at hst
        rw [hst] at hv
        obtain ⟨h1, h2⟩ := hF.slot t v trivial hv
        exact ⟨h1, SV.In.mono (fun r hr => .inl (by rw [hS0]; exact hr)) h2⟩


/-! ### Renaming and forgetting -/

theorem mapO_spec {α β : Type} {f : α → Option β} : ∀ {l : List α} {l' : List β}, mapO f l = some l' → l'.length = l.length ∧ ∀ (i : Nat) (x : α), l[i]? = some x → ∃ y, l'[i]? = some y ∧ f x = some y
  | [], l', h => by
    simp only [mapO, Option.some.injEq] at h
    subst h
    exact ⟨rfl, by simp⟩
  | x :: l, l', h => by
    simp only [mapO] at h
    split at h
    · rename_i y ys h1 h2
      simp only [Option.some.injEq] at h
      subst h
      obtain ⟨hl, hg⟩ := mapO_spec h2
      refine ⟨by simp [hl], fun i z hz => ?_⟩
      cases i with
      | zero => simp at hz; subst hz; exact ⟨y, by simp, h1⟩
      | succ i => simpa using hg i z (by simpa using hz)
    · simp at h

theorem mapO_mem {α β : Type} {f : α → Option β} {l : List α} {l' : List β} (h : mapO f l = some l') {y : β} (hy : y ∈ l') : ∃ x ∈ l, f x = some y := by
  obtain ⟨hl, hg⟩ := mapO_spec h
  obtain ⟨i, hi⟩ := List.mem_iff_getElem?.1 hy
  have hlt : i < l.length := by have := (List.getElem?_eq_some_iff.1 hi).1; omega
  obtain ⟨z, hz, hf⟩ := hg i l[i] (by simp [hlt])
  rw [hi] at hz
  exact ⟨l[i], by simp, by rw [hf]; exact hz.symm⟩

theorem mapO_map {α β γ : Type} {f : α → Option β} {g : α → γ} {g' : β → γ} (hfg : ∀ x y, f x = some y → g' y = g x) : ∀ {l : List α} {l' : List β}, mapO f l = some l' → l'.map g' = l.map g
  | [], l', h => by
    simp only [mapO, Option.some.injEq] at h
    subst h
    rfl
  | x :: l, l', h => by
    simp only [mapO] at h
    split at h
    · rename_i y ys h1 h2
      simp only [Option.some.injEq] at h
      subst h
      simp [hfg x y h1, mapO_map hfg h2]
    · simp at h

theorem idx_spec : ∀ {l : List Nat} {r i : Nat}, idx l r = some i → l[i]? = some r
  | [], r, i, h => by simp [idx] at h
  | x :: l, r, i, h => by
    simp only [idx] at h
    cases hx : x == r with
    | true =>
      simp only [hx, cond_true, Option.some.injEq] at h
      subst h
      simpa using hx
    | false =>
      simp only [hx, cond_false, Option.map_eq_some_iff] at h
      obtain ⟨j, hj, rfl⟩ := h
      simpa using idx_spec hj

/-- The old name of a new one. -/
def back (base : Nat) (ks : List Nat) (j : Nat) : Nat := if j < base then j else ks.getD (j - base) 0

theorem ren_spec {base : Nat} {ks : List Nat} {r j : Nat} (h : ren base ks r = some j) : back base ks j = r ∧ j < base + ks.length := by
  unfold ren at h
  cases hb : Nat.blt r base with
  | true =>
    simp only [hb, cond_true, Option.some.injEq] at h
    subst h
    have : r < base := by simpa [Nat.blt_eq] using hb
    exact ⟨by simp [back, this], by omega⟩
  | false =>
    simp only [hb, cond_false, Option.map_eq_some_iff] at h
    obtain ⟨i, hi, rfl⟩ := h
    have hk := idx_spec hi
    have hlt := (List.getElem?_eq_some_iff.1 hk).1
    refine ⟨?_, by omega⟩
    simp only [back, if_neg (show ¬ base + i < base by omega), show base + i - base = i by omega]
    simp [List.getD, hk]

theorem SC.ren_den {base : Nat} {ks : List Nat} {E : Nat → Prop} (η : Asg) {c c' : SC} (h : c.ren base ks = some c') (hc : c.In W E) : c'.den (fun j => η (back base ks j)) = c.den η ∧ c'.In W (· < base + ks.length) := by
  cases c with
  | int k n => simp only [SC.ren, Option.some.injEq] at h; subst h; exact ⟨rfl, trivial⟩
  | bool b => simp only [SC.ren, Option.some.injEq] at h; subst h; exact ⟨rfl, trivial⟩
  | str b => simp only [SC.ren, Option.some.injEq] at h; subst h; exact ⟨rfl, trivial⟩
  | vw a l cp k f => simp only [SC.ren, Option.some.injEq] at h; subst h; exact ⟨rfl, hc⟩
  | ptrW a k n => simp only [SC.ren, Option.some.injEq] at h; subst h; exact ⟨rfl, hc⟩
  | ptr r o =>
    simp only [SC.ren, Option.map_eq_some_iff] at h
    obtain ⟨j, hj, rfl⟩ := h
    obtain ⟨h1, h2⟩ := ren_spec hj
    exact ⟨by simp [SC.den, h1], h2⟩
  | ptrS r o =>
    simp only [SC.ren, Option.map_eq_some_iff] at h
    obtain ⟨j, hj, rfl⟩ := h
    obtain ⟨h1, h2⟩ := ren_spec hj
    exact ⟨by simp [SC.den, h1], h2⟩
  | slU r o l d =>
    simp only [SC.ren, Option.map_eq_some_iff] at h
    obtain ⟨j, hj, rfl⟩ := h
    obtain ⟨h1, h2⟩ := ren_spec hj
    exact ⟨by simp [SC.den, h1], h2⟩
  | sl r o l cp =>
    simp only [SC.ren, Option.map_eq_some_iff] at h
    obtain ⟨j, hj, rfl⟩ := h
    obtain ⟨h1, h2⟩ := ren_spec hj
    exact ⟨by simp [SC.den, h1], h2⟩
theorem mapO_map' {α β γ : Type} {f : α → Option β} {g : α → γ} {g' : β → γ} : ∀ {l : List α} {l' : List β}, (∀ x ∈ l, ∀ y, f x = some y → g' y = g x) → mapO f l = some l' → l'.map g' = l.map g
  | [], l', _, h => by
    simp only [mapO, Option.some.injEq] at h
    subst h
    rfl
  | x :: l, l', hfg, h => by
    simp only [mapO] at h
    split at h
    · rename_i y ys h1 h2
      simp only [Option.some.injEq] at h
      subst h
      simp [hfg x (by simp) y h1, mapO_map' (fun x hx => hfg x (by simp [hx])) h2]
    · simp at h
theorem cells_ren {base : Nat} {ks : List Nat} {E : Nat → Prop} (η : Asg) {l l' : List SC} (h : mapO (SC.ren base ks) l = some l') (hl : ∀ c ∈ l, c.In W E) :
    l'.map (SC.den fun j => η (back base ks j)) = l.map (SC.den η) ∧ ∀ c ∈ l', c.In W (· < base + ks.length) :=
  ⟨mapO_map' (fun _ hx _ hxy => (SC.ren_den η hxy (hl _ hx)).1) h, fun _ hc => let ⟨_, hm, hx⟩ := mapO_mem h hc; (SC.ren_den η hx (hl _ hm)).2⟩
theorem S1.ren_den {base : Nat} {ks : List Nat} {E : Nat → Prop} (η : Asg) {s s' : S1} (h : s.ren base ks = some s') (hs : s.In W E) : s'.den (fun j => η (back base ks j)) = s.den η ∧ s'.In W (· < base + ks.length) := by
  cases s with
  | sc c =>
    simp only [S1.ren, Option.map_eq_some_iff] at h
    obtain ⟨c', hc, rfl⟩ := h
    exact SC.ren_den η hc hs
  | agg l =>
    simp only [S1.ren, Option.map_eq_some_iff] at h
    obtain ⟨l', hl, rfl⟩ := h
    obtain ⟨h1, h2⟩ := cells_ren η hl hs
    exact ⟨by simp only [S1.den]; rw [h1], h2⟩
theorem SV.ren_den {base : Nat} {ks : List Nat} {E : Nat → Prop} (η : Asg) {v v' : SV} (h : v.ren base ks = some v') (hv : v.In W E) : v'.den (fun j => η (back base ks j)) = v.den η ∧ v'.In W (· < base + ks.length) := by
  cases v with
  | one s =>
    simp only [SV.ren, Option.map_eq_some_iff] at h
    obtain ⟨s', hs, rfl⟩ := h
    exact S1.ren_den η hs hv
  | tup l =>
    simp only [SV.ren, Option.map_eq_some_iff] at h
    obtain ⟨l', hl, rfl⟩ := h
    refine ⟨?_, fun s hs => let ⟨_, hm, hx⟩ := mapO_mem hl hs; (S1.ren_den η hx (hv _ hm)).2⟩
    simp only [SV.den]
    rw [mapO_map' (fun _ hx _ hxy => (S1.ren_den η hxy (hv _ hx)).1) hl]

theorem addNew_nodup {l : List Nat} (h : l.Nodup) (r : Nat) : (addNew l r).Nodup := by
  unfold addNew
  cases hc : l.contains r with
  | true => exact h
  | false =>
    simp only [cond_false]
    rw [List.nodup_append]
    refine ⟨h, by simp, fun x hx y hy => ?_⟩
    simp at hy
    subst hy
    intro e
    subst e
    simp at hc
    exact hc hx
theorem addNew_ge {base : Nat} {l : List Nat} (h : ∀ r ∈ l, base ≤ r) {r : Nat} (hr : base ≤ r) : ∀ s ∈ addNew l r, base ≤ s := by
  unfold addNew
  cases hc : l.contains r with
  | true => exact h
  | false =>
    intro s hs
    simp at hs
    rcases hs with hs | hs
    · exact h s hs
    · omega
theorem foldl_addNew {base : Nat} : ∀ (xs l : List Nat), l.Nodup → (∀ r ∈ l, base ≤ r) → (∀ r ∈ xs, base ≤ r) → (xs.foldl addNew l).Nodup ∧ ∀ r ∈ xs.foldl addNew l, base ≤ r
  | [], l, h1, h2, _ => ⟨h1, h2⟩
  | x :: xs, l, h1, h2, h3 => foldl_addNew xs _ (addNew_nodup h1 x) (addNew_ge h2 (h3 x (by simp))) fun r hr => h3 r (by simp [hr])
theorem SC.names_ge {base : Nat} {c : SC} : ∀ r ∈ c.names base, base ≤ r := by
  intro r hr
  cases c with
  | int => simp [SC.names] at hr
  | bool => simp [SC.names] at hr
  | str => simp [SC.names] at hr
  | vw => simp [SC.names] at hr
  | ptrW => simp [SC.names] at hr
  | ptrS s o => simp only [SC.names] at hr; cases hb : Nat.ble base s <;> simp [hb] at hr; subst hr; simpa [Nat.ble_eq] using hb
  | ptr s o => simp only [SC.names] at hr; cases hb : Nat.ble base s <;> simp [hb] at hr; subst hr; simpa [Nat.ble_eq] using hb
  | slU s o l d => simp only [SC.names] at hr; cases hb : Nat.ble base s <;> simp [hb] at hr; subst hr; simpa [Nat.ble_eq] using hb
  | sl s o l cp => simp only [SC.names] at hr; cases hb : Nat.ble base s <;> simp [hb] at hr; subst hr; simpa [Nat.ble_eq] using hb
theorem S1.names_ge {base : Nat} {s : S1} : ∀ r ∈ s.names base, base ≤ r := by
  intro r hr
  cases s with
  | sc c => exact SC.names_ge r hr
  | agg l =>
    simp only [S1.names, List.mem_flatMap] at hr
    obtain ⟨c, _, hc⟩ := hr
    exact SC.names_ge r hc
theorem SV.names_ge {base : Nat} {v : SV} : ∀ r ∈ v.names base, base ≤ r := by
  intro r hr
  cases v with
  | one s => exact S1.names_ge r hr
  | tup l =>
    simp only [SV.names, List.mem_flatMap] at hr
    obtain ⟨c, _, hc⟩ := hr
    exact S1.names_ge r hc

theorem keepFr_spec {base : Nat} {ks : List Nat} {fr : T} {m : Nat} {E : Nat → Prop} (hm : m ≤ 4000) (η : Asg) (hfr : ∀ t v, fr.get t = some v → v.In W E) : ∀ (ts : List Nat) (acc acc' : T), (∀ t ∈ ts, t < m) → keepFr base ks fr ts acc = some acc' →
    (∀ t v', acc.get t = some v' → ∃ v, fr.get t = some v ∧ v'.den (fun j => η (back base ks j)) = v.den η ∧ v'.In W (· < base + ks.length)) →
    ∀ t v', acc'.get t = some v' → ∃ v, fr.get t = some v ∧ v'.den (fun j => η (back base ks j)) = v.den η ∧ v'.In W (· < base + ks.length)
  | [], acc, acc', _, h, hacc => by
    simp only [keepFr, Option.some.injEq] at h
    subst h
    exact hacc
  | t :: ts, acc, acc', hts, h, hacc => by
    simp only [keepFr] at h
    split at h
    · rename_i v hv
      split at h
      · rename_i v' hv'
        refine keepFr_spec hm η hfr ts _ acc' (fun t ht => hts t (by simp [ht])) h ?_
        intro u x hx
        have ht := hts t (by simp)
        rw [T.get_set 12 acc t (some v') u (by omega)] at hx
        by_cases htu : t = u
        · subst htu
          simp only [if_true, Option.some.injEq] at hx
          subst hx
          exact ⟨v, hv, SV.ren_den η hv' (hfr t v hv)⟩
        · rw [if_neg htu] at hx
          exact hacc u x hx
      · simp at h
    · exact keepFr_spec hm η hfr ts acc acc' (fun t ht => hts t (by simp [ht])) h hacc

theorem names_keep {base : Nat} {fr : T} : ∀ (slots acc : List Nat), acc.Nodup → (∀ r ∈ acc, base ≤ r) →
    let ks := slots.foldl (fun acc t => match fr.get t with
      | some v => (v.names base).foldl addNew acc
      | none => acc) acc
    ks.Nodup ∧ ∀ r ∈ ks, base ≤ r
  | [], acc, h1, h2 => ⟨h1, h2⟩
  | t :: slots, acc, h1, h2 => by
    simp only [List.foldl_cons]
    cases hv : fr.get t with
    | none => exact names_keep slots acc h1 h2
    | some v =>
      obtain ⟨h3, h4⟩ := foldl_addNew (base := base) (v.names base) acc h1 h2 SV.names_ge
      exact names_keep slots _ h3 h4

theorem getD_inj {l : List Nat} (h : l.Nodup) {i j : Nat} (hi : i < l.length) (hj : j < l.length) (he : l.getD i 0 = l.getD j 0) : i = j := by
  simp [List.getD, hi, hj] at he
  rcases Nat.lt_trichotomy i j with h1 | h1 | h1
  · exact absurd he (List.pairwise_iff_getElem.1 h i j hi hj h1)
  · exact h1
  · exact absurd he.symm (List.pairwise_iff_getElem.1 h j i hj hi h1)

theorem Rel.keep {w0 : World} {base : Nat} {η : Asg} {st st' : St} {a : Act} {w : World} (hR : Rel W w0 base η st a w) {slots : List Nat} (h : st.keep base slots = some st') :
    st'.conds = st.conds ∧ ∃ η', (∀ r, r < base → η' r = η r) ∧ Rel W w0 base η' st' a w := by
  unfold St.keep at h
  simp only at h
  have hks := names_keep (base := base) (fr := st.fr) slots [] (by simp) (by simp)
  simp only at hks
  revert h
  generalize (slots.foldl (fun acc t => match st.fr.get t with
      | some v => (v.names base).foldl addNew acc
      | none => acc) []) = ks at hks
  intro h
  obtain ⟨hnd, hge⟩ := hks
  split at h
  · rename_i fr olds news hfr holds hnews
    cases hb : (Nat.ble base st.regs.length && slots.all fun t => Nat.blt t st.n) with
    | false => simp [hb] at h
    | true =>
      simp only [hb, cond_true, Option.some.injEq] at h
      subst h
      simp only [Bool.and_eq_true, Nat.ble_eq, List.all_eq_true, Nat.blt_eq] at hb
      obtain ⟨hbl, hsl⟩ := hb
      obtain ⟨ho1, ho2⟩ := mapO_spec holds
      obtain ⟨hn1, hn2⟩ := mapO_spec hnews
      have hlo : olds.length = base := by rw [ho1]; simp; omega
      have hln : news.length = ks.length := hn1
      have hlen : (olds ++ news).length = base + ks.length := by simp [hlo, hln]
      -- each region of the new list is one of the old
      have hreg : ∀ j R', (olds ++ news)[j]? = some R' → ∃ R, st.regs[back base ks j]? = some R ∧ R.ren base ks = some R' := by
        intro j R' hj
        by_cases hjb : j < base
        · rw [List.getElem?_append_left (by omega)] at hj
          have hlt : j < (st.regs.take base).length := by simp; omega
          obtain ⟨y, hy, hf⟩ := ho2 j _ (List.getElem?_eq_getElem hlt)
          rw [hj] at hy
          refine ⟨(st.regs.take base)[j], ?_, by rw [hf]; exact hy.symm⟩
          have hjl : j < st.regs.length := by omega
          simp [back, hjb, hjl]
        · rw [List.getElem?_append_right (by omega), hlo] at hj
          have hlt : j - base < ks.length := by have := (List.getElem?_eq_some_iff.1 hj).1; omega
          obtain ⟨y, hy, hf⟩ := hn2 (j - base) _ (List.getElem?_eq_getElem hlt)
          rw [hj] at hy
          have hy' := Option.some.inj hy
          subst hy'
          split at hf
          · rename_i R hR'
            refine ⟨R, ?_, hf⟩
            simp [back, hjb, List.getD, List.getElem?_eq_getElem hlt, hR']
          · simp at hf
      have hEx : ∀ j, j < (olds ++ news).length → ∃ R', (olds ++ news)[j]? = some R' := fun j hj => ⟨_, List.getElem?_eq_getElem hj⟩
      have hblt : ∀ j, j < (olds ++ news).length → back base ks j < st.regs.length := fun j hj => by
        obtain ⟨R', hR'⟩ := hEx j hj
        obtain ⟨R, hR1, _⟩ := hreg j R' hR'
        exact (List.getElem?_eq_some_iff.1 hR1).1
      refine ⟨rfl, fun j => η (back base ks j), fun r hr => by simp [back, hr], ⟨hR.mem.os, hR.mem.tape, hR.mem.output, hR.mem.size, hR.mem.root, fun j hj => hR.mem.low _ (hblt j hj), ?_, fun j hj => hEx j hj, ?_, ?_, ?_⟩, ?_, by simp only; omega, hR.n⟩
      · intro j R' hj hR'
        obtain ⟨R, hR1, hR2⟩ := hreg j R' hR'
        obtain ⟨h3, h4⟩ := hR.mem.has _ R (hblt j hj) hR1
        obtain ⟨body, el⟩ := R
        cases body with
        | cells l =>
          simp only [Reg.ren, Option.map_eq_some_iff] at hR2
          obtain ⟨l', hl, rfl⟩ := hR2
          simp only [Reg.In] at h4
          obtain ⟨h1, h2⟩ := cells_ren η hl h4
          refine ⟨?_, fun c hc => ?_⟩
          · simp only [Has, HasB] at h3 ⊢
            rw [h1]
            exact h3
          · have := h2 c hc
            simp only [hlen]
            exact this
        | own k n f =>
          simp only [Reg.ren, Option.some.injEq] at hR2
          subst hR2
          exact ⟨h3, trivial⟩
        | gone =>
          simp only [Reg.ren, Option.some.injEq] at hR2
          subst hR2
          exact ⟨h3, trivial⟩
      · intro i j Ri Rj hi hj hgi hgj hli hlj he
        have back_live : ∀ (q : Nat) (Q : Reg), (olds ++ news)[q]? = some Q → Q.body.live = true → ∃ Q0, st.regs[back base ks q]? = some Q0 ∧ Q0.body.live = true := fun q Q hq hl => by
          obtain ⟨Q0, hQ1, hQ2⟩ := hreg q Q hq
          refine ⟨Q0, hQ1, ?_⟩
          obtain ⟨body, el⟩ := Q0
          cases body with
          | cells l => rfl
          | own k n f => rfl
          | gone =>
            simp only [Reg.ren, Option.some.injEq] at hQ2
            subst hQ2
            exact hl
        obtain ⟨Qi, a1, a2⟩ := back_live i Ri hgi hli
        obtain ⟨Qj, b1, b2⟩ := back_live j Rj hgj hlj
        have he' := hR.mem.inj _ _ Qi Qj (hblt i hi) (hblt j hj) a1 b1 a2 b2 he
        have hi' : i < base + ks.length := by rw [← hlen]; exact hi
        have hj' : j < base + ks.length := by rw [← hlen]; exact hj
        have hgeD : ∀ i, ¬ i < base → i < base + ks.length → base ≤ ks.getD (i - base) 0 := fun i h1 h2 => by
          have hlt : i - base < ks.length := by omega
          simp only [List.getD, List.getElem?_eq_getElem hlt, Option.getD_some]
          exact hge _ (by simp)
        unfold back at he'
        by_cases h1 : i < base <;> by_cases h2 : j < base
        · simpa [h1, h2] using he'
        · have := hgeD j h2 hj'
          simp only [h1, h2, if_true, if_false] at he'
          omega
        · have := hgeD i h1 hi'
          simp only [h1, h2, if_true, if_false] at he'
          omega
        · simp only [h1, h2, if_false] at he'
          have := getD_inj hnd (by omega) (by omega) he'
          omega
      · intro j hj hb
        have hbk : base ≤ back base ks j := by
          have hj' : j < base + ks.length := by rw [← hlen]; exact hj
          have hlt : j - base < ks.length := by omega
          simp only [back, if_neg (show ¬ j < base by omega), List.getD, List.getElem?_eq_getElem hlt, Option.getD_some]
          exact hge _ (by simp)
        rcases hR.mem.new _ (hblt j hj) hbk with h1 | ⟨s, hs, h2, h3⟩
        · exact .inl h1
        · refine .inr ⟨s, by simp only [hlen]; omega, h2, ?_⟩
          have : back base ks s = s := by simp [back, h2]
          rw [this]
          exact h3
      · intro b hb hno
        refine hR.mem.old b hb fun r hr he => ?_
        by_cases hrb : r < base
        · exact hno r (by simp only [hlen]; omega) (by simp [back, hrb]; exact he)
        · rcases hR.mem.new r hr (by omega) with h1 | ⟨s, hs, h2, h3⟩
          · omega
          · exact hno s (by simp only [hlen]; omega) (by simp [back, h2]; rw [h3]; exact he)
      · refine ⟨hR.frame.size, hR.frame.defers, fun t v' _ hv' => ?_⟩
        obtain ⟨v, hv, h1, h2⟩ := keepFr_spec (m := st.n) hR.n η (fun t v hv => (hR.frame.slot t v trivial hv).2) slots .e fr (fun t ht => by have := hsl t ht; simpa using this) hfr (fun t v' h => by simp [T.get] at h) t v' hv'
        obtain ⟨h3, _⟩ := hR.frame.slot t v trivial hv
        refine ⟨by rw [h3, h1], ?_⟩
        simp only [hlen]
        exact h2
  · simp at h

end
end Go.SX
