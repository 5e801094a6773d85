/-
  The chacha functions as the executor's oracles. Conditions: none.
-/
import Derived.Test.YtkdclndbnmhbfaaRefXor
import Derived.Test.YtkdclndbnmhbfaaSxEnd
namespace Go.Proofs.Ytkdclndbnmhbfaa
open Go Go.SX
open Go.RowKit (Below)

abbrev BLf := (Nat → Int) → Int → (Nat → Int) → Nat → Int
abbrev XFf := (Nat → Int) → Int → (Nat → Int) → (Nat → Int) → Nat → Int

def orcBlock (BL : BLf) : Orc := fun vs _ => match vs with
  | [.one (.agg k), .one (.sc (.int .u32 c)), .one (.agg m)] => match intsOf .u8 k, intsOf .u8 m with
    | some zs, some us => bif zs.length == 32 && us.length == 12 then some (.val (ints .u8 (upTo 64 (BL (fun i => zs.getD i 0) c (fun i => us.getD i 0)))) []) else none
    | _, _ => none
  | _ => none
def orcXor (XF : XFf) : Orc := fun vs g => match vs with
  | [.one (.agg k), .one (.sc (.int .u32 c)), .one (.agg m), s] => match intsOf .u8 k, intsOf .u8 m, readS g .u8 s with
    | some zs, some us, some (n, f, ps) => bif zs.length == 32 && us.length == 12 then some (.own ⟨.own .u8 n (XF (fun i => zs.getD i 0) c (fun i => us.getD i 0) f), 5⟩ n (some n) (ps ++ [n ≤ 1000000, 0 ≤ c, c < 4294967296])) else none
    | _, _, _ => none
  | _ => none
/-- Where the slice holds something. -/
def orcRefXor (XF : XFf) : Orc := fun vs g => match vs with
  | [.one (.agg k), .one (.sc (.int .u32 c)), .one (.agg m), s] => match intsOf .u8 k, intsOf .u8 m, readS g .u8 s with
    | some zs, some us, some (n, f, ps) => bif zs.length == 32 && us.length == 12 then some (.own ⟨.own .u8 n (XF (fun i => zs.getD i 0) c (fun i => us.getD i 0) f), 5⟩ n none (ps ++ [0 < n, n ≤ 1000000, 0 ≤ c, c < 4294967296])) else none
    | _, _, _ => none
  | _ => none
def orcSame : Orc := fun vs g => match vs with
  | [s, t] => match readS g .u8 s, readS g .u8 t with
    | some (n, f, ps), some (m, h, qs) => some (.val (mkBool (decide (n = m) && sameB n f h)) (ps ++ (qs ++ [n ≤ 4611686018427387904])))
    | _, _ => none
  | _ => none
def orcBytes : Orc := fun vs g => match vs with
  | [s] => match readS g .u8 s with
    | some (n, f, ps) => some (.own ⟨.own .u8 n f, 5⟩ n (some n) (ps ++ [n ≤ 1000000]))
    | none => none
  | _ => none
def orcNumber : Orc := fun vs _ => match vs with
  | [.one (.sc (.int .i64 n)), .one (.sc (.int .i64 b))] => some (.val (mkInt .i64 (n % b)) [1 ≤ b, b ≤ 1000000])
  | _ => none
def orcTrue : Orc := fun vs _ => match vs with
  | [] => some (.val (mkBool true) [])
  | _ => none

def BLc : BLf := fun key c nonce i => (blockL key c nonce).getD i 0
def XFc : XFf := fun key c nonce f => xorF key c nonce f

/-- The slices' bytes, as the contracts have them. -/
theorem bytes_of {w : World} {a : Option Addr} {n : Nat} {f : Nat → Int} (h : SX.BytesAt w a n .u8 f) : BytesAt w a n f := by
  rcases h with h | ⟨b, off, rfl, _, h⟩
  · exact .inl h
  · exact .inr ⟨b, off, rfl, h⟩

theorem hasB_of_owns {η : Asg} {w : World} {base n : Nat} {v : Value} {f : Nat → Int} (h : w.ownsRow base 5 1 v n (u8s (upTo n f))) (hn : v ≠ .slice none 0 0) :
    ∃ b cp, base ≤ b ∧ v = .slice (some ⟨b, 0, none⟩) n cp ∧ HasB η w b ⟨.own .u8 n f, 5⟩ := by
  rcases h.2 with ⟨hv, _⟩ | ⟨g, cap, cur, hv, hb, hg, hnc, _, hs, ht⟩
  · exact absurd hv hn
  · refine ⟨g, cap, hb, hv, cur, hg, by omega, fun i hi => ?_⟩
    have h1 := u8s_get n f i hi
    rw [← ht] at h1
    rw [List.getElem?_take, if_pos (by omega)] at h1
    simpa using h1

theorem agg_den (η : Asg) {l : List SC} {zs : List Int} (h : intsOf .u8 l = some zs) : (SV.one (.agg l)).den η = .agg (u8s zs).toArray := by
  rw [intsOf_spec h]; simp [SV.den, S1.den, u8s, Function.comp_def, SC.den]
theorem upTo_self {zs : List Int} {n : Nat} (h : zs.length = n) : upTo n (fun i => zs.getD i 0) = zs := by subst h; exact upTo_getD zs

theorem block_one (f : Nat) (hb : ((Try.prog.funcs[f]?).map fun fn => fn.body.isSome).getD false = true)
    (hc : ∀ (key : Nat → Int) (c : Int) (nonce : Nat → Int) (w : World), Calls Try.prog f #[.agg ((upTo 32 key).map (Value.int .u8)).toArray, .int .u32 c, .agg ((upTo 12 nonce).map (Value.int .u8)).toArray] w fun e w' =>
      e = .returned (.agg ((blockL key c nonce).map (Value.int .u8)).toArray) ∧ Below w.heap.size w w') : OneOK Try.prog f (orcBlock BLc) := by
  refine ⟨body_ok _ _ hb, ?_⟩
  intro vs g res h _ W η E w hW hvs hg
  unfold orcBlock at h
  split at h
  · rename_i k c m
    split at h
    · rename_i zs us hz hu
      cases hl : (zs.length == 32 && us.length == 12) with
      | false => simp [hl] at h
      | true =>
        simp only [hl, cond_true, Option.some.injEq] at h
        simp only [Bool.and_eq_true, beq_iff_eq] at hl
        subst h
        refine ⟨SV.plain_in (ints_plain _ _), ?_⟩
        have := hc (fun i => zs.getD i 0) c (fun i => us.getD i 0) w
        rw [upTo_self hl.1, upTo_self hl.2] at this
        simp only [List.map_cons, List.map_nil, agg_den η hz, agg_den η hu]
        refine this.mono fun e w' ⟨he, hb⟩ => ⟨?_, hb⟩
        rw [he, ints_den]
        have h64 := blockL_length (fun i => zs.getD i 0) c (fun i => us.getD i 0)
        have e : upTo 64 (BLc (fun i => zs.getD i 0) c (fun i => us.getD i 0)) = blockL (fun i => zs.getD i 0) c (fun i => us.getD i 0) := upTo_self h64
        rw [e]
    · cases h
  · cases h

theorem xor_one : OneOK Try.prog 12 (orcXor XFc) := by
  refine ⟨body_ok _ _ (by kernel_rfl), ?_⟩
  intro vs g res h hps W η E w hW hvs hg
  unfold orcXor at h
  split at h
  · rename_i k c m s
    split at h
    · rename_i zs us n f ps hz hu hs
      cases hl : (zs.length == 32 && us.length == 12) with
      | false => simp [hl] at h
      | true =>
        simp only [hl, cond_true, Option.some.injEq] at h
        simp only [Bool.and_eq_true, beq_iff_eq] at hl
        subst h
        have hp := Holds.app hps
        have h1 : n ≤ 1000000 := hp.2 _ (by simp)
        have h2 : 0 ≤ c := hp.2 _ (by simp)
        have h3 : c < 4294967296 := hp.2 _ (by simp)
        obtain ⟨a, cap, hden, hby⟩ := readS_ok (w := w) hs hp.1 (hvs s (by simp)) hW hg
        refine ⟨fun _ => trivial, ?_⟩
        have := xor_any (fun i => zs.getD i 0) (fun i => us.getD i 0) c a n cap f w h1 h2 h3 (bytes_of hby)
        rw [upTo_self hl.1, upTo_self hl.2] at this
        simp only [List.map_cons, List.map_nil, agg_den η hz, agg_den η hu, hden]
        refine this.mono fun e w' ⟨he, ho, hb⟩ => ?_
        obtain ⟨b, cp, hbb, hv, hB⟩ := hasB_of_owns (η := η) ho (by simp)
        simp only [Value.slice.injEq, Option.some.injEq, Addr.mk.injEq] at hv
        refine ⟨b, n, hbb, ?_, fun c hc => Option.some.inj hc, hB, hb⟩
        rw [he, hv.1.1]
    · cases h
  · cases h

theorem refxor_one : OneOK Try.prog 13 (orcRefXor XFc) := by
  refine ⟨body_ok _ _ (by kernel_rfl), ?_⟩
  intro vs g res h hps W η E w hW hvs hg
  unfold orcRefXor at h
  split at h
  · rename_i k c m s
    split at h
    · rename_i zs us n f ps hz hu hs
      cases hl : (zs.length == 32 && us.length == 12) with
      | false => simp [hl] at h
      | true =>
        simp only [hl, cond_true, Option.some.injEq] at h
        simp only [Bool.and_eq_true, beq_iff_eq] at hl
        subst h
        have hp := Holds.app hps
        have h0 : 0 < n := hp.2 _ (by simp)
        have h1 : n ≤ 1000000 := hp.2 _ (by simp)
        have h2 : 0 ≤ c := hp.2 _ (by simp)
        have h3 : c < 4294967296 := hp.2 _ (by simp)
        obtain ⟨a, cap, hden, hby⟩ := readS_ok (w := w) hs hp.1 (hvs s (by simp)) hW hg
        refine ⟨fun _ => trivial, ?_⟩
        have := refxor_any (fun i => zs.getD i 0) (fun i => us.getD i 0) c a n cap f w h1 h2 h3 (bytes_of hby)
        rw [upTo_self hl.1, upTo_self hl.2] at this
        simp only [List.map_cons, List.map_nil, agg_den η hz, agg_den η hu, hden]
        refine this.mono fun e w' ⟨v, he, ho, hb⟩ => ?_
        have hv0 : v ≠ .slice none 0 0 := by
          rintro rfl
          rcases ho.2 with ⟨_, hn⟩ | ⟨_, _, _, hv, _⟩
          · omega
          · simp at hv
        obtain ⟨b, cp, hbb, hv, hB⟩ := hasB_of_owns (η := η) ho hv0
        exact ⟨b, cp, hbb, by rw [he, hv], fun c hc => (by cases hc), hB, hb⟩
    · cases h
  · cases h

theorem same_one : OneOK Try.prog 11 orcSame := by
  refine ⟨body_ok _ _ (by kernel_rfl), ?_⟩
  intro vs g res h hps W η E w hW hvs hg
  unfold orcSame at h
  split at h
  · rename_i s t
    split at h
    · rename_i n f ps m u qs hs ht
      simp only [Option.some.injEq] at h
      subst h
      have hp := Holds.app hps
      have hq := Holds.app hp.2
      have h1 : n ≤ 4611686018427387904 := hq.2 _ (by simp)
      obtain ⟨a, ca, hda, hba⟩ := readS_ok (w := w) hs hp.1 (hvs s (by simp)) hW hg
      obtain ⟨b, cb, hdb, hbb⟩ := readS_ok (w := w) ht hq.1 (hvs t (by simp)) hW hg
      refine ⟨fun _ => trivial, ?_⟩
      simp only [List.map_cons, List.map_nil, hda, hdb]
      by_cases hnm : n = m
      · subst hnm
        refine (same_any a b n ca cb f u w h1 (bytes_of hba) (bytes_of hbb)).mono fun e w' ⟨he, q, hw⟩ => ⟨?_, ?_⟩
        · rw [he]; simp [mkBool, SV.den, S1.den, SC.den]
        · rw [hw]; exact ⟨rfl, rfl, rfl, Nat.le_refl _, fun _ _ => rfl⟩
      · refine (same_len a b n m ca cb w hnm).mono fun e w' ⟨he, hw⟩ => ⟨?_, ?_⟩
        · rw [he]; simp [mkBool, SV.den, S1.den, SC.den, hnm]
        · rw [← hw]; exact Below.refl _ w
    · cases h
  · cases h

theorem bytes_one : OneOK Try.prog 14 orcBytes := by
  refine ⟨body_ok _ _ (by kernel_rfl), ?_⟩
  intro vs g res h hps W η E w hW hvs hg
  unfold orcBytes at h
  split at h
  · rename_i s
    split at h
    · rename_i n f ps hs
      simp only [Option.some.injEq] at h
      subst h
      have hp := Holds.app hps
      have h1 : n ≤ 1000000 := hp.2 _ (by simp)
      obtain ⟨a, ca, hda, hba⟩ := readS_ok (w := w) hs hp.1 (hvs s (by simp)) hW hg
      refine ⟨fun _ => trivial, ?_⟩
      simp only [List.map_cons, List.map_nil, hda]
      refine (bytes_any a n ca f w h1 (bytes_of hba)).mono fun e w' ⟨he, ho, hb⟩ => ?_
      obtain ⟨b, cp, hbb, hv, hB⟩ := hasB_of_owns (η := η) ho (by simp)
      simp only [Value.slice.injEq, Option.some.injEq, Addr.mk.injEq] at hv
      refine ⟨b, n, hbb, ?_, fun c hc => Option.some.inj hc, hB, hb⟩
      rw [he, hv.1.1]
    · cases h
  · cases h

theorem number_one : OneOK Try.prog 15 orcNumber := by
  refine ⟨body_ok _ _ (by kernel_rfl), ?_⟩
  intro vs g res h hps W η E w hW hvs hg
  unfold orcNumber at h
  split at h
  · rename_i n b
    simp only [Option.some.injEq] at h
    subst h
    have h1 : 1 ≤ b := hps _ (List.mem_cons_self ..)
    have h2 : b ≤ 1000000 := hps _ (List.mem_cons_of_mem _ (List.mem_cons_self ..))
    refine ⟨fun _ => trivial, (number_any n b w h1 h2).mono fun e w' ⟨he, hw⟩ => ⟨he, ?_⟩⟩
    rw [← hw]; exact Below.refl _ w
  · cases h

/-- The laws' oracles. -/
def lawOrc (BL : BLf) (XF : XFf) : List (Nat × Orc) := [(9, orcBlock BL), (10, orcBlock BL), (12, orcXor XF), (13, orcRefXor XF), (11, orcSame), (14, orcBytes), (15, orcNumber)]

theorem law_orc : ∀ x ∈ lawOrc BLc XFc, OneOK Try.prog x.1 x.2 := by
  intro x hx
  simp only [lawOrc, List.mem_cons, List.not_mem_nil, or_false] at hx
  rcases hx with rfl | rfl | rfl | rfl | rfl | rfl | rfl
  · exact block_one 9 (by kernel_rfl) block_any
  · exact block_one 10 (by kernel_rfl) ref_any
  · exact xor_one
  · exact refxor_one
  · exact same_one
  · exact bytes_one
  · exact number_one

/-- The function that each law calls first. -/
noncomputable def cf0 (BL : BLf) (XF : XFf) : Ctx := { ctxOf Try.prog (orcList (lawOrc BL XF)) with hint := fun _ s => bif s == 15 || s == 19 then some true else none }

def Z (n : Nat) : Nat → Int := fun i => (List.replicate n (0 : Int)).getD i 0
theorem first_runs (BL : BLf) (XF : XFf) : runOf (cf0 BL XF) Try.prog 100 8 [] =
    some (mkBool true, [(BL (Z 32) 0 (Z 12) 1 == 184) = true, (BL (Z 32) 0 (Z 12) 0 == 118) = true, 0 ≤ 1000000, (0 : Int) ≤ 0, (0 : Int) < 4294967296]) := by kernel_rfl

theorem cf0_ty (BL : BLf) (XF : XFf) : TyOK Try.prog (cf0 BL XF) := tyOf_ok _ _ rfl rfl
theorem cf0_sem (BL : BLf) (XF : XFf) : SemOK Try.prog (cf0 BL XF) := noSem_ok _ _ rfl
theorem cf0_orc : OrcOK Try.prog (cf0 BLc XFc) := orcList_ok rfl law_orc

theorem first_bytes : BLc (Z 32) 0 (Z 12) 0 = 118 ∧ BLc (Z 32) 0 (Z 12) 1 = 184 := by
  constructor <;> kernel_rfl

theorem first_one : OneOK Try.prog 8 orcTrue := by
  refine ⟨body_ok _ _ (by kernel_rfl), ?_⟩
  intro vs g res h hps W η E w hW hvs hg
  unfold orcTrue at h
  split at h
  · simp only [Option.some.injEq] at h
    subst h
    refine ⟨fun _ => trivial, ?_⟩
    exact calls_of_run' (cf0_ty BLc XFc) cf0_orc (cf0_sem _ _) names mixed (first_runs BLc XFc)
      (AllOf.holds (.cons (by rw [first_bytes.2]; rfl) (.cons (by rw [first_bytes.1]; rfl) (.cons (by decide) (.cons (by decide) (.cons (by decide) .nil)))))) η w (by simp) (fun _ => trivial)
  · cases h

/-- The document's XOR of nothing. -/
theorem refnil_runs (key nonce : Nat → Int) (c : Int) (a : Option Addr) (ca : Nat) (f : Nat → Int) :
    runOf cx Try.prog 100 13 [ints .u8 (upTo 32 key), mkInt .u32 c, ints .u8 (upTo 12 nonce), .one (.sc (.vw a 0 ca .u8 f))] = some (.one (.sc (.vw none 0 0 .u8 fun _ => 0)), []) := by kernel_rfl
def orcRefNil : Orc := fun vs g => match vs with
  | [.one (.agg k), .one (.sc (.int .u32 _)), .one (.agg m), s] => match intsOf .u8 k, intsOf .u8 m, readS g .u8 s with
    | some zs, some us, some (n, _, ps) => bif zs.length == 32 && us.length == 12 then some (.val (.one (.sc (.vw none 0 0 .u8 fun _ => 0))) (ps ++ [n = 0])) else none
    | _, _, _ => none
  | _ => none
theorem refnil_one : OneOK Try.prog 13 orcRefNil := by
  refine ⟨body_ok _ _ (by kernel_rfl), ?_⟩
  intro vs g res h hps W η E w hW hvs hg
  unfold orcRefNil at h
  split at h
  · rename_i k c m s
    split at h
    · rename_i zs us n f ps hz hu hs
      cases hl : (zs.length == 32 && us.length == 12) with
      | false => simp [hl] at h
      | true =>
        simp only [hl, cond_true, Option.some.injEq] at h
        simp only [Bool.and_eq_true, beq_iff_eq] at hl
        subst h
        have hp := Holds.app hps
        have h0 : n = 0 := hp.2 _ (by simp)
        subst h0
        obtain ⟨a, cap, hden, hby⟩ := readS_ok (w := w) hs hp.1 (hvs s (by simp)) hW hg
        refine ⟨fun _ => .inl rfl, ?_⟩
        have := calls_of_run' tyc orc semc names mixed (refnil_runs (fun i => zs.getD i 0) (fun i => us.getD i 0) c a cap f) Holds.nil η w
          (fun x hx => by
            simp only [List.mem_cons, List.not_mem_nil, or_false] at hx
            rcases hx with rfl | rfl | rfl | rfl
            · exact SV.plain_in (ints_plain _ _) w
            · trivial
            · exact SV.plain_in (ints_plain _ _) w
            · exact .inl rfl) (fun _ => .inl rfl)
        simp only [List.map_cons, List.map_nil, ints_den] at this
        rw [upTo_self hl.1, upTo_self hl.2] at this
        simp only [List.map_cons, List.map_nil, agg_den η hz, agg_den η hu, hden]
        exact this
    · cases h
  · cases h

theorem law_all : ∀ x ∈ (8, orcTrue) :: lawOrc BLc XFc, OneOK Try.prog x.1 x.2 := by
  intro x hx
  rcases List.mem_cons.1 hx with rfl | hx
  · exact first_one
  · exact law_orc x hx

/-- A law's context. -/
noncomputable def cl (BL : BLf) (XF : XFf) (hint : Nat → Option Bool) (sym : Nat → Bool) : Ctx :=
  { ctxOf Try.prog (orcList ((8, orcTrue) :: lawOrc BL XF)) with hint := fun _ s => hint s, sym := fun _ s => sym s }
theorem cl_ty (BL : BLf) (XF : XFf) (hint : Nat → Option Bool) (sym : Nat → Bool) : TyOK Try.prog (cl BL XF hint sym) := tyOf_ok _ _ rfl rfl
theorem cl_sem (BL : BLf) (XF : XFf) (hint : Nat → Option Bool) (sym : Nat → Bool) : SemOK Try.prog (cl BL XF hint sym) := noSem_ok _ _ rfl
theorem cl_orc (hint : Nat → Option Bool) (sym : Nat → Bool) : OrcOK Try.prog (cl BLc XFc hint sym) := orcList_ok rfl law_all
/-- The same where the document's XOR is of nothing. -/
noncomputable def cn (BL : BLf) (XF : XFf) (hint : Nat → Option Bool) (sym : Nat → Bool) : Ctx :=
  { ctxOf Try.prog (orcList ((13, orcRefNil) :: (8, orcTrue) :: lawOrc BL XF)) with hint := fun _ s => hint s, sym := fun _ s => sym s }
theorem cn_ty (BL : BLf) (XF : XFf) (hint : Nat → Option Bool) (sym : Nat → Bool) : TyOK Try.prog (cn BL XF hint sym) := tyOf_ok _ _ rfl rfl
theorem cn_sem (BL : BLf) (XF : XFf) (hint : Nat → Option Bool) (sym : Nat → Bool) : SemOK Try.prog (cn BL XF hint sym) := noSem_ok _ _ rfl
theorem cn_orc (hint : Nat → Option Bool) (sym : Nat → Bool) : OrcOK Try.prog (cn BLc XFc hint sym) := orcList_ok rfl fun x hx => by
  rcases List.mem_cons.1 hx with rfl | hx
  · exact refnil_one
  · exact law_all x hx

/-- An array's bytes as the oracles have them. -/
def K (n : Nat) (f : Nat → Int) : Nat → Int := fun i => (upTo n f).getD i 0
/-- Slots whose tests are answered yes, and no. -/
def ask (yes no : List Nat) (t : Nat) : Option Bool := bif yes.contains t then some true else bif no.contains t then some false else none
def open_ (l : List Nat) (t : Nat) : Bool := l.contains t

end Go.Proofs.Ytkdclndbnmhbfaa
