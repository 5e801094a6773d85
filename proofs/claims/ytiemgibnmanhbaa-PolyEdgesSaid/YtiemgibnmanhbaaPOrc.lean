/-
  The poly functions as the executor's oracles. Conditions: none.
-/
import Derived.Test.YtiemgibnmanhbaaPBytes
import Derived.Test.YtiemgibnmanhbaaSxEnd
namespace Go.Proofs.Ytiemgibnmanhbaa
open Go Go.SX
open Go.RowKit (Below)

/-- A tag, of a key, a length, bytes. -/
abbrev TgF := (Nat → Int) → Nat → (Nat → Int) → Nat → Int
def TGc : TgF := fun key n f => tagB key ⟨none, n, n, f⟩

theorem BS_same (b b' : BT) (hn : b.n = b'.n) (hf : b.f = b'.f) (k : Nat) : (BS b k).n = (BS b' k).n ∧ (BS b k).f = (BS b' k).f := by
  induction k with
  | zero => exact ⟨hn, hf⟩
  | succ k ih =>
    obtain ⟨h1, h2⟩ := ih
    refine ⟨?_, ?_⟩
    · show (BS b k).n - (mI (BS b k).n).toNat = (BS b' k).n - (mI (BS b' k).n).toNat
      rw [h1]
    · show (fun j => (BS b k).f ((mI (BS b k).n).toNat + j)) = fun j => (BS b' k).f ((mI (BS b' k).n).toNat + j)
      rw [h1, h2]
theorem HS_same (key : Nat → Int) (b b' : BT) (hn : b.n = b'.n) (hf : b.f = b'.f) (k : Nat) : HS key b k = HS key b' k := by
  induction k with
  | zero => rfl
  | succ k ih =>
    obtain ⟨h1, h2⟩ := BS_same b b' hn hf k
    show (HS key b k + blkV (BS b k).n (BS b k).f) * rV key = (HS key b' k + blkV (BS b' k).n (BS b' k).f) * rV key
    rw [ih, h1, h2]
theorem tagB_is (key : Nat → Int) (b : BT) : tagB key b = TGc key b.n b.f := by
  unfold TGc tagB
  rw [HS_same key b ⟨none, b.n, b.n, b.f⟩ rfl rfl]

def byteF (f : Nat → Int) : Prop := ∀ i, 0 ≤ f i ∧ f i ≤ 255
/-- What is asked of a slice's room. -/
def room : SV → List Prop
  | .one (.sc (.vw _ n ca _ _)) => [n ≤ ca]
  | .one (.sc (.sl _ _ n ca)) => [n ≤ ca]
  | _ => []
def orcTag (TG : TgF) : Orc := fun vs g => match vs with
  | [x, s] => match arrOf .u8 32 x, readS g .u8 s with
    | some a, some (n, f, ps) => some (.val (ints .u8 (upTo 16 (TG a n f))) (ps ++ (room s ++ [n ≤ 1000000, byteF a, byteF f])))
    | _, _ => none
  | _ => none
def orcSame : Orc := fun vs g => match vs with
  | [s, t] => match readS g .u8 s, readS g .u8 t with
    | some (n, f, ps), some (m, h, qs) => some (.val (mkBool (decide (n = m) && sameB n f h)) (ps ++ (qs ++ [n ≤ 4611686018427387904])))
    | _, _ => none
  | _ => none
def orcBytes : Orc := fun vs g => match vs with
  | [s] => match readS g .u8 s with
    | some (n, f, ps) => some (.own ⟨.own .u8 n f, 5⟩ n (some n) (ps ++ [n ≤ 1000000]))
    | none => none
  | _ => none
/-- A number that is known. -/
def orcNumber (r : Int) : Orc := fun vs _ => match vs with
  | [.one (.sc (.int .i64 n)), .one (.sc (.int .i64 b))] => some (.val (mkInt .i64 r) [n % b = r, 1 ≤ b, b ≤ 1000000])
  | _ => none
def orcTrue : Orc := fun vs _ => match vs with
  | [] => some (.val (mkBool true) [])
  | _ => none

theorem bytes_of {w : World} {a : Option Addr} {n : Nat} {f : Nat → Int} (h : SX.BytesAt w a n .u8 f) : BytesAt w a n f := by
  rcases h with h | ⟨b, off, rfl, _, h⟩
  · exact .inl h
  · exact .inr ⟨b, off, rfl, h⟩
theorem hasB_of_owns {η : Asg} {w : World} {base n : Nat} {v : Value} {f : Nat → Int} (h : w.ownsRow base 5 1 v n (u8s (upTo n f))) (hn : v ≠ .slice none 0 0) :
    ∃ b cp, base ≤ b ∧ v = .slice (some ⟨b, 0, none⟩) n cp ∧ n ≤ cp ∧ HasB η w (b, cp - n) ⟨.own .u8 n f, 5⟩ := by
  rcases h.2 with ⟨hv, _⟩ | ⟨g, cap, cur, hv, hb, hg, hnc, hmx, hs, ht⟩
  · exact absurd hv hn
  · refine ⟨g, cap, hb, hv, hnc, cur, hg, ⟨by show cur.size = n + (cap - n); omega, by omega⟩, fun i hi => ?_⟩
    have h1 := u8s_get n f i hi
    rw [← ht] at h1
    rw [List.getElem?_take, if_pos (by omega)] at h1
    simpa using h1
theorem room_ok {g : Nat → Option Reg} {k : IntKind} {s : SV} {n : Nat} {f : Nat → Int} {ps : List Prop} (h : readS g k s = some (n, f, ps)) (hr : Holds (room s)) {η : Asg} {a : Option Addr} {cap : Nat} (hd : s.den η = .slice a n cap) : n ≤ cap := by
  unfold readS at h
  split at h
  · rename_i x len ca k' f'
    have h1 : len ≤ ca := hr _ (List.mem_cons_self ..)
    simp only [SV.den, S1.den, SC.den, Value.slice.injEq] at hd
    omega
  · rename_i r off len ca
    have h1 : len ≤ ca := hr _ (List.mem_cons_self ..)
    simp only [SV.den, S1.den, SC.den, Value.slice.injEq] at hd
    omega
  · rename_i r off len d
    simp only [SV.den, S1.den, SC.den, Value.slice.injEq] at hd
    omega
  · cases h

theorem tg_one (f : Nat) (hb : ((Try.prog.funcs[f]?).map fun fn => fn.body.isSome).getD false = true)
    (hc : ∀ (key : Nat → Int) (b : BT) (_ : b.n ≤ 1000000) (_ : byteF key) (_ : byteF b.f) (_ : b.n ≤ b.ca) (η : Asg) (w : World) (_ : SX.BytesAt w b.a b.n .u8 b.f),
      Calls Try.prog f ([ints .u8 (upTo 32 key), vwB b].map (SV.den η)).toArray w fun e w' => e = .returned ((ints .u8 (upTo 16 (tagB key b))).den η) ∧ Below w.heap.size w w') : OneOK Try.prog f (orcTag TGc) := by
  refine ⟨body_ok _ _ hb, ?_⟩
  intro vs g res h hps W η E w hW hvs hg
  unfold orcTag at h
  split at h
  · rename_i x s
    split at h
    · rename_i a n f ps ha hs
      simp only [Option.some.injEq] at h
      subst h
      have hp := Holds.app hps
      have hq := Holds.app hp.2
      have h1 : n ≤ 1000000 := hq.2 _ (by simp)
      have h2 : byteF a := hq.2 _ (by simp)
      have h3 : byteF f := hq.2 _ (by simp)
      obtain ⟨ad, cap, hden, hby⟩ := readS_ok (w := w) hs hp.1 (hvs s (by simp)) hW hg
      have hr := room_ok hs hq.1 hden
      refine ⟨SV.plain_in (ints_plain _ _), ?_⟩
      have := hc a ⟨ad, n, cap, f⟩ h1 h2 h3 hr η w hby
      rw [tagB_is] at this
      simp only [List.map_cons, List.map_nil] at this ⊢
      rw [arrOf_den ha, hden]
      exact this
    · cases h
  · cases h
theorem sum_one : OneOK Try.prog 9 (orcTag TGc) := tg_one 9 (by kernel_rfl) fun key b _ h2 h3 h4 η w hb => sum_calls key b h2 h3 h4 η w hb
theorem tag_one : OneOK Try.prog 10 (orcTag TGc) := tg_one 10 (by kernel_rfl) fun key b h1 h2 h3 _ η w hb => tag_calls key b h1 h2 h3 η w hb

theorem same_one : OneOK Try.prog 13 orcSame := by
  refine ⟨body_ok _ _ (by kernel_rfl), ?_⟩
  intro vs g res h hps W η E w hW hvs hg
  unfold orcSame at h
  split at h
  · rename_i s t
    split at h
    · rename_i n f ps m u qs hs ht
      simp only [Option.some.injEq] at h
      subst h
      have hp := Holds.app hps
      have hq := Holds.app hp.2
      have h1 : n ≤ 4611686018427387904 := hq.2 _ (by simp)
      obtain ⟨a, ca, hda, hba⟩ := readS_ok (w := w) hs hp.1 (hvs s (by simp)) hW hg
      obtain ⟨b, cb, hdb, hbb⟩ := readS_ok (w := w) ht hq.1 (hvs t (by simp)) hW hg
      refine ⟨fun _ => trivial, ?_⟩
      simp only [List.map_cons, List.map_nil, hda, hdb]
      by_cases hnm : n = m
      · subst hnm
        refine (same_any a b n ca cb f u w h1 (bytes_of hba) (bytes_of hbb)).mono fun e w' ⟨he, q, hw⟩ => ⟨?_, ?_⟩
        · rw [he]; simp [mkBool, SV.den, S1.den, SC.den]
        · rw [hw]; exact ⟨rfl, rfl, rfl, Nat.le_refl _, fun _ _ => rfl⟩
      · refine (same_len a b n m ca cb w hnm).mono fun e w' ⟨he, hw⟩ => ⟨?_, ?_⟩
        · rw [he]; simp [mkBool, SV.den, S1.den, SC.den, hnm]
        · rw [← hw]; exact Below.refl _ w
    · cases h
  · cases h

theorem bytes_one : OneOK Try.prog 12 orcBytes := by
  refine ⟨body_ok _ _ (by kernel_rfl), ?_⟩
  intro vs g res h hps W η E w hW hvs hg
  unfold orcBytes at h
  split at h
  · rename_i s
    split at h
    · rename_i n f ps hs
      simp only [Option.some.injEq] at h
      subst h
      have hp := Holds.app hps
      have h1 : n ≤ 1000000 := hp.2 _ (by simp)
      obtain ⟨a, ca, hda, hba⟩ := readS_ok (w := w) hs hp.1 (hvs s (by simp)) hW hg
      refine ⟨fun _ => trivial, ?_⟩
      simp only [List.map_cons, List.map_nil, hda]
      refine (bytes_any a n ca f w h1 (bytes_of hba)).mono fun e w' ⟨he, ho, hb⟩ => ?_
      obtain ⟨b, cp, hbb, hv, hncp, hB⟩ := hasB_of_owns (η := η) ho (by simp)
      simp only [Value.slice.injEq, Option.some.injEq, Addr.mk.injEq] at hv
      obtain ⟨⟨rfl, _⟩, _, rfl⟩ := hv
      exact ⟨w.heap.size, n, Nat.le_refl _, he, fun c hc => Option.some.inj hc, Nat.le_refl _, hB, hb⟩
    · cases h
  · cases h

theorem number_one (r : Int) : OneOK Try.prog 11 (orcNumber r) := by
  refine ⟨body_ok _ _ (by kernel_rfl), ?_⟩
  intro vs g res h hps W η E w hW hvs hg
  unfold orcNumber at h
  split at h
  · rename_i n b
    simp only [Option.some.injEq] at h
    subst h
    have h0 : n % b = r := hps _ (List.mem_cons_self ..)
    have h1 : 1 ≤ b := hps _ (List.mem_cons_of_mem _ (List.mem_cons_self ..))
    have h2 : b ≤ 1000000 := hps _ (List.mem_cons_of_mem _ (List.mem_cons_of_mem _ (List.mem_cons_self ..)))
    refine ⟨fun _ => trivial, (number_any n b w h1 h2).mono fun e w' ⟨he, hw⟩ => ⟨?_, ?_⟩⟩
    · rw [he, h0]; rfl
    · rw [← hw]; exact Below.refl _ w
  · cases h

/-- The laws' oracles. -/
def lP (TG : TgF) (r : Int) : List (Nat × Orc) := [(9, orcTag TG), (10, orcTag TG), (13, orcSame), (12, orcBytes), (11, orcNumber r)]
theorem lP_ok (r : Int) : ∀ x ∈ lP TGc r, OneOK Try.prog x.1 x.2 := by
  intro x hx
  simp only [lP, List.mem_cons, List.not_mem_nil, or_false] at hx
  rcases hx with rfl | rfl | rfl | rfl | rfl
  · exact sum_one
  · exact tag_one
  · exact same_one
  · exact bytes_one
  · exact number_one r

end Go.Proofs.Ytiemgibnmanhbaa
