/-
  The hash's functions as the executor's oracles: rot, Bytes. Conditions: none.
-/
import Derived.Test.YtbhmfgjdphphcaaCBytes
import Derived.Test.YtbhmfgjdphphcaaQcB
namespace Go.Proofs.Ytbhmfgjdphphcaa
open Go Go.SX
open Go.RowKit (Below)

def orcBytes : Orc := fun vs g => match vs with
  | [s] => match readS g .u8 s with
    | some (n, f, ps) => some (.own ⟨.own .u8 n f, 5⟩ n (some n) (ps ++ [n ≤ 1000000]))
    | none => none
  | _ => none
theorem bytes_of {w : World} {a : Option Addr} {n : Nat} {f : Nat → Int} (h : SX.BytesAt w a n .u8 f) : BytesAt w a n f := by
  rcases h with h | ⟨b, off, rfl, _, h⟩
  · exact .inl h
  · exact .inr ⟨b, off, rfl, h⟩
theorem hasB_of_owns {η : Asg} {w : World} {base n : Nat} {v : Value} {f : Nat → Int} (h : w.ownsRow base 5 1 v n (u8s (upTo n f))) (hn : v ≠ .slice none 0 0) :
    ∃ b cp, base ≤ b ∧ v = .slice (some ⟨b, 0, none⟩) n cp ∧ n ≤ cp ∧ HasB η w (b, cp - n) ⟨.own .u8 n f, 5⟩ := by
  rcases h.2 with ⟨hv, _⟩ | ⟨g, cap, cur, hv, hb, hg, hnc, hmx, hs, ht⟩
  · exact absurd hv hn
  · refine ⟨g, cap, hb, hv, hnc, cur, hg, ⟨by show cur.size = n + (cap - n); omega, by omega⟩, fun i hi => ?_⟩
    have h1 := u8s_get n f i hi
    rw [← ht] at h1
    rw [List.getElem?_take, if_pos (by omega)] at h1
    simpa using h1
theorem bytes_one : OneOK Try.prog 36 orcBytes := by
  refine ⟨body_ok _ _ (by kernel_rfl), ?_⟩
  intro vs g res h hps W η E w hW hvs hg
  unfold orcBytes at h
  split at h
  · rename_i s
    split at h
    · rename_i n f ps hs
      simp only [Option.some.injEq] at h
      subst h
      have hp := Holds.app hps
      have h1 : n ≤ 1000000 := hp.2 _ (by simp)
      obtain ⟨a, ca, hda, hba⟩ := readS_ok (w := w) hs hp.1 (hvs s (by simp)) hW hg
      refine ⟨fun _ => trivial, ?_⟩
      simp only [List.map_cons, List.map_nil, hda]
      refine (bytes_any a n ca f w h1 (bytes_of hba)).mono fun e w' ⟨he, ho, hb⟩ => ?_
      obtain ⟨b, cp, hbb, hv, hncp, hB⟩ := hasB_of_owns (η := η) ho (by simp)
      simp only [Value.slice.injEq, Option.some.injEq, Addr.mk.injEq] at hv
      obtain ⟨⟨rfl, _⟩, _, rfl⟩ := hv
      exact ⟨w.heap.size, n, Nat.le_refl _, he, fun c hc => Option.some.inj hc, Nat.le_refl _, hB, hb⟩
    · cases h
  · cases h
theorem auto_one (fuel f : Nat) (hb : ((Try.prog.funcs[f]?).map fun fn => fn.body.isSome).getD false = true) : OneOK Try.prog f (auto cx0 (fun i => Try.prog.funcs[i]?) fuel f) :=
  ⟨body_ok _ _ hb, fun _ _ _ hr hps _ η _ w _ _ _ => auto_ok ty0 orc0 sem0 names mixed hr hps η w⟩

/-- A word turned to the right. -/
def rotV (x : Int) (n : Nat) : Int := bits .or .u32 (x / (2 ^ (min n (IntKind.bits .u32)) : Nat)) (IntKind.u32.wrap (x * (2 ^ (min (32 - n) (IntKind.bits .u32)) : Nat)))
def orcRot (RO : Int → Nat → Int) : Orc := fun vs _ => match vs with
  | [.one (.sc (.int .u32 x)), .one (.sc (.int .u64 (.ofNat n)))] => some (.val (mkInt .u32 (RO x n)) [n ≤ 32])
  | _ => none
end Go.Proofs.Ytbhmfgjdphphcaa
