/-
  The tags' oracle for rows told cell by cell. Conditions: none.
-/
import Derived.Test.YtiemgibnmanhbaaQSays
namespace Go.Proofs.Ytiemgibnmanhbaa
open Go Go.SX
open Go.RowKit (Below)

def orcTagK (TG : TgF) : Orc := fun vs g => match vs with
  | [x, s] => match arrOf .u8 32 x, readS g .u8 s with
    | some a, some (n, f, ps) => some (.val (ints .u8 (upTo 16 (TG a n (K n f)))) (ps ++ (room s ++ [n ≤ 1000000, byteF a, byteF (K n f)])))
    | _, _ => none
  | _ => none
theorem sumK_one : OneOK Try.prog 9 (orcTagK TGc) := by
  refine ⟨body_ok _ _ (by kernel_rfl), ?_⟩
  intro vs g res h hps W η E w hW hvs hg
  unfold orcTagK at h
  split at h
  · rename_i x s
    split at h
    · rename_i a n f ps ha hs
      simp only [Option.some.injEq] at h
      subst h
      have hp := Holds.app hps
      have hq := Holds.app hp.2
      have h2 : byteF a := hq.2 _ (by simp)
      have h3 : byteF (K n f) := hq.2 _ (by simp)
      obtain ⟨ad, cap, hden, hby⟩ := readS_ok (w := w) hs hp.1 (hvs s (by simp)) hW hg
      have hr := room_ok hs hq.1 hden
      refine ⟨SV.plain_in (ints_plain _ _), ?_⟩
      have hby' : SX.BytesAt w ad n .u8 (K n f) := by
        rcases hby with h | ⟨b, off, e1, e2, e3⟩
        · exact .inl h
        · exact .inr ⟨b, off, e1, e2, fun i hi => by rw [K_at n f i hi]; exact e3 i hi⟩
      have := sum_calls a ⟨ad, n, cap, K n f⟩ h2 h3 hr η w hby'
      rw [tagB_is] at this
      simp only [List.map_cons, List.map_nil] at this ⊢
      rw [arrOf_den ha, hden]
      exact this
    · cases h
  · cases h
def lE (TG : TgF) (r : Int) : List (Nat × Orc) := [(8, orcTrue), (9, orcTagK TG), (11, orcNumber r), (12, orcBytes)]
theorem lE_ok (r : Int) : ∀ x ∈ lE TGc r, OneOK Try.prog x.1 x.2 := by
  intro x hx
  simp only [lE, List.mem_cons, List.not_mem_nil, or_false] at hx
  rcases hx with rfl | rfl | rfl | rfl
  · exact first_one
  · exact sumK_one
  · exact number_one r
  · exact bytes_one
end Go.Proofs.Ytiemgibnmanhbaa
