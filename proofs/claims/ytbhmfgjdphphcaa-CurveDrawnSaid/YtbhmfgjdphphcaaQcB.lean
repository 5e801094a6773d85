/-
  The laws' oracles: Number, drawn keys, keys told by digits. Conditions: none.
-/
import Derived.Test.YtbhmfgjdphphcaaCSmall
namespace Go.Proofs.Ytbhmfgjdphphcaa
open Go Go.SX
open Go.RowKit (Below)

/-- A number that is known. -/
def orcNumber (r : Int) : Orc := fun vs _ => match vs with
  | [.one (.sc (.int .i64 n)), .one (.sc (.int .i64 b))] => some (.val (mkInt .i64 r) [n % b = r, 1 ≤ b, b ≤ 1000000])
  | _ => none
/-- A number, open. -/
def orcNumS : Orc := fun vs _ => match vs with
  | [.one (.sc (.int .i64 n)), .one (.sc (.int .i64 b))] => some (.val (mkInt .i64 (n % b)) [1 ≤ b, b ≤ 1000000])
  | _ => none
theorem number_one (r : Int) : OneOK Try.prog 15 (orcNumber r) := by
  refine ⟨body_ok _ _ (by kernel_rfl), ?_⟩
  intro vs g res h hps W η E w hW hvs hg
  clear hvs
  unfold orcNumber at h
  split at h
  · rename_i n b
    simp only [Option.some.injEq] at h
    subst h
    have h0 : n % b = r := hps _ (List.mem_cons_self ..)
    have h1 : 1 ≤ b := hps _ (List.mem_cons_of_mem _ (List.mem_cons_self ..))
    have h2 : b ≤ 1000000 := hps _ (List.mem_cons_of_mem _ (List.mem_cons_of_mem _ (List.mem_cons_self ..)))
    refine ⟨fun _ => trivial, (number_any n b w h1 h2).mono fun e w' ⟨he, hw⟩ => ⟨?_, ?_⟩⟩
    · rw [he, h0]; rfl
    · rw [← hw]; exact Below.refl _ w
  · cases h
theorem numS_one : OneOK Try.prog 15 orcNumS := by
  refine ⟨body_ok _ _ (by kernel_rfl), ?_⟩
  intro vs g res h hps W η E w hW hvs hg
  clear hvs
  unfold orcNumS at h
  split at h
  · rename_i n b
    simp only [Option.some.injEq] at h
    subst h
    have h1 : 1 ≤ b := hps _ (List.mem_cons_self ..)
    have h2 : b ≤ 1000000 := hps _ (List.mem_cons_of_mem _ (List.mem_cons_self ..))
    refine ⟨fun _ => trivial, (number_any n b w h1 h2).mono fun e w' ⟨he, hw⟩ => ⟨?_, ?_⟩⟩
    · rw [he]; rfl
    · rw [← hw]; exact Below.refl _ w
  · cases h
def lZ (X : F2) (r : Int) : List (Nat × Orc) := (15, orcNumber r) :: lF8 X
def lS (X : F2) : List (Nat × Orc) := (15, orcNumS) :: lF8 X
theorem lZ_ok (r : Int) : ∀ x ∈ lZ XC r, OneOK Try.prog x.1 x.2 := by
  intro x hx
  rcases List.mem_cons.1 hx with rfl | hx
  · exact number_one r
  · exact lF8_ok x hx
theorem lS_ok : ∀ x ∈ lS XC, OneOK Try.prog x.1 x.2 := by
  intro x hx
  rcases List.mem_cons.1 hx with rfl | hx
  · exact numS_one
  · exact lF8_ok x hx
theorem arr_int_in (k : IntKind) (L : List Int) (k' : IntKind) (n : Int) (w : World) : ∀ x ∈ [ints k L, mkInt k' n], x.In w fun _ => False := plain_all (by rw [List.all_cons, List.all_cons, ints_plain]; rfl) w
theorem int_in (k' : IntKind) (n : Int) (w : World) : ∀ x ∈ [mkInt k' n], x.In w fun _ => False := plain_all rfl w
end Go.Proofs.Ytbhmfgjdphphcaa
