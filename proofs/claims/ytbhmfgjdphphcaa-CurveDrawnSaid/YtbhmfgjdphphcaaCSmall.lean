/-
  Number by its contract. Conditions: a bound from one to a million.
-/
import Derived.Test.YtbhmfgjdphphcaaRShared
import Derived.WalkLawsBesides
import Derived.WalkSpells
import Derived.BigQuiet
import Derived.Deep.QuietTactic
import Derived.Deep.LoopGhost
import Derived.StillTailTactics
import Derived.Lib.Hide
namespace Go.Proofs.Ytbhmfgjdphphcaa
open Go Go.RowKit

theorem tmod_cases (n b : Int) (hb : 1 ≤ b) : (n.tmod b < 0 → n.tmod b + b = n % b ∧ -b < n.tmod b) ∧ (0 ≤ n.tmod b → n.tmod b = n % b) := by
  have h1 := Int.mul_tdiv_add_tmod n b
  have h2 : n % b = n.tmod b % b := by
    conv => lhs; rw [← h1]
    rw [Int.mul_add_emod_self_left]
  have h3 := Int.tmod_lt_of_pos n (show 0 < b by omega)
  have h4 : -b < n.tmod b := by
    have := Int.tmod_lt_of_pos (-n) (show 0 < b by omega)
    rw [Int.neg_tmod] at this
    omega
  constructor
  · intro h
    refine ⟨?_, h4⟩
    rw [h2, ← Int.add_emod_right, Int.emod_eq_of_lt (by omega) (by omega)]
  · intro h
    rw [h2, Int.emod_eq_of_lt h h3]

theorem number_any (n b : Int) (w : World) (hb : 1 ≤ b) (hb2 : b ≤ 1000000) :
    Calls Try.prog 15 #[.int .i64 n, .int .i64 b] w fun e w' => e = .returned (.int .i64 (n % b)) ∧ w = w' := by
  have hb0 : (b == 0) = false := by simp; omega
  have hc := tmod_cases n b hb
  by_cases h : n.tmod b < 0
  · obtain ⟨h3, h4⟩ := hc.1 h
    have h5 : 0 ≤ n.tmod b + b := by omega
    have H3 := Lib.hid h3
    clear h3 hc
    go_enter Try.func15, Try.ntmps15
    go_wp2
    go_ret
    exact ⟨by rw [H3.out]; rfl, rfl⟩
  · have h3 := hc.2 (by omega)
    have H3 := Lib.hid h3
    clear h3 hc
    go_enter Try.func15, Try.ntmps15
    go_wp2
    go_ret
    exact ⟨by rw [H3.out]; rfl, rfl⟩
end Go.Proofs.Ytbhmfgjdphphcaa
