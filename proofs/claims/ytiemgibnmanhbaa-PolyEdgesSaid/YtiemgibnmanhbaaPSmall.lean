/-
  Number, SameBytes, Bytes by their contracts. Conditions: none beyond the slices' own cells.
-/
import Derived.Test.YtiemgibnmanhbaaPolB
import Derived.WalkLawsBesides
import Derived.WalkSpells
import Derived.BigQuiet
import Derived.Deep.QuietTactic
import Derived.Deep.LoopGhost
import Derived.StillTailTactics
import Derived.Lib.Hide
namespace Go.Proofs.Ytiemgibnmanhbaa
open Go Go.RowKit

theorem tmod_cases (n b : Int) (hb : 1 ≤ b) : (n.tmod b < 0 → n.tmod b + b = n % b ∧ -b < n.tmod b) ∧ (0 ≤ n.tmod b → n.tmod b = n % b) := by
  have h1 := Int.mul_tdiv_add_tmod n b
  have h2 : n % b = n.tmod b % b := by
    conv => lhs; rw [← h1]
    rw [Int.mul_add_emod_self_left]
  have h3 := Int.tmod_lt_of_pos n (show 0 < b by omega)
  have h4 : -b < n.tmod b := by
    have := Int.tmod_lt_of_pos (-n) (show 0 < b by omega)
    rw [Int.neg_tmod] at this
    omega
  constructor
  · intro h
    refine ⟨?_, h4⟩
    rw [h2, ← Int.add_emod_right, Int.emod_eq_of_lt (by omega) (by omega)]
  · intro h
    rw [h2, Int.emod_eq_of_lt h h3]

theorem number_any (n b : Int) (w : World) (hb : 1 ≤ b) (hb2 : b ≤ 1000000) :
    Calls Try.prog 11 #[.int .i64 n, .int .i64 b] w fun e w' => e = .returned (.int .i64 (n % b)) ∧ w = w' := by
  have hb0 : (b == 0) = false := by simp; omega
  have hc := tmod_cases n b hb
  by_cases h : n.tmod b < 0
  · obtain ⟨h3, h4⟩ := hc.1 h
    have h5 : 0 ≤ n.tmod b + b := by omega
    have H3 := Lib.hid h3
    clear h3 hc
    go_enter Try.func11, Try.ntmps11
    go_wp2
    go_ret
    exact ⟨by rw [H3.out]; rfl, rfl⟩
  · have h3 := hc.2 (by omega)
    have H3 := Lib.hid h3
    clear h3 hc
    go_enter Try.func11, Try.ntmps11
    go_wp2
    go_ret
    exact ⟨by rw [H3.out]; rfl, rfl⟩

/-- What is known of a slice of bytes: its cells. -/
def BytesAt (w : World) (a : Option Addr) (n : Nat) (f : Nat → Int) : Prop :=
  n = 0 ∨ ∃ b off, a = some ⟨b, off, none⟩ ∧ ∀ i, i < n → w.cell? ⟨b, off + i, none⟩ = some (.int .u8 (f i))

/-- Equal at every place? -/
def sameB (n : Nat) (f g : Nat → Int) : Bool := (List.range n).all fun i => f i == g i

set_option maxHeartbeats 400000 in
theorem same_len (a b : Option Addr) (n m ca cb : Nat) (w : World) (h : n ≠ m) :
    Calls Try.prog 13 #[.slice a n ca, .slice b m cb] w fun e w' => e = .returned (.bool false) ∧ w = w' := by
  have h1 : ((n : Int) == (m : Int)) = false := by simp; omega
  have h2 : ((n : Int) != (m : Int)) = true := by simp; omega
  go_enter Try.func13, Try.ntmps13
  go_wp2
  go_ret
  exact ⟨rfl, rfl⟩

theorem sameB_true {n : Nat} {f g : Nat → Int} (h : ∀ i, i < n → f i = g i) : sameB n f g = true := by
  unfold sameB
  rw [List.all_eq_true]
  intro i hi
  simpa using h i (List.mem_range.1 hi)
theorem sameB_false {n : Nat} {f g : Nat → Int} {i : Nat} (hi : i < n) (h : f i ≠ g i) : sameB n f g = false := by
  unfold sameB
  rw [List.all_eq_false]
  exact ⟨i, List.mem_range.2 hi, by simpa using h⟩

set_option maxHeartbeats 800000 in
theorem same_any (a b : Option Addr) (n ca cb : Nat) (f g : Nat → Int) (w : World) (hn : n ≤ 4611686018427387904) (hf : BytesAt w a n f) (hg : BytesAt w b n g) :
    Calls Try.prog 13 #[.slice a n ca, .slice b n cb] w fun e w' => e = .returned (.bool (sameB n f g)) ∧ ∃ q, w' = w.drewN q := by
  rcases hf with hf | ⟨ba, oa, rfl, hf⟩
  · subst hf
    go_enter Try.func13, Try.ntmps13
    go_wp2
    go_loopw [5] (fun i wr => i = .int .i64 0 ∧ wr = w) (fun _ _ => 0)
    case atStart => exact ⟨rfl, rfl⟩
    case round =>
      obtain ⟨rfl, rfl⟩ := hrel
      go_wp2
      go_ret
      exact ⟨rfl, 0, rfl⟩
  rcases hg with hg | ⟨bb, ob, rfl, hg⟩
  · subst hg
    go_enter Try.func13, Try.ntmps13
    go_wp2
    go_loopw [5] (fun i wr => i = .int .i64 0 ∧ wr = w) (fun _ _ => 0)
    case atStart => exact ⟨rfl, rfl⟩
    case round =>
      obtain ⟨rfl, rfl⟩ := hrel
      go_wp2
      go_ret
      exact ⟨rfl, 0, rfl⟩
  have Hf := Lib.hid hf
  have Hg := Lib.hid hg
  clear hf hg
  go_enter Try.func13, Try.ntmps13
  go_wp2
  go_loopw [5, 6] (fun i _ wr => ∃ k : Nat, k ≤ n ∧ i = .int .i64 k ∧ (∀ j, j < k → f j = g j) ∧ ∃ q, wr = w.drewN q) (fun i _ _ => n - (intOf i).toNat)
  case atStart => exact ⟨0, Nat.zero_le _, rfl, fun j hj => by omega, 0, rfl⟩
  case round =>
    obtain ⟨k, hk, rfl, hp, q, rfl⟩ := hrel
    have Hp := Lib.hid hp
    clear hp
    by_cases hlt : k < n
    · have h1 := Hf.out k hlt
      have h2 := Hg.out k hlt
      by_cases he : f k = g k
      · have he' : (f k == g k) = true := by simpa using he
        have HE := Lib.hid he
        clear he
        go_wp2
        go_quiet (fail)
        go_wp2
        go_roundw
        case rel => exact ⟨k + 1, by omega, by go_num, fun j hj => by
          by_cases hjk : j = k
          · rw [hjk]; exact HE.out
          · exact Hp.out j (by omega), _, rfl⟩
        case measure => simp [intOf]; omega
      · have he' : (f k == g k) = false := by simpa using he
        have HE := Lib.hid he
        clear he
        go_wp2
        go_quiet (fail)
        go_wp2
        go_ret
        exact ⟨by rw [sameB_false hlt HE.out]; rfl, _, rfl⟩
    · have hkn : k = n := by omega
      subst hkn
      go_wp2
      go_ret
      exact ⟨by rw [sameB_true Hp.out]; rfl, q, rfl⟩
end Go.Proofs.Ytiemgibnmanhbaa
