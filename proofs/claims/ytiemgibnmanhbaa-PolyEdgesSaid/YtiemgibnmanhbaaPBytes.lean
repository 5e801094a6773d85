/-
  courierref.Bytes, both XORs by their contracts. Conditions: a length of at most a million.
-/
import Derived.Test.YtiemgibnmanhbaaPSmall
namespace Go.Proofs.Ytiemgibnmanhbaa
open Go Go.RowKit
open Go.SX (upTo)

theorem info5 : (Try.prog.info? 5).map (fun i => (i.zero, i.size, i.bytes)) = some (some (.int .u8 0), 1, 1) := by kernel_rfl

def u8s (l : List Int) : List Value := l.map (Value.int .u8)
theorem upTo_succ (n : Nat) (f : Nat → Int) : upTo (n + 1) f = upTo n f ++ [f n] := by simp [upTo, List.range_succ]
theorem u8s_succ (n : Nat) (f : Nat → Int) : u8s (upTo (n + 1) f) = u8s (upTo n f) ++ [.int .u8 (f n)] := by simp [u8s, upTo_succ]
theorem u8s_length (n : Nat) (f : Nat → Int) : (u8s (upTo n f)).length = n := by simp [u8s, upTo]
theorem u8s_get (n : Nat) (f : Nat → Int) (i : Nat) (h : i < n) : (u8s (upTo n f))[i]? = some (.int .u8 (f i)) := by simp [u8s, upTo, h]

/-- A row of bytes that the call owns reads as bytes. -/
theorem bytesAt_of_owns {w : World} {base g cap n : Nat} {f : Nat → Int} (h : w.ownsRow base 5 1 (.slice (some ⟨g, 0, none⟩) n cap) n (u8s (upTo n f))) : BytesAt w (some ⟨g, 0, none⟩) n f :=
  .inr ⟨g, 0, rfl, fun i hi => by
    rw [Nat.zero_add, h.cellAt i (by omega), u8s_get n f i hi]⟩

/-- Bytes that stood below stand there still. -/
theorem BytesAt.below {w w' : World} {B : Nat} {a : Option Addr} {n : Nat} {f : Nat → Int} (h : BytesAt w a n f) (hb : Below B w w') (ha : ∀ x, a = some x → n ≠ 0 → x.block < B) : BytesAt w' a n f := by
  rcases h with h | ⟨b, off, rfl, h⟩
  · exact .inl h
  · by_cases hn : n = 0
    · exact .inl hn
    · refine .inr ⟨b, off, rfl, fun i hi => ?_⟩
      rw [hb.cell (p := ⟨b, off + i, none⟩) (ha ⟨b, off, none⟩ rfl hn : b < B)]
      exact h i hi

theorem BytesAt.lt {w : World} {a : Option Addr} {n : Nat} {f : Nat → Int} (h : BytesAt w a n f) : ∀ x, a = some x → n ≠ 0 → x.block < w.heap.size := by
  rintro x rfl hn
  rcases h with h | ⟨b, off, he, h⟩
  · exact absurd h hn
  · obtain rfl := Option.some.inj he
    exact World.block_lt_of_cell? w ⟨b, off + 0, none⟩ (h 0 (by omega))

set_option maxHeartbeats 800000 in
theorem bytes_any (a : Option Addr) (n ca : Nat) (f : Nat → Int) (w : World) (hn : n ≤ 1000000) (hf : BytesAt w a n f) :
    Calls Try.prog 12 #[.slice a n ca] w fun e w' => e = .returned (.slice (some ⟨w.heap.size, 0, none⟩) n n) ∧ w'.ownsRow w.heap.size 5 1 (.slice (some ⟨w.heap.size, 0, none⟩) n n) n (u8s (upTo n f)) ∧ Below w.heap.size w w' := by
  obtain ⟨i0, hi, hz0, hz1, hz2⟩ := info_parts info5
  have Hlt := Lib.hid hf.lt
  have Hf := Lib.hid hf
  clear hf
  go_enter Try.func12, Try.ntmps12
  go_wp2_with (at_make; refine wpList_make_own _ rfl _ _ 24 rfl w.heap.size 5 i0 (.int .u8 0) 1 Try.underlying24 hi hz0 hz1 .i64 .i64 _ n rfl rfl (by omega) (by rw [hz2]; omega) (by unfold maxLen; omega) (Nat.le_refl _) ?_; intro w1 hown hg)
  have hb1 : Below w.heap.size w w1 := (Below.refl _ _).grown hg (Nat.le_refl _) (fun k hk => by cases hk)
  clear hg
  go_loopw [3, 4] (fun o i wr => ∃ k : Nat, k ≤ n ∧ i = .int .i64 k ∧ o = .slice (some ⟨w.heap.size, 0, none⟩) k n ∧ wr.ownsRow w.heap.size 5 1 (.slice (some ⟨w.heap.size, 0, none⟩) k n) k (u8s (upTo k f)) ∧ Below w.heap.size w wr) (fun _ i _ => n - (intOf i).toNat)
  case atStart => exact ⟨0, Nat.zero_le _, rfl, rfl, hown, hb1⟩
  case round =>
    obtain ⟨k, hk, rfl, rfl, hown, hb⟩ := hrel
    by_cases hlt : k < n
    · obtain ⟨b, off, rfl, hcell⟩ : ∃ b off, a = some ⟨b, off, none⟩ ∧ wr.cell? ⟨b, off + k, none⟩ = some (.int .u8 (f k)) := by
        rcases Hf.out.below hb Hlt.out with h | ⟨b, off, rfl, h⟩
        · omega
        · exact ⟨b, off, rfl, h k hlt⟩
      go_wp2_with (at_builtin; refine wpList_append_fits _ rfl _ _ 24 rfl w.heap.size 5 i0 1 Try.underlying24 hi hz1 w.heap.size k n (u8s (upTo k f)) rfl (hown.alloc _) ⟨wr.heap.size, 0, none⟩ 1 1 [.int .u8 (f k)] rfl rfl (cell_one_new _ _ _) (by simp [Value.oneCell']) (by omega) ?_; intro w2 hown2 hg2)
      have hbw : w.heap.size ≤ wr.heap.size := hb.size
      go_wp2
      go_roundw
      case rel => exact ⟨k + 1, by omega, by go_num, rfl, by rw [u8s_succ]; exact hown2, (hb.alloc hbw _).grown hg2 (by simp; omega) (fun j hj => by simp at hj; omega)⟩
      case measure => simp [intOf]; omega
    · have hkn : k = n := by omega
      subst hkn
      go_wp2
      go_ret
      exact ⟨rfl, hown, hb⟩
end Go.Proofs.Ytiemgibnmanhbaa
