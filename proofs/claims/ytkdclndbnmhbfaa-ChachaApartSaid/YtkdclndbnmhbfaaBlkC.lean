/-
  Both ChaCha20 blocks by their contracts; small functions of the laws. Conditions: none.
-/
import Derived.Test.YtkdclndbnmhbfaaBlk
namespace Go.Proofs.Ytkdclndbnmhbfaa
open Go Go.SX
open Go.RowKit (Below)

theorem blockL_length (key : Nat → Int) (c : Int) (nonce : Nat → Int) : (blockL key c nonce).length = 64 := by simp [blockL, outL]

/-- The program's block. -/
theorem block_any (key : Nat → Int) (c : Int) (nonce : Nat → Int) (w : World) :
    Calls Try.prog 9 #[.agg ((upTo 32 key).map (Value.int .u8)).toArray, .int .u32 c, .agg ((upTo 12 nonce).map (Value.int .u8)).toArray] w fun e w' =>
      e = .returned (.agg ((blockL key c nonce).map (Value.int .u8)).toArray) ∧ Below w.heap.size w w' := by
  have := calls_of_run tyc orc semc names mixed (block_runs key c nonce) Holds.nil w (plain_all (by rw [List.all_cons, List.all_cons, List.all_cons, ints_plain, ints_plain]; rfl) w) (ints_plain _ _)
  simpa only [List.map_cons, List.map_nil, ints_den, mkInt_den] using this
/-- The document's block. -/
theorem ref_any (key : Nat → Int) (c : Int) (nonce : Nat → Int) (w : World) :
    Calls Try.prog 10 #[.agg ((upTo 32 key).map (Value.int .u8)).toArray, .int .u32 c, .agg ((upTo 12 nonce).map (Value.int .u8)).toArray] w fun e w' =>
      e = .returned (.agg ((blockL key c nonce).map (Value.int .u8)).toArray) ∧ Below w.heap.size w w' := by
  have := calls_of_run tyc orc semc names mixed (ref_runs key c nonce) Holds.nil w (plain_all (by rw [List.all_cons, List.all_cons, List.all_cons, ints_plain, ints_plain]; rfl) w) (ints_plain _ _)
  simpa only [List.map_cons, List.map_nil, ints_den, mkInt_den, blockR_eq] using this
end Go.Proofs.Ytkdclndbnmhbfaa
