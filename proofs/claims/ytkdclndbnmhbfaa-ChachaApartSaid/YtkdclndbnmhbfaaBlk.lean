/-
  Both ChaCha20 blocks, of any key, counter, nonce, come to one and the same 64 bytes, told here. Conditions: none.
-/
import Derived.Test.YtkdclndbnmhbfaaSxRun
import Derived.Test.YtkdclndbnmhbfaaProg
namespace Go.Proofs.Ytkdclndbnmhbfaa
open Go Go.SX
open Go.RowKit (Below)

noncomputable def cx0 : Ctx := ctxOf Try.prog fun _ => none
noncomputable def cx : Ctx := ctxOf Try.prog (orcMore cx0 Try.prog 100 [20, 21])

theorem mixed : Try.prog.follows .mixedOrders = true := by kernel_rfl
theorem names : NamesOK Try.prog := names_ok _ (by kernel_rfl)
theorem orc0 : OrcOK Try.prog cx0 := noOrc_ok _ _ rfl
theorem ty0 : TyOK Try.prog cx0 := tyOf_ok _ _ rfl rfl
theorem tyc : TyOK Try.prog cx := tyOf_ok _ _ rfl rfl
theorem sem0 : SemOK Try.prog cx0 := noSem_ok _ _ rfl
theorem semc : SemOK Try.prog cx := noSem_ok _ _ rfl
theorem orc : OrcOK Try.prog cx := orcMore_ok ty0 orc0 sem0 names mixed rfl (by kernel_rfl)

/-! The block, as plain lists of numbers. -/

def u32 (n : Int) : Int := IntKind.u32.wrap n
def rotl (x : Int) (n : Nat) : Int := bits .or .u32 (u32 (x * (2 ^ n : Nat))) (x / (2 ^ (32 - n) : Nat))
def addAt (s : List Int) (a b : Nat) : List Int := s.set a (u32 (s.getD a 0 + s.getD b 0))
def xorAt (s : List Int) (d a n : Nat) : List Int := s.set d (rotl (bits .xor .u32 (s.getD d 0) (s.getD a 0)) n)
def quarterL (s : List Int) (a b c d : Nat) : List Int :=
  xorAt (addAt (xorAt (addAt (xorAt (addAt (xorAt (addAt s a b) d a 16) c d) b c 12) a b) d a 8) c d) b c 7
def doubleL (s : List Int) : List Int :=
  quarterL (quarterL (quarterL (quarterL (quarterL (quarterL (quarterL (quarterL s 0 4 8 12) 1 5 9 13) 2 6 10 14) 3 7 11 15) 0 5 10 15) 1 6 11 12) 2 7 8 13) 3 4 9 14
def wordL (b : Nat → Int) (i : Nat) : Int :=
  bits .or .u32 (bits .or .u32 (bits .or .u32 (u32 (b (4 * i))) (u32 (u32 (b (4 * i + 1)) * (2 ^ 8 : Nat)))) (u32 (u32 (b (4 * i + 2)) * (2 ^ 16 : Nat)))) (u32 (u32 (b (4 * i + 3)) * (2 ^ 24 : Nat)))
def startL (key : Nat → Int) (c : Int) (nonce : Nat → Int) : List Int :=
  [1634760805, 857760878, 2036477234, 1797285236] ++ (List.range 8).map (wordL key) ++ [c] ++ (List.range 3).map (wordL nonce)
def roundsL : Nat → List Int → List Int
  | 0, s => s
  | n + 1, s => roundsL n (doubleL s)
def outL (s f : List Int) : List Int := (List.range 64).map fun i => IntKind.u8.wrap (u32 (s.getD (i / 4) 0 + f.getD (i / 4) 0) / (2 ^ (8 * (i % 4)) : Nat))
def blockL (key : Nat → Int) (c : Int) (nonce : Nat → Int) : List Int := outL (roundsL 10 (startL key c nonce)) (startL key c nonce)

/-! The same with the document's turn to the right. -/
def rotr (x : Int) (n : Nat) : Int := bits .or .u32 (x / (2 ^ n : Nat)) (u32 (x * (2 ^ (32 - n) : Nat)))
def xorAtR (s : List Int) (d a n : Nat) : List Int := s.set d (rotr (bits .xor .u32 (s.getD d 0) (s.getD a 0)) n)
def quarterR (s : List Int) (a b c d : Nat) : List Int :=
  xorAtR (addAt (xorAtR (addAt (xorAtR (addAt (xorAtR (addAt s a b) d a 16) c d) b c 20) a b) d a 24) c d) b c 25
def doubleR (s : List Int) : List Int :=
  quarterR (quarterR (quarterR (quarterR (quarterR (quarterR (quarterR (quarterR s 0 4 8 12) 1 5 9 13) 2 6 10 14) 3 7 11 15) 0 5 10 15) 1 6 11 12) 2 7 8 13) 3 4 9 14
def roundsR : Nat → List Int → List Int
  | 0, s => s
  | n + 1, s => roundsR n (doubleR s)
def blockR (key : Nat → Int) (c : Int) (nonce : Nat → Int) : List Int := outL (roundsR 10 (startL key c nonce)) (startL key c nonce)

theorem bits_or_comm (k : IntKind) (x y : Int) : bits .or k x y = bits .or k y x := by
  unfold bits
  simp only
  rw [BitVec.or_comm]

theorem rotr_eq (x : Int) (n m : Nat) (h : n + m = 32) : rotr x n = rotl x m := by
  unfold rotr rotl
  rw [bits_or_comm]
  have e1 : 32 - n = m := by omega
  have e2 : 32 - m = n := by omega
  rw [e1, e2]
theorem quarterR_eq (s : List Int) (a b c d : Nat) : quarterR s a b c d = quarterL s a b c d := by
  unfold quarterR quarterL xorAtR xorAt
  simp only [rotr_eq _ 16 16 rfl, rotr_eq _ 20 12 rfl, rotr_eq _ 24 8 rfl, rotr_eq _ 25 7 rfl]
theorem doubleR_eq (s : List Int) : doubleR s = doubleL s := by
  unfold doubleR doubleL
  simp only [quarterR_eq]
theorem roundsR_eq (n : Nat) : ∀ s, roundsR n s = roundsL n s := by
  induction n with
  | zero => intro s; rfl
  | succ n ih => intro s; simp only [roundsR, roundsL, doubleR_eq, ih]
theorem blockR_eq (key : Nat → Int) (c : Int) (nonce : Nat → Int) : blockR key c nonce = blockL key c nonce := by
  unfold blockR blockL
  rw [roundsR_eq]

theorem block_runs (key : Nat → Int) (c : Int) (nonce : Nat → Int) :
    runOf cx Try.prog 1000 9 [ints .u8 (upTo 32 key), mkInt .u32 c, ints .u8 (upTo 12 nonce)] = some (ints .u8 (blockL key c nonce), []) := by kernel_rfl
theorem ref_runs (key : Nat → Int) (c : Int) (nonce : Nat → Int) :
    runOf cx Try.prog 1000 10 [ints .u8 (upTo 32 key), mkInt .u32 c, ints .u8 (upTo 12 nonce)] = some (ints .u8 (blockR key c nonce), []) := by kernel_rfl
end Go.Proofs.Ytkdclndbnmhbfaa
