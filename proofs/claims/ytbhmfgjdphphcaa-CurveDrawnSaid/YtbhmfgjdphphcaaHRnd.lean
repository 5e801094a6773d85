/-
  The hash's one block: its run. Conditions: none.
-/
import Derived.Test.YtbhmfgjdphphcaaQcH
namespace Go.Proofs.Ytbhmfgjdphphcaa
open Go Go.SX
open Go.RowKit (Below)

noncomputable def lH : List (Nat × Orc) := [(36, orcBytes), (39, auto cx0 (fun i => Try.prog.funcs[i]?) 100 39)]
theorem lH_ok : ∀ x ∈ lH, OneOK Try.prog x.1 x.2 := by
  intro x hx
  simp only [lH, List.mem_cons, List.not_mem_nil, or_false] at hx
  rcases hx with rfl | rfl
  · exact bytes_one
  · exact auto_one 100 39 (by kernel_rfl)
def vwF (a : Option Addr) (n ca : Nat) (f : Nat → Int) : SV := .one (.sc (.vw a n ca .u8 f))
def u32 (n : Int) : Int := IntKind.u32.wrap n
def reg32 (t n : Nat) (w : Nat → Int) : Reg := ⟨.cells ((upTo n w).map (SC.int .u32)), t⟩
def xo (a b : Int) : Int := bits .xor .u32 a b
def an (a b : Int) : Int := bits .and .u32 a b
def shr (x : Int) (n : Nat) : Int := x / (2 ^ (min n (IntKind.bits .u32)) : Nat)
def kT : List Int := [1116352408, 1899447441, 3049323471, 3921009573, 961987163, 1508970993, 2453635748, 2870763221, 3624381080, 310598401, 607225278, 1426881987, 1925078388, 2162078206, 2614888103, 3248222580, 3835390401, 4022224774, 264347078, 604807628, 770255983, 1249150122, 1555081692, 1996064986, 2554220882, 2821834349, 2952996808, 3210313671, 3336571891, 3584528711, 113926993, 338241895, 666307205, 773529912, 1294757372, 1396182291, 1695183700, 1986661051, 2177026350, 2456956037, 2730485921, 2820302411, 3259730800, 3345764771, 3516065817, 3600352804, 4094571909, 275423344, 430227734, 506948616, 659060556, 883997877, 958139571, 1322822218, 1537002063, 1747873779, 1955562222, 2024104815, 2227730452, 2361852424, 2428436474, 2756734187, 3204031479, 3329325298]

/-! The schedule. -/
def sB (h w : Nat → Int) (i : Int) : St :=
  { fid := 38, n := 218, fr := mkFr [(2, pt 0), (4, pt 1), (5, pt 2), (6, pt 3), (8, mkInt .i64 i)],
    regs := [reg32 62 8 h, ⟨.cells (List.replicate 8 (SC.int .u32 0)), 62⟩, ⟨.cells (kT.map (SC.int .u32)), 64⟩, reg32 64 64 w], conds := [] }
noncomputable def XB : Code := bodyOf Try.prog 38 8
def slB : List Nat := [2, 4, 5, 6, 8]
def gW (w : Nat → Int) (m : Nat) (c : Int) : Int := (upTo 64 w).getD (0 + (wl ((m : Int) - c)).toNat) 0
def g3 (m : Nat) (c : Int) : List Prop := [0 + (wl ((m : Int) - c)).toNat < 64, 0 ≤ wl ((m : Int) - c), wl ((m : Int) - c) < (64 : Nat)]
def g0 (m : Nat) : List Prop := [0 + ((m : Int)).toNat < 64, 0 ≤ (m : Int), (m : Int) < (64 : Nat)]
def sg0 (x : Int) : Int := xo (xo (rotV x 7) (rotV x 18)) (shr x 3)
def sg1 (x : Int) : Int := xo (xo (rotV x 17) (rotV x 19)) (shr x 10)
def nV (w : Nat → Int) (m : Nat) : Int := u32 (u32 (u32 (gW w m 16 + sg0 (gW w m 15)) + gW w m 7) + sg1 (gW w m 2))
def nW (w : Nat → Int) (m : Nat) (i : Nat) : Int := if i = 0 + ((m : Int)).toNat then nV w m else (upTo 64 w).getD i 0
def pB (m : Nat) : List Prop := g0 m ++ (g3 m 7 ++ (g3 m 16 ++ (g3 m 2 ++ (g3 m 2 ++ (g3 m 2 ++ (g3 m 15 ++ (g3 m 15 ++ (g3 m 15 ++ [decide ((m : Int) < 64) = true]))))))))
theorem sched_round (h w : Nat → Int) (m : Nat) : stepOf (ctxL Try.prog lH (yesNo [60] []) (open_ [65, 70, 76, 82, 87, 93, 100, 106, 111]) noLoop) Try.prog 300 0 XB slB (sB h w m) = some (.normal, (sB h (nW w m) (wl ((m : Int) + 1))).with (pB m)) := by kernel_rfl
theorem sched_end (h w : Nat → Int) : stepOf (ctxL Try.prog lH (yesNo [] []) (open_ []) noLoop) Try.prog 300 0 XB slB (sB h w 64) = some (.exit 2, (sB h w 64).with []) := by kernel_rfl
def WW (w : Nat → Int) : Nat → Nat → Int
  | 0 => w
  | k + 1 => nW (WW w k) (16 + k)

/-! The rounds. -/
def sC (h w v : Nat → Int) (i : Int) : St :=
  { fid := 38, n := 218, fr := mkFr [(2, pt 0), (4, pt 1), (5, pt 2), (6, pt 3), (11, pt 4), (12, mkInt .i64 i)],
    regs := [reg32 62 8 h, ⟨.cells (List.replicate 8 (SC.int .u32 0)), 62⟩, ⟨.cells (kT.map (SC.int .u32)), 64⟩, reg32 64 64 w, reg32 62 8 v], conds := [] }
noncomputable def XC_ : Code := bodyOf Try.prog 38 15
def slC : List Nat := [2, 4, 5, 6, 11, 12]
def at64 (l : List Int) (m : Nat) : Int := l.getD (0 + ((m : Int)).toNat) 0
def e1V (x : Int) : Int := xo (xo (rotV x 6) (rotV x 11)) (rotV x 25)
def e0V (x : Int) : Int := xo (xo (rotV x 2) (rotV x 13)) (rotV x 22)
def chV (x y z : Int) : Int := xo (an x y) (an (bits .xor .u32 (IntKind.max .u32) x) z)
def mjV (x y z : Int) : Int := xo (xo (an x y) (an x z)) (an y z)
def t1V (w v : Nat → Int) (m : Nat) : Int := u32 (u32 (u32 (u32 (v 7 + e1V (v 4)) + chV (v 4) (v 5) (v 6)) + at64 kT m) + at64 (upTo 64 w) m)
def stV (w v : Nat → Int) (m : Nat) : Nat → Int := at_ [u32 (u32 (t1V w v m + e0V (v 0)) + mjV (v 0) (v 1) (v 2)), v 0, v 1, v 2, u32 (v 3 + t1V w v m), v 4, v 5, v 6]
def pC (m : Nat) : List Prop := g0 m ++ (g0 m ++ [decide ((m : Int) < 64) = true])
theorem comp_round (h w v : Nat → Int) (m : Nat) : stepOf (ctxL Try.prog lH (yesNo [114] []) (open_ [147, 151]) noLoop) Try.prog 300 0 XC_ slC (sC h w v m) = some (.normal, (sC h w (stV w v m) (wl ((m : Int) + 1))).with (pC m)) := by kernel_rfl
theorem comp_end (h w v : Nat → Int) : stepOf (ctxL Try.prog lH (yesNo [] []) (open_ []) noLoop) Try.prog 300 0 XC_ slC (sC h w v 64) = some (.exit 4, (sC h w v 64).with []) := by kernel_rfl
def VV (w v : Nat → Int) : Nat → Nat → Int
  | 0 => v
  | k + 1 => stV w (VV w v k) k
end Go.Proofs.Ytbhmfgjdphphcaa
