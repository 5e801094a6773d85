/-
  No cell of these rows narrows 'for every input' (looked for: loops, veiled, ifaces, maps, wideKeys, modest, calm, conditions, laid).
  DERIVED. THE GIVEN ROWS OF THIS SEAT. 7 by the template 'for every input the law returns true; each argument reads behind the call as it read before'; 0 by the template 'total and deterministic' (their statements: YtbhmfgjdphphcaaTotals.lean).
  GIVEN WITH THE SEED: the statements are not yours to turn. If you find one false, say at which input.
  Laid BY PROGRAM, IN A SANDBOX (cutbox-rows.mjs): the forced cells as the released guide's own fill.sh prints them over the translation 0bfa3fbde00ab908… (all of the seat's roots in one cut). By AI agents, Wed Nov 11 2026. No macro, syntax, notation, axiom, sorry.
-/
import Derived.Test.YtbhmfgjdphphcaaChecked
import GoSem.Claim
import GoSem.ClaimJoined
import GoSem.ClaimMapViews
import Derived.JoinedTies
import Derived.KernelRfl
namespace Go.Proofs.Ytbhmfgjdphphcaa
/- THE CELL 'sum', in the pinned program and in every row, IS THE sha256 OF THE DUMP (.gsa) THAT YtbhmfgjdphphcaaProg.lean LOADS. Nothing in Lean hashes anything: it is a label: what it is worth is what the hold of that sum in a sandbox is worth. -/
noncomputable def Try.pinned : Pinned := { name := "ytbhmfgjdphphcaa", sum := "0bfa3fbde00ab9084d2a5e440e37a573000d605c52157eff8807232d64ae3784", checked := Try.checked }
namespace Rows
def none {H : Type} : Left H := { results := [], args := [] }

/-- 'courierlaw8.CurveSays': WHATEVER THE INPUT: true; the input reads as it did. -/
def curveSaysSpec : ChangeSpec := { name := "curveSays", fn := fun _ => fun
  | [d1, d2] => { results := [.lit (.bool true)], args := [d1, d2] }
  | _ => none }
def curveSaysRow : OpenClaim := { program := "ytbhmfgjdphphcaa", sum := "0bfa3fbde00ab9084d2a5e440e37a573000d605c52157eff8807232d64ae3784", func := "courier/courierlaw8.CurveSays", spec := "curveSays", apart := false }
def CurveSaysSaid : Prop := curveSaysRow.holds Try.pinned (OpenSpec.ofChange curveSaysSpec)

/-- ITS FALSE NEIGHBOUR: 'it returns false'. Refute it at one input. -/
def curveSaysWrong : ChangeSpec := { name := "curveSays", fn := fun _ => fun
  | [d1, d2] => { results := [.lit (.bool false)], args := [d1, d2] }
  | _ => none }
def CurveSaysWrongFalsely : Prop := curveSaysRow.holds Try.pinned (OpenSpec.ofChange curveSaysWrong)

/-- 'courierlaw8.CurveShared': WHATEVER THE INPUT: true; the input reads as it did. -/
def curveSharedSpec : ChangeSpec := { name := "curveShared", fn := fun _ => fun
  | [d1, d2] => { results := [.lit (.bool true)], args := [d1, d2] }
  | _ => none }
def curveSharedRow : OpenClaim := { program := "ytbhmfgjdphphcaa", sum := "0bfa3fbde00ab9084d2a5e440e37a573000d605c52157eff8807232d64ae3784", func := "courier/courierlaw8.CurveShared", spec := "curveShared", apart := false }
def CurveSharedSaid : Prop := curveSharedRow.holds Try.pinned (OpenSpec.ofChange curveSharedSpec)

/-- ITS FALSE NEIGHBOUR: 'it returns false'. Refute it at one input. -/
def curveSharedWrong : ChangeSpec := { name := "curveShared", fn := fun _ => fun
  | [d1, d2] => { results := [.lit (.bool false)], args := [d1, d2] }
  | _ => none }
def CurveSharedWrongFalsely : Prop := curveSharedRow.holds Try.pinned (OpenSpec.ofChange curveSharedWrong)

/-- 'courierlaw8.CurveBits': WHATEVER THE INPUT: true; the input reads as it did. -/
def curveBitsSpec : ChangeSpec := { name := "curveBits", fn := fun _ => fun
  | [d1, d2, d3] => { results := [.lit (.bool true)], args := [d1, d2, d3] }
  | _ => none }
def curveBitsRow : OpenClaim := { program := "ytbhmfgjdphphcaa", sum := "0bfa3fbde00ab9084d2a5e440e37a573000d605c52157eff8807232d64ae3784", func := "courier/courierlaw8.CurveBits", spec := "curveBits", apart := false }
def CurveBitsSaid : Prop := curveBitsRow.holds Try.pinned (OpenSpec.ofChange curveBitsSpec)

/-- ITS FALSE NEIGHBOUR: 'it returns false'. Refute it at one input. -/
def curveBitsWrong : ChangeSpec := { name := "curveBits", fn := fun _ => fun
  | [d1, d2, d3] => { results := [.lit (.bool false)], args := [d1, d2, d3] }
  | _ => none }
def CurveBitsWrongFalsely : Prop := curveBitsRow.holds Try.pinned (OpenSpec.ofChange curveBitsWrong)

/-- 'courierlaw8.CurveVectors': WHATEVER THE INPUT: true; the input reads as it did. -/
def curveVectorsSpec : ChangeSpec := { name := "curveVectors", fn := fun _ => fun
  | [d] => { results := [.lit (.bool true)], args := [d] }
  | _ => none }
def curveVectorsRow : OpenClaim := { program := "ytbhmfgjdphphcaa", sum := "0bfa3fbde00ab9084d2a5e440e37a573000d605c52157eff8807232d64ae3784", func := "courier/courierlaw8.CurveVectors", spec := "curveVectors", apart := false }
def CurveVectorsSaid : Prop := curveVectorsRow.holds Try.pinned (OpenSpec.ofChange curveVectorsSpec)

/-- ITS FALSE NEIGHBOUR: 'it returns false'. Refute it at one input. -/
def curveVectorsWrong : ChangeSpec := { name := "curveVectors", fn := fun _ => fun
  | [d] => { results := [.lit (.bool false)], args := [d] }
  | _ => none }
def CurveVectorsWrongFalsely : Prop := curveVectorsRow.holds Try.pinned (OpenSpec.ofChange curveVectorsWrong)

/-- 'courierlaw8.CurveZeros': WHATEVER THE INPUT: true; the input reads as it did. -/
def curveZerosSpec : ChangeSpec := { name := "curveZeros", fn := fun _ => fun
  | [d1, d2] => { results := [.lit (.bool true)], args := [d1, d2] }
  | _ => none }
def curveZerosRow : OpenClaim := { program := "ytbhmfgjdphphcaa", sum := "0bfa3fbde00ab9084d2a5e440e37a573000d605c52157eff8807232d64ae3784", func := "courier/courierlaw8.CurveZeros", spec := "curveZeros", apart := false }
def CurveZerosSaid : Prop := curveZerosRow.holds Try.pinned (OpenSpec.ofChange curveZerosSpec)

/-- ITS FALSE NEIGHBOUR: 'it returns false'. Refute it at one input. -/
def curveZerosWrong : ChangeSpec := { name := "curveZeros", fn := fun _ => fun
  | [d1, d2] => { results := [.lit (.bool false)], args := [d1, d2] }
  | _ => none }
def CurveZerosWrongFalsely : Prop := curveZerosRow.holds Try.pinned (OpenSpec.ofChange curveZerosWrong)

/-- 'courierlaw8.CurveThree': WHATEVER THE INPUT: true; the input reads as it did. -/
def curveThreeSpec : ChangeSpec := { name := "curveThree", fn := fun _ => fun
  | [d] => { results := [.lit (.bool true)], args := [d] }
  | _ => none }
def curveThreeRow : OpenClaim := { program := "ytbhmfgjdphphcaa", sum := "0bfa3fbde00ab9084d2a5e440e37a573000d605c52157eff8807232d64ae3784", func := "courier/courierlaw8.CurveThree", spec := "curveThree", apart := false }
def CurveThreeSaid : Prop := curveThreeRow.holds Try.pinned (OpenSpec.ofChange curveThreeSpec)

/-- ITS FALSE NEIGHBOUR: 'it returns false'. Refute it at one input. -/
def curveThreeWrong : ChangeSpec := { name := "curveThree", fn := fun _ => fun
  | [d] => { results := [.lit (.bool false)], args := [d] }
  | _ => none }
def CurveThreeWrongFalsely : Prop := curveThreeRow.holds Try.pinned (OpenSpec.ofChange curveThreeWrong)

/-- 'courierlaw8.CurveDrawn': WHATEVER THE INPUT: true; the input reads as it did. -/
def curveDrawnSpec : ChangeSpec := { name := "curveDrawn", fn := fun _ => fun
  | [d1, d2] => { results := [.lit (.bool true)], args := [d1, d2] }
  | _ => none }
def curveDrawnRow : OpenClaim := { program := "ytbhmfgjdphphcaa", sum := "0bfa3fbde00ab9084d2a5e440e37a573000d605c52157eff8807232d64ae3784", func := "courier/courierlaw8.CurveDrawn", spec := "curveDrawn", apart := false }
def CurveDrawnSaid : Prop := curveDrawnRow.holds Try.pinned (OpenSpec.ofChange curveDrawnSpec)

/-- ITS FALSE NEIGHBOUR: 'it returns false'. Refute it at one input. -/
def curveDrawnWrong : ChangeSpec := { name := "curveDrawn", fn := fun _ => fun
  | [d1, d2] => { results := [.lit (.bool false)], args := [d1, d2] }
  | _ => none }
def CurveDrawnWrongFalsely : Prop := curveDrawnRow.holds Try.pinned (OpenSpec.ofChange curveDrawnWrong)

/- THE SECOND FORM. 'bulk': how many values and letters a reading holds, each counted each time it is reached (what is shared counts as often as it is met; a slice's spare places count too). A statement '..UptoSaid' is the law's where the arguments, and the package variables that the reading takes, are together of bulk at most 1048576: NARROWER than '..Said'. Prove '..Said' where nothing that the law and all that it calls make is longer than what came in: it says more and counts as full. Else prove '..UptoSaid'. A law counts once. -/
mutual
def uptoBulk {H : Type} : DataW H → Nat
  | .lit (.string bytes) => bytes.length + 1
  | .lit _ => 1
  | .nil => 1
  | .ptr d => uptoBulk d + 1
  | .slice elems spare => uptoBulkAll elems + uptoBulkAll spare + 1
  | .agg parts => uptoBulkAll parts + 1
  | .iface _ d => uptoBulk d + 1
  | .map entries => uptoBulkEntries entries + 1
  | .held _ => 1
def uptoBulkAll {H : Type} : List (DataW H) → Nat
  | [] => 0
  | d :: r => uptoBulk d + uptoBulkAll r
def uptoBulkEntries {H : Type} : List (Lit × DataW H) → Nat
  | [] => 0
  | x :: r => uptoBulkEntry x + uptoBulkEntries r
def uptoBulkEntry {H : Type} : Lit × DataW H → Nat
  | (.string bytes, d) => bytes.length + uptoBulk d + 1
  | (_, d) => uptoBulk d + 1
 end
def uptoSmall : (H : Type) → List (DataW H) → Bool := fun _ ds => decide (uptoBulkAll ds ≤ 1048576)
def OpenSpec.upto (s : _root_.Go.ChangeSpec) : _root_.Go.OpenSpec := { _root_.Go.OpenSpec.ofChange s with cond := some uptoSmall }

/-- 'courierlaw8.CurveSays', WHERE WHAT IT READS IS OF BULK AT MOST 1048576: true; the input reads as it did. -/
def curveSaysUptoRow : OpenClaim := { program := "ytbhmfgjdphphcaa", sum := "0bfa3fbde00ab9084d2a5e440e37a573000d605c52157eff8807232d64ae3784", func := "courier/courierlaw8.CurveSays", spec := "curveSays", apart := false, narrowed := true }
def CurveSaysUptoSaid : Prop := curveSaysUptoRow.holds Try.pinned (OpenSpec.upto curveSaysSpec)

/-- 'courierlaw8.CurveShared', WHERE WHAT IT READS IS OF BULK AT MOST 1048576: true; the input reads as it did. -/
def curveSharedUptoRow : OpenClaim := { program := "ytbhmfgjdphphcaa", sum := "0bfa3fbde00ab9084d2a5e440e37a573000d605c52157eff8807232d64ae3784", func := "courier/courierlaw8.CurveShared", spec := "curveShared", apart := false, narrowed := true }
def CurveSharedUptoSaid : Prop := curveSharedUptoRow.holds Try.pinned (OpenSpec.upto curveSharedSpec)

/-- 'courierlaw8.CurveBits', WHERE WHAT IT READS IS OF BULK AT MOST 1048576: true; the input reads as it did. -/
def curveBitsUptoRow : OpenClaim := { program := "ytbhmfgjdphphcaa", sum := "0bfa3fbde00ab9084d2a5e440e37a573000d605c52157eff8807232d64ae3784", func := "courier/courierlaw8.CurveBits", spec := "curveBits", apart := false, narrowed := true }
def CurveBitsUptoSaid : Prop := curveBitsUptoRow.holds Try.pinned (OpenSpec.upto curveBitsSpec)

/-- 'courierlaw8.CurveVectors', WHERE WHAT IT READS IS OF BULK AT MOST 1048576: true; the input reads as it did. -/
def curveVectorsUptoRow : OpenClaim := { program := "ytbhmfgjdphphcaa", sum := "0bfa3fbde00ab9084d2a5e440e37a573000d605c52157eff8807232d64ae3784", func := "courier/courierlaw8.CurveVectors", spec := "curveVectors", apart := false, narrowed := true }
def CurveVectorsUptoSaid : Prop := curveVectorsUptoRow.holds Try.pinned (OpenSpec.upto curveVectorsSpec)

/-- 'courierlaw8.CurveZeros', WHERE WHAT IT READS IS OF BULK AT MOST 1048576: true; the input reads as it did. -/
def curveZerosUptoRow : OpenClaim := { program := "ytbhmfgjdphphcaa", sum := "0bfa3fbde00ab9084d2a5e440e37a573000d605c52157eff8807232d64ae3784", func := "courier/courierlaw8.CurveZeros", spec := "curveZeros", apart := false, narrowed := true }
def CurveZerosUptoSaid : Prop := curveZerosUptoRow.holds Try.pinned (OpenSpec.upto curveZerosSpec)

/-- 'courierlaw8.CurveThree', WHERE WHAT IT READS IS OF BULK AT MOST 1048576: true; the input reads as it did. -/
def curveThreeUptoRow : OpenClaim := { program := "ytbhmfgjdphphcaa", sum := "0bfa3fbde00ab9084d2a5e440e37a573000d605c52157eff8807232d64ae3784", func := "courier/courierlaw8.CurveThree", spec := "curveThree", apart := false, narrowed := true }
def CurveThreeUptoSaid : Prop := curveThreeUptoRow.holds Try.pinned (OpenSpec.upto curveThreeSpec)

/-- 'courierlaw8.CurveDrawn', WHERE WHAT IT READS IS OF BULK AT MOST 1048576: true; the input reads as it did. -/
def curveDrawnUptoRow : OpenClaim := { program := "ytbhmfgjdphphcaa", sum := "0bfa3fbde00ab9084d2a5e440e37a573000d605c52157eff8807232d64ae3784", func := "courier/courierlaw8.CurveDrawn", spec := "curveDrawn", apart := false, narrowed := true }
def CurveDrawnUptoSaid : Prop := curveDrawnUptoRow.holds Try.pinned (OpenSpec.upto curveDrawnSpec)

end Rows
end Go.Proofs.Ytbhmfgjdphphcaa
