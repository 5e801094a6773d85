/-
  No cell of these rows narrows 'for every input' (looked for: loops, veiled, ifaces, maps, wideKeys, modest, calm, conditions, laid).
  DERIVED. THE GIVEN ROWS OF THIS SEAT. 5 by the template 'for every input the law returns true; each argument reads behind the call as it read before'; 0 by the template 'total and deterministic' (their statements: YtkdclndbnmhbfaaTotals.lean).
  GIVEN WITH THE SEED: the statements are not yours to turn. If you find one false, say at which input.
  Laid BY PROGRAM, IN A SANDBOX (cutbox-rows.mjs): the forced cells as the released guide's own fill.sh prints them over the translation c4555e8716fb3602… (all of the seat's roots in one cut). By AI agents, Wed Nov 11 2026. No macro, syntax, notation, axiom, sorry.
-/
import Derived.Test.YtkdclndbnmhbfaaChecked
import GoSem.Claim
import GoSem.ClaimJoined
import GoSem.ClaimMapViews
import Derived.JoinedTies
import Derived.KernelRfl
namespace Go.Proofs.Ytkdclndbnmhbfaa
/- THE CELL 'sum', in the pinned program and in every row, IS THE sha256 OF THE DUMP (.gsa) THAT YtkdclndbnmhbfaaProg.lean LOADS. Nothing in Lean hashes anything: it is a label: what it is worth is what the hold of that sum in a sandbox is worth. -/
noncomputable def Try.pinned : Pinned := { name := "ytkdclndbnmhbfaa", sum := "c4555e8716fb36025bf7da7136e7c6e7fd5bbf7f5db310d82444e87203b037e7", checked := Try.checked }
namespace Rows
def none {H : Type} : Left H := { results := [], args := [] }

/-- 'courierlaw5.ChachaSays': WHATEVER THE INPUT: true; the input reads as it did. -/
def chachaSaysSpec : ChangeSpec := { name := "chachaSays", fn := fun _ => fun
  | [d1, d2, d3, d4] => { results := [.lit (.bool true)], args := [d1, d2, d3, d4] }
  | _ => none }
def chachaSaysRow : OpenClaim := { program := "ytkdclndbnmhbfaa", sum := "c4555e8716fb36025bf7da7136e7c6e7fd5bbf7f5db310d82444e87203b037e7", func := "courier/courierlaw5.ChachaSays", spec := "chachaSays", apart := false }
def ChachaSaysSaid : Prop := chachaSaysRow.holds Try.pinned (OpenSpec.ofChange chachaSaysSpec)

/-- ITS FALSE NEIGHBOUR: 'it returns false'. Refute it at one input. -/
def chachaSaysWrong : ChangeSpec := { name := "chachaSays", fn := fun _ => fun
  | [d1, d2, d3, d4] => { results := [.lit (.bool false)], args := [d1, d2, d3, d4] }
  | _ => none }
def ChachaSaysWrongFalsely : Prop := chachaSaysRow.holds Try.pinned (OpenSpec.ofChange chachaSaysWrong)

/-- 'courierlaw5.ChachaTwice': WHATEVER THE INPUT: true; the input reads as it did. -/
def chachaTwiceSpec : ChangeSpec := { name := "chachaTwice", fn := fun _ => fun
  | [d1, d2, d3, d4, d5] => { results := [.lit (.bool true)], args := [d1, d2, d3, d4, d5] }
  | _ => none }
def chachaTwiceRow : OpenClaim := { program := "ytkdclndbnmhbfaa", sum := "c4555e8716fb36025bf7da7136e7c6e7fd5bbf7f5db310d82444e87203b037e7", func := "courier/courierlaw5.ChachaTwice", spec := "chachaTwice", apart := false }
def ChachaTwiceSaid : Prop := chachaTwiceRow.holds Try.pinned (OpenSpec.ofChange chachaTwiceSpec)

/-- ITS FALSE NEIGHBOUR: 'it returns false'. Refute it at one input. -/
def chachaTwiceWrong : ChangeSpec := { name := "chachaTwice", fn := fun _ => fun
  | [d1, d2, d3, d4, d5] => { results := [.lit (.bool false)], args := [d1, d2, d3, d4, d5] }
  | _ => none }
def ChachaTwiceWrongFalsely : Prop := chachaTwiceRow.holds Try.pinned (OpenSpec.ofChange chachaTwiceWrong)

/-- 'courierlaw5.ChachaVector': WHATEVER THE INPUT: true; the input reads as it did. -/
def chachaVectorSpec : ChangeSpec := { name := "chachaVector", fn := fun _ => fun
  | [d] => { results := [.lit (.bool true)], args := [d] }
  | _ => none }
def chachaVectorRow : OpenClaim := { program := "ytkdclndbnmhbfaa", sum := "c4555e8716fb36025bf7da7136e7c6e7fd5bbf7f5db310d82444e87203b037e7", func := "courier/courierlaw5.ChachaVector", spec := "chachaVector", apart := false }
def ChachaVectorSaid : Prop := chachaVectorRow.holds Try.pinned (OpenSpec.ofChange chachaVectorSpec)

/-- ITS FALSE NEIGHBOUR: 'it returns false'. Refute it at one input. -/
def chachaVectorWrong : ChangeSpec := { name := "chachaVector", fn := fun _ => fun
  | [d] => { results := [.lit (.bool false)], args := [d] }
  | _ => none }
def ChachaVectorWrongFalsely : Prop := chachaVectorRow.holds Try.pinned (OpenSpec.ofChange chachaVectorWrong)

/-- 'courierlaw5.ChachaWraps': WHATEVER THE INPUT: true; the input reads as it did. -/
def chachaWrapsSpec : ChangeSpec := { name := "chachaWraps", fn := fun _ => fun
  | [d1, d2, d3] => { results := [.lit (.bool true)], args := [d1, d2, d3] }
  | _ => none }
def chachaWrapsRow : OpenClaim := { program := "ytkdclndbnmhbfaa", sum := "c4555e8716fb36025bf7da7136e7c6e7fd5bbf7f5db310d82444e87203b037e7", func := "courier/courierlaw5.ChachaWraps", spec := "chachaWraps", apart := false }
def ChachaWrapsSaid : Prop := chachaWrapsRow.holds Try.pinned (OpenSpec.ofChange chachaWrapsSpec)

/-- ITS FALSE NEIGHBOUR: 'it returns false'. Refute it at one input. -/
def chachaWrapsWrong : ChangeSpec := { name := "chachaWraps", fn := fun _ => fun
  | [d1, d2, d3] => { results := [.lit (.bool false)], args := [d1, d2, d3] }
  | _ => none }
def ChachaWrapsWrongFalsely : Prop := chachaWrapsRow.holds Try.pinned (OpenSpec.ofChange chachaWrapsWrong)

/-- 'courierlaw5.ChachaApart': WHATEVER THE INPUT: true; the input reads as it did. -/
def chachaApartSpec : ChangeSpec := { name := "chachaApart", fn := fun _ => fun
  | [d1, d2, d3, d4, d5, d6] => { results := [.lit (.bool true)], args := [d1, d2, d3, d4, d5, d6] }
  | _ => none }
def chachaApartRow : OpenClaim := { program := "ytkdclndbnmhbfaa", sum := "c4555e8716fb36025bf7da7136e7c6e7fd5bbf7f5db310d82444e87203b037e7", func := "courier/courierlaw5.ChachaApart", spec := "chachaApart", apart := false }
def ChachaApartSaid : Prop := chachaApartRow.holds Try.pinned (OpenSpec.ofChange chachaApartSpec)

/-- ITS FALSE NEIGHBOUR: 'it returns false'. Refute it at one input. -/
def chachaApartWrong : ChangeSpec := { name := "chachaApart", fn := fun _ => fun
  | [d1, d2, d3, d4, d5, d6] => { results := [.lit (.bool false)], args := [d1, d2, d3, d4, d5, d6] }
  | _ => none }
def ChachaApartWrongFalsely : Prop := chachaApartRow.holds Try.pinned (OpenSpec.ofChange chachaApartWrong)

/- THE SECOND FORM. 'bulk': how many values and letters a reading holds, each counted each time it is reached (what is shared counts as often as it is met; a slice's spare places count too). A statement '..UptoSaid' is the law's where the arguments, and the package variables that the reading takes, are together of bulk at most 1048576: NARROWER than '..Said'. Prove '..Said' where nothing that the law and all that it calls make is longer than what came in: it says more and counts as full. Else prove '..UptoSaid'. A law counts once. -/
mutual
def uptoBulk {H : Type} : DataW H → Nat
  | .lit (.string bytes) => bytes.length + 1
  | .lit _ => 1
  | .nil => 1
  | .ptr d => uptoBulk d + 1
  | .slice elems spare => uptoBulkAll elems + uptoBulkAll spare + 1
  | .agg parts => uptoBulkAll parts + 1
  | .iface _ d => uptoBulk d + 1
  | .map entries => uptoBulkEntries entries + 1
  | .held _ => 1
def uptoBulkAll {H : Type} : List (DataW H) → Nat
  | [] => 0
  | d :: r => uptoBulk d + uptoBulkAll r
def uptoBulkEntries {H : Type} : List (Lit × DataW H) → Nat
  | [] => 0
  | x :: r => uptoBulkEntry x + uptoBulkEntries r
def uptoBulkEntry {H : Type} : Lit × DataW H → Nat
  | (.string bytes, d) => bytes.length + uptoBulk d + 1
  | (_, d) => uptoBulk d + 1
 end
def uptoSmall : (H : Type) → List (DataW H) → Bool := fun _ ds => decide (uptoBulkAll ds ≤ 1048576)
def OpenSpec.upto (s : _root_.Go.ChangeSpec) : _root_.Go.OpenSpec := { _root_.Go.OpenSpec.ofChange s with cond := some uptoSmall }

/-- 'courierlaw5.ChachaSays', WHERE WHAT IT READS IS OF BULK AT MOST 1048576: true; the input reads as it did. -/
def chachaSaysUptoRow : OpenClaim := { program := "ytkdclndbnmhbfaa", sum := "c4555e8716fb36025bf7da7136e7c6e7fd5bbf7f5db310d82444e87203b037e7", func := "courier/courierlaw5.ChachaSays", spec := "chachaSays", apart := false, narrowed := true }
def ChachaSaysUptoSaid : Prop := chachaSaysUptoRow.holds Try.pinned (OpenSpec.upto chachaSaysSpec)

/-- 'courierlaw5.ChachaTwice', WHERE WHAT IT READS IS OF BULK AT MOST 1048576: true; the input reads as it did. -/
def chachaTwiceUptoRow : OpenClaim := { program := "ytkdclndbnmhbfaa", sum := "c4555e8716fb36025bf7da7136e7c6e7fd5bbf7f5db310d82444e87203b037e7", func := "courier/courierlaw5.ChachaTwice", spec := "chachaTwice", apart := false, narrowed := true }
def ChachaTwiceUptoSaid : Prop := chachaTwiceUptoRow.holds Try.pinned (OpenSpec.upto chachaTwiceSpec)

/-- 'courierlaw5.ChachaVector', WHERE WHAT IT READS IS OF BULK AT MOST 1048576: true; the input reads as it did. -/
def chachaVectorUptoRow : OpenClaim := { program := "ytkdclndbnmhbfaa", sum := "c4555e8716fb36025bf7da7136e7c6e7fd5bbf7f5db310d82444e87203b037e7", func := "courier/courierlaw5.ChachaVector", spec := "chachaVector", apart := false, narrowed := true }
def ChachaVectorUptoSaid : Prop := chachaVectorUptoRow.holds Try.pinned (OpenSpec.upto chachaVectorSpec)

/-- 'courierlaw5.ChachaWraps', WHERE WHAT IT READS IS OF BULK AT MOST 1048576: true; the input reads as it did. -/
def chachaWrapsUptoRow : OpenClaim := { program := "ytkdclndbnmhbfaa", sum := "c4555e8716fb36025bf7da7136e7c6e7fd5bbf7f5db310d82444e87203b037e7", func := "courier/courierlaw5.ChachaWraps", spec := "chachaWraps", apart := false, narrowed := true }
def ChachaWrapsUptoSaid : Prop := chachaWrapsUptoRow.holds Try.pinned (OpenSpec.upto chachaWrapsSpec)

/-- 'courierlaw5.ChachaApart', WHERE WHAT IT READS IS OF BULK AT MOST 1048576: true; the input reads as it did. -/
def chachaApartUptoRow : OpenClaim := { program := "ytkdclndbnmhbfaa", sum := "c4555e8716fb36025bf7da7136e7c6e7fd5bbf7f5db310d82444e87203b037e7", func := "courier/courierlaw5.ChachaApart", spec := "chachaApart", apart := false, narrowed := true }
def ChachaApartUptoSaid : Prop := chachaApartUptoRow.holds Try.pinned (OpenSpec.upto chachaApartSpec)

end Rows
end Go.Proofs.Ytkdclndbnmhbfaa
