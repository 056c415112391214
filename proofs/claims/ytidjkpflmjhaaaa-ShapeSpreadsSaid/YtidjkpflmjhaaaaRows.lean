/-
  No cell of these rows narrows 'for every input' (looked for: loops, veiled, ifaces, maps, wideKeys, modest, calm, conditions, laid).
  DERIVED. THE GIVEN ROWS OF THIS SEAT. 3 by the template 'for every input the law returns true; each argument reads behind the call as it read before'; 0 by the template 'total and deterministic' (their statements: YtidjkpflmjhaaaaTotals.lean).
  GIVEN WITH THE SEED: the statements are not yours to turn. If you find one false, say at which input.
  Laid BY PROGRAM, IN A SANDBOX (cutbox-rows.mjs): the forced cells as the released guide's own fill.sh prints them over the translation ce296633aede921f… (all of the seat's roots in one cut). By AI agents, Wed Nov 11 2026. No macro, syntax, notation, axiom, sorry.
-/
import Derived.Test.YtidjkpflmjhaaaaChecked
import GoSem.Claim
import GoSem.ClaimJoined
import GoSem.ClaimMapViews
import Derived.JoinedTies
import Derived.KernelRfl
namespace Go.Proofs.Ytidjkpflmjhaaaa
/- THE CELL 'sum', in the pinned program and in every row, IS THE sha256 OF THE DUMP (.gsa) THAT YtidjkpflmjhaaaaProg.lean LOADS. Nothing in Lean hashes anything: it is a label: what it is worth is what the hold of that sum in a sandbox is worth. -/
noncomputable def Try.pinned : Pinned := { name := "ytidjkpflmjhaaaa", sum := "ce296633aede921f779c080dd20828d3486a3db61ad7326cea0372ffa6f7657f", checked := Try.checked }
namespace Rows
def none {H : Type} : Left H := { results := [], args := [] }

/-- 'tapestrylaw14.ShapeBalanced': WHATEVER THE INPUT: true; the input reads as it did. -/
def shapeBalancedSpec : ChangeSpec := { name := "shapeBalanced", fn := fun _ => fun
  | [d1, d2, d3, d4, d5] => { results := [.lit (.bool true)], args := [d1, d2, d3, d4, d5] }
  | _ => none }
def shapeBalancedRow : OpenClaim := { program := "ytidjkpflmjhaaaa", sum := "ce296633aede921f779c080dd20828d3486a3db61ad7326cea0372ffa6f7657f", func := "tapestry/tapestrylaw14.ShapeBalanced", spec := "shapeBalanced", apart := false }
def ShapeBalancedSaid : Prop := shapeBalancedRow.holds Try.pinned (OpenSpec.ofChange shapeBalancedSpec)

/-- ITS FALSE NEIGHBOUR: 'it returns false'. Refute it at one input. -/
def shapeBalancedWrong : ChangeSpec := { name := "shapeBalanced", fn := fun _ => fun
  | [d1, d2, d3, d4, d5] => { results := [.lit (.bool false)], args := [d1, d2, d3, d4, d5] }
  | _ => none }
def ShapeBalancedWrongFalsely : Prop := shapeBalancedRow.holds Try.pinned (OpenSpec.ofChange shapeBalancedWrong)

/-- 'tapestrylaw14.ShapeRows': WHATEVER THE INPUT: true; the input reads as it did. -/
def shapeRowsSpec : ChangeSpec := { name := "shapeRows", fn := fun _ => fun
  | [d1, d2, d3] => { results := [.lit (.bool true)], args := [d1, d2, d3] }
  | _ => none }
def shapeRowsRow : OpenClaim := { program := "ytidjkpflmjhaaaa", sum := "ce296633aede921f779c080dd20828d3486a3db61ad7326cea0372ffa6f7657f", func := "tapestry/tapestrylaw14.ShapeRows", spec := "shapeRows", apart := false }
def ShapeRowsSaid : Prop := shapeRowsRow.holds Try.pinned (OpenSpec.ofChange shapeRowsSpec)

/-- ITS FALSE NEIGHBOUR: 'it returns false'. Refute it at one input. -/
def shapeRowsWrong : ChangeSpec := { name := "shapeRows", fn := fun _ => fun
  | [d1, d2, d3] => { results := [.lit (.bool false)], args := [d1, d2, d3] }
  | _ => none }
def ShapeRowsWrongFalsely : Prop := shapeRowsRow.holds Try.pinned (OpenSpec.ofChange shapeRowsWrong)

/-- 'tapestrylaw14.ShapeSpreads': WHATEVER THE INPUT: true; the input reads as it did. -/
def shapeSpreadsSpec : ChangeSpec := { name := "shapeSpreads", fn := fun _ => fun
  | [d1, d2, d3, d4, d5, d6] => { results := [.lit (.bool true)], args := [d1, d2, d3, d4, d5, d6] }
  | _ => none }
def shapeSpreadsRow : OpenClaim := { program := "ytidjkpflmjhaaaa", sum := "ce296633aede921f779c080dd20828d3486a3db61ad7326cea0372ffa6f7657f", func := "tapestry/tapestrylaw14.ShapeSpreads", spec := "shapeSpreads", apart := false }
def ShapeSpreadsSaid : Prop := shapeSpreadsRow.holds Try.pinned (OpenSpec.ofChange shapeSpreadsSpec)

/-- ITS FALSE NEIGHBOUR: 'it returns false'. Refute it at one input. -/
def shapeSpreadsWrong : ChangeSpec := { name := "shapeSpreads", fn := fun _ => fun
  | [d1, d2, d3, d4, d5, d6] => { results := [.lit (.bool false)], args := [d1, d2, d3, d4, d5, d6] }
  | _ => none }
def ShapeSpreadsWrongFalsely : Prop := shapeSpreadsRow.holds Try.pinned (OpenSpec.ofChange shapeSpreadsWrong)

/- THE SECOND FORM. 'bulk': how many values and letters a reading holds, each counted each time it is reached (what is shared counts as often as it is met; a slice's spare places count too). A statement '..UptoSaid' is the law's where the arguments, and the package variables that the reading takes, are together of bulk at most 1048576: NARROWER than '..Said'. Prove '..Said' where nothing that the law and all that it calls make is longer than what came in: it says more and counts as full. Else prove '..UptoSaid'. A law counts once. -/
mutual
def uptoBulk {H : Type} : DataW H → Nat
  | .lit (.string bytes) => bytes.length + 1
  | .lit _ => 1
  | .nil => 1
  | .ptr d => uptoBulk d + 1
  | .slice elems spare => uptoBulkAll elems + uptoBulkAll spare + 1
  | .agg parts => uptoBulkAll parts + 1
  | .iface _ d => uptoBulk d + 1
  | .map entries => uptoBulkEntries entries + 1
  | .held _ => 1
def uptoBulkAll {H : Type} : List (DataW H) → Nat
  | [] => 0
  | d :: r => uptoBulk d + uptoBulkAll r
def uptoBulkEntries {H : Type} : List (Lit × DataW H) → Nat
  | [] => 0
  | x :: r => uptoBulkEntry x + uptoBulkEntries r
def uptoBulkEntry {H : Type} : Lit × DataW H → Nat
  | (.string bytes, d) => bytes.length + uptoBulk d + 1
  | (_, d) => uptoBulk d + 1
 end
def uptoSmall : (H : Type) → List (DataW H) → Bool := fun _ ds => decide (uptoBulkAll ds ≤ 1048576)
def OpenSpec.upto (s : _root_.Go.ChangeSpec) : _root_.Go.OpenSpec := { _root_.Go.OpenSpec.ofChange s with cond := some uptoSmall }

/-- 'tapestrylaw14.ShapeBalanced', WHERE WHAT IT READS IS OF BULK AT MOST 1048576: true; the input reads as it did. -/
def shapeBalancedUptoRow : OpenClaim := { program := "ytidjkpflmjhaaaa", sum := "ce296633aede921f779c080dd20828d3486a3db61ad7326cea0372ffa6f7657f", func := "tapestry/tapestrylaw14.ShapeBalanced", spec := "shapeBalanced", apart := false, narrowed := true }
def ShapeBalancedUptoSaid : Prop := shapeBalancedUptoRow.holds Try.pinned (OpenSpec.upto shapeBalancedSpec)

/-- 'tapestrylaw14.ShapeRows', WHERE WHAT IT READS IS OF BULK AT MOST 1048576: true; the input reads as it did. -/
def shapeRowsUptoRow : OpenClaim := { program := "ytidjkpflmjhaaaa", sum := "ce296633aede921f779c080dd20828d3486a3db61ad7326cea0372ffa6f7657f", func := "tapestry/tapestrylaw14.ShapeRows", spec := "shapeRows", apart := false, narrowed := true }
def ShapeRowsUptoSaid : Prop := shapeRowsUptoRow.holds Try.pinned (OpenSpec.upto shapeRowsSpec)

/-- 'tapestrylaw14.ShapeSpreads', WHERE WHAT IT READS IS OF BULK AT MOST 1048576: true; the input reads as it did. -/
def shapeSpreadsUptoRow : OpenClaim := { program := "ytidjkpflmjhaaaa", sum := "ce296633aede921f779c080dd20828d3486a3db61ad7326cea0372ffa6f7657f", func := "tapestry/tapestrylaw14.ShapeSpreads", spec := "shapeSpreads", apart := false, narrowed := true }
def ShapeSpreadsUptoSaid : Prop := shapeSpreadsUptoRow.holds Try.pinned (OpenSpec.upto shapeSpreadsSpec)

end Rows
end Go.Proofs.Ytidjkpflmjhaaaa
