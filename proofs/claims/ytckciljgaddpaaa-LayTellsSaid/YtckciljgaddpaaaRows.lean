/-
  No cell of these rows narrows 'for every input' (looked for: loops, veiled, ifaces, maps, wideKeys, modest, calm, conditions, laid).
  DERIVED. THE GIVEN ROWS OF THIS SEAT. 3 by the template 'for every input the law returns true; each argument reads behind the call as it read before'; 0 by the template 'total and deterministic' (their statements: YtckciljgaddpaaaTotals.lean).
  GIVEN WITH THE SEED: the statements are not yours to turn. If you find one false, say at which input.
  Laid BY PROGRAM, IN A SANDBOX (cutbox-rows.mjs): the forced cells as the released guide's own fill.sh prints them over the translation 3f03b4085eb52c51… (all of the seat's roots in one cut). By AI agents, Wed Nov 11 2026. No macro, syntax, notation, axiom, sorry.
-/
import Derived.Test.YtckciljgaddpaaaChecked
import GoSem.Claim
import GoSem.ClaimJoined
import GoSem.ClaimMapViews
import Derived.JoinedTies
import Derived.KernelRfl
namespace Go.Proofs.Ytckciljgaddpaaa
/- THE CELL 'sum', in the pinned program and in every row, IS THE sha256 OF THE DUMP (.gsa) THAT YtckciljgaddpaaaProg.lean LOADS. Nothing in Lean hashes anything: it is a label: what it is worth is what the hold of that sum in a sandbox is worth. -/
noncomputable def Try.pinned : Pinned := { name := "ytckciljgaddpaaa", sum := "3f03b4085eb52c5161f420d6d7d75ae4dee3c4a128baa09329f1295e43f0a069", checked := Try.checked }
namespace Rows
def none {H : Type} : Left H := { results := [], args := [] }

/-- 'tapestrylaw16.LayBound': WHATEVER THE INPUT: true; the input reads as it did. -/
def layBoundSpec : ChangeSpec := { name := "layBound", fn := fun _ => fun
  | [d1, d2] => { results := [.lit (.bool true)], args := [d1, d2] }
  | _ => none }
def layBoundRow : OpenClaim := { program := "ytckciljgaddpaaa", sum := "3f03b4085eb52c5161f420d6d7d75ae4dee3c4a128baa09329f1295e43f0a069", func := "tapestry/tapestrylaw16.LayBound", spec := "layBound", unfollowed := true, recurses := true, apart := false }
def LayBoundSaid : Prop := layBoundRow.holds Try.pinned (OpenSpec.ofChange layBoundSpec)

/-- ITS FALSE NEIGHBOUR: 'it returns false'. Refute it at one input. -/
def layBoundWrong : ChangeSpec := { name := "layBound", fn := fun _ => fun
  | [d1, d2] => { results := [.lit (.bool false)], args := [d1, d2] }
  | _ => none }
def LayBoundWrongFalsely : Prop := layBoundRow.holds Try.pinned (OpenSpec.ofChange layBoundWrong)

/-- 'tapestrylaw16.LayTells': WHATEVER THE INPUT: true; the input reads as it did. -/
def layTellsSpec : ChangeSpec := { name := "layTells", fn := fun _ => fun
  | [d1, d2, d3, d4] => { results := [.lit (.bool true)], args := [d1, d2, d3, d4] }
  | _ => none }
def layTellsRow : OpenClaim := { program := "ytckciljgaddpaaa", sum := "3f03b4085eb52c5161f420d6d7d75ae4dee3c4a128baa09329f1295e43f0a069", func := "tapestry/tapestrylaw16.LayTells", spec := "layTells", unfollowed := true, recurses := true, apart := false }
def LayTellsSaid : Prop := layTellsRow.holds Try.pinned (OpenSpec.ofChange layTellsSpec)

/-- ITS FALSE NEIGHBOUR: 'it returns false'. Refute it at one input. -/
def layTellsWrong : ChangeSpec := { name := "layTells", fn := fun _ => fun
  | [d1, d2, d3, d4] => { results := [.lit (.bool false)], args := [d1, d2, d3, d4] }
  | _ => none }
def LayTellsWrongFalsely : Prop := layTellsRow.holds Try.pinned (OpenSpec.ofChange layTellsWrong)

/-- 'tapestrylaw16.LayApart': WHATEVER THE INPUT: true; the input reads as it did. -/
def layApartSpec : ChangeSpec := { name := "layApart", fn := fun _ => fun
  | [d1, d2, d3, d4] => { results := [.lit (.bool true)], args := [d1, d2, d3, d4] }
  | _ => none }
def layApartRow : OpenClaim := { program := "ytckciljgaddpaaa", sum := "3f03b4085eb52c5161f420d6d7d75ae4dee3c4a128baa09329f1295e43f0a069", func := "tapestry/tapestrylaw16.LayApart", spec := "layApart", unfollowed := true, recurses := true, apart := false }
def LayApartSaid : Prop := layApartRow.holds Try.pinned (OpenSpec.ofChange layApartSpec)

/-- ITS FALSE NEIGHBOUR: 'it returns false'. Refute it at one input. -/
def layApartWrong : ChangeSpec := { name := "layApart", fn := fun _ => fun
  | [d1, d2, d3, d4] => { results := [.lit (.bool false)], args := [d1, d2, d3, d4] }
  | _ => none }
def LayApartWrongFalsely : Prop := layApartRow.holds Try.pinned (OpenSpec.ofChange layApartWrong)

/- THE SECOND FORM. 'bulk': how many values and letters a reading holds, each counted each time it is reached (what is shared counts as often as it is met; a slice's spare places count too). A statement '..UptoSaid' is the law's where the arguments, and the package variables that the reading takes, are together of bulk at most 1048576: NARROWER than '..Said'. Prove '..Said' where nothing that the law and all that it calls make is longer than what came in: it says more and counts as full. Else prove '..UptoSaid'. A law counts once. -/
mutual
def uptoBulk {H : Type} : DataW H → Nat
  | .lit (.string bytes) => bytes.length + 1
  | .lit _ => 1
  | .nil => 1
  | .ptr d => uptoBulk d + 1
  | .slice elems spare => uptoBulkAll elems + uptoBulkAll spare + 1
  | .agg parts => uptoBulkAll parts + 1
  | .iface _ d => uptoBulk d + 1
  | .map entries => uptoBulkEntries entries + 1
  | .held _ => 1
def uptoBulkAll {H : Type} : List (DataW H) → Nat
  | [] => 0
  | d :: r => uptoBulk d + uptoBulkAll r
def uptoBulkEntries {H : Type} : List (Lit × DataW H) → Nat
  | [] => 0
  | x :: r => uptoBulkEntry x + uptoBulkEntries r
def uptoBulkEntry {H : Type} : Lit × DataW H → Nat
  | (.string bytes, d) => bytes.length + uptoBulk d + 1
  | (_, d) => uptoBulk d + 1
 end
def uptoSmall : (H : Type) → List (DataW H) → Bool := fun _ ds => decide (uptoBulkAll ds ≤ 1048576)
def OpenSpec.upto (s : _root_.Go.ChangeSpec) : _root_.Go.OpenSpec := { _root_.Go.OpenSpec.ofChange s with cond := some uptoSmall }

/-- 'tapestrylaw16.LayBound', WHERE WHAT IT READS IS OF BULK AT MOST 1048576: true; the input reads as it did. -/
def layBoundUptoRow : OpenClaim := { program := "ytckciljgaddpaaa", sum := "3f03b4085eb52c5161f420d6d7d75ae4dee3c4a128baa09329f1295e43f0a069", func := "tapestry/tapestrylaw16.LayBound", spec := "layBound", unfollowed := true, recurses := true, apart := false, narrowed := true }
def LayBoundUptoSaid : Prop := layBoundUptoRow.holds Try.pinned (OpenSpec.upto layBoundSpec)

/-- 'tapestrylaw16.LayTells', WHERE WHAT IT READS IS OF BULK AT MOST 1048576: true; the input reads as it did. -/
def layTellsUptoRow : OpenClaim := { program := "ytckciljgaddpaaa", sum := "3f03b4085eb52c5161f420d6d7d75ae4dee3c4a128baa09329f1295e43f0a069", func := "tapestry/tapestrylaw16.LayTells", spec := "layTells", unfollowed := true, recurses := true, apart := false, narrowed := true }
def LayTellsUptoSaid : Prop := layTellsUptoRow.holds Try.pinned (OpenSpec.upto layTellsSpec)

/-- 'tapestrylaw16.LayApart', WHERE WHAT IT READS IS OF BULK AT MOST 1048576: true; the input reads as it did. -/
def layApartUptoRow : OpenClaim := { program := "ytckciljgaddpaaa", sum := "3f03b4085eb52c5161f420d6d7d75ae4dee3c4a128baa09329f1295e43f0a069", func := "tapestry/tapestrylaw16.LayApart", spec := "layApart", unfollowed := true, recurses := true, apart := false, narrowed := true }
def LayApartUptoSaid : Prop := layApartUptoRow.holds Try.pinned (OpenSpec.upto layApartSpec)

end Rows
end Go.Proofs.Ytckciljgaddpaaa
