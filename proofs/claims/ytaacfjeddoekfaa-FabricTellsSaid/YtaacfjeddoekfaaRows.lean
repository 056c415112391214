/-
  No cell of these rows narrows 'for every input' (looked for: loops, veiled, ifaces, maps, wideKeys, modest, calm, conditions, laid).
  DERIVED. THE GIVEN ROWS OF THIS SEAT. 8 by the template 'for every input the law returns true; each argument reads behind the call as it read before'; 0 by the template 'total and deterministic' (their statements: YtaacfjeddoekfaaTotals.lean).
  GIVEN WITH THE SEED: the statements are not yours to turn. If you find one false, say at which input.
  Laid BY PROGRAM, IN A SANDBOX (cutbox-rows.mjs): the forced cells as the released guide's own fill.sh prints them over the translation f2af51dd87300464… (all of the seat's roots in one cut). By AI agents, Wed Nov 11 2026. No macro, syntax, notation, axiom, sorry.
-/
import Derived.Test.YtaacfjeddoekfaaChecked
import GoSem.Claim
import GoSem.ClaimJoined
import GoSem.ClaimMapViews
import Derived.JoinedTies
import Derived.KernelRfl
namespace Go.Proofs.Ytaacfjeddoekfaa
/- THE CELL 'sum', in the pinned program and in every row, IS THE sha256 OF THE DUMP (.gsa) THAT YtaacfjeddoekfaaProg.lean LOADS. Nothing in Lean hashes anything: it is a label: what it is worth is what the hold of that sum in a sandbox is worth. -/
noncomputable def Try.pinned : Pinned := { name := "ytaacfjeddoekfaa", sum := "f2af51dd873004647a743f1bfd622adf3f799c5cce4be02a112d14c92302baa6", checked := Try.checked }
namespace Rows
def none {H : Type} : Left H := { results := [], args := [] }

/-- 'tapestrylaw11.KnitRuns': WHATEVER THE INPUT: true; the input reads as it did. -/
def knitRunsSpec : ChangeSpec := { name := "knitRuns", fn := fun _ => fun
  | [d1, d2] => { results := [.lit (.bool true)], args := [d1, d2] }
  | _ => none }
def knitRunsRow : OpenClaim := { program := "ytaacfjeddoekfaa", sum := "f2af51dd873004647a743f1bfd622adf3f799c5cce4be02a112d14c92302baa6", func := "tapestry/tapestrylaw11.KnitRuns", spec := "knitRuns", apart := false }
def KnitRunsSaid : Prop := knitRunsRow.holds Try.pinned (OpenSpec.ofChange knitRunsSpec)

/-- ITS FALSE NEIGHBOUR: 'it returns false'. Refute it at one input. -/
def knitRunsWrong : ChangeSpec := { name := "knitRuns", fn := fun _ => fun
  | [d1, d2] => { results := [.lit (.bool false)], args := [d1, d2] }
  | _ => none }
def KnitRunsWrongFalsely : Prop := knitRunsRow.holds Try.pinned (OpenSpec.ofChange knitRunsWrong)

/-- 'tapestrylaw11.KnitKeeps': WHATEVER THE INPUT: true; the input reads as it did. -/
def knitKeepsSpec : ChangeSpec := { name := "knitKeeps", fn := fun _ => fun
  | [d1, d2] => { results := [.lit (.bool true)], args := [d1, d2] }
  | _ => none }
def knitKeepsRow : OpenClaim := { program := "ytaacfjeddoekfaa", sum := "f2af51dd873004647a743f1bfd622adf3f799c5cce4be02a112d14c92302baa6", func := "tapestry/tapestrylaw11.KnitKeeps", spec := "knitKeeps", apart := false }
def KnitKeepsSaid : Prop := knitKeepsRow.holds Try.pinned (OpenSpec.ofChange knitKeepsSpec)

/-- ITS FALSE NEIGHBOUR: 'it returns false'. Refute it at one input. -/
def knitKeepsWrong : ChangeSpec := { name := "knitKeeps", fn := fun _ => fun
  | [d1, d2] => { results := [.lit (.bool false)], args := [d1, d2] }
  | _ => none }
def KnitKeepsWrongFalsely : Prop := knitKeepsRow.holds Try.pinned (OpenSpec.ofChange knitKeepsWrong)

/-- 'tapestrylaw11.KnitTurned': WHATEVER THE INPUT: true; the input reads as it did. -/
def knitTurnedSpec : ChangeSpec := { name := "knitTurned", fn := fun _ => fun
  | [d1, d2] => { results := [.lit (.bool true)], args := [d1, d2] }
  | _ => none }
def knitTurnedRow : OpenClaim := { program := "ytaacfjeddoekfaa", sum := "f2af51dd873004647a743f1bfd622adf3f799c5cce4be02a112d14c92302baa6", func := "tapestry/tapestrylaw11.KnitTurned", spec := "knitTurned", apart := false }
def KnitTurnedSaid : Prop := knitTurnedRow.holds Try.pinned (OpenSpec.ofChange knitTurnedSpec)

/-- ITS FALSE NEIGHBOUR: 'it returns false'. Refute it at one input. -/
def knitTurnedWrong : ChangeSpec := { name := "knitTurned", fn := fun _ => fun
  | [d1, d2] => { results := [.lit (.bool false)], args := [d1, d2] }
  | _ => none }
def KnitTurnedWrongFalsely : Prop := knitTurnedRow.holds Try.pinned (OpenSpec.ofChange knitTurnedWrong)

/-- 'tapestrylaw11.KnitSkips': WHATEVER THE INPUT: true; the input reads as it did. -/
def knitSkipsSpec : ChangeSpec := { name := "knitSkips", fn := fun _ => fun
  | [d1, d2] => { results := [.lit (.bool true)], args := [d1, d2] }
  | _ => none }
def knitSkipsRow : OpenClaim := { program := "ytaacfjeddoekfaa", sum := "f2af51dd873004647a743f1bfd622adf3f799c5cce4be02a112d14c92302baa6", func := "tapestry/tapestrylaw11.KnitSkips", spec := "knitSkips", apart := false }
def KnitSkipsSaid : Prop := knitSkipsRow.holds Try.pinned (OpenSpec.ofChange knitSkipsSpec)

/-- ITS FALSE NEIGHBOUR: 'it returns false'. Refute it at one input. -/
def knitSkipsWrong : ChangeSpec := { name := "knitSkips", fn := fun _ => fun
  | [d1, d2] => { results := [.lit (.bool false)], args := [d1, d2] }
  | _ => none }
def KnitSkipsWrongFalsely : Prop := knitSkipsRow.holds Try.pinned (OpenSpec.ofChange knitSkipsWrong)

/-- 'tapestrylaw12.FabricCounts': WHATEVER THE INPUT: true; the input reads as it did. -/
def fabricCountsSpec : ChangeSpec := { name := "fabricCounts", fn := fun _ => fun
  | [d1, d2, d3] => { results := [.lit (.bool true)], args := [d1, d2, d3] }
  | _ => none }
def fabricCountsRow : OpenClaim := { program := "ytaacfjeddoekfaa", sum := "f2af51dd873004647a743f1bfd622adf3f799c5cce4be02a112d14c92302baa6", func := "tapestry/tapestrylaw12.FabricCounts", spec := "fabricCounts", unfollowed := true, recurses := true, apart := false }
def FabricCountsSaid : Prop := fabricCountsRow.holds Try.pinned (OpenSpec.ofChange fabricCountsSpec)

/-- ITS FALSE NEIGHBOUR: 'it returns false'. Refute it at one input. -/
def fabricCountsWrong : ChangeSpec := { name := "fabricCounts", fn := fun _ => fun
  | [d1, d2, d3] => { results := [.lit (.bool false)], args := [d1, d2, d3] }
  | _ => none }
def FabricCountsWrongFalsely : Prop := fabricCountsRow.holds Try.pinned (OpenSpec.ofChange fabricCountsWrong)

/-- 'tapestrylaw12.FabricTidy': WHATEVER THE INPUT: true; the input reads as it did. -/
def fabricTidySpec : ChangeSpec := { name := "fabricTidy", fn := fun _ => fun
  | [d1, d2] => { results := [.lit (.bool true)], args := [d1, d2] }
  | _ => none }
def fabricTidyRow : OpenClaim := { program := "ytaacfjeddoekfaa", sum := "f2af51dd873004647a743f1bfd622adf3f799c5cce4be02a112d14c92302baa6", func := "tapestry/tapestrylaw12.FabricTidy", spec := "fabricTidy", unfollowed := true, recurses := true, apart := false }
def FabricTidySaid : Prop := fabricTidyRow.holds Try.pinned (OpenSpec.ofChange fabricTidySpec)

/-- ITS FALSE NEIGHBOUR: 'it returns false'. Refute it at one input. -/
def fabricTidyWrong : ChangeSpec := { name := "fabricTidy", fn := fun _ => fun
  | [d1, d2] => { results := [.lit (.bool false)], args := [d1, d2] }
  | _ => none }
def FabricTidyWrongFalsely : Prop := fabricTidyRow.holds Try.pinned (OpenSpec.ofChange fabricTidyWrong)

/-- 'tapestrylaw12.FabricSwaps': WHATEVER THE INPUT: true; the input reads as it did. -/
def fabricSwapsSpec : ChangeSpec := { name := "fabricSwaps", fn := fun _ => fun
  | [d1, d2, d3] => { results := [.lit (.bool true)], args := [d1, d2, d3] }
  | _ => none }
def fabricSwapsRow : OpenClaim := { program := "ytaacfjeddoekfaa", sum := "f2af51dd873004647a743f1bfd622adf3f799c5cce4be02a112d14c92302baa6", func := "tapestry/tapestrylaw12.FabricSwaps", spec := "fabricSwaps", unfollowed := true, recurses := true, apart := false }
def FabricSwapsSaid : Prop := fabricSwapsRow.holds Try.pinned (OpenSpec.ofChange fabricSwapsSpec)

/-- ITS FALSE NEIGHBOUR: 'it returns false'. Refute it at one input. -/
def fabricSwapsWrong : ChangeSpec := { name := "fabricSwaps", fn := fun _ => fun
  | [d1, d2, d3] => { results := [.lit (.bool false)], args := [d1, d2, d3] }
  | _ => none }
def FabricSwapsWrongFalsely : Prop := fabricSwapsRow.holds Try.pinned (OpenSpec.ofChange fabricSwapsWrong)

/-- 'tapestrylaw12.FabricTells': WHATEVER THE INPUT: true; the input reads as it did. -/
def fabricTellsSpec : ChangeSpec := { name := "fabricTells", fn := fun _ => fun
  | [d1, d2, d3, d4, d5] => { results := [.lit (.bool true)], args := [d1, d2, d3, d4, d5] }
  | _ => none }
def fabricTellsRow : OpenClaim := { program := "ytaacfjeddoekfaa", sum := "f2af51dd873004647a743f1bfd622adf3f799c5cce4be02a112d14c92302baa6", func := "tapestry/tapestrylaw12.FabricTells", spec := "fabricTells", unfollowed := true, recurses := true, apart := false }
def FabricTellsSaid : Prop := fabricTellsRow.holds Try.pinned (OpenSpec.ofChange fabricTellsSpec)

/-- ITS FALSE NEIGHBOUR: 'it returns false'. Refute it at one input. -/
def fabricTellsWrong : ChangeSpec := { name := "fabricTells", fn := fun _ => fun
  | [d1, d2, d3, d4, d5] => { results := [.lit (.bool false)], args := [d1, d2, d3, d4, d5] }
  | _ => none }
def FabricTellsWrongFalsely : Prop := fabricTellsRow.holds Try.pinned (OpenSpec.ofChange fabricTellsWrong)

/- THE SECOND FORM. 'bulk': how many values and letters a reading holds, each counted each time it is reached (what is shared counts as often as it is met; a slice's spare places count too). A statement '..UptoSaid' is the law's where the arguments, and the package variables that the reading takes, are together of bulk at most 1048576: NARROWER than '..Said'. Prove '..Said' where nothing that the law and all that it calls make is longer than what came in: it says more and counts as full. Else prove '..UptoSaid'. A law counts once. -/
mutual
def uptoBulk {H : Type} : DataW H → Nat
  | .lit (.string bytes) => bytes.length + 1
  | .lit _ => 1
  | .nil => 1
  | .ptr d => uptoBulk d + 1
  | .slice elems spare => uptoBulkAll elems + uptoBulkAll spare + 1
  | .agg parts => uptoBulkAll parts + 1
  | .iface _ d => uptoBulk d + 1
  | .map entries => uptoBulkEntries entries + 1
  | .held _ => 1
def uptoBulkAll {H : Type} : List (DataW H) → Nat
  | [] => 0
  | d :: r => uptoBulk d + uptoBulkAll r
def uptoBulkEntries {H : Type} : List (Lit × DataW H) → Nat
  | [] => 0
  | x :: r => uptoBulkEntry x + uptoBulkEntries r
def uptoBulkEntry {H : Type} : Lit × DataW H → Nat
  | (.string bytes, d) => bytes.length + uptoBulk d + 1
  | (_, d) => uptoBulk d + 1
 end
def uptoSmall : (H : Type) → List (DataW H) → Bool := fun _ ds => decide (uptoBulkAll ds ≤ 1048576)
def OpenSpec.upto (s : _root_.Go.ChangeSpec) : _root_.Go.OpenSpec := { _root_.Go.OpenSpec.ofChange s with cond := some uptoSmall }

/-- 'tapestrylaw11.KnitRuns', WHERE WHAT IT READS IS OF BULK AT MOST 1048576: true; the input reads as it did. -/
def knitRunsUptoRow : OpenClaim := { program := "ytaacfjeddoekfaa", sum := "f2af51dd873004647a743f1bfd622adf3f799c5cce4be02a112d14c92302baa6", func := "tapestry/tapestrylaw11.KnitRuns", spec := "knitRuns", apart := false, narrowed := true }
def KnitRunsUptoSaid : Prop := knitRunsUptoRow.holds Try.pinned (OpenSpec.upto knitRunsSpec)

/-- 'tapestrylaw11.KnitKeeps', WHERE WHAT IT READS IS OF BULK AT MOST 1048576: true; the input reads as it did. -/
def knitKeepsUptoRow : OpenClaim := { program := "ytaacfjeddoekfaa", sum := "f2af51dd873004647a743f1bfd622adf3f799c5cce4be02a112d14c92302baa6", func := "tapestry/tapestrylaw11.KnitKeeps", spec := "knitKeeps", apart := false, narrowed := true }
def KnitKeepsUptoSaid : Prop := knitKeepsUptoRow.holds Try.pinned (OpenSpec.upto knitKeepsSpec)

/-- 'tapestrylaw11.KnitTurned', WHERE WHAT IT READS IS OF BULK AT MOST 1048576: true; the input reads as it did. -/
def knitTurnedUptoRow : OpenClaim := { program := "ytaacfjeddoekfaa", sum := "f2af51dd873004647a743f1bfd622adf3f799c5cce4be02a112d14c92302baa6", func := "tapestry/tapestrylaw11.KnitTurned", spec := "knitTurned", apart := false, narrowed := true }
def KnitTurnedUptoSaid : Prop := knitTurnedUptoRow.holds Try.pinned (OpenSpec.upto knitTurnedSpec)

/-- 'tapestrylaw11.KnitSkips', WHERE WHAT IT READS IS OF BULK AT MOST 1048576: true; the input reads as it did. -/
def knitSkipsUptoRow : OpenClaim := { program := "ytaacfjeddoekfaa", sum := "f2af51dd873004647a743f1bfd622adf3f799c5cce4be02a112d14c92302baa6", func := "tapestry/tapestrylaw11.KnitSkips", spec := "knitSkips", apart := false, narrowed := true }
def KnitSkipsUptoSaid : Prop := knitSkipsUptoRow.holds Try.pinned (OpenSpec.upto knitSkipsSpec)

/-- 'tapestrylaw12.FabricCounts', WHERE WHAT IT READS IS OF BULK AT MOST 1048576: true; the input reads as it did. -/
def fabricCountsUptoRow : OpenClaim := { program := "ytaacfjeddoekfaa", sum := "f2af51dd873004647a743f1bfd622adf3f799c5cce4be02a112d14c92302baa6", func := "tapestry/tapestrylaw12.FabricCounts", spec := "fabricCounts", unfollowed := true, recurses := true, apart := false, narrowed := true }
def FabricCountsUptoSaid : Prop := fabricCountsUptoRow.holds Try.pinned (OpenSpec.upto fabricCountsSpec)

/-- 'tapestrylaw12.FabricTidy', WHERE WHAT IT READS IS OF BULK AT MOST 1048576: true; the input reads as it did. -/
def fabricTidyUptoRow : OpenClaim := { program := "ytaacfjeddoekfaa", sum := "f2af51dd873004647a743f1bfd622adf3f799c5cce4be02a112d14c92302baa6", func := "tapestry/tapestrylaw12.FabricTidy", spec := "fabricTidy", unfollowed := true, recurses := true, apart := false, narrowed := true }
def FabricTidyUptoSaid : Prop := fabricTidyUptoRow.holds Try.pinned (OpenSpec.upto fabricTidySpec)

/-- 'tapestrylaw12.FabricSwaps', WHERE WHAT IT READS IS OF BULK AT MOST 1048576: true; the input reads as it did. -/
def fabricSwapsUptoRow : OpenClaim := { program := "ytaacfjeddoekfaa", sum := "f2af51dd873004647a743f1bfd622adf3f799c5cce4be02a112d14c92302baa6", func := "tapestry/tapestrylaw12.FabricSwaps", spec := "fabricSwaps", unfollowed := true, recurses := true, apart := false, narrowed := true }
def FabricSwapsUptoSaid : Prop := fabricSwapsUptoRow.holds Try.pinned (OpenSpec.upto fabricSwapsSpec)

/-- 'tapestrylaw12.FabricTells', WHERE WHAT IT READS IS OF BULK AT MOST 1048576: true; the input reads as it did. -/
def fabricTellsUptoRow : OpenClaim := { program := "ytaacfjeddoekfaa", sum := "f2af51dd873004647a743f1bfd622adf3f799c5cce4be02a112d14c92302baa6", func := "tapestry/tapestrylaw12.FabricTells", spec := "fabricTells", unfollowed := true, recurses := true, apart := false, narrowed := true }
def FabricTellsUptoSaid : Prop := fabricTellsUptoRow.holds Try.pinned (OpenSpec.upto fabricTellsSpec)

end Rows
end Go.Proofs.Ytaacfjeddoekfaa
