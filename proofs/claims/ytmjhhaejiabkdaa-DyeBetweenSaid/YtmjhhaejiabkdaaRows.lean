/-
  No cell of these rows narrows 'for every input' (looked for: loops, veiled, ifaces, maps, wideKeys, modest, calm, conditions, laid).
  DERIVED. THE GIVEN ROWS OF THIS SEAT. 4 by the template 'for every input the law returns true; each argument reads behind the call as it read before'; 0 by the template 'total and deterministic' (their statements: YtmjhhaejiabkdaaTotals.lean).
  GIVEN WITH THE SEED: the statements are not yours to turn. If you find one false, say at which input.
  Laid BY PROGRAM, IN A SANDBOX (cutbox-rows.mjs): the forced cells as the released guide's own fill.sh prints them over the translation 6c97f520f2f7f062… (all of the seat's roots in one cut). By AI agents, Wed Nov 11 2026. No macro, syntax, notation, axiom, sorry.
-/
import Derived.Test.YtmjhhaejiabkdaaChecked
import GoSem.Claim
import GoSem.ClaimJoined
import GoSem.ClaimMapViews
import Derived.JoinedTies
import Derived.KernelRfl
namespace Go.Proofs.Ytmjhhaejiabkdaa
/- THE CELL 'sum', in the pinned program and in every row, IS THE sha256 OF THE DUMP (.gsa) THAT YtmjhhaejiabkdaaProg.lean LOADS. Nothing in Lean hashes anything: it is a label: what it is worth is what the hold of that sum in a sandbox is worth. -/
noncomputable def Try.pinned : Pinned := { name := "ytmjhhaejiabkdaa", sum := "6c97f520f2f7f062c7d70cee063e87133f04d4d115fe29e639ddcd2824c890fb", checked := Try.checked }
namespace Rows
def none {H : Type} : Left H := { results := [], args := [] }

/-- 'tapestrylaw15.DyeDots': WHATEVER THE INPUT: true; the input reads as it did. -/
def dyeDotsSpec : ChangeSpec := { name := "dyeDots", fn := fun _ => fun
  | [d1, d2] => { results := [.lit (.bool true)], args := [d1, d2] }
  | _ => none }
def dyeDotsRow : OpenClaim := { program := "ytmjhhaejiabkdaa", sum := "6c97f520f2f7f062c7d70cee063e87133f04d4d115fe29e639ddcd2824c890fb", func := "tapestry/tapestrylaw15.DyeDots", spec := "dyeDots", apart := false }
def DyeDotsSaid : Prop := dyeDotsRow.holds Try.pinned (OpenSpec.ofChange dyeDotsSpec)

/-- ITS FALSE NEIGHBOUR: 'it returns false'. Refute it at one input. -/
def dyeDotsWrong : ChangeSpec := { name := "dyeDots", fn := fun _ => fun
  | [d1, d2] => { results := [.lit (.bool false)], args := [d1, d2] }
  | _ => none }
def DyeDotsWrongFalsely : Prop := dyeDotsRow.holds Try.pinned (OpenSpec.ofChange dyeDotsWrong)

/-- 'tapestrylaw15.DyeBetween': WHATEVER THE INPUT: true; the input reads as it did. -/
def dyeBetweenSpec : ChangeSpec := { name := "dyeBetween", fn := fun _ => fun
  | [d1, d2, d3] => { results := [.lit (.bool true)], args := [d1, d2, d3] }
  | _ => none }
def dyeBetweenRow : OpenClaim := { program := "ytmjhhaejiabkdaa", sum := "6c97f520f2f7f062c7d70cee063e87133f04d4d115fe29e639ddcd2824c890fb", func := "tapestry/tapestrylaw15.DyeBetween", spec := "dyeBetween", unfollowed := true, recurses := true, apart := false }
def DyeBetweenSaid : Prop := dyeBetweenRow.holds Try.pinned (OpenSpec.ofChange dyeBetweenSpec)

/-- ITS FALSE NEIGHBOUR: 'it returns false'. Refute it at one input. -/
def dyeBetweenWrong : ChangeSpec := { name := "dyeBetween", fn := fun _ => fun
  | [d1, d2, d3] => { results := [.lit (.bool false)], args := [d1, d2, d3] }
  | _ => none }
def DyeBetweenWrongFalsely : Prop := dyeBetweenRow.holds Try.pinned (OpenSpec.ofChange dyeBetweenWrong)

/-- 'tapestrylaw15.DyeMixes': WHATEVER THE INPUT: true; the input reads as it did. -/
def dyeMixesSpec : ChangeSpec := { name := "dyeMixes", fn := fun _ => fun
  | [d1, d2, d3] => { results := [.lit (.bool true)], args := [d1, d2, d3] }
  | _ => none }
def dyeMixesRow : OpenClaim := { program := "ytmjhhaejiabkdaa", sum := "6c97f520f2f7f062c7d70cee063e87133f04d4d115fe29e639ddcd2824c890fb", func := "tapestry/tapestrylaw15.DyeMixes", spec := "dyeMixes", inPlace := ["math.Float64bits"], unfollowed := true, recurses := true, apart := false }
def DyeMixesSaid : Prop := dyeMixesRow.holds Try.pinned (OpenSpec.ofChange dyeMixesSpec)

/-- ITS FALSE NEIGHBOUR: 'it returns false'. Refute it at one input. -/
def dyeMixesWrong : ChangeSpec := { name := "dyeMixes", fn := fun _ => fun
  | [d1, d2, d3] => { results := [.lit (.bool false)], args := [d1, d2, d3] }
  | _ => none }
def DyeMixesWrongFalsely : Prop := dyeMixesRow.holds Try.pinned (OpenSpec.ofChange dyeMixesWrong)

/-- 'tapestrylaw15.DyeSums': WHATEVER THE INPUT: true; the input reads as it did. -/
def dyeSumsSpec : ChangeSpec := { name := "dyeSums", fn := fun _ => fun
  | [d1, d2] => { results := [.lit (.bool true)], args := [d1, d2] }
  | _ => none }
def dyeSumsRow : OpenClaim := { program := "ytmjhhaejiabkdaa", sum := "6c97f520f2f7f062c7d70cee063e87133f04d4d115fe29e639ddcd2824c890fb", func := "tapestry/tapestrylaw15.DyeSums", spec := "dyeSums", unfollowed := true, recurses := true, apart := false }
def DyeSumsSaid : Prop := dyeSumsRow.holds Try.pinned (OpenSpec.ofChange dyeSumsSpec)

/-- ITS FALSE NEIGHBOUR: 'it returns false'. Refute it at one input. -/
def dyeSumsWrong : ChangeSpec := { name := "dyeSums", fn := fun _ => fun
  | [d1, d2] => { results := [.lit (.bool false)], args := [d1, d2] }
  | _ => none }
def DyeSumsWrongFalsely : Prop := dyeSumsRow.holds Try.pinned (OpenSpec.ofChange dyeSumsWrong)

/- THE SECOND FORM. 'bulk': how many values and letters a reading holds, each counted each time it is reached (what is shared counts as often as it is met; a slice's spare places count too). A statement '..UptoSaid' is the law's where the arguments, and the package variables that the reading takes, are together of bulk at most 1048576: NARROWER than '..Said'. Prove '..Said' where nothing that the law and all that it calls make is longer than what came in: it says more and counts as full. Else prove '..UptoSaid'. A law counts once. -/
mutual
def uptoBulk {H : Type} : DataW H → Nat
  | .lit (.string bytes) => bytes.length + 1
  | .lit _ => 1
  | .nil => 1
  | .ptr d => uptoBulk d + 1
  | .slice elems spare => uptoBulkAll elems + uptoBulkAll spare + 1
  | .agg parts => uptoBulkAll parts + 1
  | .iface _ d => uptoBulk d + 1
  | .map entries => uptoBulkEntries entries + 1
  | .held _ => 1
def uptoBulkAll {H : Type} : List (DataW H) → Nat
  | [] => 0
  | d :: r => uptoBulk d + uptoBulkAll r
def uptoBulkEntries {H : Type} : List (Lit × DataW H) → Nat
  | [] => 0
  | x :: r => uptoBulkEntry x + uptoBulkEntries r
def uptoBulkEntry {H : Type} : Lit × DataW H → Nat
  | (.string bytes, d) => bytes.length + uptoBulk d + 1
  | (_, d) => uptoBulk d + 1
 end
def uptoSmall : (H : Type) → List (DataW H) → Bool := fun _ ds => decide (uptoBulkAll ds ≤ 1048576)
def OpenSpec.upto (s : _root_.Go.ChangeSpec) : _root_.Go.OpenSpec := { _root_.Go.OpenSpec.ofChange s with cond := some uptoSmall }

/-- 'tapestrylaw15.DyeDots', WHERE WHAT IT READS IS OF BULK AT MOST 1048576: true; the input reads as it did. -/
def dyeDotsUptoRow : OpenClaim := { program := "ytmjhhaejiabkdaa", sum := "6c97f520f2f7f062c7d70cee063e87133f04d4d115fe29e639ddcd2824c890fb", func := "tapestry/tapestrylaw15.DyeDots", spec := "dyeDots", apart := false, narrowed := true }
def DyeDotsUptoSaid : Prop := dyeDotsUptoRow.holds Try.pinned (OpenSpec.upto dyeDotsSpec)

/-- 'tapestrylaw15.DyeBetween', WHERE WHAT IT READS IS OF BULK AT MOST 1048576: true; the input reads as it did. -/
def dyeBetweenUptoRow : OpenClaim := { program := "ytmjhhaejiabkdaa", sum := "6c97f520f2f7f062c7d70cee063e87133f04d4d115fe29e639ddcd2824c890fb", func := "tapestry/tapestrylaw15.DyeBetween", spec := "dyeBetween", unfollowed := true, recurses := true, apart := false, narrowed := true }
def DyeBetweenUptoSaid : Prop := dyeBetweenUptoRow.holds Try.pinned (OpenSpec.upto dyeBetweenSpec)

/-- 'tapestrylaw15.DyeMixes', WHERE WHAT IT READS IS OF BULK AT MOST 1048576: true; the input reads as it did. -/
def dyeMixesUptoRow : OpenClaim := { program := "ytmjhhaejiabkdaa", sum := "6c97f520f2f7f062c7d70cee063e87133f04d4d115fe29e639ddcd2824c890fb", func := "tapestry/tapestrylaw15.DyeMixes", spec := "dyeMixes", inPlace := ["math.Float64bits"], unfollowed := true, recurses := true, apart := false, narrowed := true }
def DyeMixesUptoSaid : Prop := dyeMixesUptoRow.holds Try.pinned (OpenSpec.upto dyeMixesSpec)

/-- 'tapestrylaw15.DyeSums', WHERE WHAT IT READS IS OF BULK AT MOST 1048576: true; the input reads as it did. -/
def dyeSumsUptoRow : OpenClaim := { program := "ytmjhhaejiabkdaa", sum := "6c97f520f2f7f062c7d70cee063e87133f04d4d115fe29e639ddcd2824c890fb", func := "tapestry/tapestrylaw15.DyeSums", spec := "dyeSums", unfollowed := true, recurses := true, apart := false, narrowed := true }
def DyeSumsUptoSaid : Prop := dyeSumsUptoRow.holds Try.pinned (OpenSpec.upto dyeSumsSpec)

end Rows
end Go.Proofs.Ytmjhhaejiabkdaa
