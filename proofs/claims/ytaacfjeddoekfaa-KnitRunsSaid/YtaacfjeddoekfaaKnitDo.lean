/- Chapter 11: the reference does a stitch, of any kind. -/
import Derived.Test.YtaacfjeddoekfaaKnitRef5
import Derived.Test.YtaacfjeddoekfaaKnitRef6
import Derived.Test.YtaacfjeddoekfaaKnitRef7
import Derived.Test.YtaacfjeddoekfaaKnitRef8
import Derived.Test.YtaacfjeddoekfaaKnitRef9
namespace Go.Proofs.Ytaacfjeddoekfaa
open Go.RowKit
set_option linter.unusedVariables false

theorem refDo_any {w : World} {N : Nat} {k : KS} {hs : List Hd} {vl vh vo : Value} {S : Nat → Prop} (h : RSs S w N k hs vl vh vo) (hS : ∀ b, S b → b < w.heap.size) (hN : N ≤ 128) (hi : Kinv N k) (x : Sti) (hw : wrongK N k x = 0) :
    Calls Try.prog 31 #[sval N vl vh vo k.rack (k.done : Int), .agg x.cells.toArray] w fun e w' => ∃ vl' vh' vo' hs', e = .returned (sval N vl' vh' vo' (stepK k x).rack ((stepK k x).done : Int)) ∧ RSs (Gr S w w') w' N (stepK k x) hs' vl' vh' vo' ∧ Below w.heap.size w w' := by
  obtain ⟨d, b, n, c, t⟩ := x
  have hb := wrong_bounds hw
  have h1 : 1 ≤ d := hb.1
  have h6 : d ≤ 6 := hb.2.1
  have hd : d = 1 ∨ d = 2 ∨ d = 3 ∨ d = 4 ∨ d = 5 ∨ d = 6 := by omega
  rcases hd with rfl | rfl | rfl | rfl | rfl | rfl
  · exact refDo_knit h hS hN hi b n c t hw
  · exact refDo_tuck h hS hN hi b n c t hw
  · exact refDo_miss h hS hN hi b n c t hw
  · exact refDo_move h hS hN hi b n c t hw
  · exact refDo_drop h hS hN hi b n c t hw
  · exact refDo_rack h hS hN hi b n c t hw
end Go.Proofs.Ytaacfjeddoekfaa
