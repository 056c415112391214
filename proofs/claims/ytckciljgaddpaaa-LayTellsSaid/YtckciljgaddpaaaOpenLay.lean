/- Chapter 16: arguments opened: pieces, points. -/
import Derived.Test.YtckciljgaddpaaaOpenEls
import Derived.Test.YtckciljgaddpaaaLayMem
namespace Go.Proofs.Ytckciljgaddpaaa
open Go.ChangeShapes Go.WideShapes Go.ChangeAt Go.RowKit
set_option linter.unusedVariables false
theorem c3 : Try.prog.cellsOf 3 = 1 := by kernel_rfl
theorem c29 : Try.prog.cellsOf 29 = 2 := by kernel_rfl
theorem c36 : Try.prog.cellsOf 36 = 2 := by kernel_rfl
def In64 (x : Int) : Prop := -9223372036854775808 ≤ x ∧ x ≤ 9223372036854775807
section
variable {H : Type} {enc : TypeId × Value → H}
theorem good_int {w : World} {fuel : Nat} {cs : List Value} {x : DataW H × List MemPlace} (h : DataW.trod enc Try.prog w 0 (fun _ => true) true fuel 3 cs = some x) : ∃ n, cs = [.int .i64 n] ∧ In64 n := by
  obtain ⟨n, rfl, _, hw⟩ := DataW.trod_int Try.underlying3 h
  exact ⟨n, rfl, by simpa [Lit.wf, IntKind.min, IntKind.max, IntKind.signed, IntKind.bits, In64] using hw⟩
theorem good_pc {w : World} {fuel : Nat} {cs : List Value} {x : DataW H × List MemPlace} (hl : cs.length = 2) (h : DataW.trod enc Try.prog w 0 (fun _ => true) true fuel 29 cs = some x) : ∃ p : Pc, cs = p.cells ∧ True := by
  obtain ⟨xs, n, _, _, _, hxl, hf⟩ := DataW.trod_struct Try.underlying29 h
  match cs, hl, xs, hxl with
  | [k0, k1], _, [y0, y1], _ =>
    have h0 : DataW.trod enc Try.prog w 0 (fun _ => true) true n 3 (([k0, k1].drop 0).take (Try.prog.cellsOf 3)) = _ := hf 0 _ rfl
    have h1 : DataW.trod enc Try.prog w 0 (fun _ => true) true n 3 (([k0, k1].drop 1).take (Try.prog.cellsOf 3)) = _ := hf 1 _ rfl
    rw [c3] at h0 h1
    obtain ⟨b0, e0, _⟩ := good_int (cs := [k0]) h0
    obtain ⟨b1, e1, _⟩ := good_int (cs := [k1]) h1
    cases e0; cases e1
    exact ⟨⟨b0, b1⟩, rfl, trivial⟩
theorem good_pt {w : World} {fuel : Nat} {cs : List Value} {x : DataW H × List MemPlace} (hl : cs.length = 2) (h : DataW.trod enc Try.prog w 0 (fun _ => true) true fuel 36 cs = some x) : ∃ p : Pt, cs = p.cells ∧ In64 p.x ∧ In64 p.y := by
  obtain ⟨xs, n, _, _, _, hxl, hf⟩ := DataW.trod_struct Try.underlying36 h
  match cs, hl, xs, hxl with
  | [k0, k1], _, [y0, y1], _ =>
    have h0 : DataW.trod enc Try.prog w 0 (fun _ => true) true n 3 (([k0, k1].drop 0).take (Try.prog.cellsOf 3)) = _ := hf 0 _ rfl
    have h1 : DataW.trod enc Try.prog w 0 (fun _ => true) true n 3 (([k0, k1].drop 1).take (Try.prog.cellsOf 3)) = _ := hf 1 _ rfl
    rw [c3] at h0 h1
    obtain ⟨b0, e0, i0⟩ := good_int (cs := [k0]) h0
    obtain ⟨b1, e1, i1⟩ := good_int (cs := [k1]) h1
    cases e0; cases e1
    exact ⟨⟨b0, b1⟩, rfl, i0, i1⟩
theorem open_Pieces {W : World} {r : Reach} {b0 : Nat} {v : Value} {d : DataW H} {p : List MemPlace} (hv : Value.okWide Try.prog W r b0 22 v) (h : DataW.Trod enc Try.prog W 0 (fun _ => true) true 22 v d p) :
    ∃ xs : List Pc, Pieces W (fun b => b < W.heap.size) v xs := by
  obtain ⟨xs, _, h⟩ := open_Els Pc.cells (fun _ => True) Pc.cells_len (by decide) Try.underlying22 c29 (fun fuel cs x hl h => good_pc hl h) hv h
  exact ⟨xs, h⟩
/-- points, each part an int -/
def Pts (w : World) (v : Value) (xs : List Pt) : Prop := (∀ x ∈ xs, In64 x.x ∧ In64 x.y) ∧ Points w (fun b => b < w.heap.size) v xs
theorem open_Points {W : World} {r : Reach} {b0 : Nat} {v : Value} {d : DataW H} {p : List MemPlace} (hv : Value.okWide Try.prog W r b0 24 v) (h : DataW.Trod enc Try.prog W 0 (fun _ => true) true 24 v d p) :
    ∃ xs : List Pt, Pts W v xs :=
  open_Els Pt.cells (fun q => In64 q.x ∧ In64 q.y) Pt.cells_len (by decide) Try.underlying24 c36 (fun fuel cs x hl h => good_pt hl h) hv h
end
end Go.Proofs.Ytckciljgaddpaaa
