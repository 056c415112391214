/- Chapter 15: arguments opened: dyes, drops. -/
import Derived.Test.YtmjhhaejiabkdaaOpenEls
import Derived.Test.YtmjhhaejiabkdaaMixWalk1
import Derived.Test.YtmjhhaejiabkdaaOpen
namespace Go.Proofs.Ytmjhhaejiabkdaa
open Go.ChangeShapes Go.WideShapes Go.ChangeAt Go.RowKit
set_option linter.unusedVariables false
theorem c31 : Try.prog.cellsOf 31 = 1 := by kernel_rfl
theorem c33 : Try.prog.cellsOf 33 = 3 := by kernel_rfl
theorem c37 : Try.prog.cellsOf 37 = 4 := by kernel_rfl
section
variable {H : Type} {enc : TypeId × Value → H}

theorem good_dy {w : World} {fuel : Nat} {cs : List Value} {x : DataW H × List MemPlace} (hl : cs.length = 3) (h : DataW.trod enc Try.prog w 0 (fun _ => true) true fuel 33 cs = some x) : ∃ d : Dy, cs = d.cells ∧ True := by
  obtain ⟨xs, n, _, _, _, hxl, hf⟩ := DataW.trod_struct Try.underlying33 h
  match cs, hl, xs, hxl with
  | [c0, c1, c2], _, [y0, y1, y2], _ =>
    have h0 : DataW.trod enc Try.prog w 0 (fun _ => true) true n 31 (([c0, c1, c2].drop 0).take (Try.prog.cellsOf 31)) = _ := hf 0 _ rfl
    rw [c31] at h0
    have h1 : DataW.trod enc Try.prog w 0 (fun _ => true) true n 31 (([c0, c1, c2].drop 1).take (Try.prog.cellsOf 31)) = _ := hf 1 _ rfl
    rw [c31] at h1
    have h2 : DataW.trod enc Try.prog w 0 (fun _ => true) true n 31 (([c0, c1, c2].drop 2).take (Try.prog.cellsOf 31)) = _ := hf 2 _ rfl
    rw [c31] at h2
    obtain ⟨b0, e0⟩ := trod_f64 (cs := [c0]) Try.underlying31 h0
    obtain ⟨b1, e1⟩ := trod_f64 (cs := [c1]) Try.underlying31 h1
    obtain ⟨b2, e2⟩ := trod_f64 (cs := [c2]) Try.underlying31 h2
    cases e0; cases e1; cases e2
    exact ⟨⟨b0, b1, b2⟩, rfl, trivial⟩

theorem good_dr {w : World} {fuel : Nat} {cs : List Value} {x : DataW H × List MemPlace} (hl : cs.length = 4) (h : DataW.trod enc Try.prog w 0 (fun _ => true) true fuel 37 cs = some x) : ∃ d : Dr, cs = d.cells ∧ True := by
  obtain ⟨xs, n, _, _, _, hxl, hf⟩ := DataW.trod_struct Try.underlying37 h
  match cs, hl, xs, hxl with
  | [c0, c1, c2, c3], _, [y0, y1], _ =>
    have h0 : DataW.trod enc Try.prog w 0 (fun _ => true) true n 33 (([c0, c1, c2, c3].drop 0).take (Try.prog.cellsOf 33)) = _ := hf 0 _ rfl
    rw [c33] at h0
    have h1 : DataW.trod enc Try.prog w 0 (fun _ => true) true n 31 (([c0, c1, c2, c3].drop 3).take (Try.prog.cellsOf 31)) = _ := hf 1 _ rfl
    rw [c31] at h1
    obtain ⟨d, e0, _⟩ := good_dy (cs := [c0, c1, c2]) rfl h0
    obtain ⟨b1, e1⟩ := trod_f64 (cs := [c3]) Try.underlying31 h1
    cases e0; cases e1
    exact ⟨⟨d, b1⟩, rfl, trivial⟩

theorem open_Dyes {W : World} {r : Reach} {b0 : Nat} {v : Value} {d : DataW H} {p : List MemPlace} (hv : Value.okWide Try.prog W r b0 29 v) (h : DataW.Trod enc Try.prog W 0 (fun _ => true) true 29 v d p) :
    ∃ xs : List Dy, Dyes W (fun b => b < W.heap.size) v xs := by
  obtain ⟨xs, _, h⟩ := open_Els Dy.cells (fun _ => True) Dy.cells_len (by decide) Try.underlying29 c33 (fun fuel cs x hl h => good_dy hl h) hv h
  exact ⟨xs, h⟩
theorem open_Drops {W : World} {r : Reach} {b0 : Nat} {v : Value} {d : DataW H} {p : List MemPlace} (hv : Value.okWide Try.prog W r b0 28 v) (h : DataW.Trod enc Try.prog W 0 (fun _ => true) true 28 v d p) :
    ∃ xs : List Dr, Drops W (fun b => b < W.heap.size) v xs := by
  obtain ⟨xs, _, h⟩ := open_Els Dr.cells (fun _ => True) Dr.cells_len (by decide) Try.underlying28 c37 (fun fuel cs x hl h => good_dr hl h) hv h
  exact ⟨xs, h⟩
theorem open_Dy {W : World} {r : Reach} {b0 : Nat} {v : Value} {d : DataW H} {p : List MemPlace} (hv : Value.okWide Try.prog W r b0 33 v) (h : DataW.Trod enc Try.prog W 0 (fun _ => true) true 33 v d p) :
    ∃ x : Dy, v = x.val := by
  obtain ⟨cs, rfl, hsz⟩ := okWide_struct Try.underlying33 hv
  obtain ⟨fuel, hf⟩ := h
  rw [c33] at hsz
  have hf' : DataW.trod enc Try.prog W 0 (fun _ => true) true fuel 33 cs.toList = some (d, p) := by simpa [Value.cells] using hf
  obtain ⟨x, hx, _⟩ := good_dy (by simpa using hsz) hf'
  refine ⟨x, ?_⟩
  show Value.agg cs = .agg _
  congr 1
  apply Array.toList_inj.1
  rw [hx]; rfl
def wit_Dy : Value := .agg #[.float .f64 0, .float .f64 0, .float .f64 0]
end
end Go.Proofs.Ytmjhhaejiabkdaa
