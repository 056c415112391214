/- Chapter 11: arguments opened: stitches. -/
import Derived.Test.YtaacfjeddoekfaaOpenEls
import Derived.Test.YtaacfjeddoekfaaKnitPlain
import Derived.SizedLaws
namespace Go.Proofs.Ytaacfjeddoekfaa
open Go.ChangeShapes Go.WideShapes Go.ChangeAt Go.RowKit
set_option linter.unusedVariables false
theorem c3 : Try.prog.cellsOf 3 = 1 := by kernel_rfl
theorem c44 : Try.prog.cellsOf 44 = 5 := by kernel_rfl
theorem bytes44 : Try.prog.bytesOf 44 = 40 := by kernel_rfl
def In64 (x : Int) : Prop := -9223372036854775808 ≤ x ∧ x ≤ 9223372036854775807
section
variable {H : Type} {enc : TypeId × Value → H}
theorem good_int {w : World} {fuel : Nat} {cs : List Value} {x : DataW H × List MemPlace} (h : DataW.trod enc Try.prog w 0 (fun _ => true) true fuel 3 cs = some x) : ∃ n, cs = [.int .i64 n] ∧ In64 n := by
  obtain ⟨n, rfl, _, hw⟩ := DataW.trod_int Try.underlying3 h
  exact ⟨n, rfl, by simpa [Lit.wf, IntKind.min, IntKind.max, IntKind.signed, IntKind.bits, In64] using hw⟩
/-- a stitch, each part an int -/
def Sti.ok (s : Sti) : Prop := In64 s.d ∧ In64 s.b ∧ In64 s.n ∧ In64 s.c ∧ In64 s.t
set_option maxRecDepth 100000 in
theorem good_sti {w : World} {fuel : Nat} {cs : List Value} {x : DataW H × List MemPlace} (hl : cs.length = 5) (h : DataW.trod enc Try.prog w 0 (fun _ => true) true fuel 44 cs = some x) : ∃ p : Sti, cs = p.cells ∧ p.ok := by
  obtain ⟨xs, n, _, _, _, hxl, hf⟩ := DataW.trod_struct Try.underlying44 h
  match cs, hl, xs, hxl with
  | [k0, k1, k2, k3, k4], _, [y0, y1, y2, y3, y4], _ =>
    have h0 : DataW.trod enc Try.prog w 0 (fun _ => true) true n 3 (([k0, k1, k2, k3, k4].drop 0).take (Try.prog.cellsOf 3)) = _ := hf 0 _ rfl
    have h1 : DataW.trod enc Try.prog w 0 (fun _ => true) true n 3 (([k0, k1, k2, k3, k4].drop 1).take (Try.prog.cellsOf 3)) = _ := hf 1 _ rfl
    have h2 : DataW.trod enc Try.prog w 0 (fun _ => true) true n 3 (([k0, k1, k2, k3, k4].drop 2).take (Try.prog.cellsOf 3)) = _ := hf 2 _ rfl
    have h3 : DataW.trod enc Try.prog w 0 (fun _ => true) true n 3 (([k0, k1, k2, k3, k4].drop 3).take (Try.prog.cellsOf 3)) = _ := hf 3 _ rfl
    have h4 : DataW.trod enc Try.prog w 0 (fun _ => true) true n 3 (([k0, k1, k2, k3, k4].drop 4).take (Try.prog.cellsOf 3)) = _ := hf 4 _ rfl
    rw [c3] at h0 h1 h2 h3 h4
    obtain ⟨b0, e0, i0⟩ := good_int (cs := [k0]) h0
    obtain ⟨b1, e1, i1⟩ := good_int (cs := [k1]) h1
    obtain ⟨b2, e2, i2⟩ := good_int (cs := [k2]) h2
    obtain ⟨b3, e3, i3⟩ := good_int (cs := [k3]) h3
    obtain ⟨b4, e4, i4⟩ := good_int (cs := [k4]) h4
    cases e0; cases e1; cases e2; cases e3; cases e4
    exact ⟨⟨b0, b1, b2, b3, b4⟩, rfl, i0, i1, i2, i3, i4⟩
/-- stitches, no more than memory holds -/
def Stis (w : World) (v : Value) (l : List Sti) : Prop := (∀ x ∈ l, x.ok) ∧ Els Sti.cells 5 w (fun b => b < w.heap.size) v l
set_option maxRecDepth 100000 in
theorem open_Stis {W : World} {r : Reach} {b0 : Nat} {v : Value} {d : DataW H} {p : List MemPlace} (hv : Value.okWide Try.prog W r b0 22 v) (h : DataW.Trod enc Try.prog W 0 (fun _ => true) true 22 v d p) :
    ∃ l : List Sti, Stis W v l ∧ (l.length = 0 ∨ ∃ elems spare, d = .slice elems spare ∧ elems.length = l.length) := by
  obtain ⟨l, h1, h2⟩ := open_Els Sti.cells Sti.ok Sti.cells_len (by decide) Try.underlying22 c44 (fun fuel cs x hl h => good_sti hl h) hv h
  refine ⟨l, ⟨h1, h2⟩, ?_⟩
  obtain ⟨a0, len0, cap0, rfl⟩ := okWide_slice Try.underlying22 hv
  obtain ⟨fuel, hf0⟩ := h
  have hf' : DataW.trod enc Try.prog W 0 (fun _ => true) true fuel 22 [.slice a0 len0 cap0] = some (d, p) := by simpa [Value.cells] using hf0
  obtain ⟨A, c, e, _⟩ := h2
  simp only [Value.slice.injEq] at e
  rcases Go.Deep.open_slice Try.underlying22 hf' with ⟨hcs, _⟩ | ⟨a, len, cap, m, k, D, Pl, hcs, _, hl, hm, hmm, hx, hi⟩
  · simp only [List.cons.injEq, Value.slice.injEq, and_true] at hcs
    exact .inl (by omega)
  · simp only [List.cons.injEq, Value.slice.injEq, and_true] at hcs
    simp only [Prod.mk.injEq] at hx
    refine .inr ⟨_, _, hx.1, ?_⟩
    rw [List.length_map, List.length_range]
    omega
end
set_option maxRecDepth 100000 in
/-- the bound that the reach pays -/
theorem stis_bound {H : Type} {P : Program} {ts : List TypeId} {ds : List (DataW H)} {d : DataW H} {n j : Nat} (hb : P.bytesOf 44 = 40) (hu : P.underlying 22 = some (.slice 44)) (hsz : (DataW.weightsEach P ts ds).all (· ≤ reachBytes) = true) (ht : ts[j]? = some 22) (hd : ds[j]? = some d)
    (h : n = 0 ∨ ∃ elems spare, d = .slice elems spare ∧ elems.length = n) : n * 40 ≤ 140737488351232 := by
  rcases h with h | ⟨elems, spare, rfl, hn⟩
  · subst h; decide
  · have := sized_slice hsz ht hd hu
    rw [hb] at this
    have hr : reachBytes = 140737488351232 := rfl
    rw [hr] at this
    have h2 : elems.length * 40 ≤ (elems.length + spare.length) * 40 := Nat.mul_le_mul_right _ (Nat.le_add_right _ _)
    omega
end Go.Proofs.Ytaacfjeddoekfaa
