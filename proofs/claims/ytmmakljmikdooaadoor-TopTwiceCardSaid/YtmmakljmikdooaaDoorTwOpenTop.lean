import Derived.Test.YtmmakljmikdooaaDoorTw3
import Derived.Test.YtmmakljmikdooaaDoorPost
import Derived.ChangeArms
/- The top: arguments opened: a chart. -/
namespace Go.Proofs.YtmmakljmikdooaaDoor
open Go.ChangeShapes Go.WideShapes Go.ChangeAt Go.RowKit
set_option linter.unusedVariables false
theorem c24 : Tryd.prog.cellsOf 24 = 4 := by kernel_rfl
theorem c22 : Tryd.prog.cellsOf 22 = 1 := by kernel_rfl
theorem c3 : Tryd.prog.cellsOf 3 = 1 := by kernel_rfl
section
variable {H : Type} {enc : TypeId × Value → H}
theorem trod_Ints {W : World} {fuel : Nat} {v : Value} {x : DataW H × List MemPlace} (h : DataW.trod enc Tryd.prog W 0 (fun _ => true) true fuel 22 [v] = some x) : ∃ xs : List Int, Ints W (fun b => b < W.heap.size) v xs := by
  rcases open_ints Tryd.underlying22 Tryd.underlying3 c3 h with ⟨hcs, _⟩ | ⟨a, len0, cap0, zs, hcs, _, hl, hm, hz, _, hcell, hwz⟩
  · simp only [List.cons.injEq, and_true] at hcs
    subst hcs
    exact ⟨[], Ints.nil _ _⟩
  · simp only [List.cons.injEq, and_true] at hcs
    subst hcs
    simp only [if_true] at hz
    have hlen : (zs.take len0).length = len0 := by rw [List.length_take]; omega
    refine ⟨zs.take len0, some a, cap0, by rw [hlen], by rw [hlen]; exact hl, hm, ?_⟩
    refine ⟨by rw [List.length_map, Nat.mul_one], fun hn => ?_⟩
    rw [hlen] at hn
    obtain ⟨b, off, rfl, hc⟩ := ints_at hcell (by omega)
    refine ⟨b, off, rfl, ?_, fun j u hu => ?_⟩
    · have := World.block_lt_of_cell? W _ (hc 0 (by omega))
      exact this
    · have hj : j < len0 := by
        have := (List.getElem?_eq_some_iff.1 hu).1
        rw [List.length_map, hlen] at this
        exact this
      rw [hc j (by omega), ← hu]
      simp [List.getD_eq_getElem?_getD, hj, show j < zs.length by omega]
set_option maxRecDepth 100000 in
theorem open_Ch {W : World} {r : Go.Reach} {b0 : Nat} {v : Value} {d : DataW H} {p : List MemPlace} (hv : Value.okWide Tryd.prog W r b0 24 v) (h : DataW.Trod enc Tryd.prog W 0 (fun _ => true) true 24 v d p) :
    ∃ (c : Ch) (A : Option Addr) (cc : Nat), v = .agg #[.int .i64 c.g, .int .i64 c.w, .int .i64 c.h, .slice A c.cs.length cc] ∧ ChR W (fun b => b < W.heap.size) v c := by
  obtain ⟨cs, rfl, hsz⟩ := okWide_struct Tryd.underlying24 hv
  obtain ⟨fuel, hf⟩ := h
  rw [c24] at hsz
  have hf' : DataW.trod enc Tryd.prog W 0 (fun _ => true) true fuel 24 cs.toList = some (d, p) := by simpa [Value.cells] using hf
  obtain ⟨xs, n, _, _, _, hxl, hfl⟩ := DataW.trod_struct Tryd.underlying24 hf'
  obtain ⟨l⟩ := cs
  have hl4 : l.length = 4 := by simpa using hsz
  match l, hl4, xs, hxl, hfl with
  | [k0, k1, k2, k3], _, [y0, y1, y2, y3], _, hfl =>
    have h0 : DataW.trod enc Tryd.prog W 0 (fun _ => true) true n 3 (([k0, k1, k2, k3].drop 0).take (Tryd.prog.cellsOf 3)) = _ := hfl 0 _ rfl
    have h1 : DataW.trod enc Tryd.prog W 0 (fun _ => true) true n 3 (([k0, k1, k2, k3].drop 1).take (Tryd.prog.cellsOf 3)) = _ := hfl 1 _ rfl
    have h2 : DataW.trod enc Tryd.prog W 0 (fun _ => true) true n 3 (([k0, k1, k2, k3].drop 2).take (Tryd.prog.cellsOf 3)) = _ := hfl 2 _ rfl
    have h3 : DataW.trod enc Tryd.prog W 0 (fun _ => true) true n 22 (([k0, k1, k2, k3].drop 3).take (Tryd.prog.cellsOf 22)) = _ := hfl 3 _ rfl
    rw [c3] at h0 h1 h2
    rw [c22] at h3
    obtain ⟨z0, e0, _⟩ := DataW.trod_int Tryd.underlying3 (show DataW.trod enc Tryd.prog W 0 _ true n 3 [k0] = some y0 from h0)
    obtain ⟨z1, e1, _⟩ := DataW.trod_int Tryd.underlying3 (show DataW.trod enc Tryd.prog W 0 _ true n 3 [k1] = some y1 from h1)
    obtain ⟨z2, e2, _⟩ := DataW.trod_int Tryd.underlying3 (show DataW.trod enc Tryd.prog W 0 _ true n 3 [k2] = some y2 from h2)
    obtain ⟨ys, hi⟩ := trod_Ints (show DataW.trod enc Tryd.prog W 0 _ true n 22 [k3] = some y3 from h3)
    cases e0; cases e1; cases e2
    have hi2 := hi
    obtain ⟨A, cc, rfl, _⟩ := hi
    exact ⟨⟨z0, z1, z2, ys⟩, A, cc, rfl, _, rfl, hi2⟩
end
end Go.Proofs.YtmmakljmikdooaaDoor
