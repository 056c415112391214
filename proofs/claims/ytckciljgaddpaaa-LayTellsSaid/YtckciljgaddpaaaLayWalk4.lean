/- Chapter 16: Lay of wrong pieces; 'alive' is true. -/
import Derived.Test.YtckciljgaddpaaaLayWalk3
namespace Go.Proofs.Ytckciljgaddpaaa
open Go.RowKit
set_option linter.unusedVariables false

set_option maxHeartbeats 1000000 in
theorem Lay_not {v : Value} {ps : List Pc} (W : Int) (w : World) (hv : Pieces w (fun b => b < w.heap.size) v ps) {c : Int} (hc : c ≠ 0)
    (HC : ∀ (v : Value) (w : World), Pieces w (fun b => b < w.heap.size) v ps → Calls Try.prog 12 #[.int .i64 W, v] w fun e w' => e = .returned (.int .i64 c) ∧ Below w.heap.size w w') :
    Calls Try.prog 7 #[.int .i64 W, v] w fun e w' => e = .returned (.tuple #[.slice none 0 0, .int .i64 0, .int .i64 c]) ∧ Below w.heap.size w w' := by
  have HV := Lib.hid hv
  have HH := Lib.hid HC
  have hcn : (c != 0) = true := by simpa using hc
  clear HC hc
  obtain ⟨A, cc, rfl, h1, h2, hr⟩ := hv
  clear hr
  have hbe : Hid (Below w.heap.size w (w.alloc (.cells #[.slice A ps.length cc] 22))) := (Below.refl _ _).alloc (Nat.le_refl _) _
  go_enter Try.func7, Try.ntmps7
  go_wp2_with fail
  refine (HH.out _ _ ((HV.out.same (Same.of_below hbe.out)).mono fun i h => Nat.lt_of_lt_of_le h hbe.out.size)).mono ?_
  rintro e w1 ⟨rfl, hb1⟩
  have HB1 := Lib.hid (hbe.out.trans (hb1.mono (by simp)))
  clear hb1
  go_wp2_with fail
  go_ret3
  exact ⟨rfl, HB1.out⟩

def onePc : Pc := ⟨2, 5⟩
theorem one_hi {σ τ : Nat → Nat} (h : Ord (hOf [onePc]) 1 σ τ) : (ss 3 (wOf [onePc]) (hOf [onePc]) σ 1).hi = 5 := by
  have h0 : σ 0 = 0 := by have := h.lt (k := 0) (by decide); omega
  show (ss 3 (wOf [onePc]) (hOf [onePc]) σ 0).ht 3 (wOf [onePc] (σ 0)) (hOf [onePc] (σ 0)) = 5
  rw [h0]
  rfl

set_option maxHeartbeats 1000000 in
theorem alive_true (w : World) : Calls Try.prog 6 #[] w fun e w' => e = .returned (.bool true) ∧ Below w.heap.size w w' := by
  have ho : Hid (∀ i (h : i < [onePc].length), ¬ [onePc][i].bad 3) := by
    intro i h
    obtain rfl : i = 0 := by simp at h; omega
    show ¬ onePc.bad 3
    unfold Pc.bad onePc
    decide
  have hal : Hid (Below w.heap.size w (w.alloc (.cells #[.int .i64 2, .int .i64 5] 29))) := (Below.refl _ _).alloc (Nat.le_refl _) _
  have hD : Hid (Pieces (w.alloc (.cells #[.int .i64 2, .int .i64 5] 29)) (fun b => b < (w.alloc (.cells #[.int .i64 2, .int .i64 5] 29)).heap.size) (.slice (some ⟨w.heap.size, 0, none⟩) 1 1) [onePc]) := by
    refine ⟨some ⟨w.heap.size, 0, none⟩, 1, rfl, Nat.le_refl _, by simp [maxLen], rfl, fun _ => ⟨w.heap.size, 0, rfl, by simp, fun j u hu => ?_⟩⟩
    rw [Nat.zero_add]
    exact (Arr.new w _ 29).cell hu
  go_enter Try.func6, Try.ntmps6
  go_wp2_with fail
  refine (Lay_ok 3 _ hD.out (by decide) (by decide) (by decide) ho.out).mono ?_
  rintro e w1 ⟨σ, τ, hord, u, rfl, hu, hb1⟩
  have hone : [onePc].length = 1 := rfl
  rw [hone] at hord hu ⊢
  rw [one_hi hord]
  obtain ⟨A, c, rfl, h1, h2, hr⟩ := hu
  have HB : Hid (Below w.heap.size w w1) := hal.out.trans (hb1.mono (by simp))
  clear hr hord hb1
  rw [List.length_map, List.length_range] at h1 ⊢
  unfold maxLen at h2
  go_wp2_with fail
  go_ret
  exact ⟨rfl, HB.out⟩
end Go.Proofs.Ytckciljgaddpaaa
