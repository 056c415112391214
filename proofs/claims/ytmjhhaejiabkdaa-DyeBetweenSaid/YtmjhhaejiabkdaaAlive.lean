/- Chapter 15: 'alive' is true. -/
import Derived.Test.YtmjhhaejiabkdaaMixWalk4
namespace Go.Proofs.Ytmjhhaejiabkdaa
open Go.RowKit Go.Proofs.Ytmjhhaejiabkdaa.Fl
set_option linter.unusedVariables false
attribute [local go_sem] run_put_float

def oneDr : Dr := ⟨⟨4607182418800017408, 0, 0⟩, 4607182418800017408⟩
def oneDy : Dy := ⟨4607182418800017408, 0, 0⟩
theorem one_ok : oneDr.ok = true := by decide +kernel
theorem one_r : Ieee.double.mul oneDr.s oneDr.d.r = some (prodAt Dy.r [oneDr] 0) ∧ Ieee.double.add (accAt Dy.r [oneDr] 0) (prodAt Dy.r [oneDr] 0) = some (accAt Dy.r [oneDr] 1) := by decide +kernel
theorem one_g : Ieee.double.mul oneDr.s oneDr.d.g = some (prodAt Dy.g [oneDr] 0) ∧ Ieee.double.add (accAt Dy.g [oneDr] 0) (prodAt Dy.g [oneDr] 0) = some (accAt Dy.g [oneDr] 1) := by decide +kernel
theorem one_b : Ieee.double.mul oneDr.s oneDr.d.b = some (prodAt Dy.b [oneDr] 0) ∧ Ieee.double.add (accAt Dy.b [oneDr] 0) (prodAt Dy.b [oneDr] 0) = some (accAt Dy.b [oneDr] 1) := by decide +kernel
theorem one_a : Ieee.double.add (allAt [oneDr] 0) oneDr.s = some (allAt [oneDr] 1) := by decide +kernel
theorem one_mix : MixIs [oneDr] oneDy := by
  have z : ∀ k, k < [oneDr].length → k = 0 := by intro k h; simp at h; omega
  refine ⟨fun k h => ?_, fun k h => ?_, fun k h => ?_, fun k h => ?_, by decide +kernel, by decide +kernel, by decide +kernel⟩
  · obtain rfl := z k h; exact one_r
  · obtain rfl := z k h; exact one_g
  · obtain rfl := z k h; exact one_b
  · obtain rfl := z k h; exact one_a

set_option maxHeartbeats 1000000 in
theorem alive_true (w : World) : Calls Try.prog 10 #[] w fun e w' => e = .returned (.bool true) ∧ Below w.heap.size w w' := by
  have ho : Hid (∀ i (h : i < [oneDr].length), [oneDr][i].ok = true) := by
    intro i h
    obtain rfl : i = 0 := by simp at h; omega
    exact one_ok
  have hal : Hid (Below w.heap.size w (w.alloc (.cells #[.float .f64 4607182418800017408, .float .f64 0, .float .f64 0, .float .f64 4607182418800017408] 37))) := (Below.refl _ _).alloc (Nat.le_refl _) _
  have hD : Hid (Drops (w.alloc (.cells #[.float .f64 4607182418800017408, .float .f64 0, .float .f64 0, .float .f64 4607182418800017408] 37)) (fun b => b < w.heap.size + 1) (.slice (some ⟨w.heap.size, 0, none⟩) 1 1) [oneDr]) := by
    refine ⟨some ⟨w.heap.size, 0, none⟩, 1, rfl, Nat.le_refl _, by simp [maxLen], rfl, fun _ => ⟨w.heap.size, 0, rfl, by omega, fun j u hu => ?_⟩⟩
    rw [Nat.zero_add]
    exact (Arr.new w _ 37).cell hu
  go_enter Try.func10, Try.ntmps10
  go_wp2_with fail
  refine (Mix_ok _ hD.out (by simp) (by decide) (by decide) ho.out one_mix).mono ?_
  rintro e w1 ⟨rfl, hb1⟩
  have HB : Hid (Below w.heap.size w w1) := hal.out.trans (hb1.mono (by simp))
  unfold Dy.val oneDy
  have h1 : (FloatKind.f64.format.order 4607182418800017408 4607182418800017408 == some .eq) = true := by decide +kernel
  go_wp2_with fail
  go_ret
  exact ⟨rfl, HB.out.alloc HB.out.size _⟩
end Go.Proofs.Ytmjhhaejiabkdaa
