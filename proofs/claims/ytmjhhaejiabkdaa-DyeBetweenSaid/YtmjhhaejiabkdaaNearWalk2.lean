/- Chapter 15: the reference's Nearest; Same of the same. -/
import Derived.Test.YtmjhhaejiabkdaaNearWalk1
namespace Go.Proofs.Ytmjhhaejiabkdaa
open Go.RowKit Go.Proofs.Ytmjhhaejiabkdaa.Fl
set_option linter.unusedVariables false
attribute [local go_sem] run_put_float

theorem run_bits (b : Nat) (w : World) : (callFunc 24 #[.float .f64 b]).run Try.prog w = .ok (.value (.int .u64 b)) w := by
  rw [run_callFunc_extern (fn := Try.f24) (e := Extern.MathFloatBits.float64bits) (by kernel_rfl) (by kernel_rfl) (by kernel_rfl) (by kernel_rfl) (by kernel_rfl)]
  rfl

set_option maxHeartbeats 400000 in
theorem bits_same (x : Nat) (w : World) : Calls Try.prog 23 #[.float .f64 x, .float .f64 x] w fun e w' => e = .returned (.bool true) ∧ w = w' := by
  have hb := run_bits x
  go_enter Try.func23, Try.ntmps23
  go_wp2_with fail
  go_ret
  exact ⟨rfl, rfl⟩

set_option maxHeartbeats 400000 in
theorem Same_same (d : Dy) (w : World) : Calls Try.prog 15 #[d.val, d.val] w fun e w' => e = .returned (.bool true) ∧ Below w.heap.size w w' := by
  unfold Dy.val
  go_enter Try.func15, Try.ntmps15
  go_wp2_with (go_at_call 23; refine (bits_same _ _).mono ?_; rintro e w1 ⟨rfl, rfl⟩)
  go_ret
  exact ⟨rfl, ((Below.refl _ _).alloc (Nat.le_refl _) _).alloc (by simp) _⟩

set_option maxRecDepth 100000 in
set_option maxHeartbeats 1000000 in
theorem refNearest_many {S : Nat → Prop} {v : Value} {xs : List Dy} (d : Dy) (w : World) (hv : Dyes w S v xs) (h : xs.length = 0 ∨ 256 < xs.length) :
    Calls Try.prog 16 #[v, d.val] w fun e w' => e = .returned (.tuple #[.int .i64 0, .int .i64 5]) ∧ Below w.heap.size w w' := by
  obtain ⟨A, c, rfl, h1, h2, hr⟩ := hv
  unfold maxLen at h2
  unfold Dy.val
  clear hr
  rcases h with h | h
  all_goals
    go_enter Try.func16, Try.ntmps16
    go_wp2_with fail
    go_ret2
    exact ⟨rfl, (Below.refl _ _).alloc (Nat.le_refl _) _⟩

theorem box_cells {w w' : World} {d : Dy} (h : Below (w.heap.size + 1) (w.alloc (.cells #[.float .f64 d.r, .float .f64 d.g, .float .f64 d.b] 33)) w') : Arr w' w.heap.size 33 [.float .f64 d.r, .float .f64 d.g, .float .f64 d.b] :=
  (Arr.new w #[.float .f64 d.r, .float .f64 d.g, .float .f64 d.b] 33).of_eq (h.block _ (by simp))

set_option maxRecDepth 100000 in
set_option maxHeartbeats 1000000 in
theorem refNearest_bad {v : Value} {xs : List Dy} (d : Dy) (w : World) (hv : Dyes w (fun b => b < w.heap.size) v xs) (h1 : 1 ≤ xs.length) (h2 : xs.length ≤ 256) (hbad : d.fair = false ∨ d.fair = true ∧ ∃ i, ∃ h : i < xs.length, xs[i].fair = false) :
    Calls Try.prog 16 #[v, d.val] w fun e w' => e = .returned (.tuple #[.int .i64 0, .int .i64 3]) ∧ Below w.heap.size w w' := by
  have HV := Lib.hid hv
  obtain ⟨A, c, rfl, h3, h4, hr⟩ := hv
  clear hr
  unfold maxLen at h4
  have hbe : Hid (Below w.heap.size w (w.alloc (.cells #[.float .f64 d.r, .float .f64 d.g, .float .f64 d.b] 33))) := (Below.refl _ _).alloc (Nat.le_refl _) _
  rcases hbad with hf | ⟨hf, i, hi, hb⟩
  · unfold Dy.val
    go_enter Try.func16, Try.ntmps16
    go_wp2_with fail
    refine (Fair_any d _).mono ?_
    rintro e w1 ⟨rfl, hb1⟩
    have HB1 : Hid (Below w.heap.size w w1) := hbe.out.trans (hb1.mono (by simp))
    clear hb1
    go_wp2_with fail
    go_ret2
    exact ⟨rfl, HB1.out⟩
  · have HB := Lib.hid hb
    clear hb
    unfold Dy.val
    go_enter Try.func16, Try.ntmps16
    go_wp2_with fail
    refine (Fair_any d _).mono ?_
    rintro e w1 ⟨rfl, hb1⟩
    have HB1 : Hid (Below w.heap.size w w1) := hbe.out.trans (hb1.mono (by simp))
    clear hb1
    go_wp2_with fail
    go_loopg [26] xs.length (fun g ctr w2 => ∃ j : Nat, j ≤ xs.length ∧ g = xs.length - j ∧ ctr = .int .i64 j ∧ j ≤ i ∧ Below w.heap.size w w2)
    case atStart => exact ⟨0, by omega, rfl, rfl, by omega, HB1.out⟩
    case round =>
      obtain ⟨j, hj, rfl, rfl, hji, hb2⟩ := hrel
      have hjl : j < xs.length := by omega
      obtain ⟨b1, o1, rfl, _, x0, x1, x2⟩ := dy_cells (hrow_of (HV.out.same (Same.of_below hb2))) hjl
      have HX : Hid (j = i → xs[j].fair = false) := fun h => by subst h; exact HB.out
      generalize xs[j] = x at *
      have HB2 := Lib.hid hb2
      clear hb2
      go_wp2_with fail
      refine (Fair_any x _).mono ?_
      rintro e w3 ⟨rfl, hb3⟩
      have HB3 := Lib.hid ((HB2.out.alloc HB2.out.size (.cells #[.float .f64 x.r, .float .f64 x.g, .float .f64 x.b] 33)).trans (hb3.mono (by have := HB2.out.size; simp; omega)))
      clear hb3 x0 x1 x2
      cases hfx : x.fair with
      | true =>
        have hji' : j ≠ i := fun h => by have := HX.out h; rw [hfx] at this; cases this
        go_wp2_with fail
        go_roundg (xs.length - (j + 1))
        case measure => omega
        case rel => exact ⟨j + 1, by omega, rfl, by go_num, by omega, HB3.out⟩
      | false =>
        go_wp2_with fail
        go_ret2
        exact ⟨rfl, HB3.out⟩
end Go.Proofs.Ytmjhhaejiabkdaa
