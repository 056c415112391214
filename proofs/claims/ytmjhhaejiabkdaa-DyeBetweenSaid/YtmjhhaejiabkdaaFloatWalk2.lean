/- Chapter 15: how far dyes are apart, and whether they are fair: both programs' walks. -/
import Derived.Test.YtmjhhaejiabkdaaFloat6
import Derived.Laws.FloatArith
import Derived.Deep.RegionHeld3
namespace Go.Proofs.Ytmjhhaejiabkdaa
open Go.RowKit Go.Proofs.Ytmjhhaejiabkdaa.Fl
set_option linter.unusedVariables false
attribute [local go_sem] run_put_float

theorem run_fsub {x y r : Nat} (h : Ieee.double.sub x y = some r) (w : World) : (Go.binOp .sub 31 (.float .f64 x) (.float .f64 y)).run Try.prog w = .ok (.float .f64 r) w :=
  run_float_arith w .sub 31 .f64 x y r h
theorem run_fadd {x y r : Nat} (h : Ieee.double.add x y = some r) (w : World) : (Go.binOp .add 31 (.float .f64 x) (.float .f64 y)).run Try.prog w = .ok (.float .f64 r) w :=
  run_float_arith w .add 31 .f64 x y r h
theorem run_fmul {x y r : Nat} (h : Ieee.double.mul x y = some r) (w : World) : (Go.binOp .mul 31 (.float .f64 x) (.float .f64 y)).run Try.prog w = .ok (.float .f64 r) w :=
  run_float_arith w .mul 31 .f64 x y r h
theorem run_fquo {x y r : Nat} (h : Ieee.double.div x y = some r) (w : World) : (Go.binOp .quo 31 (.float .f64 x) (.float .f64 y)).run Try.prog w = .ok (.float .f64 r) w :=
  run_float_arith w .quo 31 .f64 x y r h

set_option maxHeartbeats 1000000 in
theorem Far_is {a b : Dy} {n : Nat} (h : FarIs a b n) (w : World) : Calls Try.prog 13 #[a.val, b.val] w fun e w' => e = .returned (.float .f64 n) ∧ Below w.heap.size w w' := by
  obtain ⟨x1, x2, x3, y1, y2, y3, s, a1, a2, a3, a4, a5, a6, a7, a8, a9⟩ := h
  have b1 := fun w => run_fsub a1 w
  have b2 := fun w => run_fsub a2 w
  have b3 := fun w => run_fsub a3 w
  have b4 := fun w => run_fmul a4 w
  have b5 := fun w => run_fmul a5 w
  have b6 := fun w => run_fmul a6 w
  have b8 := fun w => run_fadd a8 w
  have b9 := fun w => run_fadd a9 w
  clear a1 a2 a3 a4 a5 a6 a7 a8 a9
  unfold Dy.val
  go_enter Try.func13, Try.ntmps13
  go_wp2_with (go_quiet (fail))
  go_ret
  exact ⟨rfl, below_dN (((Below.refl _ _).alloc (Nat.le_refl _) _).alloc (by simp) _)⟩

set_option maxHeartbeats 1000000 in
theorem Fair_any (d : Dy) (w : World) : Calls Try.prog 22 #[d.val] w fun e w' => e = .returned (.bool d.fair) ∧ Below w.heap.size w w' := by
  have HF : Hid (d.fair = (unitB d.r && unitB d.g && unitB d.b)) := rfl
  unfold Dy.val
  cases h1 : unitB d.r with
  | false =>
    have HG : Hid (d.fair = false) := by show _ = _; rw [HF.out, h1]; rfl
    go_enter Try.func22, Try.ntmps22
    go_wp2_with (go_at_call 28; refine (unit_any _ _).mono ?_; rintro e w1 ⟨rfl, rfl⟩)
    go_ret
    exact ⟨ret_bool HG.out.symm, (Below.refl _ _).alloc (Nat.le_refl _) _⟩
  | true =>
    cases h2 : unitB d.g with
    | false =>
      have HG : Hid (d.fair = false) := by show _ = _; rw [HF.out, h1, h2]; rfl
      go_enter Try.func22, Try.ntmps22
      go_wp2_with (go_at_call 28; refine (unit_any _ _).mono ?_; rintro e w1 ⟨rfl, rfl⟩)
      go_ret
      exact ⟨ret_bool HG.out.symm, (Below.refl _ _).alloc (Nat.le_refl _) _⟩
    | true =>
      have HG : Hid (d.fair = unitB d.b) := by show _ = _; rw [HF.out, h1, h2]; rfl
      go_enter Try.func22, Try.ntmps22
      go_wp2_with (go_at_call 28; refine (unit_any _ _).mono ?_; rintro e w1 ⟨rfl, rfl⟩)
      go_ret
      exact ⟨ret_bool HG.out.symm, (Below.refl _ _).alloc (Nat.le_refl _) _⟩

/-- what stands while two boxed dyes are read -/
def FS (B : Nat) (w0 : World) (a b : Dy) (w' : World) : Prop := Below B w0 w' ∧ Arr w' B 33 [.float .f64 a.r, .float .f64 a.g, .float .f64 a.b] ∧
  Arr w' (B + 1) 33 [.float .f64 b.r, .float .f64 b.g, .float .f64 b.b] ∧ B + 2 ≤ w'.heap.size
theorem FS.next {B : Nat} {w0 w' w'' : World} {a b : Dy} (h2 : Below w'.heap.size w' w'') (h : FS B w0 a b w') : FS B w0 a b w'' := by
  obtain ⟨h1, ha, hb, hs⟩ := h
  exact ⟨h1.trans (h2.mono (by omega)), ha.of_eq (h2.block _ ha.lt), hb.of_eq (h2.block _ hb.lt), Nat.le_trans hs h2.size⟩
theorem FS.drew {B : Nat} {w0 w' : World} {a b : Dy} (h : FS B w0 a b w') : FS B w0 a b w'.drew := by
  obtain ⟨h1, ha, hb, hs⟩ := h
  exact ⟨⟨h1.os, h1.tape, h1.output, h1.size, h1.block⟩, ha, hb, hs⟩
theorem FS.all {B : Nat} {w0 w' : World} {a b : Dy} (h : FS B w0 a b w') : FS B w0 a b w' ∧
    w'.cell? ⟨B, 0, none⟩ = some (.float .f64 a.r) ∧ w'.cell? ⟨B, 1, none⟩ = some (.float .f64 a.g) ∧ w'.cell? ⟨B, 2, none⟩ = some (.float .f64 a.b) ∧
    w'.cell? ⟨B + 1, 0, none⟩ = some (.float .f64 b.r) ∧ w'.cell? ⟨B + 1, 1, none⟩ = some (.float .f64 b.g) ∧ w'.cell? ⟨B + 1, 2, none⟩ = some (.float .f64 b.b) :=
  ⟨h, h.2.1.cell (k := 0) rfl, h.2.1.cell (k := 1) rfl, h.2.1.cell (k := 2) rfl, h.2.2.1.cell (k := 0) rfl, h.2.2.1.cell (k := 1) rfl, h.2.2.1.cell (k := 2) rfl⟩

def farSum (y1 s n : Nat) : Nat → Nat
  | 0 => 0
  | 1 => y1
  | 2 => s
  | _ => n

set_option maxHeartbeats 2000000 in
theorem far_is {a b : Dy} {n : Nat} (h : FarIs a b n) (w : World) : Calls Try.prog 21 #[a.val, b.val] w fun e w' => e = .returned (.float .f64 n) ∧ Below w.heap.size w w' := by
  obtain ⟨x1, x2, x3, y1, y2, y3, s, a1, a2, a3, a4, a5, a6, a7, a8, a9⟩ := h
  have b1 := fun w => run_fsub a1 w
  have b2 := fun w => run_fsub a2 w
  have b3 := fun w => run_fsub a3 w
  have b4 := fun w => run_fmul a4 w
  have b5 := fun w => run_fmul a5 w
  have b6 := fun w => run_fmul a6 w
  have b7 := fun w => run_fadd a7 w
  have b8 := fun w => run_fadd a8 w
  have b9 := fun w => run_fadd a9 w
  clear a1 a2 a3 a4 a5 a6 a7 a8 a9
  have HB0 := Lib.hid (fun o o' => ((Below.refl w.heap.size w).alloc (Nat.le_refl _) o).alloc (by simp) o')
  have HR0 := Lib.hid (fun o' => (Arr.new w #[.float .f64 a.r, .float .f64 a.g, .float .f64 a.b] 33).alloc o')
  have HR1 := Lib.hid (fun o => Arr.new (w.alloc o) #[.float .f64 b.r, .float .f64 b.g, .float .f64 b.b] 33)
  unfold Dy.val
  go_enter Try.func21, Try.ntmps21
  go_wp2_with (go_at_call 20; refine (parts_any _).mono ?_; rintro e w1 ⟨rfl, hb1⟩)
  have hba : Below w.heap.size w w1 := (HB0.out _ _).trans (hb1.mono (by simp; omega))
  have hra : Arr w1 w.heap.size 33 [.float .f64 a.r, .float .f64 a.g, .float .f64 a.b] := (HR0.out _).of_eq (hb1.block _ (by simp; omega))
  have hrb : Arr w1 (w.heap.size + 1) 33 [.float .f64 b.r, .float .f64 b.g, .float .f64 b.b] := by
    have h1 := HR1.out (.cells #[.float .f64 a.r, .float .f64 a.g, .float .f64 a.b] 33)
    simp only [World.size_alloc] at h1
    exact h1.of_eq (hb1.block _ (by simp))
  have hsa : w.heap.size + 2 ≤ w1.heap.size := by have := hb1.size; simp at this; omega
  clear hb1
  go_loopg [5, 10] 3 (fun g sum ctr w2 => ∃ j : Nat, j ≤ 3 ∧ g = 3 - j ∧ sum = .float .f64 (farSum y1 s n j) ∧ ctr = .int .i64 j ∧ FS w.heap.size w a b w2)
  case atStart => exact ⟨0, by omega, rfl, rfl, rfl, hba, hra, hrb, hsa⟩
  case round =>
    clear hba hra hrb hsa
    obtain ⟨j, hj, rfl, rfl, rfl, hf⟩ := hrel
    have hj4 : j = 0 ∨ j = 1 ∨ j = 2 ∨ j = 3 := by omega
    clear hj
    rcases hj4 with rfl | rfl | rfl | rfl
    · have ai := pi0
      have hs : farSum y1 s n 0 = 0 := rfl
      rw [hs]
      go_wp2_with fail
      go_region_held3 (fun w' => FS w.heap.size w a b w' ∧
          w'.cell? ⟨w.heap.size, 0, none⟩ = some (.float .f64 a.r) ∧ w'.cell? ⟨w.heap.size, 1, none⟩ = some (.float .f64 a.g) ∧ w'.cell? ⟨w.heap.size, 2, none⟩ = some (.float .f64 a.b) ∧
          w'.cell? ⟨w.heap.size + 1, 0, none⟩ = some (.float .f64 b.r) ∧ w'.cell? ⟨w.heap.size + 1, 1, none⟩ = some (.float .f64 b.g) ∧ w'.cell? ⟨w.heap.size + 1, 2, none⟩ = some (.float .f64 b.b))
        ((refine FS.all ?_; first | assumption | exact FS.drew (by assumption)))
        (first
          | (go_at_call 25; refine (part1 a _).mono ?_; rintro e w3 ⟨rfl, hb3⟩; have hf3 := FS.next hb3 (by first | assumption | exact FS.drew (by assumption) | (apply And.left; assumption)))
          | (go_at_call 25; refine (part1 b _).mono ?_; rintro e w4 ⟨rfl, hb4⟩; have hf4 := FS.next hb4 (by first | assumption | exact FS.drew (by assumption) | (apply And.left; assumption))))
      all_goals
        go_wp2_with fail
        go_roundg (3 - 1)
        case measure => decide
        case rel => exact ⟨1, by omega, rfl, rfl, rfl, by assumption⟩
    · have ai := pi1
      have hs : farSum y1 s n 1 = y1 := rfl
      rw [hs]
      go_wp2_with fail
      go_region_held3 (fun w' => FS w.heap.size w a b w' ∧
          w'.cell? ⟨w.heap.size, 0, none⟩ = some (.float .f64 a.r) ∧ w'.cell? ⟨w.heap.size, 1, none⟩ = some (.float .f64 a.g) ∧ w'.cell? ⟨w.heap.size, 2, none⟩ = some (.float .f64 a.b) ∧
          w'.cell? ⟨w.heap.size + 1, 0, none⟩ = some (.float .f64 b.r) ∧ w'.cell? ⟨w.heap.size + 1, 1, none⟩ = some (.float .f64 b.g) ∧ w'.cell? ⟨w.heap.size + 1, 2, none⟩ = some (.float .f64 b.b))
        ((refine FS.all ?_; first | assumption | exact FS.drew (by assumption)))
        (first
          | (go_at_call 26; refine (part2 a _).mono ?_; rintro e w3 ⟨rfl, hb3⟩; have hf3 := FS.next hb3 (by first | assumption | exact FS.drew (by assumption) | (apply And.left; assumption)))
          | (go_at_call 26; refine (part2 b _).mono ?_; rintro e w4 ⟨rfl, hb4⟩; have hf4 := FS.next hb4 (by first | assumption | exact FS.drew (by assumption) | (apply And.left; assumption))))
      all_goals
        go_wp2_with fail
        go_roundg (3 - 2)
        case measure => decide
        case rel => exact ⟨2, by omega, rfl, rfl, rfl, by assumption⟩
    · have ai := pi2
      have hs : farSum y1 s n 2 = s := rfl
      rw [hs]
      go_wp2_with fail
      go_region_held3 (fun w' => FS w.heap.size w a b w' ∧
          w'.cell? ⟨w.heap.size, 0, none⟩ = some (.float .f64 a.r) ∧ w'.cell? ⟨w.heap.size, 1, none⟩ = some (.float .f64 a.g) ∧ w'.cell? ⟨w.heap.size, 2, none⟩ = some (.float .f64 a.b) ∧
          w'.cell? ⟨w.heap.size + 1, 0, none⟩ = some (.float .f64 b.r) ∧ w'.cell? ⟨w.heap.size + 1, 1, none⟩ = some (.float .f64 b.g) ∧ w'.cell? ⟨w.heap.size + 1, 2, none⟩ = some (.float .f64 b.b))
        ((refine FS.all ?_; first | assumption | exact FS.drew (by assumption)))
        (first
          | (go_at_call 27; refine (part3 a _).mono ?_; rintro e w3 ⟨rfl, hb3⟩; have hf3 := FS.next hb3 (by first | assumption | exact FS.drew (by assumption) | (apply And.left; assumption)))
          | (go_at_call 27; refine (part3 b _).mono ?_; rintro e w4 ⟨rfl, hb4⟩; have hf4 := FS.next hb4 (by first | assumption | exact FS.drew (by assumption) | (apply And.left; assumption))))
      all_goals
        go_wp2_with fail
        go_roundg (3 - 3)
        case measure => decide
        case rel => exact ⟨3, by omega, rfl, rfl, rfl, by assumption⟩
    · go_wp2_with fail
      go_ret
      exact ⟨rfl, hf.1⟩
end Go.Proofs.Ytmjhhaejiabkdaa
