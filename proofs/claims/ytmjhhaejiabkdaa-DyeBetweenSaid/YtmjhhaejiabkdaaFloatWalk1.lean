/- Chapter 15: walks of the small functions on dyes. -/
import Derived.Test.YtmjhhaejiabkdaaLib
import Derived.Deep.QuietTactic
import Derived.BigQuiet
import Derived.Laws.EntriesVeiled
import Derived.Deep.LoopGhost
import Derived.Deep.DeepCutAuto
namespace Go.Proofs.Ytmjhhaejiabkdaa
open Go.RowKit
set_option linter.unusedVariables false

theorem run_put_float (P : Program) (w : World) (a : Addr) (m : Mode) (k : FloatKind) (b : Nat) : (store a (.float k b) m).run P w = stored P w a (.float k b) m := run_store P w a _ m rfl
attribute [local go_sem] run_put_float

def gteB (x y : Nat) : Bool := FloatKind.f64.format.order x y == some .gt || FloatKind.f64.format.order x y == some .eq
def leqB (x y : Nat) : Bool := FloatKind.f64.format.order x y == some .lt || FloatKind.f64.format.order x y == some .eq
def ltB (x y : Nat) : Bool := FloatKind.f64.format.order x y == some .lt
def unitB (x : Nat) : Bool := gteB x 0 && leqB x 4607182418800017408
/-- a dye: its three parts, as words -/
structure Dy where
  r : Nat
  g : Nat
  b : Nat
def Dy.fair (d : Dy) : Bool := unitB d.r && unitB d.g && unitB d.b
def Dy.val (d : Dy) : Value := .agg #[.float .f64 d.r, .float .f64 d.g, .float .f64 d.b]
def partsV : Value := .agg #[.func (.func 25) #[] #[], .func (.func 26) #[] #[], .func (.func 27) #[] #[]]

set_option maxHeartbeats 400000 in
theorem unit_any (x : Nat) (w : World) : Calls Try.prog 28 #[.float .f64 x] w fun e w' => e = .returned (.bool (unitB x)) ∧ w = w' := by
  have HU : Hid (unitB x = (gteB x 0 && leqB x 4607182418800017408)) := rfl
  cases h1 : gteB x 0 with
  | false =>
    have HH : Hid (unitB x = false) := by show _ = _; rw [HU.out, h1]; rfl
    have h1' : (FloatKind.f64.format.order x 0 == some .gt || FloatKind.f64.format.order x 0 == some .eq) = false := h1
    clear h1
    go_enter Try.func28, Try.ntmps28
    go_wp2
    go_ret
    exact ⟨ret_bool HH.out.symm, rfl⟩
  | true =>
    have HH : Hid (unitB x = leqB x 4607182418800017408) := by show _ = _; rw [HU.out, h1]; rfl
    have h1' : (FloatKind.f64.format.order x 0 == some .gt || FloatKind.f64.format.order x 0 == some .eq) = true := h1
    clear h1
    go_enter Try.func28, Try.ntmps28
    go_wp2
    go_ret
    exact ⟨ret_bool HH.out.symm, rfl⟩

set_option maxHeartbeats 400000 in
theorem parts_any (w : World) : Calls Try.prog 20 #[] w fun e w' => e = .returned partsV ∧ Below w.heap.size w w' := by
  go_enter Try.func20, Try.ntmps20
  go_wp2
  refine bodyPost_ret (v := partsV) (by simp [results, Try.results20, go_sem, partsV]) rfl ⟨rfl, (Below.refl _ _).alloc (Nat.le_refl _) _⟩

set_option maxHeartbeats 400000 in
theorem part1 (d : Dy) (w : World) : Calls Try.prog 25 #[d.val] w fun e w' => e = .returned (.float .f64 d.r) ∧ Below w.heap.size w w' := by
  unfold Dy.val
  go_enter Try.func25, Try.ntmps25
  go_wp2
  go_ret
  exact ⟨rfl, (Below.refl _ _).alloc (Nat.le_refl _) _⟩
set_option maxHeartbeats 400000 in
theorem part2 (d : Dy) (w : World) : Calls Try.prog 26 #[d.val] w fun e w' => e = .returned (.float .f64 d.g) ∧ Below w.heap.size w w' := by
  unfold Dy.val
  go_enter Try.func26, Try.ntmps26
  go_wp2
  go_ret
  exact ⟨rfl, (Below.refl _ _).alloc (Nat.le_refl _) _⟩
set_option maxHeartbeats 400000 in
theorem part3 (d : Dy) (w : World) : Calls Try.prog 27 #[d.val] w fun e w' => e = .returned (.float .f64 d.b) ∧ Below w.heap.size w w' := by
  unfold Dy.val
  go_enter Try.func27, Try.ntmps27
  go_wp2
  go_ret
  exact ⟨rfl, (Below.refl _ _).alloc (Nat.le_refl _) _⟩

theorem pi0 (w : World) : (Instr.index 52 partsV (.int .i64 0)).run Try.prog w = .ok (.func (.func 25) #[] #[]) w := by kernel_rfl
theorem pi1 (w : World) : (Instr.index 52 partsV (.int .i64 1)).run Try.prog w = .ok (.func (.func 26) #[] #[]) w := by kernel_rfl
theorem pi2 (w : World) : (Instr.index 52 partsV (.int .i64 2)).run Try.prog w = .ok (.func (.func 27) #[] #[]) w := by kernel_rfl
theorem unit_true {x : Nat} (h : unitB x = true) : (FloatKind.f64.format.order x 0 == some .gt || FloatKind.f64.format.order x 0 == some .eq) = true ∧
    (FloatKind.f64.format.order x 4607182418800017408 == some .lt || FloatKind.f64.format.order x 4607182418800017408 == some .eq) = true := by
  simpa [unitB, gteB, leqB] using h
theorem unit_false {x : Nat} (h : unitB x = false) : (FloatKind.f64.format.order x 0 == some .gt || FloatKind.f64.format.order x 0 == some .eq) = false ∨
    ((FloatKind.f64.format.order x 0 == some .gt || FloatKind.f64.format.order x 0 == some .eq) = true ∧
      (FloatKind.f64.format.order x 4607182418800017408 == some .lt || FloatKind.f64.format.order x 4607182418800017408 == some .eq) = false) := by
  have e : unitB x = ((FloatKind.f64.format.order x 0 == some .gt || FloatKind.f64.format.order x 0 == some .eq) && (FloatKind.f64.format.order x 4607182418800017408 == some .lt || FloatKind.f64.format.order x 4607182418800017408 == some .eq)) := rfl
  rw [e] at h
  cases h1 : (FloatKind.f64.format.order x 0 == some .gt || FloatKind.f64.format.order x 0 == some .eq)
  · exact .inl rfl
  · rw [h1] at h; exact .inr ⟨rfl, h⟩

set_option maxHeartbeats 1000000 in
theorem fair_any (d : Dy) (w : World) : Calls Try.prog 19 #[d.val] w fun e w' => e = .returned (.bool d.fair) ∧ Below w.heap.size w w' := by
  unfold Dy.val
  have hb0 : ∀ o, Below w.heap.size w (w.alloc o) := fun o => (Below.refl _ _).alloc (Nat.le_refl _) _
  have hr0 := Arr.new w #[.float .f64 d.r, .float .f64 d.g, .float .f64 d.b] 33
  have HB0 := Lib.hid hb0
  have HR0 := Lib.hid hr0
  clear hb0 hr0
  go_enter Try.func19, Try.ntmps19
  go_wp2_with (go_at_call 20; refine (parts_any _).mono ?_; rintro e w1 ⟨rfl, hb1⟩)
  have hba : Below w.heap.size w w1 := (HB0.out _).trans (hb1.mono (by simp))
  have hra : Arr w1 w.heap.size 33 [.float .f64 d.r, .float .f64 d.g, .float .f64 d.b] := HR0.out.of_eq (hb1.block _ (by simp))
  have hsa : w.heap.size ≤ w1.heap.size := hba.size
  clear hb1
  go_loopg [7] 3 (fun g ctr w2 => ∃ j : Nat, j ≤ 3 ∧ g = 3 - j ∧ ctr = .int .i64 j ∧ Below w.heap.size w w2 ∧ Arr w2 w.heap.size 33 [.float .f64 d.r, .float .f64 d.g, .float .f64 d.b] ∧
    w.heap.size ≤ w2.heap.size ∧ (0 < j → unitB d.r = true) ∧ (1 < j → unitB d.g = true) ∧ (2 < j → unitB d.b = true))
  case atStart => exact ⟨0, by omega, rfl, rfl, hba, hra, hsa, fun h => absurd h (by omega), fun h => absurd h (by omega), fun h => absurd h (by omega)⟩
  case round =>
    clear hba hra hsa
    obtain ⟨j, hj, rfl, rfl, hb2, harr, hsz, u1, u2, u3⟩ := hrel
    have hj4 : j = 0 ∨ j = 1 ∨ j = 2 ∨ j = 3 := by omega
    have U1 := Lib.hid u1
    have U2 := Lib.hid u2
    have U3 := Lib.hid u3
    have c0 := harr.cell (k := 0) rfl
    have c1 := harr.cell (k := 1) rfl
    have c2 := harr.cell (k := 2) rfl
    clear hj u1 u2 u3
    rcases hj4 with rfl | rfl | rfl | rfl
    · have ai := pi0
      cases hu : unitB d.r with
      | true =>
        obtain ⟨g1, g2⟩ := unit_true hu
        go_wp2_with (go_at_call 25; refine (part1 d _).mono ?_; rintro e w3 ⟨rfl, hb3⟩)
        go_roundg (3 - 1)
        case measure => decide
        case rel => exact ⟨1, by omega, rfl, rfl, hb2.trans (hb3.mono hsz), harr.of_eq (hb3.block _ harr.lt), Nat.le_trans hsz hb3.size, by exact ⟨fun _ => hu, fun h => absurd h (by omega), fun h => absurd h (by omega)⟩⟩
      | false =>
        have HF : Hid (d.fair = false) := by show _ = _; simp [Dy.fair, hu]
        rcases unit_false hu with g1 | ⟨g1, g2⟩
        all_goals
          go_wp2_with (go_at_call 25; refine (part1 d _).mono ?_; rintro e w3 ⟨rfl, hb3⟩)
          go_ret
          exact ⟨ret_bool HF.out.symm, hb2.trans (hb3.mono hsz)⟩
    · have ai := pi1
      cases hu : unitB d.g with
      | true =>
        obtain ⟨g1, g2⟩ := unit_true hu
        go_wp2_with (go_at_call 26; refine (part2 d _).mono ?_; rintro e w3 ⟨rfl, hb3⟩)
        go_roundg (3 - 2)
        case measure => decide
        case rel => exact ⟨2, by omega, rfl, rfl, hb2.trans (hb3.mono hsz), harr.of_eq (hb3.block _ harr.lt), Nat.le_trans hsz hb3.size, by exact ⟨fun _ => U1.out (by omega), fun _ => hu, fun h => absurd h (by omega)⟩⟩
      | false =>
        have HF : Hid (d.fair = false) := by show _ = _; simp [Dy.fair, hu]
        rcases unit_false hu with g1 | ⟨g1, g2⟩
        all_goals
          go_wp2_with (go_at_call 26; refine (part2 d _).mono ?_; rintro e w3 ⟨rfl, hb3⟩)
          go_ret
          exact ⟨ret_bool HF.out.symm, hb2.trans (hb3.mono hsz)⟩
    · have ai := pi2
      cases hu : unitB d.b with
      | true =>
        obtain ⟨g1, g2⟩ := unit_true hu
        go_wp2_with (go_at_call 27; refine (part3 d _).mono ?_; rintro e w3 ⟨rfl, hb3⟩)
        go_roundg (3 - 3)
        case measure => decide
        case rel => exact ⟨3, by omega, rfl, rfl, hb2.trans (hb3.mono hsz), harr.of_eq (hb3.block _ harr.lt), Nat.le_trans hsz hb3.size, by exact ⟨fun _ => U1.out (by omega), fun _ => U2.out (by omega), fun _ => hu⟩⟩
      | false =>
        have HF : Hid (d.fair = false) := by show _ = _; simp [Dy.fair, hu]
        rcases unit_false hu with g1 | ⟨g1, g2⟩
        all_goals
          go_wp2_with (go_at_call 27; refine (part3 d _).mono ?_; rintro e w3 ⟨rfl, hb3⟩)
          go_ret
          exact ⟨ret_bool HF.out.symm, hb2.trans (hb3.mono hsz)⟩
    · have HF : Hid (d.fair = true) := by show _ = _; simp [Dy.fair, U1.out (by omega), U2.out (by omega), U3.out (by omega)]
      go_wp2_with fail
      go_ret
      exact ⟨ret_bool HF.out.symm, hb2⟩
end Go.Proofs.Ytmjhhaejiabkdaa
