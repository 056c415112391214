/- Chapter 15: Mix, the program's own. -/
import Derived.Test.YtmjhhaejiabkdaaMixWalk1
namespace Go.Proofs.Ytmjhhaejiabkdaa
open Go.RowKit Go.Proofs.Ytmjhhaejiabkdaa.Fl
set_option linter.unusedVariables false
attribute [local go_sem] run_put_float

set_option maxRecDepth 100000 in
set_option maxHeartbeats 1000000 in
theorem Mix_many {S : Nat → Prop} {v : Value} {xs : List Dr} (w : World) (hv : Drops w S v xs) (h : xs.length = 0 ∨ 64 < xs.length) :
    Calls Try.prog 11 #[v] w fun e w' => e = .returned (.tuple #[.agg #[.float .f64 0, .float .f64 0, .float .f64 0], .int .i64 5]) ∧ Below w.heap.size w w' := by
  obtain ⟨A, c, rfl, h1, h2, hr⟩ := hv
  unfold maxLen at h2
  clear hr
  rcases h with h | h
  · have hz : ((xs.length : Int) == 0) = true := by rw [h]; rfl
    clear h
    go_enter Try.func11, Try.ntmps11
    go_wp2_with fail
    refine bodyPost_ret (v := .tuple #[.agg #[.float .f64 0, .float .f64 0, .float .f64 0], .int .i64 5]) (by simp [results, Try.results11, go_sem]) rfl ⟨rfl, (Below.refl _ _).alloc (Nat.le_refl _) _⟩
  · have hz : ((xs.length : Int) == 0) = false := by simp; intro h0; rw [h0] at h; simp at h
    go_enter Try.func11, Try.ntmps11
    go_wp2_with fail
    refine bodyPost_ret (v := .tuple #[.agg #[.float .f64 0, .float .f64 0, .float .f64 0], .int .i64 5]) (by simp [results, Try.results11, go_sem]) rfl ⟨rfl, (Below.refl _ _).alloc (Nat.le_refl _) _⟩

set_option maxRecDepth 100000 in
set_option maxHeartbeats 1000000 in
theorem Mix_bad {S : Nat → Prop} {v : Value} {xs : List Dr} (w : World) (hv : Drops w S v xs) (hS : ∀ b, S b → b < w.heap.size) (h1 : 1 ≤ xs.length) (h2 : xs.length ≤ 64) {i : Nat} (hi : i < xs.length) (hbad : xs[i].ok = false) :
    Calls Try.prog 11 #[v] w fun e w' => e = .returned (.tuple #[.agg #[.float .f64 0, .float .f64 0, .float .f64 0], .int .i64 3]) ∧ Below w.heap.size w w' := by
  have HB := Lib.hid hbad
  clear hbad
  have HV := Lib.hid hv
  have hm0 : MS w (w.alloc (.cells #[.float .f64 0, .float .f64 0, .float .f64 0] 33)) := ⟨(Below.refl _ _).alloc (Nat.le_refl _) _, Arr.new w _ 33, by simp⟩
  have HM := Lib.hid hm0
  clear hm0
  obtain ⟨A, c, rfl, h3, h4, hr⟩ := hv
  clear hr
  unfold maxLen at h4
  have hz : ((xs.length : Int) == 0) = false := by simp; intro h0; rw [h0] at h1; simp at h1
  go_enter Try.func11, Try.ntmps11
  go_wp2_with fail
  go_loopg [26] xs.length (fun g ctr w2 => ∃ j : Nat, j ≤ xs.length ∧ g = xs.length - j ∧ ctr = .int .i64 j ∧ j ≤ i ∧ MS w w2)
  case atStart => exact ⟨0, by omega, rfl, rfl, by omega, HM.out⟩
  case round =>
    obtain ⟨j, hj, rfl, rfl, hji, hms⟩ := hrel
    have hjl : j < xs.length := by omega
    obtain ⟨A', c', e', _, _, hr⟩ := HV.out.same ((Same.of_below hms.1).mono hS)
    cases e'
    obtain ⟨b, o, rfl, _, hc⟩ := els_at Dr.cells_len hr (by decide) hjl
    have x0 : wr.cell? ⟨b, o + j * 4, none⟩ = some (.float .f64 xs[j].d.r) := hc 0 _ rfl
    have x1 : wr.cell? ⟨b, o + j * 4 + 1, none⟩ = some (.float .f64 xs[j].d.g) := hc 1 _ rfl
    have x2 : wr.cell? ⟨b, o + j * 4 + 2, none⟩ = some (.float .f64 xs[j].d.b) := hc 2 _ rfl
    have x3 : wr.cell? ⟨b, o + j * 4 + 3, none⟩ = some (.float .f64 xs[j].s) := hc 3 _ rfl
    clear hc hr
    have HX : Hid (j = i → xs[j].ok = false) := fun h => by subst h; exact HB.out
    generalize xs[j] = x at *
    have HMS := Lib.hid hms
    clear hms
    go_wp2_with fail
    have hnew := Arr.new wr #[.float .f64 x.d.r, .float .f64 x.d.g, .float .f64 x.d.b, .float .f64 x.s] 37
    have hal : Below wr.heap.size wr (wr.alloc (.cells #[.float .f64 x.d.r, .float .f64 x.d.g, .float .f64 x.d.b, .float .f64 x.s] 37)) := (Below.refl _ _).alloc (Nat.le_refl _) _
    refine (fair_any x.d _).mono ?_
    rintro e w3 ⟨rfl, hb3⟩
    have hM3 : MS w w3 := HMS.out.next (hal.trans (hb3.mono (by simp)))
    have hA3 := hnew.of_eq (hb3.block _ hnew.lt)
    have e3 := hA3.cell (k := 3) rfl
    have HM3 := Lib.hid hM3
    have r0 := hM3.2.1.cell (k := 0) rfl
    have r1 := hM3.2.1.cell (k := 1) rfl
    have r2 := hM3.2.1.cell (k := 2) rfl
    have z0 := hM3.2.1.free 0
    have z1 := hM3.2.1.free 1
    have z2 := hM3.2.1.free 2
    have q0 := (hM3.2.1.set 0 (.float .f64 0)).cell (k := 0) rfl
    have q1 := ((hM3.2.1.set 0 (.float .f64 0)).set 1 (.float .f64 0)).cell (k := 1) rfl
    have q2 := (((hM3.2.1.set 0 (.float .f64 0)).set 1 (.float .f64 0)).set 2 (.float .f64 0)).cell (k := 2) rfl
    clear hnew hal hb3 hM3 hA3 x0 x1 x2 x3
    rcases x.ok_cases with ⟨ho, hf, hg, hl⟩ | ⟨ho, hf | ⟨hf, hg⟩ | ⟨hf, hg, hl⟩⟩
    · have hji' : j ≠ i := fun h => by have := HX.out h; rw [ho] at this; cases this
      have hg' : (FloatKind.f64.format.order x.s 4517110426252607488 == some .gt || FloatKind.f64.format.order x.s 4517110426252607488 == some .eq) = true := hg
      have hl' : (FloatKind.f64.format.order x.s 4697254411347427328 == some .lt || FloatKind.f64.format.order x.s 4697254411347427328 == some .eq) = true := hl
      clear hg hl ho
      go_wp2_with fail
      go_roundg (xs.length - (j + 1))
      case measure => omega
      case rel => exact ⟨j + 1, by omega, rfl, by go_num, by omega, HM3.out⟩
    · clear ho
      go_wp2_with fail
      refine bodyPost_ret (v := .tuple #[.agg #[.float .f64 0, .float .f64 0, .float .f64 0], .int .i64 3]) (by simp [results, Try.results11, go_sem, q0, q1, q2]) rfl ⟨rfl, ((HM3.out.1.setCell (Nat.le_refl _) _).setCell (Nat.le_refl _) _).setCell (Nat.le_refl _) _⟩
    · clear ho
      have hg' : (FloatKind.f64.format.order x.s 4517110426252607488 == some .gt || FloatKind.f64.format.order x.s 4517110426252607488 == some .eq) = false := hg
      clear hg
      go_wp2_with fail
      refine bodyPost_ret (v := .tuple #[.agg #[.float .f64 0, .float .f64 0, .float .f64 0], .int .i64 3]) (by simp [results, Try.results11, go_sem, q0, q1, q2]) rfl ⟨rfl, ((HM3.out.1.setCell (Nat.le_refl _) _).setCell (Nat.le_refl _) _).setCell (Nat.le_refl _) _⟩
    · clear ho
      have hg' : (FloatKind.f64.format.order x.s 4517110426252607488 == some .gt || FloatKind.f64.format.order x.s 4517110426252607488 == some .eq) = true := hg
      have hl' : (FloatKind.f64.format.order x.s 4697254411347427328 == some .lt || FloatKind.f64.format.order x.s 4697254411347427328 == some .eq) = false := hl
      clear hg hl
      go_wp2_with fail
      refine bodyPost_ret (v := .tuple #[.agg #[.float .f64 0, .float .f64 0, .float .f64 0], .int .i64 3]) (by simp [results, Try.results11, go_sem, q0, q1, q2]) rfl ⟨rfl, ((HM3.out.1.setCell (Nat.le_refl _) _).setCell (Nat.le_refl _) _).setCell (Nat.le_refl _) _⟩
end Go.Proofs.Ytmjhhaejiabkdaa
