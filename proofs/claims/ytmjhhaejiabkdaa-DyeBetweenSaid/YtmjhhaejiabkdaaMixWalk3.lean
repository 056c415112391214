/- Chapter 15: the reference's Mix of drops that may be mixed. -/
import Derived.Test.YtmjhhaejiabkdaaMixPlain
namespace Go.Proofs.Ytmjhhaejiabkdaa
open Go.RowKit Go.Proofs.Ytmjhhaejiabkdaa.Fl
set_option linter.unusedVariables false
attribute [local go_sem] run_put_float

set_option maxRecDepth 100000 in
set_option maxHeartbeats 1000000 in
theorem refMix_ok {S : Nat → Prop} {v : Value} {xs : List Dr} (w : World) (hv : Drops w S v xs) (hS : ∀ b, S b → b < w.heap.size) (h1 : 1 ≤ xs.length) (h2 : xs.length ≤ 64) (hok : ∀ i (h : i < xs.length), xs[i].ok = true) {d : Dy} (hm : MixIs xs d) :
    Calls Try.prog 14 #[v] w fun e w' => e = .returned (.tuple #[d.val, .int .i64 0]) ∧ Below w.heap.size w w' := by
  have HB := Lib.hid hok
  clear hok
  have HMX := Lib.hid hm
  clear hm
  have HV := Lib.hid hv
  have hm0 : MS w (w.alloc (.cells #[.float .f64 0, .float .f64 0, .float .f64 0] 33)) := ⟨(Below.refl _ _).alloc (Nat.le_refl _) _, Arr.new w _ 33, by simp⟩
  have HM := Lib.hid hm0
  clear hm0
  obtain ⟨A, c, rfl, h3, h4, hr⟩ := hv
  clear hr
  unfold maxLen at h4
  go_enter Try.func14, Try.ntmps14
  go_wp2_with fail
  go_loopg [26] xs.length (fun g ctr w2 => ∃ j : Nat, j ≤ xs.length ∧ g = xs.length - j ∧ ctr = .int .i64 j ∧ MS w w2)
  case atStart => exact ⟨0, by omega, rfl, rfl, HM.out⟩
  case round =>
    obtain ⟨j, hj, rfl, rfl, hms⟩ := hrel
    by_cases hjl : j < xs.length
    case neg =>
      obtain rfl : j = xs.length := by omega
      go_wp2_with fail
      clear hj hjl
      go_loopg [6, 7, 8, 9, 47] xs.length (fun g sr sg sb sa ctr w2 => ∃ k : Nat, k ≤ xs.length ∧ g = xs.length - k ∧ sr = .float .f64 (accAt Dy.r xs k) ∧ sg = .float .f64 (accAt Dy.g xs k) ∧ sb = .float .f64 (accAt Dy.b xs k) ∧
        sa = .float .f64 (allAt xs k) ∧ ctr = .int .i64 k ∧ MS w w2)
      case atStart => exact ⟨0, by omega, rfl, rfl, rfl, rfl, rfl, rfl, hms⟩
      case round =>
        clear hms
        obtain ⟨k, hk, rfl, rfl, rfl, rfl, rfl, rfl, hms⟩ := hrel
        by_cases hkl : k < xs.length
        case neg =>
          obtain rfl : k = xs.length := by omega
          have v1 := fun w => run_fquo HMX.out.qr w
          have v2 := fun w => run_fquo HMX.out.qg w
          have v3 := fun w => run_fquo HMX.out.qb w
          have z0 := hms.2.1.free 0
          have z1 := hms.2.1.free 1
          have z2 := hms.2.1.free 2
          have r0 := hms.2.1.cell (k := 0) rfl
          have r1 := hms.2.1.cell (k := 1) rfl
          have r2 := hms.2.1.cell (k := 2) rfl
          have q0 := (hms.2.1.set 0 (.float .f64 d.r)).cell (k := 0) rfl
          have q1 := ((hms.2.1.set 0 (.float .f64 d.r)).set 1 (.float .f64 d.g)).cell (k := 1) rfl
          have q2 := (((hms.2.1.set 0 (.float .f64 d.r)).set 1 (.float .f64 d.g)).set 2 (.float .f64 d.b)).cell (k := 2) rfl
          go_wp2_with fail
          refine bodyPost_ret (v := .tuple #[d.val, .int .i64 0]) (by simp [results, Try.results14, go_sem, q0, q1, q2, Dy.val]) rfl ⟨rfl, ((hms.1.setCell (Nat.le_refl _) _).setCell (Nat.le_refl _) _).setCell (Nat.le_refl _) _⟩
        obtain ⟨A', c', e', _, _, hr⟩ := HV.out.same ((Same.of_below hms.1).mono hS)
        cases e'
        obtain ⟨b, o, rfl, _, hc⟩ := els_at Dr.cells_len hr (by decide) hkl
        have x0 : wr.cell? ⟨b, o + k * 4, none⟩ = some (.float .f64 xs[k].d.r) := hc 0 _ rfl
        have x1 : wr.cell? ⟨b, o + k * 4 + 1, none⟩ = some (.float .f64 xs[k].d.g) := hc 1 _ rfl
        have x2 : wr.cell? ⟨b, o + k * 4 + 2, none⟩ = some (.float .f64 xs[k].d.b) := hc 2 _ rfl
        have x3 : wr.cell? ⟨b, o + k * 4 + 3, none⟩ = some (.float .f64 xs[k].s) := hc 3 _ rfl
        clear hc hr
        have p1 := fun w => run_fmul (HMX.out.r k hkl).1 w
        have p2 := fun w => run_fmul (HMX.out.g k hkl).1 w
        have p3 := fun w => run_fmul (HMX.out.b k hkl).1 w
        have s1 := fun w => run_fadd (HMX.out.r k hkl).2 w
        have s2 := fun w => run_fadd (HMX.out.g k hkl).2 w
        have s3 := fun w => run_fadd (HMX.out.b k hkl).2 w
        have s4 := fun w => run_fadd (HMX.out.all k hkl) w
        have HMS := Lib.hid (hms.next ((Below.refl _ _).alloc (Nat.le_refl _) (.cells #[.float .f64 xs[k].d.r, .float .f64 xs[k].d.g, .float .f64 xs[k].d.b, .float .f64 xs[k].s] 37)))
        clear hms
        generalize xs[k] = x at *
        go_wp2_with (go_quiet (fail))
        go_roundg (xs.length - (k + 1))
        case measure => omega
        case rel => exact ⟨k + 1, by omega, rfl, rfl, rfl, rfl, rfl, by go_num, ⟨below_dN HMS.out.1, HMS.out.2.1, HMS.out.2.2⟩⟩
    obtain ⟨A', c', e', _, _, hr⟩ := HV.out.same ((Same.of_below hms.1).mono hS)
    cases e'
    obtain ⟨b, o, rfl, _, hc⟩ := els_at Dr.cells_len hr (by decide) hjl
    have x0 : wr.cell? ⟨b, o + j * 4, none⟩ = some (.float .f64 xs[j].d.r) := hc 0 _ rfl
    have x1 : wr.cell? ⟨b, o + j * 4 + 1, none⟩ = some (.float .f64 xs[j].d.g) := hc 1 _ rfl
    have x2 : wr.cell? ⟨b, o + j * 4 + 2, none⟩ = some (.float .f64 xs[j].d.b) := hc 2 _ rfl
    have x3 : wr.cell? ⟨b, o + j * 4 + 3, none⟩ = some (.float .f64 xs[j].s) := hc 3 _ rfl
    clear hc hr
    have HX : Hid (xs[j].ok = true) := HB.out j hjl
    generalize xs[j] = x at *
    have HMS := Lib.hid hms
    clear hms
    go_wp2_with fail
    have hnew := Arr.new wr #[.float .f64 x.d.r, .float .f64 x.d.g, .float .f64 x.d.b, .float .f64 x.s] 37
    have hal : Below wr.heap.size wr (wr.alloc (.cells #[.float .f64 x.d.r, .float .f64 x.d.g, .float .f64 x.d.b, .float .f64 x.s] 37)) := (Below.refl _ _).alloc (Nat.le_refl _) _
    refine (Fair_any x.d _).mono ?_
    rintro e w3 ⟨rfl, hb3⟩
    have hM3 : MS w w3 := HMS.out.next (hal.trans (hb3.mono (by simp)))
    have hA3 := hnew.of_eq (hb3.block _ hnew.lt)
    have e3 := hA3.cell (k := 3) rfl
    have HM3 := Lib.hid hM3
    have r0 := hM3.2.1.cell (k := 0) rfl
    have r1 := hM3.2.1.cell (k := 1) rfl
    have r2 := hM3.2.1.cell (k := 2) rfl
    have z0 := hM3.2.1.free 0
    have z1 := hM3.2.1.free 1
    have z2 := hM3.2.1.free 2
    have q0 := (hM3.2.1.set 0 (.float .f64 0)).cell (k := 0) rfl
    have q1 := ((hM3.2.1.set 0 (.float .f64 0)).set 1 (.float .f64 0)).cell (k := 1) rfl
    have q2 := (((hM3.2.1.set 0 (.float .f64 0)).set 1 (.float .f64 0)).set 2 (.float .f64 0)).cell (k := 2) rfl
    clear hnew hal hb3 hM3 hA3 x0 x1 x2 x3
    obtain ⟨ho, hf, hg, hl⟩ | ⟨ho, _⟩ := x.ok_cases
    · have hg' : (FloatKind.f64.format.order x.s 4517110426252607488 == some .gt || FloatKind.f64.format.order x.s 4517110426252607488 == some .eq) = true := hg
      have hl' : (FloatKind.f64.format.order x.s 4697254411347427328 == some .lt || FloatKind.f64.format.order x.s 4697254411347427328 == some .eq) = true := hl
      clear hg hl ho
      go_wp2_with fail
      go_roundg (xs.length - (j + 1))
      case measure => omega
      case rel => exact ⟨j + 1, by omega, rfl, by go_num, HM3.out⟩
    · exact absurd HX.out (by rw [ho]; decide)
end Go.Proofs.Ytmjhhaejiabkdaa
