/- Chapter 15: the program's Mix of drops that may be mixed. -/
import Derived.Test.YtmjhhaejiabkdaaMixWalk2
import Derived.Test.YtmjhhaejiabkdaaMixPlain
namespace Go.Proofs.Ytmjhhaejiabkdaa
open Go.RowKit Go.Proofs.Ytmjhhaejiabkdaa.Fl
set_option linter.unusedVariables false
attribute [local go_sem] run_put_float

/-- what stands in the third loop: the array of the three, at O -/
def MT (w0 : World) (O : Nat) (os : List Value) (w' : World) : Prop := MS w0 w' ∧ Arr w' O 49 os ∧ w0.heap.size + 1 ≤ O
theorem MT.next {w0 w' w'' : World} {O : Nat} {os : List Value} (h : MT w0 O os w') (h2 : Below w'.heap.size w' w'') : MT w0 O os w'' :=
  ⟨h.1.next h2, h.2.1.of_eq (h2.block _ h.2.1.lt), h.2.2⟩
theorem MT.drew {w0 w' : World} {O : Nat} {os : List Value} (h : MT w0 O os w') : MT w0 O os w'.drew := by
  obtain ⟨⟨h1, ha, hs⟩, hb, hO⟩ := h
  exact ⟨⟨⟨h1.os, h1.tape, h1.output, h1.size, h1.block⟩, ha, hs⟩, hb, hO⟩
theorem MT.set {w0 w' : World} {O : Nat} {os : List Value} (h : MT w0 O os w') (k : Nat) (u : Value) : MT w0 O (os.set k u) (w'.setCell ⟨O, k, none⟩ u) := by
  obtain ⟨⟨h1, ha, hs⟩, hb, hO⟩ := h
  refine ⟨⟨h1.setCell (by show _ ≤ O; omega) _, ha.of_eq ?_, by simpa using hs⟩, hb.set k u, hO⟩
  exact Below.heap_setCell _ _ _ _ (by show _ ≠ O; omega)
/-- and the drop that is read, at X -/
def MX (w0 : World) (O : Nat) (os : List Value) (X : Nat) (x : Dr) (w' : World) : Prop := MT w0 O os w' ∧ Arr w' X 37 [.float .f64 x.d.r, .float .f64 x.d.g, .float .f64 x.d.b, .float .f64 x.s]
theorem MX.next {w0 w' w'' : World} {O X : Nat} {os : List Value} {x : Dr} (h2 : Below w'.heap.size w' w'') (h : MX w0 O os X x w') : MX w0 O os X x w'' :=
  ⟨h.1.next h2, h.2.of_eq (h2.block _ h.2.lt)⟩
theorem MX.drew {w0 w' : World} {O X : Nat} {os : List Value} {x : Dr} (h : MX w0 O os X x w') : MX w0 O os X x w'.drew := ⟨h.1.drew, h.2⟩
theorem MX.all {w0 w' : World} {O X : Nat} {os : List Value} {x : Dr} (h : MX w0 O os X x w') : MX w0 O os X x w' ∧ w'.cell? ⟨X, 0, none⟩ = some (.float .f64 x.d.r) ∧
    w'.cell? ⟨X, 1, none⟩ = some (.float .f64 x.d.g) ∧ w'.cell? ⟨X, 2, none⟩ = some (.float .f64 x.d.b) ∧ w'.cell? ⟨X, 3, none⟩ = some (.float .f64 x.s) :=
  ⟨h, h.2.cell (k := 0) rfl, h.2.cell (k := 1) rfl, h.2.cell (k := 2) rfl, h.2.cell (k := 3) rfl⟩

set_option maxRecDepth 100000 in
set_option maxHeartbeats 1000000 in
theorem Mix_ok {S : Nat → Prop} {v : Value} {xs : List Dr} (w : World) (hv : Drops w S v xs) (hS : ∀ b, S b → b < w.heap.size) (h1 : 1 ≤ xs.length) (h2 : xs.length ≤ 64) (hok : ∀ i (h : i < xs.length), xs[i].ok = true) {d : Dy} (hm : MixIs xs d) :
    Calls Try.prog 11 #[v] w fun e w' => e = .returned (.tuple #[d.val, .int .i64 0]) ∧ Below w.heap.size w w' := by
  have HB := Lib.hid hok
  clear hok
  have HMX := Lib.hid hm
  clear hm
  have HV := Lib.hid hv
  have hm0 : MS w (w.alloc (.cells #[.float .f64 0, .float .f64 0, .float .f64 0] 33)) := ⟨(Below.refl _ _).alloc (Nat.le_refl _) _, Arr.new w _ 33, by simp⟩
  have HM := Lib.hid hm0
  clear hm0
  obtain ⟨A, c, rfl, h3, h4, hr⟩ := hv
  clear hr
  unfold maxLen at h4
  have hz : ((xs.length : Int) == 0) = false := by simp; intro h0; rw [h0] at h1; simp at h1
  go_enter Try.func11, Try.ntmps11
  go_wp2_with fail
  go_loopg [26] xs.length (fun g ctr w2 => ∃ j : Nat, j ≤ xs.length ∧ g = xs.length - j ∧ ctr = .int .i64 j ∧ MS w w2)
  case atStart => exact ⟨0, by omega, rfl, rfl, HM.out⟩
  case round =>
    obtain ⟨j, hj, rfl, rfl, hms⟩ := hrel
    by_cases hjl : j < xs.length
    case neg =>
      obtain rfl : j = xs.length := by omega
      go_wp2_with fail
      clear hj hjl
      go_loopg [6, 49] xs.length (fun g sa ctr w2 => ∃ k : Nat, k ≤ xs.length ∧ g = xs.length - k ∧ sa = .float .f64 (allAt xs k) ∧ ctr = .int .i64 k ∧ MS w w2)
      case atStart => exact ⟨0, by omega, rfl, rfl, rfl, hms⟩
      case round =>
        clear hms
        obtain ⟨k, hk, rfl, rfl, rfl, hms⟩ := hrel
        by_cases hkl : k < xs.length
        case neg =>
          obtain rfl : k = xs.length := by omega
          go_wp2_with fail
          obtain ⟨O, hO⟩ : ∃ O, O = wr.heap.size := ⟨_, rfl⟩
          have hal := (Below.refl wr.heap.size wr).alloc (Nat.le_refl _) (.cells #[.float .f64 0, .float .f64 0, .float .f64 0] 49)
          have hT : MT w O [.float .f64 0, .float .f64 0, .float .f64 0] (wr.alloc (.cells #[.float .f64 0, .float .f64 0, .float .f64 0] 49)) := by
            subst hO
            exact ⟨hms.next hal, Arr.new wr _ 49, hms.2.2⟩
          refine (parts_any _).mono ?_
          rintro e w5 ⟨rfl, hb5⟩
          have hT5 := hT.next hb5
          rw [← hO]
          clear hT hal hms hb5 hO
          go_wp2_with fail
          go_loopg [59] 3 (fun g ctr w2 => ∃ j : Nat, j ≤ 3 ∧ g = 3 - j ∧ ctr = .int .i64 j ∧ MT w O (if j = 0 then [.float .f64 0, .float .f64 0, .float .f64 0] else if j = 1 then [.float .f64 d.r, .float .f64 0, .float .f64 0] else if j = 2 then [.float .f64 d.r, .float .f64 d.g, .float .f64 0] else [.float .f64 d.r, .float .f64 d.g, .float .f64 d.b]) w2)
          case atStart => exact ⟨0, by omega, rfl, rfl, hT5⟩
          case round =>
            clear hT5
            obtain ⟨j, hj, rfl, rfl, hmt⟩ := hrel
            have hj4 : j = 0 ∨ j = 1 ∨ j = 2 ∨ j = 3 := by omega
            clear hj
            rcases hj4 with rfl | rfl | rfl | rfl
            · have ai := pi0
              go_wp2_with fail
              go_loopg [12, 65] xs.length (fun g sm ctr w2 => ∃ k : Nat, k ≤ xs.length ∧ g = xs.length - k ∧ sm = .float .f64 (accAt Dy.r xs k) ∧ ctr = .int .i64 k ∧ MT w O [.float .f64 0, .float .f64 0, .float .f64 0] w2)
              case atStart => exact ⟨0, by omega, rfl, rfl, rfl, hmt⟩
              case round =>
                clear hmt
                obtain ⟨k, hk, rfl, rfl, rfl, hmt⟩ := hrel
                by_cases hkl : k < xs.length
                case neg =>
                  obtain rfl : k = xs.length := by omega
                  have v1 := fun w => run_fquo HMX.out.qr w
                  have z0 := hmt.2.1.free 0
                  have y0 := hmt.2.1.cell (k := 0) rfl
                  have HMT := Lib.hid (hmt.set 0 (.float .f64 d.r))
                  clear hmt
                  go_wp2_with fail
                  go_roundg (3 - 1)
                  case measure => decide
                  case rel => exact ⟨1, by omega, rfl, rfl, HMT.out⟩
                obtain ⟨A', c', e', _, _, hr⟩ := HV.out.same ((Same.of_below hmt.1.1).mono hS)
                cases e'
                obtain ⟨b, o, rfl, _, hc⟩ := els_at Dr.cells_len hr (by decide) hkl
                have x0 : wr.cell? ⟨b, o + k * 4, none⟩ = some (.float .f64 xs[k].d.r) := hc 0 _ rfl
                have x1 : wr.cell? ⟨b, o + k * 4 + 1, none⟩ = some (.float .f64 xs[k].d.g) := hc 1 _ rfl
                have x2 : wr.cell? ⟨b, o + k * 4 + 2, none⟩ = some (.float .f64 xs[k].d.b) := hc 2 _ rfl
                have x3 : wr.cell? ⟨b, o + k * 4 + 3, none⟩ = some (.float .f64 xs[k].s) := hc 3 _ rfl
                clear hc hr
                have p1 := fun w => run_fmul (HMX.out.r k hkl).1 w
                have s1 := fun w => run_fadd (HMX.out.r k hkl).2 w
                generalize xs[k] = x at *
                have hal := (Below.refl wr.heap.size wr).alloc (Nat.le_refl _) (.cells #[.float .f64 x.d.r, .float .f64 x.d.g, .float .f64 x.d.b, .float .f64 x.s] 37)
                have hX : MX w O [.float .f64 0, .float .f64 0, .float .f64 0] wr.heap.size x (wr.alloc (.cells #[.float .f64 x.d.r, .float .f64 x.d.g, .float .f64 x.d.b, .float .f64 x.s] 37)) := ⟨hmt.next hal, Arr.new wr _ 37⟩
                clear hmt hal
                go_upto_region 23 with fail
                go_region_held3 (fun w' => MX w O [.float .f64 0, .float .f64 0, .float .f64 0] wr.heap.size x w' ∧ w'.cell? ⟨wr.heap.size, 0, none⟩ = some (.float .f64 x.d.r) ∧
                    w'.cell? ⟨wr.heap.size, 1, none⟩ = some (.float .f64 x.d.g) ∧ w'.cell? ⟨wr.heap.size, 2, none⟩ = some (.float .f64 x.d.b) ∧ w'.cell? ⟨wr.heap.size, 3, none⟩ = some (.float .f64 x.s))
                  ((refine MX.all ?_; first | assumption | exact MX.drew (by assumption)))
                  (first | (go_at_call 25; refine (part1 x.d _).mono ?_; rintro e w3 ⟨rfl, hb3⟩; have hf3 := MX.next hb3 (by first | assumption | exact MX.drew (by assumption) | (apply And.left; assumption))))
                all_goals
                  go_wp2_with fail
                  go_roundg (xs.length - (k + 1))
                  case measure => omega
                  case rel => exact ⟨k + 1, by omega, rfl, rfl, by go_num, hf3.1⟩
            · have ai := pi1
              go_wp2_with fail
              go_loopg [12, 65] xs.length (fun g sm ctr w2 => ∃ k : Nat, k ≤ xs.length ∧ g = xs.length - k ∧ sm = .float .f64 (accAt Dy.g xs k) ∧ ctr = .int .i64 k ∧ MT w O [.float .f64 d.r, .float .f64 0, .float .f64 0] w2)
              case atStart => exact ⟨0, by omega, rfl, rfl, rfl, hmt⟩
              case round =>
                clear hmt
                obtain ⟨k, hk, rfl, rfl, rfl, hmt⟩ := hrel
                by_cases hkl : k < xs.length
                case neg =>
                  obtain rfl : k = xs.length := by omega
                  have v1 := fun w => run_fquo HMX.out.qg w
                  have z0 := hmt.2.1.free 1
                  have y0 := hmt.2.1.cell (k := 1) rfl
                  have HMT := Lib.hid (hmt.set 1 (.float .f64 d.g))
                  clear hmt
                  go_wp2_with fail
                  go_roundg (3 - 2)
                  case measure => decide
                  case rel => exact ⟨2, by omega, rfl, rfl, HMT.out⟩
                obtain ⟨A', c', e', _, _, hr⟩ := HV.out.same ((Same.of_below hmt.1.1).mono hS)
                cases e'
                obtain ⟨b, o, rfl, _, hc⟩ := els_at Dr.cells_len hr (by decide) hkl
                have x0 : wr.cell? ⟨b, o + k * 4, none⟩ = some (.float .f64 xs[k].d.r) := hc 0 _ rfl
                have x1 : wr.cell? ⟨b, o + k * 4 + 1, none⟩ = some (.float .f64 xs[k].d.g) := hc 1 _ rfl
                have x2 : wr.cell? ⟨b, o + k * 4 + 2, none⟩ = some (.float .f64 xs[k].d.b) := hc 2 _ rfl
                have x3 : wr.cell? ⟨b, o + k * 4 + 3, none⟩ = some (.float .f64 xs[k].s) := hc 3 _ rfl
                clear hc hr
                have p1 := fun w => run_fmul (HMX.out.g k hkl).1 w
                have s1 := fun w => run_fadd (HMX.out.g k hkl).2 w
                generalize xs[k] = x at *
                have hal := (Below.refl wr.heap.size wr).alloc (Nat.le_refl _) (.cells #[.float .f64 x.d.r, .float .f64 x.d.g, .float .f64 x.d.b, .float .f64 x.s] 37)
                have hX : MX w O [.float .f64 d.r, .float .f64 0, .float .f64 0] wr.heap.size x (wr.alloc (.cells #[.float .f64 x.d.r, .float .f64 x.d.g, .float .f64 x.d.b, .float .f64 x.s] 37)) := ⟨hmt.next hal, Arr.new wr _ 37⟩
                clear hmt hal
                go_upto_region 23 with fail
                go_region_held3 (fun w' => MX w O [.float .f64 d.r, .float .f64 0, .float .f64 0] wr.heap.size x w' ∧ w'.cell? ⟨wr.heap.size, 0, none⟩ = some (.float .f64 x.d.r) ∧
                    w'.cell? ⟨wr.heap.size, 1, none⟩ = some (.float .f64 x.d.g) ∧ w'.cell? ⟨wr.heap.size, 2, none⟩ = some (.float .f64 x.d.b) ∧ w'.cell? ⟨wr.heap.size, 3, none⟩ = some (.float .f64 x.s))
                  ((refine MX.all ?_; first | assumption | exact MX.drew (by assumption)))
                  (first | (go_at_call 26; refine (part2 x.d _).mono ?_; rintro e w3 ⟨rfl, hb3⟩; have hf3 := MX.next hb3 (by first | assumption | exact MX.drew (by assumption) | (apply And.left; assumption))))
                all_goals
                  go_wp2_with fail
                  go_roundg (xs.length - (k + 1))
                  case measure => omega
                  case rel => exact ⟨k + 1, by omega, rfl, rfl, by go_num, hf3.1⟩
            · have ai := pi2
              go_wp2_with fail
              go_loopg [12, 65] xs.length (fun g sm ctr w2 => ∃ k : Nat, k ≤ xs.length ∧ g = xs.length - k ∧ sm = .float .f64 (accAt Dy.b xs k) ∧ ctr = .int .i64 k ∧ MT w O [.float .f64 d.r, .float .f64 d.g, .float .f64 0] w2)
              case atStart => exact ⟨0, by omega, rfl, rfl, rfl, hmt⟩
              case round =>
                clear hmt
                obtain ⟨k, hk, rfl, rfl, rfl, hmt⟩ := hrel
                by_cases hkl : k < xs.length
                case neg =>
                  obtain rfl : k = xs.length := by omega
                  have v1 := fun w => run_fquo HMX.out.qb w
                  have z0 := hmt.2.1.free 2
                  have y0 := hmt.2.1.cell (k := 2) rfl
                  have HMT := Lib.hid (hmt.set 2 (.float .f64 d.b))
                  clear hmt
                  go_wp2_with fail
                  go_roundg (3 - 3)
                  case measure => decide
                  case rel => exact ⟨3, by omega, rfl, rfl, HMT.out⟩
                obtain ⟨A', c', e', _, _, hr⟩ := HV.out.same ((Same.of_below hmt.1.1).mono hS)
                cases e'
                obtain ⟨b, o, rfl, _, hc⟩ := els_at Dr.cells_len hr (by decide) hkl
                have x0 : wr.cell? ⟨b, o + k * 4, none⟩ = some (.float .f64 xs[k].d.r) := hc 0 _ rfl
                have x1 : wr.cell? ⟨b, o + k * 4 + 1, none⟩ = some (.float .f64 xs[k].d.g) := hc 1 _ rfl
                have x2 : wr.cell? ⟨b, o + k * 4 + 2, none⟩ = some (.float .f64 xs[k].d.b) := hc 2 _ rfl
                have x3 : wr.cell? ⟨b, o + k * 4 + 3, none⟩ = some (.float .f64 xs[k].s) := hc 3 _ rfl
                clear hc hr
                have p1 := fun w => run_fmul (HMX.out.b k hkl).1 w
                have s1 := fun w => run_fadd (HMX.out.b k hkl).2 w
                generalize xs[k] = x at *
                have hal := (Below.refl wr.heap.size wr).alloc (Nat.le_refl _) (.cells #[.float .f64 x.d.r, .float .f64 x.d.g, .float .f64 x.d.b, .float .f64 x.s] 37)
                have hX : MX w O [.float .f64 d.r, .float .f64 d.g, .float .f64 0] wr.heap.size x (wr.alloc (.cells #[.float .f64 x.d.r, .float .f64 x.d.g, .float .f64 x.d.b, .float .f64 x.s] 37)) := ⟨hmt.next hal, Arr.new wr _ 37⟩
                clear hmt hal
                go_upto_region 23 with fail
                go_region_held3 (fun w' => MX w O [.float .f64 d.r, .float .f64 d.g, .float .f64 0] wr.heap.size x w' ∧ w'.cell? ⟨wr.heap.size, 0, none⟩ = some (.float .f64 x.d.r) ∧
                    w'.cell? ⟨wr.heap.size, 1, none⟩ = some (.float .f64 x.d.g) ∧ w'.cell? ⟨wr.heap.size, 2, none⟩ = some (.float .f64 x.d.b) ∧ w'.cell? ⟨wr.heap.size, 3, none⟩ = some (.float .f64 x.s))
                  ((refine MX.all ?_; first | assumption | exact MX.drew (by assumption)))
                  (first | (go_at_call 27; refine (part3 x.d _).mono ?_; rintro e w3 ⟨rfl, hb3⟩; have hf3 := MX.next hb3 (by first | assumption | exact MX.drew (by assumption) | (apply And.left; assumption))))
                all_goals
                  go_wp2_with fail
                  go_roundg (xs.length - (k + 1))
                  case measure => omega
                  case rel => exact ⟨k + 1, by omega, rfl, rfl, by go_num, hf3.1⟩
            · have v : MT w O [.float .f64 d.r, .float .f64 d.g, .float .f64 d.b] wr := hmt
              clear hmt
              have y0 := v.2.1.cell (k := 0) rfl
              have y1 := v.2.1.cell (k := 1) rfl
              have y2 := v.2.1.cell (k := 2) rfl
              have hms := v.1
              clear v
              have z0 := hms.2.1.free 0
              have z1 := hms.2.1.free 1
              have z2 := hms.2.1.free 2
              have r0 := hms.2.1.cell (k := 0) rfl
              have r1 := hms.2.1.cell (k := 1) rfl
              have r2 := hms.2.1.cell (k := 2) rfl
              have q0 := (hms.2.1.set 0 (.float .f64 d.r)).cell (k := 0) rfl
              have q1 := ((hms.2.1.set 0 (.float .f64 d.r)).set 1 (.float .f64 d.g)).cell (k := 1) rfl
              have q2 := (((hms.2.1.set 0 (.float .f64 d.r)).set 1 (.float .f64 d.g)).set 2 (.float .f64 d.b)).cell (k := 2) rfl
              go_wp2_with fail
              refine bodyPost_ret (v := .tuple #[d.val, .int .i64 0]) (by simp [results, Try.results11, go_sem, q0, q1, q2, Dy.val]) rfl ⟨rfl, ((hms.1.setCell (Nat.le_refl _) _).setCell (Nat.le_refl _) _).setCell (Nat.le_refl _) _⟩
        obtain ⟨A', c', e', _, _, hr⟩ := HV.out.same ((Same.of_below hms.1).mono hS)
        cases e'
        obtain ⟨b, o, rfl, _, hc⟩ := els_at Dr.cells_len hr (by decide) hkl
        have x0 : wr.cell? ⟨b, o + k * 4, none⟩ = some (.float .f64 xs[k].d.r) := hc 0 _ rfl
        have x1 : wr.cell? ⟨b, o + k * 4 + 1, none⟩ = some (.float .f64 xs[k].d.g) := hc 1 _ rfl
        have x2 : wr.cell? ⟨b, o + k * 4 + 2, none⟩ = some (.float .f64 xs[k].d.b) := hc 2 _ rfl
        have x3 : wr.cell? ⟨b, o + k * 4 + 3, none⟩ = some (.float .f64 xs[k].s) := hc 3 _ rfl
        clear hc hr
        have s4 := fun w => run_fadd (HMX.out.all k hkl) w
        have HMS := Lib.hid (hms.next ((Below.refl _ _).alloc (Nat.le_refl _) (.cells #[.float .f64 xs[k].d.r, .float .f64 xs[k].d.g, .float .f64 xs[k].d.b, .float .f64 xs[k].s] 37)))
        clear hms
        generalize xs[k] = x at *
        go_wp2_with fail
        go_roundg (xs.length - (k + 1))
        case measure => omega
        case rel => exact ⟨k + 1, by omega, rfl, rfl, by go_num, HMS.out⟩
    obtain ⟨A', c', e', _, _, hr⟩ := HV.out.same ((Same.of_below hms.1).mono hS)
    cases e'
    obtain ⟨b, o, rfl, _, hc⟩ := els_at Dr.cells_len hr (by decide) hjl
    have x0 : wr.cell? ⟨b, o + j * 4, none⟩ = some (.float .f64 xs[j].d.r) := hc 0 _ rfl
    have x1 : wr.cell? ⟨b, o + j * 4 + 1, none⟩ = some (.float .f64 xs[j].d.g) := hc 1 _ rfl
    have x2 : wr.cell? ⟨b, o + j * 4 + 2, none⟩ = some (.float .f64 xs[j].d.b) := hc 2 _ rfl
    have x3 : wr.cell? ⟨b, o + j * 4 + 3, none⟩ = some (.float .f64 xs[j].s) := hc 3 _ rfl
    clear hc hr
    have HX : Hid (xs[j].ok = true) := HB.out j hjl
    generalize xs[j] = x at *
    have HMS := Lib.hid hms
    clear hms
    go_wp2_with fail
    have hnew := Arr.new wr #[.float .f64 x.d.r, .float .f64 x.d.g, .float .f64 x.d.b, .float .f64 x.s] 37
    have hal : Below wr.heap.size wr (wr.alloc (.cells #[.float .f64 x.d.r, .float .f64 x.d.g, .float .f64 x.d.b, .float .f64 x.s] 37)) := (Below.refl _ _).alloc (Nat.le_refl _) _
    refine (fair_any x.d _).mono ?_
    rintro e w3 ⟨rfl, hb3⟩
    have hM3 : MS w w3 := HMS.out.next (hal.trans (hb3.mono (by simp)))
    have hA3 := hnew.of_eq (hb3.block _ hnew.lt)
    have e3 := hA3.cell (k := 3) rfl
    have HM3 := Lib.hid hM3
    have r0 := hM3.2.1.cell (k := 0) rfl
    have r1 := hM3.2.1.cell (k := 1) rfl
    have r2 := hM3.2.1.cell (k := 2) rfl
    have z0 := hM3.2.1.free 0
    have z1 := hM3.2.1.free 1
    have z2 := hM3.2.1.free 2
    have q0 := (hM3.2.1.set 0 (.float .f64 0)).cell (k := 0) rfl
    have q1 := ((hM3.2.1.set 0 (.float .f64 0)).set 1 (.float .f64 0)).cell (k := 1) rfl
    have q2 := (((hM3.2.1.set 0 (.float .f64 0)).set 1 (.float .f64 0)).set 2 (.float .f64 0)).cell (k := 2) rfl
    clear hnew hal hb3 hM3 hA3 x0 x1 x2 x3
    obtain ⟨ho, hf, hg, hl⟩ | ⟨ho, _⟩ := x.ok_cases
    · have hg' : (FloatKind.f64.format.order x.s 4517110426252607488 == some .gt || FloatKind.f64.format.order x.s 4517110426252607488 == some .eq) = true := hg
      have hl' : (FloatKind.f64.format.order x.s 4697254411347427328 == some .lt || FloatKind.f64.format.order x.s 4697254411347427328 == some .eq) = true := hl
      clear hg hl ho
      go_wp2_with fail
      go_roundg (xs.length - (j + 1))
      case measure => omega
      case rel => exact ⟨j + 1, by omega, rfl, by go_num, HM3.out⟩
    · exact absurd HX.out (by rw [ho]; decide)
end Go.Proofs.Ytmjhhaejiabkdaa
