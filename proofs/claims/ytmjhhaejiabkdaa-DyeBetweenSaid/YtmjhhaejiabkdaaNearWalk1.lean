/- Chapter 15: the program's Nearest. -/
import Derived.Test.YtmjhhaejiabkdaaNearPlain
namespace Go.Proofs.Ytmjhhaejiabkdaa
open Go.RowKit Go.Proofs.Ytmjhhaejiabkdaa.Fl
set_option linter.unusedVariables false
attribute [local go_sem] run_put_float

theorem T29 : SliceT Try.prog 29 33 (.agg #[.float .f64 0, .float .f64 0, .float .f64 0]) 3 24 := ⟨Try.underlying29, by kernel_rfl, rfl, by decide, by decide⟩

set_option maxRecDepth 100000 in
set_option maxHeartbeats 1000000 in
theorem Nearest_many {S : Nat → Prop} {v : Value} {xs : List Dy} (d : Dy) (w : World) (hv : Dyes w S v xs) (h : xs.length = 0 ∨ 256 < xs.length) :
    Calls Try.prog 12 #[v, d.val] w fun e w' => e = .returned (.tuple #[.int .i64 0, .int .i64 5]) ∧ Below w.heap.size w w' := by
  obtain ⟨A, c, rfl, h1, h2, hr⟩ := hv
  unfold maxLen at h2
  unfold Dy.val
  clear hr
  rcases h with h | h
  · have hz : ((xs.length : Int) == 0) = true := by rw [h]; rfl
    clear h
    go_enter Try.func12, Try.ntmps12
    go_wp2_with fail
    go_ret2
    exact ⟨rfl, (Below.refl _ _).alloc (Nat.le_refl _) _⟩
  · have hz : ((xs.length : Int) == 0) = false := by simp; intro h0; rw [h0] at h; simp at h
    go_enter Try.func12, Try.ntmps12
    go_wp2_with fail
    go_ret2
    exact ⟨rfl, (Below.refl _ _).alloc (Nat.le_refl _) _⟩

theorem own_two (w : World) (o : Obj) (d : Dy) : ((w.alloc o).alloc (.cells #[.float .f64 d.r, .float .f64 d.g, .float .f64 d.b] 33)).ownsRow (w.heap.size + 1) 33 3 (.slice (some ⟨w.heap.size + 1, 0, none⟩) 1 1) 1 d.cells := by
  have h := World.ownsRow_lit (base := w.heap.size + 1) (e := 33) (size := 3) (w.alloc o) #[.float .f64 d.r, .float .f64 d.g, .float .f64 d.b] 1 (by simp) (by simp [maxLen]) rfl
  rw [World.size_alloc] at h
  exact h
theorem dy_one (xs : List Dy) : ∀ u ∈ xs.flatMap Dy.cells, u.oneCell' = true := by
  intro u hu
  rw [List.mem_flatMap] at hu
  obtain ⟨x, _, hu⟩ := hu
  simp only [Dy.cells, List.mem_cons, List.not_mem_nil, or_false] at hu
  rcases hu with rfl | rfl | rfl <;> rfl
theorem Els.of_own {α : Type} {f : α → List Value} {size : Nat} {w : World} {base : Nat} {e : TypeId} {v : Value} {xs : List α} (h : w.ownsRow base e size v xs.length (xs.flatMap f)) :
    Els f size w (fun b => b < w.heap.size) v xs := by
  obtain ⟨A, c, rfl, h1, h2⟩ := own_form h
  exact ⟨A, c, rfl, h1, h2, (Row.of_own h).mono fun i h => h.2⟩

theorem hrow_of {w : World} {S : Nat → Prop} {A : Option Addr} {n c : Nat} {xs : List Dy} (h : Dyes w S (.slice A n c) xs) : Row w S 3 A xs.length (xs.flatMap Dy.cells) := by
  obtain ⟨A', c', e, _, _, h⟩ := h
  cases e
  exact h
theorem first_at {b o n c : Nat} (hn : 0 < n) (w : World) : (Instr.indexAt 29 (.slice (some ⟨b, o, none⟩) n c) (.int .i64 0)).run Try.prog w = .ok (.pointer (some ⟨b, o, none⟩)) w := by
  rw [run_indexAt_slice w 29 _ _ _ _ _ (by kernel_rfl), if_pos (by omega)]
  have hs : (sizeOf (Try.prog.elem 29)).run Try.prog w = .ok 3 w := by kernel_rfl
  rw [hs]
  simp [Result.andThen, Addr.add]
theorem nb_next {w1 w' w'' : World} (h2 : Below w'.heap.size w' w'') (h : Below w1.heap.size w1 w') : Below w1.heap.size w1 w'' := h.trans (h2.mono h.size)
theorem nb_drew {w1 w' : World} (h : Below w1.heap.size w1 w') : Below w1.heap.size w1 w'.drew := ⟨h.os, h.tape, h.output, h.size, h.block⟩
/-- all dyes that are asked about, cell by cell -/
theorem dy_cells {w : World} {S : Nat → Prop} {A : Option Addr} {xs : List Dy} (hr : Row w S 3 A xs.length (xs.flatMap Dy.cells)) {k : Nat} (hk : k < xs.length) :
    ∃ b o, A = some ⟨b, o, none⟩ ∧ S b ∧ w.cell? ⟨b, o + k * 3, none⟩ = some (.float .f64 xs[k].r) ∧ w.cell? ⟨b, o + k * 3 + 1, none⟩ = some (.float .f64 xs[k].g) ∧ w.cell? ⟨b, o + k * 3 + 2, none⟩ = some (.float .f64 xs[k].b) := by
  obtain ⟨b, o, e, hs, hc⟩ := els_at Dy.cells_len hr (by decide) hk
  exact ⟨b, o, e, hs, hc 0 _ rfl, hc 1 _ rfl, hc 2 _ rfl⟩

set_option maxRecDepth 100000 in
set_option maxHeartbeats 1000000 in
theorem Nearest_bad {v : Value} {xs ys : List Dy} (d : Dy) (hys : ys = d :: xs) (w : World) (hv : Dyes w (fun b => b < w.heap.size) v xs) (h1 : 1 ≤ xs.length) (h2 : xs.length ≤ 256) {i : Nat} (hi : i < ys.length) (hbad : ys[i].fair = false) :
    Calls Try.prog 12 #[v, d.val] w fun e w' => e = .returned (.tuple #[.int .i64 0, .int .i64 3]) ∧ Below w.heap.size w w' := by
  have HB := Lib.hid hbad
  have HY := Lib.hid hys
  have k1 : 1 ≤ ys.length := by rw [hys]; simp
  have k2 : ys.length ≤ 257 := by rw [hys, List.length_cons]; omega
  have hyl : Hid (ys.length = 1 + xs.length) := by show _ = _; rw [hys, List.length_cons, Nat.add_comm]
  have hfm : Hid (ys.flatMap Dy.cells = d.cells ++ xs.flatMap Dy.cells) := by show _ = _; rw [hys, List.flatMap_cons]
  clear hbad hys
  have HV := Lib.hid hv
  obtain ⟨A, c, rfl, h3, h4, hr⟩ := hv
  obtain ⟨b, o, rfl, hbS, hc⟩ := hr.at_ h1
  have HC := Lib.hid hc
  have HL := Lib.hid hr.len
  clear hr hc
  unfold maxLen at h4
  unfold Dy.val
  have hz : ((xs.length : Int) == 0) = false := by simp; intro h0; rw [h0] at h1; simp at h1
  have hbe : Hid (Below w.heap.size w (w.alloc (.cells #[.float .f64 d.r, .float .f64 d.g, .float .f64 d.b] 33))) := (Below.refl _ _).alloc (Nat.le_refl _) _
  have hown0 := own_two w (.cells #[.float .f64 d.r, .float .f64 d.g, .float .f64 d.b] 33) d
  have HO := Lib.hid hown0
  have hnews : ∀ j u, (xs.flatMap Dy.cells)[j]? = some u → ((w.alloc (.cells #[.float .f64 d.r, .float .f64 d.g, .float .f64 d.b] 33)).alloc (.cells #[.float .f64 d.r, .float .f64 d.g, .float .f64 d.b] 33)).cell? ⟨b, o + j, none⟩ = some u := fun j u hu => by
    rw [((hbe.out.alloc hbe.out.size _).cell (p := ⟨b, o + j, none⟩) hbS)]
    exact HC.out j u hu
  have HN := Lib.hid hnews
  clear hown0 hnews
  go_enter Try.func12, Try.ntmps12
  go_wp2_with (at_builtin
               refine app_els T29 (w0 := w.alloc (.cells #[.float .f64 d.r, .float .f64 d.g, .float .f64 d.b] 33)) (xs.flatMap Dy.cells) HO.out ?_ ?_ rfl rfl rfl rfl HL.out HN.out (dy_one xs) ?_ ?_
               rotate_right
               intro v1 w1 hown1 hb1 hg1 ho1
               rw [← hyl.out] at hown1
               obtain ⟨A1, c1, rfl, g1, g2⟩ := own_form hown1)
  case refine_1 => exact (Below.refl _ _).alloc (by simp) _
  case refine_2 => simp
  case refine_3 => omega
  have hbw : Below w.heap.size w w1 := hbe.out.trans (hb1.mono (by omega))
  have hE : Dyes w1 (fun b => b < w1.heap.size) (.slice A1 ys.length c1) ys := Els.of_own (by rw [hfm.out]; exact hown1)
  have hbox : Hid (Arr w1 w.heap.size 33 [.float .f64 d.r, .float .f64 d.g, .float .f64 d.b]) := (Arr.new w #[.float .f64 d.r, .float .f64 d.g, .float .f64 d.b] 33).of_eq (hb1.block _ (by simp))
  have HR := Lib.hid (hrow_of hE)
  have HW := Lib.hid hbw
  clear hown1 hb1 hg1 ho1 hbw hE
  unfold maxLen at g2
  clear HO HN
  go_wp2_with fail
  go_loopg [26] ys.length (fun g ctr w2 => ∃ j : Nat, j ≤ ys.length ∧ g = ys.length - j ∧ ctr = .int .i64 j ∧ j ≤ i ∧ Below w1.heap.size w1 w2)
  case atStart => exact ⟨0, by omega, rfl, rfl, by omega, Below.refl _ _⟩
  case round =>
    obtain ⟨j, hj, rfl, rfl, hji, hb2⟩ := hrel
    have hjl : j < ys.length := by omega
    obtain ⟨b1, o1, rfl, _, x0, x1, x2⟩ := dy_cells (HR.out.same (Same.of_below hb2)) hjl
    have HX : Hid (j = i → ys[j].fair = false) := fun h => by subst h; exact HB.out
    generalize ys[j] = x at *
    have HB2 := Lib.hid hb2
    clear hb2
    go_wp2_with fail
    refine (fair_any x _).mono ?_
    rintro e w3 ⟨rfl, hb3⟩
    have HB3 := Lib.hid ((HB2.out.alloc HB2.out.size (.cells #[.float .f64 x.r, .float .f64 x.g, .float .f64 x.b] 33)).trans (hb3.mono (by have := HB2.out.size; simp; omega)))
    clear hb3 x0 x1 x2
    cases hf : x.fair with
    | true =>
      have hji' : j ≠ i := fun h => by have := HX.out h; rw [hf] at this; cases this
      go_wp2_with fail
      go_roundg (ys.length - (j + 1))
      case measure => omega
      case rel => exact ⟨j + 1, by omega, rfl, by go_num, by omega, HB3.out⟩
    | false =>
      go_wp2_with fail
      go_ret2
      exact ⟨rfl, HW.out.trans (HB3.out.mono HW.out.size)⟩

set_option maxRecDepth 100000 in
set_option maxHeartbeats 1000000 in
theorem Nearest_ok {v : Value} {xs ys : List Dy} (d : Dy) (hys : ys = d :: xs) (w : World) (hv : Dyes w (fun b => b < w.heap.size) v xs) (h1 : 1 ≤ xs.length) (h2 : xs.length ≤ 256) (hbad : ∀ i (h : i < ys.length), ys[i].fair = true) {f : Nat → Nat} (hfar : ∀ k (h : k < xs.length), FarIs xs[k] d (f k) ∧ FW (f k)) {bb : Nat} (hbest : Best f xs.length bb) :
    Calls Try.prog 12 #[v, d.val] w fun e w' => e = .returned (.tuple #[.int .i64 bb, .int .i64 0]) ∧ Below w.heap.size w w' := by
  have HB := Lib.hid hbad
  have HY := Lib.hid hys
  have k1 : 1 ≤ ys.length := by rw [hys]; simp
  have k2 : ys.length ≤ 257 := by rw [hys, List.length_cons]; omega
  have hyl : Hid (ys.length = 1 + xs.length) := by show _ = _; rw [hys, List.length_cons, Nat.add_comm]
  have hfm : Hid (ys.flatMap Dy.cells = d.cells ++ xs.flatMap Dy.cells) := by show _ = _; rw [hys, List.flatMap_cons]
  clear hbad hys
  have hBest := Lib.hid hbest
  have HF := Lib.hid hfar
  clear hbest hfar
  have HV := Lib.hid hv
  obtain ⟨A, c, rfl, h3, h4, hr⟩ := hv
  obtain ⟨b, o, rfl, hbS, hc⟩ := hr.at_ h1
  have HC := Lib.hid hc
  have HL := Lib.hid hr.len
  clear hr hc
  unfold maxLen at h4
  unfold Dy.val
  have hz : ((xs.length : Int) == 0) = false := by simp; intro h0; rw [h0] at h1; simp at h1
  have hbe : Hid (Below w.heap.size w (w.alloc (.cells #[.float .f64 d.r, .float .f64 d.g, .float .f64 d.b] 33))) := (Below.refl _ _).alloc (Nat.le_refl _) _
  have hown0 := own_two w (.cells #[.float .f64 d.r, .float .f64 d.g, .float .f64 d.b] 33) d
  have HO := Lib.hid hown0
  have hnews : ∀ j u, (xs.flatMap Dy.cells)[j]? = some u → ((w.alloc (.cells #[.float .f64 d.r, .float .f64 d.g, .float .f64 d.b] 33)).alloc (.cells #[.float .f64 d.r, .float .f64 d.g, .float .f64 d.b] 33)).cell? ⟨b, o + j, none⟩ = some u := fun j u hu => by
    rw [((hbe.out.alloc hbe.out.size _).cell (p := ⟨b, o + j, none⟩) hbS)]
    exact HC.out j u hu
  have HN := Lib.hid hnews
  clear hown0 hnews
  go_enter Try.func12, Try.ntmps12
  go_wp2_with (at_builtin
               refine app_els T29 (w0 := w.alloc (.cells #[.float .f64 d.r, .float .f64 d.g, .float .f64 d.b] 33)) (xs.flatMap Dy.cells) HO.out ?_ ?_ rfl rfl rfl rfl HL.out HN.out (dy_one xs) ?_ ?_
               rotate_right
               intro v1 w1 hown1 hb1 hg1 ho1
               rw [← hyl.out] at hown1
               obtain ⟨A1, c1, rfl, g1, g2⟩ := own_form hown1)
  case refine_1 => exact (Below.refl _ _).alloc (by simp) _
  case refine_2 => simp
  case refine_3 => omega
  have hbw : Below w.heap.size w w1 := hbe.out.trans (hb1.mono (by omega))
  have hE : Dyes w1 (fun b => b < w1.heap.size) (.slice A1 ys.length c1) ys := Els.of_own (by rw [hfm.out]; exact hown1)
  have hbox : Hid (Arr w1 w.heap.size 33 [.float .f64 d.r, .float .f64 d.g, .float .f64 d.b]) := (Arr.new w #[.float .f64 d.r, .float .f64 d.g, .float .f64 d.b] 33).of_eq (hb1.block _ (by simp))
  have HR := Lib.hid (hrow_of hE)
  have HW := Lib.hid hbw
  clear hown1 hb1 hg1 ho1 hbw hE
  unfold maxLen at g2
  clear HO HN
  go_wp2_with fail
  go_loopg [26] ys.length (fun g ctr w2 => ∃ j : Nat, j ≤ ys.length ∧ g = ys.length - j ∧ ctr = .int .i64 j ∧ Below w1.heap.size w1 w2)
  case atStart => exact ⟨0, by omega, rfl, rfl, Below.refl _ _⟩
  case round =>
    obtain ⟨j, hj, rfl, rfl, hb2⟩ := hrel
    by_cases hjl : j < ys.length
    case neg =>
      obtain rfl : j = ys.length := by omega
      clear hj hjl
      have hbl : b < w1.heap.size := Nat.lt_of_lt_of_le hbS HW.out.size
      have hwl : w.heap.size < w1.heap.size := hbox.out.lt
      have HS : Hid (∀ w', Below w1.heap.size w1 w' → (Below w1.heap.size w1 w' ∧ w'.cell? ⟨b, o, none⟩ = some (.float .f64 xs[0].r) ∧ w'.cell? ⟨b, o + 1, none⟩ = some (.float .f64 xs[0].g) ∧ w'.cell? ⟨b, o + 2, none⟩ = some (.float .f64 xs[0].b) ∧
          w'.cell? ⟨w.heap.size, 0, none⟩ = some (.float .f64 d.r) ∧ w'.cell? ⟨w.heap.size, 1, none⟩ = some (.float .f64 d.g) ∧ w'.cell? ⟨w.heap.size, 2, none⟩ = some (.float .f64 d.b))) := fun w' h => by
        obtain ⟨b', o', e, _, y0, y1, y2⟩ := dy_cells (hrow_of HV.out) h1
        cases e
        have hk : ∀ j, w'.cell? ⟨b, j, none⟩ = w.cell? ⟨b, j, none⟩ := fun j => (h.cell (p := ⟨b, j, none⟩) hbl).trans (HW.out.cell (p := ⟨b, j, none⟩) hbS)
        have hA := hbox.out.of_eq (h.block _ hwl)
        refine ⟨h, ?_, ?_, ?_, hA.cell (k := 0) rfl, hA.cell (k := 1) rfl, hA.cell (k := 2) rfl⟩
        · rw [hk]; simpa using y0
        · rw [hk]; simpa using y1
        · rw [hk]; simpa using y2
      obtain ⟨_, x0, x1, x2, d0, d1, d2⟩ := HS.out _ hb2
      have HF0 := Lib.hid (HF.out 0 h1).1
      have hxl : xs[0] = xs[0] := rfl
      clear hxl
      generalize xs[0] = z at *
      have hia : ∀ w, (Instr.indexAt 29 (.slice (some ⟨b, o, none⟩) xs.length c) (.int .i64 0)).run Try.prog w = .ok (.pointer (some ⟨b, o, none⟩)) w := fun w => first_at (Nat.pos_iff_ne_zero.2 (by omega)) w
      go_wp2_with fail
      clear x0 x1 x2 d0 d1 d2
      go_region_held3 (fun w' => Below w1.heap.size w1 w' ∧ w'.cell? ⟨b, o, none⟩ = some (.float .f64 z.r) ∧ w'.cell? ⟨b, o + 1, none⟩ = some (.float .f64 z.g) ∧ w'.cell? ⟨b, o + 2, none⟩ = some (.float .f64 z.b) ∧
          w'.cell? ⟨w.heap.size, 0, none⟩ = some (.float .f64 d.r) ∧ w'.cell? ⟨w.heap.size, 1, none⟩ = some (.float .f64 d.g) ∧ w'.cell? ⟨w.heap.size, 2, none⟩ = some (.float .f64 d.b))
        ((refine HS.out _ ?_; first | assumption | exact nb_drew (by assumption)))
        (first | (go_at_call 21; refine (far_is HF0.out _).mono ?_; rintro e w3 ⟨rfl, hb3⟩; have hf3 := nb_next hb3 (by first | assumption | exact nb_drew (by assumption) | (apply And.left; assumption))))
      all_goals
        clear hia
        go_wp2_with fail
        go_loopg [8, 9, 41] xs.length (fun g sb sl ctr w2 => ∃ k m : Nat, k ≤ xs.length ∧ g = xs.length - k ∧ sb = .int .i64 m ∧ sl = .float .f64 (f m) ∧ ctr = .int .i64 k ∧ BestTo f k m ∧ m < xs.length ∧ Below w1.heap.size w1 w2)
        case atStart => exact ⟨0, 0, by omega, rfl, rfl, rfl, rfl, BestTo.start f, by omega, hf3⟩
        case round =>
          clear hf3 hb2
          obtain ⟨k, m, hk, rfl, rfl, rfl, rfl, hbt, hml, hb2⟩ := hrel
          have HT := Lib.hid hbt
          clear hbt
          by_cases hkl : k < xs.length
          case neg =>
            obtain rfl : k = xs.length := by omega
            obtain rfl : m = bb := (HT.out.done (by omega)).inj hBest.out
            go_wp2_with fail
            go_ret2
            exact ⟨rfl, HW.out.trans (hb2.mono HW.out.size)⟩
          obtain ⟨b', o', e, _, x0, x1, x2⟩ := dy_cells (hrow_of (HV.out.same (Same.of_below (HW.out.trans (hb2.mono HW.out.size))))) hkl
          cases e
          have hA := hbox.out.of_eq (hb2.block _ hwl)
          have hab : Below w1.heap.size w1 (wr.alloc (.cells #[.float .f64 xs[k].r, .float .f64 xs[k].g, .float .f64 xs[k].b] 33)) := hb2.alloc hb2.size _
          have d0 := hA.cell (k := 0) rfl
          have d1 := hA.cell (k := 1) rfl
          have d2 := hA.cell (k := 2) rfl
          have hwr : w.heap.size < wr.heap.size := Nat.lt_of_lt_of_le hwl hb2.size
          have HA := Lib.hid hab
          have HFk := Lib.hid (HF.out k hkl)
          have HFm := Lib.hid (HF.out m hml)
          clear hA hab
          generalize xs[k] = x at *
          go_wp2_with fail
          refine (far_is HFk.out.1 _).mono ?_
          rintro e w4 ⟨rfl, hb4⟩
          have HB4 := Lib.hid (nb_next hb4 HA.out)
          have hlt : ltB (f k) (f m) = decide (V (f k) < V (f m)) := lt_spec HFk.out.2 HFm.out.2
          clear hb4 x0 x1 x2 d0 d1 d2
          by_cases hv : V (f k) < V (f m)
          · have hlt' : (FloatKind.f64.format.order (f k) (f m) == some .lt) = true := by rw [decide_eq_true hv] at hlt; exact hlt
            have HN := Lib.hid (HT.out.take hv)
            clear hlt hv
            go_wp2_with fail
            go_roundg (xs.length - (k + 1))
            case measure => omega
            case rel => exact ⟨k + 1, k, by omega, rfl, rfl, rfl, by go_num, HN.out, by omega, HB4.out⟩
          · have hlt' : (FloatKind.f64.format.order (f k) (f m) == some .lt) = false := by rw [decide_eq_false hv] at hlt; exact hlt
            have HN := Lib.hid (HT.out.keep hv)
            clear hlt hv
            go_wp2_with fail
            go_roundg (xs.length - (k + 1))
            case measure => omega
            case rel => exact ⟨k + 1, m, by omega, rfl, rfl, rfl, by go_num, HN.out, by omega, HB4.out⟩
    obtain ⟨b1, o1, rfl, _, x0, x1, x2⟩ := dy_cells (HR.out.same (Same.of_below hb2)) hjl
    have HX : Hid (ys[j].fair = true) := HB.out j hjl
    generalize ys[j] = x at *
    have HB2 := Lib.hid hb2
    clear hb2
    go_wp2_with fail
    refine (fair_any x _).mono ?_
    rintro e w3 ⟨rfl, hb3⟩
    have HB3 := Lib.hid ((HB2.out.alloc HB2.out.size (.cells #[.float .f64 x.r, .float .f64 x.g, .float .f64 x.b] 33)).trans (hb3.mono (by have := HB2.out.size; simp; omega)))
    clear hb3 x0 x1 x2
    have hf := HX.out
    go_wp2_with fail
    go_roundg (ys.length - (j + 1))
    case measure => omega
    case rel => exact ⟨j + 1, by omega, rfl, by go_num, HB3.out⟩
end Go.Proofs.Ytmjhhaejiabkdaa
