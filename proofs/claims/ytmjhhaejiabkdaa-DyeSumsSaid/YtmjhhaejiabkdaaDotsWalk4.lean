/- Chapter 15: the walk of Dots. -/
import Derived.Test.YtmjhhaejiabkdaaDotsWalk2
import Derived.Test.YtmjhhaejiabkdaaDotsWalk3
namespace Go.Proofs.Ytmjhhaejiabkdaa
open Go.RowKit
set_option linter.unusedVariables false

theorem at0 (w : World) : (Instr.index 45 (.agg #[.int .i64 1, .int .i64 0, .int .i64 7, .int .i64 (-1), .int .i64 1, .int .i64 3, .int .i64 0, .int .i64 1, .int .i64 5]) (.int .i64 0)).run Try.prog w = .ok (.agg #[.int .i64 1, .int .i64 0, .int .i64 7]) w := by kernel_rfl
theorem at1 (w : World) : (Instr.index 45 (.agg #[.int .i64 1, .int .i64 0, .int .i64 7, .int .i64 (-1), .int .i64 1, .int .i64 3, .int .i64 0, .int .i64 1, .int .i64 5]) (.int .i64 1)).run Try.prog w = .ok (.agg #[.int .i64 (-1), .int .i64 1, .int .i64 3]) w := by kernel_rfl
theorem at2 (w : World) : (Instr.index 45 (.agg #[.int .i64 1, .int .i64 0, .int .i64 7, .int .i64 (-1), .int .i64 1, .int .i64 3, .int .i64 0, .int .i64 1, .int .i64 5]) (.int .i64 2)).run Try.prog w = .ok (.agg #[.int .i64 0, .int .i64 1, .int .i64 5]) w := by kernel_rfl

set_option maxRecDepth 100000 in
set_option maxHeartbeats 1000000 in
theorem Dots_unfit {W : Int} {xs : List Int} {v : Value} {S : Nat → Prop} (w : World) (hv : Ints w S v xs) (h : unfit W xs.length) :
    Calls Try.prog 7 #[.int .i64 W, v] w fun e w' => e = .returned (.tuple #[.slice none 0 0, .int .i64 0, .int .i64 8]) ∧ w = w' := by
  obtain ⟨A, c, rfl, hc1, hc2, hr⟩ := hv
  clear hr
  unfold maxLen at hc2
  unfold unfit at h
  by_cases h1 : W < 1
  · go_enter Try.func7, Try.ntmps7
    go_wp2_with fail
    go_ret3
    exact ⟨rfl, rfl⟩
  · by_cases h2 : 4096 < W
    · go_enter Try.func7, Try.ntmps7
      go_wp2_with fail
      go_ret3
      exact ⟨rfl, rfl⟩
    · by_cases h3 : 65536 < xs.length
      · go_enter Try.func7, Try.ntmps7
        go_wp2_with fail
        go_ret3
        exact ⟨rfl, rfl⟩
      · have h4 : ((xs.length : Int) % W != 0) = true := by
          have : (xs.length : Int).tmod W ≠ 0 := by omega
          rw [Int.tmod_eq_emod_of_nonneg (by omega)] at this
          simpa using this
        clear h
        go_enter Try.func7, Try.ntmps7
        go_wp2_with fail
        go_ret3
        exact ⟨rfl, rfl⟩
set_option maxRecDepth 100000 in
set_option maxHeartbeats 1000000 in
theorem Dots_bad {W : Nat} {xs : List Int} {v : Value} {S : Nat → Prop} (w : World) (hv : Ints w S v xs) (hf : Fit W xs.length) (h : badG xs) :
    Calls Try.prog 7 #[.int .i64 W, v] w fun e w' => e = .returned (.tuple #[.slice none 0 0, .int .i64 0, .int .i64 3]) ∧ w = w' := by
  obtain ⟨A, c, rfl, hc1, hc2, hr⟩ := hv
  obtain ⟨x, hx, hxb⟩ := h
  unfold maxLen at hc2
  have hm := fit_mod hf
  obtain ⟨f1, f2, f3, _⟩ := hf
  obtain ⟨j, hj, rfl⟩ := List.getElem_of_mem hx
  go_enter Try.func7, Try.ntmps7
  go_wp2_with fail
  go_loop [38] (fun i => ∃ k : Nat, k ≤ j ∧ i = .int .i64 k) (fun i => xs.length - (intOf i).toNat)
  case atStart => exact ⟨0, Nat.zero_le _, rfl⟩
  case round =>
    obtain ⟨k, hk, rfl⟩ := hrel
    have hkx : k < xs.length := by omega
    obtain ⟨b, o, rfl, _, hcell⟩ := ints_cell hr hkx
    by_cases hkj : k = j
    · subst hkj
      generalize xs[k] = y at *
      clear hx
      go_wp2_with fail
      all_goals (go_ret3; exact ⟨rfl, rfl⟩)
    · by_cases hy : xs[k] < 0 ∨ 255 < xs[k]
      · generalize xs[k] = y at *
        go_wp2_with fail
        all_goals (go_ret3; exact ⟨rfl, rfl⟩)
      · have y1 : 0 ≤ xs[k] := by omega
        have y2 : xs[k] ≤ 255 := by omega
        generalize xs[k] = y at *
        clear hy
        go_wp2_with fail
        go_round
        case rel => exact ⟨k + 1, by omega, by go_num⟩
        case measure => simp [intOf]; omega

set_option maxRecDepth 100000 in
set_option maxHeartbeats 4000000 in
theorem Dots_ok {W : Nat} {xs : List Int} {v : Value} {S : Nat → Prop} (w : World) (hv : Ints w S v xs) (hS : ∀ b, S b → b < w.heap.size) (hf : Fit W xs.length) (h : ¬ badG xs) :
    Calls Try.prog 7 #[.int .i64 W, v] w fun e w' => ∃ out, e = .returned (.tuple #[out, .int .i64 (lostS W xs.length (lef W (gOf xs)) xs.length), .int .i64 0]) ∧
      w'.ownsRow w.heap.size 3 1 out xs.length ((dotsL W (gOf xs) xs.length).map (Value.int .i64)) ∧ Below w.heap.size w w' := by
  obtain ⟨A, c, rfl, hc1, hc2, hr⟩ := hv
  unfold maxLen at hc2
  have hm := fit_mod hf
  have hg := gOf_ok h
  have hgx : ∀ i (hi : i < xs.length), xs[i] = gOf xs i := fun i hi => gOf_get hi
  obtain ⟨f1, f2, f3, f4⟩ := hf
  have HL : Hid (∀ i, i < xs.length → -262144 ≤ lef W (gOf xs) i ∧ lef W (gOf xs) i ≤ 262144) := fun i hi => lef_small f1 hg f3 hi
  have HM := Lib.hid f4
  clear h f4
  have hgr : ∀ i, i < xs.length → ∃ b o, A = some ⟨b, o, none⟩ ∧ b < w.heap.size ∧ w.cell? ⟨b, o + i, none⟩ = some (.int .i64 (gOf xs i)) := fun i hi => by
    obtain ⟨b, o, e, hs, hx⟩ := ints_cell hr hi
    exact ⟨b, o, e, hS _ hs, by rw [hx, hgx i hi]⟩
  have HR := Lib.hid hgr
  have HG := Lib.hid hg
  clear hgr hr hgx hg
  generalize hN : xs.length = N at *
  generalize gOf xs = G at *
  clear hN
  have hmk := run_mk T22 N N (Nat.le_refl _) (by omega)
  go_enter Try.func7, Try.ntmps7
  go_wp2_with fail
  go_loop [4, 5, 6, 38] (fun a b c i => ∃ k : Nat, k ≤ N ∧ i = .int .i64 k ∧ a = .slice none 0 0 ∧ b = .int .i64 0 ∧ c = .int .i64 0) (fun _ _ _ i => N - (intOf i).toNat)
  case atStart => exact ⟨0, Nat.zero_le _, rfl, rfl, rfl, rfl⟩
  case round =>
    obtain ⟨k, hk, rfl, rfl, rfl, rfl⟩ := hrel
    by_cases hkN : k < N
    · obtain ⟨b, o, rfl, hbs, hcell⟩ := HR.out k hkN
      obtain ⟨y1, y2⟩ := HG.out k
      generalize G k = y at *
      go_wp2_with fail
      go_round
      case rel => exact ⟨k + 1, by omega, by go_num, rfl, rfl, rfl⟩
      case measure => simp [intOf]; omega
    · have hW0 : ¬ W = 0 := by omega
      have hWi : (1 : Int) ≤ (W : Int) := by omega
      go_wp2_with fail
      clear hmk
      have harr := Arr.new w (madeCells (Value.int .i64 0).cells (N * 1)) 3
      have hrep : (madeCells (Value.int .i64 0).cells (N * 1)).toList = ints (List.replicate N 0) := by
        rw [Nat.mul_one]
        show (madeCells #[Value.int .i64 0] N).toList = _
        rw [toList_madeCells_one]; simp [ints]
      rw [hrep] at harr
      simp only [Value.cells, Nat.mul_one] at harr
      have hb0 : Below w.heap.size w (w.alloc (.cells (madeCells #[Value.int .i64 0] N) 3)) := (Below.refl _ _).alloc (Nat.le_refl _) _
      clear hrep
      have hsz0 : w.heap.size + 1 ≤ (w.alloc (.cells (madeCells #[Value.int .i64 0] N) 3)).heap.size := by simp
      generalize w.alloc (.cells (madeCells #[Value.int .i64 0] N) 3) = w1 at *
      go_loopg [4, 5, 54] N (fun g out lost ctr wr => ∃ (i : Nat) (due : List Int), i ≤ N ∧ g = N - i ∧ ctr = .int .i64 i ∧ lost = .int .i64 (lostS W N (lef W G) i) ∧
        wr.ownsRow (w.heap.size + 1) 3 1 out i ((dotsL W G i).map (Value.int .i64)) ∧ Arr wr w.heap.size 3 (ints due) ∧ due.length = N ∧
        (∀ k, i ≤ k → k < N → due.getD k 0 = Dg W (lef W G) i k) ∧ Small (1048576 * (i : Int)) due ∧ w.heap.size + 1 ≤ wr.heap.size ∧ Below w.heap.size w wr)
      case atStart =>
        refine ⟨0, List.replicate N 0, Nat.zero_le _, rfl, rfl, rfl, World.ownsRow_nil _ _ _ _, harr, by simp, fun k _ hk => ?_, fun k hk => ?_, hsz0, hb0⟩
        · rw [Dg_zero]; simp [List.getD_eq_getElem?_getD, hk]
        · have : k < N := by simpa using hk
          simp [List.getD_eq_getElem?_getD, this]
      case round =>
        clear harr hb0 hsz0 hk
        obtain ⟨i, due, hi, rfl, rfl, rfl, hout, harr, hdl, hdue, hsm, hsz, hb⟩ := hrel
        by_cases hiN : i < N
        · obtain ⟨b, o, rfl, hbs, hcell⟩ := HR.out i hiN
          obtain ⟨y1, y2⟩ := HG.out i
          have hcell' : wr.cell? ⟨b, o + i, none⟩ = some (.int .i64 (G i)) := (hb.cell (p := ⟨b, o + i, none⟩) hbs).trans hcell
          have hcd := harr.cell (ints_get (l := due) (k := i) (by omega))
          have hz := hsm i (by omega)
          have hve : 16 * G i + due.getD i 0 = vv W G i := by
            rw [hdue i (Nat.le_refl _) hiN, Dg_at W (lef W G) (by omega)]; rfl
          have hvb : -2000000 ≤ vv W G i ∧ vv W G i ≤ 2000000 := by
            have k1 := HL.out i hiN
            have k2 := lef_eq W G (by omega) i
            have k3 := dot_01 (vv W G i)
            unfold lft at k2
            omega
          have HLE := Lib.hid (lef_eq W G (by omega) i)
          have HDU := Lib.hid hdue
          have hi63 : (i : Int) < N := by omega
          generalize hdz : due.getD i 0 = z at *
          clear hcell hdz hdue
          go_upto_if 68 with fail
          clear hve
          go_cut [13] (fun d wx => d = .int .i64 (dotOf (vv W G i)) ∧ wr = wx)
          case first =>
            have HD : Hid (dotOf (vv W G i) = if 4080 ≤ 2 * vv W G i then 255 else 0) := rfl
            by_cases hv : 4080 ≤ 2 * vv W G i
            · go_wp2_with fail
              go_meet
              exact ⟨by rw [HD.out, if_pos hv], rfl⟩
            · go_wp2_with fail
              go_meet
              exact ⟨by rw [HD.out, if_neg (by omega)], rfl⟩
          case rest =>
            obtain ⟨rfl, rfl⟩ := hcut
            have zd := dot_01 (vv W G i)
            have zl : vv W G i - 16 * dotOf (vv W G i) = lef W G i := HLE.out.symm
            have HLi := HL.out i hiN
            have hd0 : 0 ≤ dotOf (vv W G i) ∧ dotOf (vv W G i) ≤ 255 := by omega
            have HDS := Lib.hid (dotsL_succ W G i)
            have bs := share_bounds HLi.1 HLi.2
            have hLS := lostS_small (W := W) (N := N) (L := lef W G) (k := i) (fun j hj => HL.out j (by omega))
            have H4 := Lib.hid (four W N (lef W G) (by omega) HM.out hiN hdl HDU.out)
            clear zd
            go_wp2_with (at_builtin
                         refine app_el T22 [.int .i64 (dotOf (vv W G i))] hout (Below.refl _ _) hsz rfl rfl rfl rfl rfl (by simp [Value.oneCell']) (by omega) ?_
                         intro v1 w2 hown1 hb1 hg1 ho1)
            have harr2 : Arr w2 w.heap.size 3 (ints due) := harr.grown hg1 (row_ne hout (Nat.lt_succ_self _))
            have hb2 : Below w.heap.size w w2 := below_row hb hout hg1 (Nat.le_refl _) (Nat.le_succ _)
            have hsz2 : w.heap.size + 1 ≤ w2.heap.size := Nat.le_trans hsz hg1.size
            have HG4 : Hid (_ ∧ _ ∧ _) := ⟨gvL_small (W := W) (i := i) (x := 1) (y := 0) (n := s0 (lef W G i)) (due := due) (F := 262144) (by omega) (by omega),
              gvL_small (W := W) (i := i) (x := -1) (y := 1) (n := s1 (lef W G i)) (due := gvD W i 1 0 (s0 (lef W G i)) due) (F := 262144) (by omega) (by omega),
              gvL_small (W := W) (i := i) (x := 0) (y := 1) (n := s2 (lef W G i)) (due := gvD W i (-1) 1 (s1 (lef W G i)) (gvD W i 1 0 (s0 (lef W G i)) due)) (F := 262144) (by omega) (by omega)⟩
            have HS : Hid (∀ j, Small (1048576 * (i : Int) + 786432) (dJ W i (lef W G i) due j)) := by
              have k1 := gvD_small (W := W) (i := i) (x := 1) (y := 0) (n := s0 (lef W G i)) (F := 262144) hsm (by omega) (by omega)
              have k2 := gvD_small (W := W) (i := i) (x := -1) (y := 1) (n := s1 (lef W G i)) (F := 262144) k1 (by omega) (by omega)
              have k3 := gvD_small (W := W) (i := i) (x := 0) (y := 1) (n := s2 (lef W G i)) (F := 262144) k2 (by omega) (by omega)
              intro j
              match j with
              | 0 => exact hsm.mono (by omega)
              | 1 => exact k1.mono (by omega)
              | 2 => exact k2.mono (by omega)
              | _ + 3 => exact k3.mono (by omega)
            have HDL : Hid (∀ j, (dJ W i (lef W G i) due j).length = N) := by
              intro j
              match j with
              | 0 => exact hdl
              | 1 => simp only [dJ, gvD_len, hdl]
              | 2 => simp only [dJ, gvD_len, hdl]
              | _ + 3 => simp only [dJ, gvD_len, hdl]
            have HZL := Lib.hid zl
            clear hg1 ho1 hb1 harr hout hb hsz hcell' hcd hz zl hsm hdl
            go_loopg [5, 12, 81] 3 (fun g lost v ctr w3 => ∃ j : Nat, j ≤ 3 ∧ g = 3 - j ∧ ctr = .int .i64 j ∧ lost = .int .i64 (lostS W N (lef W G) i + lJ W i (lef W G i) due j) ∧ v = .int .i64 (vJ (vv W G i) (lef W G i) j) ∧
              Arr w3 w.heap.size 3 (ints (dJ W i (lef W G i) due j)) ∧ w3.ownsRow (w.heap.size + 1) 3 1 v1 (i + 1) ((dotsL W G i).map (Value.int .i64) ++ [.int .i64 (dotOf (vv W G i))]) ∧ Below w.heap.size w w3 ∧ w.heap.size + 1 ≤ w3.heap.size)
            case atStart => exact ⟨0, Nat.zero_le _, rfl, rfl, by simp [lJ], rfl, harr2, hown1, hb2, hsz2⟩
            case round =>
              clear harr2 hown1 hb2 hsz2
              obtain ⟨j, hj, rfl, rfl, rfl, rfl, harr3, hown3, hb3, hsz3⟩ := hrel
              have hj4 : j = 0 ∨ j = 1 ∨ j = 2 ∨ j = 3 := by omega
              clear hj
              rcases hj4 with rfl | rfl | rfl | rfl
              · have ati := at0
                have e0 : (lef W G i * 7).tdiv 16 = s0 (lef W G i) := rfl
                have hjs : Hid (dJ W i (lef W G i) due 1 = gvD W i (1) 0 (s0 (lef W G i)) (dJ W i (lef W G i) due 0)) := rfl
                have hjl : Hid (lJ W i (lef W G i) due 1 = lJ W i (lef W G i) due 0 + gvL W i (1) 0 (s0 (lef W G i)) (dJ W i (lef W G i) due 0)) := by show _ = _; simp [lJ, dJ]
                have hjv : Hid (vJ (vv W G i) (lef W G i) 1 = vJ (vv W G i) (lef W G i) 0 - s0 (lef W G i)) := rfl
                have hgl := gvL_small (W := W) (i := i) (x := 1) (y := 0) (n := s0 (lef W G i)) (due := dJ W i (lef W G i) due 0) (F := 262144) (by omega) (by omega)
                have hvj : -3000000 ≤ vJ (vv W G i) (lef W G i) 0 ∧ vJ (vv W G i) (lef W G i) 0 ≤ 3000000 := by simp only [vJ]; omega
                have hlj : -1000000 ≤ lJ W i (lef W G i) due 0 ∧ lJ W i (lef W G i) due 0 ≤ 1000000 := by rcases HG4.out with ⟨g1, g2, g3⟩; simp only [lJ]; omega
                have hsj : Small 1099511627776 (dJ W i (lef W G i) due 0) := (HS.out 0).mono (by omega)
                have hdlj : (dJ W i (lef W G i) due 0).length = N := HDL.out 0
                generalize lJ W i (lef W G i) due 0 = lj0 at *
                generalize vJ (vv W G i) (lef W G i) 0 = vj0 at *
                generalize dJ W i (lef W G i) due 0 = dj0 at *
                go_wp2_with (go_at_call 17; refine (give_any f1 f2 f3 hiN hdlj (by omega) (by simp) hsj (by omega) _ ?_).mono ?_; (repeat (first | exact harr3 | apply Arr.alloc | apply Arr.dN)); rintro e w4 ⟨rfl, harr4, hg4⟩)
                clear ati e0
                go_roundg (3 - 1)
                case measure => decide
                case rel => exact ⟨1, by omega, rfl, rfl, congrArg (Value.int .i64) (by rw [hjl.out]; omega), congrArg (Value.int .i64) (by rw [hjv.out]), by rw [hjs.out]; exact harr4, own_kept_lt (own_al hown3 _) hg4 (Nat.lt_succ_self _), below_one (below_al hb3 (Nat.le_refl _) _) hg4 (Nat.le_refl _) (Nat.le_refl _), Nat.le_trans (Nat.le_trans hsz3 (by simp)) hg4.size⟩
              · have ati := at1
                have e0 : (lef W G i * 3).tdiv 16 = s1 (lef W G i) := rfl
                have hjs : Hid (dJ W i (lef W G i) due 2 = gvD W i (-1) 1 (s1 (lef W G i)) (dJ W i (lef W G i) due 1)) := rfl
                have hjl : Hid (lJ W i (lef W G i) due 2 = lJ W i (lef W G i) due 1 + gvL W i (-1) 1 (s1 (lef W G i)) (dJ W i (lef W G i) due 1)) := by show _ = _; simp [lJ, dJ]
                have hjv : Hid (vJ (vv W G i) (lef W G i) 2 = vJ (vv W G i) (lef W G i) 1 - s1 (lef W G i)) := rfl
                have hgl := gvL_small (W := W) (i := i) (x := -1) (y := 1) (n := s1 (lef W G i)) (due := dJ W i (lef W G i) due 1) (F := 262144) (by omega) (by omega)
                have hvj : -3000000 ≤ vJ (vv W G i) (lef W G i) 1 ∧ vJ (vv W G i) (lef W G i) 1 ≤ 3000000 := by simp only [vJ]; omega
                have hlj : -1000000 ≤ lJ W i (lef W G i) due 1 ∧ lJ W i (lef W G i) due 1 ≤ 1000000 := by rcases HG4.out with ⟨g1, g2, g3⟩; simp only [lJ]; omega
                have hsj : Small 1099511627776 (dJ W i (lef W G i) due 1) := (HS.out 1).mono (by omega)
                have hdlj : (dJ W i (lef W G i) due 1).length = N := HDL.out 1
                generalize lJ W i (lef W G i) due 1 = lj0 at *
                generalize vJ (vv W G i) (lef W G i) 1 = vj0 at *
                generalize dJ W i (lef W G i) due 1 = dj0 at *
                go_wp2_with (go_at_call 17; refine (give_any f1 f2 f3 hiN hdlj (by omega) (by simp) hsj (by omega) _ ?_).mono ?_; (repeat (first | exact harr3 | apply Arr.alloc | apply Arr.dN)); rintro e w4 ⟨rfl, harr4, hg4⟩)
                clear ati e0
                go_roundg (3 - 2)
                case measure => decide
                case rel => exact ⟨2, by omega, rfl, rfl, congrArg (Value.int .i64) (by rw [hjl.out]; omega), congrArg (Value.int .i64) (by rw [hjv.out]), by rw [hjs.out]; exact harr4, own_kept_lt (own_al hown3 _) hg4 (Nat.lt_succ_self _), below_one (below_al hb3 (Nat.le_refl _) _) hg4 (Nat.le_refl _) (Nat.le_refl _), Nat.le_trans (Nat.le_trans hsz3 (by simp)) hg4.size⟩
              · have ati := at2
                have e0 : (lef W G i * 5).tdiv 16 = s2 (lef W G i) := rfl
                have hjs : Hid (dJ W i (lef W G i) due 3 = gvD W i (0) 1 (s2 (lef W G i)) (dJ W i (lef W G i) due 2)) := rfl
                have hjl : Hid (lJ W i (lef W G i) due 3 = lJ W i (lef W G i) due 2 + gvL W i (0) 1 (s2 (lef W G i)) (dJ W i (lef W G i) due 2)) := by show _ = _; simp [lJ, dJ]
                have hjv : Hid (vJ (vv W G i) (lef W G i) 3 = vJ (vv W G i) (lef W G i) 2 - s2 (lef W G i)) := rfl
                have hgl := gvL_small (W := W) (i := i) (x := 0) (y := 1) (n := s2 (lef W G i)) (due := dJ W i (lef W G i) due 2) (F := 262144) (by omega) (by omega)
                have hvj : -3000000 ≤ vJ (vv W G i) (lef W G i) 2 ∧ vJ (vv W G i) (lef W G i) 2 ≤ 3000000 := by simp only [vJ]; omega
                have hlj : -1000000 ≤ lJ W i (lef W G i) due 2 ∧ lJ W i (lef W G i) due 2 ≤ 1000000 := by rcases HG4.out with ⟨g1, g2, g3⟩; simp only [lJ]; omega
                have hsj : Small 1099511627776 (dJ W i (lef W G i) due 2) := (HS.out 2).mono (by omega)
                have hdlj : (dJ W i (lef W G i) due 2).length = N := HDL.out 2
                generalize lJ W i (lef W G i) due 2 = lj0 at *
                generalize vJ (vv W G i) (lef W G i) 2 = vj0 at *
                generalize dJ W i (lef W G i) due 2 = dj0 at *
                go_wp2_with (go_at_call 17; refine (give_any f1 f2 f3 hiN hdlj (by omega) (by simp) hsj (by omega) _ ?_).mono ?_; (repeat (first | exact harr3 | apply Arr.alloc | apply Arr.dN)); rintro e w4 ⟨rfl, harr4, hg4⟩)
                clear ati e0
                go_roundg (3 - 3)
                case measure => decide
                case rel => exact ⟨3, by omega, rfl, rfl, congrArg (Value.int .i64) (by rw [hjl.out]; omega), congrArg (Value.int .i64) (by rw [hjv.out]), by rw [hjs.out]; exact harr4, own_kept_lt (own_al hown3 _) hg4 (Nat.lt_succ_self _), below_one (below_al hb3 (Nat.le_refl _) _) hg4 (Nat.le_refl _) (Nat.le_refl _), Nat.le_trans (Nat.le_trans hsz3 (by simp)) hg4.size⟩
              · have e3 : vJ (vv W G i) (lef W G i) 3 - 16 * dotOf (vv W G i) = s3 (lef W G i) := by have := HZL.out; simp only [vJ, s3]; omega
                have hg4' := gvL_small (W := W) (i := i) (x := 1) (y := 1) (n := s3 (lef W G i)) (due := dJ W i (lef W G i) due 3) (F := 262147) (by omega) (by omega)
                have hvj : -4000000 ≤ vJ (vv W G i) (lef W G i) 3 ∧ vJ (vv W G i) (lef W G i) 3 ≤ 4000000 := by simp only [vJ]; omega
                have hlj : -1000000 ≤ lJ W i (lef W G i) due 3 ∧ lJ W i (lef W G i) due 3 ≤ 1000000 := by rcases HG4.out with ⟨g1, g2, g3⟩; simp only [lJ]; omega
                have hsj : Small 1099511627776 (dJ W i (lef W G i) due 3) := (HS.out 3).mono (by omega)
                have hdlj : (dJ W i (lef W G i) due 3).length = N := HDL.out 3
                have K1 : Hid (∀ k, i + 1 ≤ k → k < N → (gvD W i 1 1 (s3 (lef W G i)) (dJ W i (lef W G i) due 3)).getD k 0 = Dg W (lef W G) (i + 1) k) := H4.out.1
                have K2 : Hid (lJ W i (lef W G i) due 3 + gvL W i 1 1 (s3 (lef W G i)) (dJ W i (lef W G i) due 3) = lostAt W N (lef W G) i) := H4.out.2
                have K3 : Hid (Small (1048576 * ((i + 1 : Nat) : Int)) (gvD W i 1 1 (s3 (lef W G i)) (dJ W i (lef W G i) due 3))) :=
                  (gvD_small (F := 262144) (HS.out 3) (by omega) (by omega)).mono (by omega)
                have K4 : Hid ((gvD W i 1 1 (s3 (lef W G i)) (dJ W i (lef W G i) due 3)).length = N) := by show _ = _; rw [gvD_len, hdlj]
                have K5 : Hid (lostS W N (lef W G) (i + 1) = lostS W N (lef W G) i + lostAt W N (lef W G) i) := rfl
                have hend : N - (i + 1) < N - i := by omega
                generalize dJ W i (lef W G i) due 3 = dj3 at *
                generalize lJ W i (lef W G i) due 3 = lj3 at *
                generalize lostAt W N (lef W G) i = la at *
                go_wp2_with (go_at_call 17; refine (give_any f1 f2 f3 hiN hdlj (by omega) (by simp) hsj (by omega) _ ?_).mono ?_; (repeat (first | exact harr3 | apply Arr.alloc | apply Arr.dN)); rintro e w4 ⟨rfl, harr4, hg4⟩)
                go_roundg (N - (i + 1))
                case measure => exact hend
                case rel => exact ⟨i + 1, _, by omega, rfl, by go_num, congrArg (Value.int .i64) (by rw [K5.out, ← K2.out]; omega), by rw [HDS.out, List.map_append]; exact own_kept_lt hown3 hg4 (Nat.lt_succ_self _), harr4, K4.out, K1.out, K3.out, Nat.le_trans hsz3 hg4.size, below_one hb3 hg4 (Nat.le_refl _) (Nat.le_refl _)⟩
        · have e : i = N := by omega
          subst e
          go_wp2_with fail
          go_ret3
          exact ⟨_, rfl, own_base hout (Nat.le_succ _), hb⟩
end Go.Proofs.Ytmjhhaejiabkdaa
