import Derived.Test.YtaacfjeddoekfaaTl4
import Derived.Test.YtaacfjeddoekfaaTl7
import Derived.Test.YtaacfjeddoekfaaTl2
/- Chapter 11: 'alive' is true; stitches seen from behind. -/
namespace Go.Proofs.Ytaacfjeddoekfaa
open Go.RowKit
set_option linter.unusedVariables false
set_option linter.unusedSimpArgs false

def twoS : List Sti := [⟨2, 0, 0, 0, 0⟩, ⟨1, 0, 0, 0, 0⟩]
theorem two_run : runF 1 twoS = (0, 0) ∧ (runK 1 twoS).loops.length = 2 ∧ ((runK 1 twoS).loops.getD 1 noLop).thr.length = 1 := by decide

set_option maxRecDepth 100000 in
set_option maxHeartbeats 2000000 in
theorem knitAlive (w : World) : Calls Try.prog 16 #[] w fun e w' => e = .returned (.bool true) ∧ Below w.heap.size w w' := by
  have HB : Hid (Below w.heap.size w (w.alloc (.cells #[.int .i64 2, .int .i64 0, .int .i64 0, .int .i64 0, .int .i64 0, .int .i64 1, .int .i64 0, .int .i64 0, .int .i64 0, .int .i64 0] 44))) := (Below.refl _ _).alloc (Nat.le_refl _) _
  have HD : Hid (Stitches (w.alloc (.cells #[.int .i64 2, .int .i64 0, .int .i64 0, .int .i64 0, .int .i64 0, .int .i64 1, .int .i64 0, .int .i64 0, .int .i64 0, .int .i64 0] 44)) (fun b => b < (w.alloc (.cells #[.int .i64 2, .int .i64 0, .int .i64 0, .int .i64 0, .int .i64 0, .int .i64 1, .int .i64 0, .int .i64 0, .int .i64 0, .int .i64 0] 44)).heap.size) (.slice (some ⟨w.heap.size, 0, none⟩) 2 2) twoS) := by
    refine ⟨some ⟨w.heap.size, 0, none⟩, 2, rfl, Nat.le_refl _, by simp [maxLen], rfl, fun _ => ⟨w.heap.size, 0, rfl, by simp, fun j u hu => ?_⟩⟩
    rw [Nat.zero_add]
    exact (Arr.new w _ 44).cell hu
  go_enter Try.func16, Try.ntmps16
  go_wp2_with fail
  refine (Run_ok 1 (by decide) (by decide) _ HD.out).mono ?_
  rintro e w1 ⟨kv, rfl, hk, hb1⟩
  have HB1 := Lib.hid (HB.out.trans (hb1.mono (by simp)))
  clear hb1
  rw [two_run.1]
  have e2 := two_run.2.1
  have e3 := two_run.2.2
  generalize runK 1 twoS = kn at *
  obtain ⟨vl, vf, vb, vo, rfl, hl', hf', hb', ho'⟩ := hk
  obtain ⟨Aq, cq, tq, rfl, hc1, hc2, hrow, hin⟩ := hl'
  obtain ⟨Af, cf, tf, rfl, _⟩ := hf'
  obtain ⟨Ab, cb, tb, rfl, _⟩ := hb'
  obtain ⟨Ap, cp, rfl, _⟩ := ho'
  obtain ⟨b, o, e, hbb, _, x1⟩ := loop_cells hrow (i := 1) (by omega)
  cases e
  obtain ⟨At, ct, et, _⟩ := hin 1 (by omega)
  rw [et, e3] at x1
  rw [e2] at hc1 ⊢
  unfold maxLen at hc2
  clear hrow hin et
  have HBF : Hid (∀ o o', Below w.heap.size w ((w1.alloc o).alloc o')) := fun o o' => (HB1.out.alloc HB1.out.size _).alloc (by have := HB1.out.size; simp; omega) _
  go_wp2_with fail
  go_ret
  exact ⟨rfl, HBF.out _ _⟩
theorem sti_one (l : List Sti) : ∀ u ∈ l.flatMap Sti.cells, u.oneCell' = true := by
  intro u hu
  obtain ⟨h, _, hu⟩ := List.mem_flatMap.1 hu
  simp [Sti.cells] at hu
  rcases hu with rfl | rfl | rfl | rfl | rfl <;> rfl
theorem Stitches.of_own {w : World} {base : Nat} {e : TypeId} {v : Value} {n : Nat} {l : List Sti} (h : w.ownsRow base e 5 v n (l.flatMap Sti.cells)) : Stitches w (fun b => base ≤ b ∧ b < w.heap.size) v l := by
  obtain ⟨A, c, rfl, h1, h2⟩ := own_form h
  have hl : l.length = n := by have := h.1; rw [flat_len Sti.cells_len] at this; omega
  subst hl
  exact ⟨A, c, rfl, h1, h2, .of_own h⟩

set_option maxRecDepth 100000 in
set_option maxHeartbeats 4000000 in
theorem turned_any {v : Value} {l : List Sti} (w : World) (hv : Stitches w (fun b => b < w.heap.size) v l) (hl : l.length * 40 ≤ 140737488351232) (hok : ∀ x ∈ l, -9223372036854775808 ≤ x.t ∧ x.t ≤ 9223372036854775807) :
    Calls Try.prog 17 #[v] w fun e w' => ∃ u, e = .returned u ∧ Stitches w' (fun b => w.heap.size ≤ b ∧ b < w'.heap.size) u (l.map turnS) ∧ Below w.heap.size w w' := by
  have HV := Lib.hid hv
  obtain ⟨A, c, rfl, h1, h2, hr⟩ := hv
  clear hr
  unfold maxLen at h2
  have hml : ∀ i, ((l.take i).map turnS).length = min i l.length := fun i => by rw [List.length_map, List.length_take]
  go_enter Try.func17, Try.ntmps17
  go_wp2_with fail
  go_loopg [3, 8] l.length (fun gg out ctr wr => ∃ i : Nat, i ≤ l.length ∧ gg = l.length - i ∧ ctr = .int .i64 i ∧ wr.ownsRow w.heap.size 44 5 out i (((l.take i).map turnS).flatMap Sti.cells) ∧ Below w.heap.size w wr)
  case atStart => exact ⟨0, by omega, rfl, rfl, World.ownsRow_nil _ _ _ _, Below.refl _ _⟩
  case round =>
    obtain ⟨i, hi, rfl, rfl, ho, hb⟩ := hrel
    have HO := Lib.hid ho
    have HB := Lib.hid hb
    clear ho hb
    by_cases hlt : i < l.length
    case neg =>
      obtain rfl : i = l.length := by omega
      rw [List.take_length] at HO
      go_wp2_with fail
      go_ret
      exact ⟨_, rfl, Stitches.of_own HO.out, HB.out⟩
    obtain ⟨b, o, e, hbb, x0, x1, x2, x3, x4⟩ := sti_cells (srow_of (HV.out.same (Same.of_below HB.out))) hlt
    cases e
    have hbw : b < wr.heap.size := Nat.lt_of_lt_of_le hbb HB.out.size
    have HS : Hid ((l.take (i + 1)).map turnS = (l.take i).map turnS ++ [turnS l[i]]) := by
      show _ = _
      rw [List.take_succ_eq_append_getElem hlt, List.map_append]; rfl
    have hxo := hok l[i] (List.getElem_mem hlt)
    generalize l[i] = x at *
    obtain ⟨d, bd, n, cc, t⟩ := x
    dsimp only at x0 x1 x2 x3 x4 hxo
    have hcs : (bd = 0 ∨ bd = 1 ∨ (bd ≠ 0 ∧ bd ≠ 1)) := by omega
    have hts : d ≠ 6 ∨ (d = 6 ∧ ¬ t ≥ -4) ∨ (d = 6 ∧ t ≥ -4 ∧ ¬ t ≤ 4) ∨ (d = 6 ∧ t ≥ -4 ∧ t ≤ 4) := by omega
    rcases hcs with rfl | rfl | ⟨e1, e2⟩
    · rcases hts with t1 | ⟨t1, t2⟩ | ⟨t1, t2, t3⟩ | ⟨t1, t2, t3⟩
      · have q3 : (d == 6) = false := by simpa using t1
        have HE : Hid (turnS ⟨d, 0, n, cc, t⟩ = ⟨d, 1, n, cc, t⟩) := by
          show _ = _
          unfold turnS flip
          dsimp only
          rw [if_pos (by omega)]
          rw [if_neg (by omega)]
          rfl
        clear t1
        go_upto_region 9 with fail
        have y0 := (Arr.new wr #[.int .i64 d, .int .i64 1, .int .i64 n, .int .i64 cc, .int .i64 t] 44).cell (k := 0) rfl
        have y1 := (Arr.new wr #[.int .i64 d, .int .i64 1, .int .i64 n, .int .i64 cc, .int .i64 t] 44).cell (k := 1) rfl
        have y2 := (Arr.new wr #[.int .i64 d, .int .i64 1, .int .i64 n, .int .i64 cc, .int .i64 t] 44).cell (k := 2) rfl
        have y3 := (Arr.new wr #[.int .i64 d, .int .i64 1, .int .i64 n, .int .i64 cc, .int .i64 t] 44).cell (k := 3) rfl
        have y4 := (Arr.new wr #[.int .i64 d, .int .i64 1, .int .i64 n, .int .i64 cc, .int .i64 t] 44).cell (k := 4) rfl
        have HO2 : Hid ((wr.alloc (.cells #[.int .i64 d, .int .i64 1, .int .i64 n, .int .i64 cc, .int .i64 t] 44)).ownsRow w.heap.size 44 5 u3 i (((l.take i).map turnS).flatMap Sti.cells)) := own_al HO.out _
        have HB2 : Hid (Below w.heap.size w (wr.alloc (.cells #[.int .i64 d, .int .i64 1, .int .i64 n, .int .i64 cc, .int .i64 t] 44))) := HB.out.alloc HB.out.size _
        generalize wr.alloc (.cells #[.int .i64 d, .int .i64 1, .int .i64 n, .int .i64 cc, .int .i64 t] 44) = w2 at *
        go_wp2_with (at_builtin
                     refine app_el T22 [.int .i64 d, .int .i64 1, .int .i64 n, .int .i64 cc, .int .i64 t] HO2.out HB2.out (Nat.le_refl _) rfl rfl rfl rfl rfl ?_ ?_ ?_
                     rotate_right
                     intro v1 w1 hown1 hb1 hg1 ho1
                     have HF := Lib.hid (And.intro hown1 hb1)
                     clear hown1 hb1 hg1 ho1)
        case refine_1 => simp [Value.oneCell']
        case refine_2 => omega
        go_roundg (l.length - (i + 1))
        case measure => omega
        case rel => exact ⟨i + 1, by omega, rfl, by go_num, by rw [HS.out, HE.out, List.flatMap_append]; simpa [Sti.cells] using HF.out.1, HF.out.2⟩
      · subst t1
        have HE : Hid (turnS ⟨6, 0, n, cc, t⟩ = ⟨6, 1, n, cc, t⟩) := by
          show _ = _
          unfold turnS flip
          dsimp only
          rw [if_pos (by omega)]
          rw [if_neg (by omega)]
          rfl
        go_upto_region 9 with fail
        have y0 := (Arr.new wr #[.int .i64 6, .int .i64 1, .int .i64 n, .int .i64 cc, .int .i64 t] 44).cell (k := 0) rfl
        have y1 := (Arr.new wr #[.int .i64 6, .int .i64 1, .int .i64 n, .int .i64 cc, .int .i64 t] 44).cell (k := 1) rfl
        have y2 := (Arr.new wr #[.int .i64 6, .int .i64 1, .int .i64 n, .int .i64 cc, .int .i64 t] 44).cell (k := 2) rfl
        have y3 := (Arr.new wr #[.int .i64 6, .int .i64 1, .int .i64 n, .int .i64 cc, .int .i64 t] 44).cell (k := 3) rfl
        have y4 := (Arr.new wr #[.int .i64 6, .int .i64 1, .int .i64 n, .int .i64 cc, .int .i64 t] 44).cell (k := 4) rfl
        have HO2 : Hid ((wr.alloc (.cells #[.int .i64 6, .int .i64 1, .int .i64 n, .int .i64 cc, .int .i64 t] 44)).ownsRow w.heap.size 44 5 u3 i (((l.take i).map turnS).flatMap Sti.cells)) := own_al HO.out _
        have HB2 : Hid (Below w.heap.size w (wr.alloc (.cells #[.int .i64 6, .int .i64 1, .int .i64 n, .int .i64 cc, .int .i64 t] 44))) := HB.out.alloc HB.out.size _
        generalize wr.alloc (.cells #[.int .i64 6, .int .i64 1, .int .i64 n, .int .i64 cc, .int .i64 t] 44) = w2 at *
        go_wp2_with (at_builtin
                     refine app_el T22 [.int .i64 6, .int .i64 1, .int .i64 n, .int .i64 cc, .int .i64 t] HO2.out HB2.out (Nat.le_refl _) rfl rfl rfl rfl rfl ?_ ?_ ?_
                     rotate_right
                     intro v1 w1 hown1 hb1 hg1 ho1
                     have HF := Lib.hid (And.intro hown1 hb1)
                     clear hown1 hb1 hg1 ho1)
        case refine_1 => simp [Value.oneCell']
        case refine_2 => omega
        go_roundg (l.length - (i + 1))
        case measure => omega
        case rel => exact ⟨i + 1, by omega, rfl, by go_num, by rw [HS.out, HE.out, List.flatMap_append]; simpa [Sti.cells] using HF.out.1, HF.out.2⟩
      · subst t1
        have HE : Hid (turnS ⟨6, 0, n, cc, t⟩ = ⟨6, 1, n, cc, t⟩) := by
          show _ = _
          unfold turnS flip
          dsimp only
          rw [if_pos (by omega)]
          rw [if_neg (by omega)]
          rfl
        go_upto_region 9 with fail
        have y0 := (Arr.new wr #[.int .i64 6, .int .i64 1, .int .i64 n, .int .i64 cc, .int .i64 t] 44).cell (k := 0) rfl
        have y1 := (Arr.new wr #[.int .i64 6, .int .i64 1, .int .i64 n, .int .i64 cc, .int .i64 t] 44).cell (k := 1) rfl
        have y2 := (Arr.new wr #[.int .i64 6, .int .i64 1, .int .i64 n, .int .i64 cc, .int .i64 t] 44).cell (k := 2) rfl
        have y3 := (Arr.new wr #[.int .i64 6, .int .i64 1, .int .i64 n, .int .i64 cc, .int .i64 t] 44).cell (k := 3) rfl
        have y4 := (Arr.new wr #[.int .i64 6, .int .i64 1, .int .i64 n, .int .i64 cc, .int .i64 t] 44).cell (k := 4) rfl
        have HO2 : Hid ((wr.alloc (.cells #[.int .i64 6, .int .i64 1, .int .i64 n, .int .i64 cc, .int .i64 t] 44)).ownsRow w.heap.size 44 5 u3 i (((l.take i).map turnS).flatMap Sti.cells)) := own_al HO.out _
        have HB2 : Hid (Below w.heap.size w (wr.alloc (.cells #[.int .i64 6, .int .i64 1, .int .i64 n, .int .i64 cc, .int .i64 t] 44))) := HB.out.alloc HB.out.size _
        generalize wr.alloc (.cells #[.int .i64 6, .int .i64 1, .int .i64 n, .int .i64 cc, .int .i64 t] 44) = w2 at *
        go_wp2_with (at_builtin
                     refine app_el T22 [.int .i64 6, .int .i64 1, .int .i64 n, .int .i64 cc, .int .i64 t] HO2.out HB2.out (Nat.le_refl _) rfl rfl rfl rfl rfl ?_ ?_ ?_
                     rotate_right
                     intro v1 w1 hown1 hb1 hg1 ho1
                     have HF := Lib.hid (And.intro hown1 hb1)
                     clear hown1 hb1 hg1 ho1)
        case refine_1 => simp [Value.oneCell']
        case refine_2 => omega
        go_roundg (l.length - (i + 1))
        case measure => omega
        case rel => exact ⟨i + 1, by omega, rfl, by go_num, by rw [HS.out, HE.out, List.flatMap_append]; simpa [Sti.cells] using HF.out.1, HF.out.2⟩
      · subst t1
        have HE : Hid (turnS ⟨6, 0, n, cc, t⟩ = ⟨6, 1, n, cc, (-t)⟩) := by
          show _ = _
          unfold turnS flip
          dsimp only
          rw [if_pos (by omega)]
          rw [if_pos (by omega)]
          rfl
        go_upto_region 9 with fail
        have y0 := (Arr.new wr #[.int .i64 6, .int .i64 1, .int .i64 n, .int .i64 cc, .int .i64 (-t)] 44).cell (k := 0) rfl
        have y1 := (Arr.new wr #[.int .i64 6, .int .i64 1, .int .i64 n, .int .i64 cc, .int .i64 (-t)] 44).cell (k := 1) rfl
        have y2 := (Arr.new wr #[.int .i64 6, .int .i64 1, .int .i64 n, .int .i64 cc, .int .i64 (-t)] 44).cell (k := 2) rfl
        have y3 := (Arr.new wr #[.int .i64 6, .int .i64 1, .int .i64 n, .int .i64 cc, .int .i64 (-t)] 44).cell (k := 3) rfl
        have y4 := (Arr.new wr #[.int .i64 6, .int .i64 1, .int .i64 n, .int .i64 cc, .int .i64 (-t)] 44).cell (k := 4) rfl
        have HO2 : Hid ((wr.alloc (.cells #[.int .i64 6, .int .i64 1, .int .i64 n, .int .i64 cc, .int .i64 (-t)] 44)).ownsRow w.heap.size 44 5 u3 i (((l.take i).map turnS).flatMap Sti.cells)) := own_al HO.out _
        have HB2 : Hid (Below w.heap.size w (wr.alloc (.cells #[.int .i64 6, .int .i64 1, .int .i64 n, .int .i64 cc, .int .i64 (-t)] 44))) := HB.out.alloc HB.out.size _
        generalize wr.alloc (.cells #[.int .i64 6, .int .i64 1, .int .i64 n, .int .i64 cc, .int .i64 (-t)] 44) = w2 at *
        go_wp2_with (at_builtin
                     refine app_el T22 [.int .i64 6, .int .i64 1, .int .i64 n, .int .i64 cc, .int .i64 (-t)] HO2.out HB2.out (Nat.le_refl _) rfl rfl rfl rfl rfl ?_ ?_ ?_
                     rotate_right
                     intro v1 w1 hown1 hb1 hg1 ho1
                     have HF := Lib.hid (And.intro hown1 hb1)
                     clear hown1 hb1 hg1 ho1)
        case refine_1 => simp [Value.oneCell']
        case refine_2 => omega
        go_roundg (l.length - (i + 1))
        case measure => omega
        case rel => exact ⟨i + 1, by omega, rfl, by go_num, by rw [HS.out, HE.out, List.flatMap_append]; simpa [Sti.cells] using HF.out.1, HF.out.2⟩
    · rcases hts with t1 | ⟨t1, t2⟩ | ⟨t1, t2, t3⟩ | ⟨t1, t2, t3⟩
      · have q3 : (d == 6) = false := by simpa using t1
        have HE : Hid (turnS ⟨d, 1, n, cc, t⟩ = ⟨d, 0, n, cc, t⟩) := by
          show _ = _
          unfold turnS flip
          dsimp only
          rw [if_pos (by omega)]
          rw [if_neg (by omega)]
          rfl
        clear t1
        go_upto_region 9 with fail
        have y0 := (Arr.new wr #[.int .i64 d, .int .i64 0, .int .i64 n, .int .i64 cc, .int .i64 t] 44).cell (k := 0) rfl
        have y1 := (Arr.new wr #[.int .i64 d, .int .i64 0, .int .i64 n, .int .i64 cc, .int .i64 t] 44).cell (k := 1) rfl
        have y2 := (Arr.new wr #[.int .i64 d, .int .i64 0, .int .i64 n, .int .i64 cc, .int .i64 t] 44).cell (k := 2) rfl
        have y3 := (Arr.new wr #[.int .i64 d, .int .i64 0, .int .i64 n, .int .i64 cc, .int .i64 t] 44).cell (k := 3) rfl
        have y4 := (Arr.new wr #[.int .i64 d, .int .i64 0, .int .i64 n, .int .i64 cc, .int .i64 t] 44).cell (k := 4) rfl
        have HO2 : Hid ((wr.alloc (.cells #[.int .i64 d, .int .i64 0, .int .i64 n, .int .i64 cc, .int .i64 t] 44)).ownsRow w.heap.size 44 5 u3 i (((l.take i).map turnS).flatMap Sti.cells)) := own_al HO.out _
        have HB2 : Hid (Below w.heap.size w (wr.alloc (.cells #[.int .i64 d, .int .i64 0, .int .i64 n, .int .i64 cc, .int .i64 t] 44))) := HB.out.alloc HB.out.size _
        generalize wr.alloc (.cells #[.int .i64 d, .int .i64 0, .int .i64 n, .int .i64 cc, .int .i64 t] 44) = w2 at *
        go_wp2_with (at_builtin
                     refine app_el T22 [.int .i64 d, .int .i64 0, .int .i64 n, .int .i64 cc, .int .i64 t] HO2.out HB2.out (Nat.le_refl _) rfl rfl rfl rfl rfl ?_ ?_ ?_
                     rotate_right
                     intro v1 w1 hown1 hb1 hg1 ho1
                     have HF := Lib.hid (And.intro hown1 hb1)
                     clear hown1 hb1 hg1 ho1)
        case refine_1 => simp [Value.oneCell']
        case refine_2 => omega
        go_roundg (l.length - (i + 1))
        case measure => omega
        case rel => exact ⟨i + 1, by omega, rfl, by go_num, by rw [HS.out, HE.out, List.flatMap_append]; simpa [Sti.cells] using HF.out.1, HF.out.2⟩
      · subst t1
        have HE : Hid (turnS ⟨6, 1, n, cc, t⟩ = ⟨6, 0, n, cc, t⟩) := by
          show _ = _
          unfold turnS flip
          dsimp only
          rw [if_pos (by omega)]
          rw [if_neg (by omega)]
          rfl
        go_upto_region 9 with fail
        have y0 := (Arr.new wr #[.int .i64 6, .int .i64 0, .int .i64 n, .int .i64 cc, .int .i64 t] 44).cell (k := 0) rfl
        have y1 := (Arr.new wr #[.int .i64 6, .int .i64 0, .int .i64 n, .int .i64 cc, .int .i64 t] 44).cell (k := 1) rfl
        have y2 := (Arr.new wr #[.int .i64 6, .int .i64 0, .int .i64 n, .int .i64 cc, .int .i64 t] 44).cell (k := 2) rfl
        have y3 := (Arr.new wr #[.int .i64 6, .int .i64 0, .int .i64 n, .int .i64 cc, .int .i64 t] 44).cell (k := 3) rfl
        have y4 := (Arr.new wr #[.int .i64 6, .int .i64 0, .int .i64 n, .int .i64 cc, .int .i64 t] 44).cell (k := 4) rfl
        have HO2 : Hid ((wr.alloc (.cells #[.int .i64 6, .int .i64 0, .int .i64 n, .int .i64 cc, .int .i64 t] 44)).ownsRow w.heap.size 44 5 u3 i (((l.take i).map turnS).flatMap Sti.cells)) := own_al HO.out _
        have HB2 : Hid (Below w.heap.size w (wr.alloc (.cells #[.int .i64 6, .int .i64 0, .int .i64 n, .int .i64 cc, .int .i64 t] 44))) := HB.out.alloc HB.out.size _
        generalize wr.alloc (.cells #[.int .i64 6, .int .i64 0, .int .i64 n, .int .i64 cc, .int .i64 t] 44) = w2 at *
        go_wp2_with (at_builtin
                     refine app_el T22 [.int .i64 6, .int .i64 0, .int .i64 n, .int .i64 cc, .int .i64 t] HO2.out HB2.out (Nat.le_refl _) rfl rfl rfl rfl rfl ?_ ?_ ?_
                     rotate_right
                     intro v1 w1 hown1 hb1 hg1 ho1
                     have HF := Lib.hid (And.intro hown1 hb1)
                     clear hown1 hb1 hg1 ho1)
        case refine_1 => simp [Value.oneCell']
        case refine_2 => omega
        go_roundg (l.length - (i + 1))
        case measure => omega
        case rel => exact ⟨i + 1, by omega, rfl, by go_num, by rw [HS.out, HE.out, List.flatMap_append]; simpa [Sti.cells] using HF.out.1, HF.out.2⟩
      · subst t1
        have HE : Hid (turnS ⟨6, 1, n, cc, t⟩ = ⟨6, 0, n, cc, t⟩) := by
          show _ = _
          unfold turnS flip
          dsimp only
          rw [if_pos (by omega)]
          rw [if_neg (by omega)]
          rfl
        go_upto_region 9 with fail
        have y0 := (Arr.new wr #[.int .i64 6, .int .i64 0, .int .i64 n, .int .i64 cc, .int .i64 t] 44).cell (k := 0) rfl
        have y1 := (Arr.new wr #[.int .i64 6, .int .i64 0, .int .i64 n, .int .i64 cc, .int .i64 t] 44).cell (k := 1) rfl
        have y2 := (Arr.new wr #[.int .i64 6, .int .i64 0, .int .i64 n, .int .i64 cc, .int .i64 t] 44).cell (k := 2) rfl
        have y3 := (Arr.new wr #[.int .i64 6, .int .i64 0, .int .i64 n, .int .i64 cc, .int .i64 t] 44).cell (k := 3) rfl
        have y4 := (Arr.new wr #[.int .i64 6, .int .i64 0, .int .i64 n, .int .i64 cc, .int .i64 t] 44).cell (k := 4) rfl
        have HO2 : Hid ((wr.alloc (.cells #[.int .i64 6, .int .i64 0, .int .i64 n, .int .i64 cc, .int .i64 t] 44)).ownsRow w.heap.size 44 5 u3 i (((l.take i).map turnS).flatMap Sti.cells)) := own_al HO.out _
        have HB2 : Hid (Below w.heap.size w (wr.alloc (.cells #[.int .i64 6, .int .i64 0, .int .i64 n, .int .i64 cc, .int .i64 t] 44))) := HB.out.alloc HB.out.size _
        generalize wr.alloc (.cells #[.int .i64 6, .int .i64 0, .int .i64 n, .int .i64 cc, .int .i64 t] 44) = w2 at *
        go_wp2_with (at_builtin
                     refine app_el T22 [.int .i64 6, .int .i64 0, .int .i64 n, .int .i64 cc, .int .i64 t] HO2.out HB2.out (Nat.le_refl _) rfl rfl rfl rfl rfl ?_ ?_ ?_
                     rotate_right
                     intro v1 w1 hown1 hb1 hg1 ho1
                     have HF := Lib.hid (And.intro hown1 hb1)
                     clear hown1 hb1 hg1 ho1)
        case refine_1 => simp [Value.oneCell']
        case refine_2 => omega
        go_roundg (l.length - (i + 1))
        case measure => omega
        case rel => exact ⟨i + 1, by omega, rfl, by go_num, by rw [HS.out, HE.out, List.flatMap_append]; simpa [Sti.cells] using HF.out.1, HF.out.2⟩
      · subst t1
        have HE : Hid (turnS ⟨6, 1, n, cc, t⟩ = ⟨6, 0, n, cc, (-t)⟩) := by
          show _ = _
          unfold turnS flip
          dsimp only
          rw [if_pos (by omega)]
          rw [if_pos (by omega)]
          rfl
        go_upto_region 9 with fail
        have y0 := (Arr.new wr #[.int .i64 6, .int .i64 0, .int .i64 n, .int .i64 cc, .int .i64 (-t)] 44).cell (k := 0) rfl
        have y1 := (Arr.new wr #[.int .i64 6, .int .i64 0, .int .i64 n, .int .i64 cc, .int .i64 (-t)] 44).cell (k := 1) rfl
        have y2 := (Arr.new wr #[.int .i64 6, .int .i64 0, .int .i64 n, .int .i64 cc, .int .i64 (-t)] 44).cell (k := 2) rfl
        have y3 := (Arr.new wr #[.int .i64 6, .int .i64 0, .int .i64 n, .int .i64 cc, .int .i64 (-t)] 44).cell (k := 3) rfl
        have y4 := (Arr.new wr #[.int .i64 6, .int .i64 0, .int .i64 n, .int .i64 cc, .int .i64 (-t)] 44).cell (k := 4) rfl
        have HO2 : Hid ((wr.alloc (.cells #[.int .i64 6, .int .i64 0, .int .i64 n, .int .i64 cc, .int .i64 (-t)] 44)).ownsRow w.heap.size 44 5 u3 i (((l.take i).map turnS).flatMap Sti.cells)) := own_al HO.out _
        have HB2 : Hid (Below w.heap.size w (wr.alloc (.cells #[.int .i64 6, .int .i64 0, .int .i64 n, .int .i64 cc, .int .i64 (-t)] 44))) := HB.out.alloc HB.out.size _
        generalize wr.alloc (.cells #[.int .i64 6, .int .i64 0, .int .i64 n, .int .i64 cc, .int .i64 (-t)] 44) = w2 at *
        go_wp2_with (at_builtin
                     refine app_el T22 [.int .i64 6, .int .i64 0, .int .i64 n, .int .i64 cc, .int .i64 (-t)] HO2.out HB2.out (Nat.le_refl _) rfl rfl rfl rfl rfl ?_ ?_ ?_
                     rotate_right
                     intro v1 w1 hown1 hb1 hg1 ho1
                     have HF := Lib.hid (And.intro hown1 hb1)
                     clear hown1 hb1 hg1 ho1)
        case refine_1 => simp [Value.oneCell']
        case refine_2 => omega
        go_roundg (l.length - (i + 1))
        case measure => omega
        case rel => exact ⟨i + 1, by omega, rfl, by go_num, by rw [HS.out, HE.out, List.flatMap_append]; simpa [Sti.cells] using HF.out.1, HF.out.2⟩
    · rcases hts with t1 | ⟨t1, t2⟩ | ⟨t1, t2, t3⟩ | ⟨t1, t2, t3⟩
      · have q1 : (bd == 0) = false := by simpa using e1
        have q2 : (bd == 1) = false := by simpa using e2
        have q3 : (d == 6) = false := by simpa using t1
        have HE : Hid (turnS ⟨d, bd, n, cc, t⟩ = ⟨d, bd, n, cc, t⟩) := by
          show _ = _
          unfold turnS flip
          dsimp only
          rw [if_neg (by omega)]
          rw [if_neg (by omega)]
        clear e1 e2
        clear t1
        go_upto_region 9 with fail
        have y0 := (Arr.new wr #[.int .i64 d, .int .i64 bd, .int .i64 n, .int .i64 cc, .int .i64 t] 44).cell (k := 0) rfl
        have y1 := (Arr.new wr #[.int .i64 d, .int .i64 bd, .int .i64 n, .int .i64 cc, .int .i64 t] 44).cell (k := 1) rfl
        have y2 := (Arr.new wr #[.int .i64 d, .int .i64 bd, .int .i64 n, .int .i64 cc, .int .i64 t] 44).cell (k := 2) rfl
        have y3 := (Arr.new wr #[.int .i64 d, .int .i64 bd, .int .i64 n, .int .i64 cc, .int .i64 t] 44).cell (k := 3) rfl
        have y4 := (Arr.new wr #[.int .i64 d, .int .i64 bd, .int .i64 n, .int .i64 cc, .int .i64 t] 44).cell (k := 4) rfl
        have HO2 : Hid ((wr.alloc (.cells #[.int .i64 d, .int .i64 bd, .int .i64 n, .int .i64 cc, .int .i64 t] 44)).ownsRow w.heap.size 44 5 u3 i (((l.take i).map turnS).flatMap Sti.cells)) := own_al HO.out _
        have HB2 : Hid (Below w.heap.size w (wr.alloc (.cells #[.int .i64 d, .int .i64 bd, .int .i64 n, .int .i64 cc, .int .i64 t] 44))) := HB.out.alloc HB.out.size _
        generalize wr.alloc (.cells #[.int .i64 d, .int .i64 bd, .int .i64 n, .int .i64 cc, .int .i64 t] 44) = w2 at *
        go_wp2_with (at_builtin
                     refine app_el T22 [.int .i64 d, .int .i64 bd, .int .i64 n, .int .i64 cc, .int .i64 t] HO2.out HB2.out (Nat.le_refl _) rfl rfl rfl rfl rfl ?_ ?_ ?_
                     rotate_right
                     intro v1 w1 hown1 hb1 hg1 ho1
                     have HF := Lib.hid (And.intro hown1 hb1)
                     clear hown1 hb1 hg1 ho1)
        case refine_1 => simp [Value.oneCell']
        case refine_2 => omega
        go_roundg (l.length - (i + 1))
        case measure => omega
        case rel => exact ⟨i + 1, by omega, rfl, by go_num, by rw [HS.out, HE.out, List.flatMap_append]; simpa [Sti.cells] using HF.out.1, HF.out.2⟩
      · have q1 : (bd == 0) = false := by simpa using e1
        have q2 : (bd == 1) = false := by simpa using e2
        subst t1
        have HE : Hid (turnS ⟨6, bd, n, cc, t⟩ = ⟨6, bd, n, cc, t⟩) := by
          show _ = _
          unfold turnS flip
          dsimp only
          rw [if_neg (by omega)]
          rw [if_neg (by omega)]
        clear e1 e2
        go_upto_region 9 with fail
        have y0 := (Arr.new wr #[.int .i64 6, .int .i64 bd, .int .i64 n, .int .i64 cc, .int .i64 t] 44).cell (k := 0) rfl
        have y1 := (Arr.new wr #[.int .i64 6, .int .i64 bd, .int .i64 n, .int .i64 cc, .int .i64 t] 44).cell (k := 1) rfl
        have y2 := (Arr.new wr #[.int .i64 6, .int .i64 bd, .int .i64 n, .int .i64 cc, .int .i64 t] 44).cell (k := 2) rfl
        have y3 := (Arr.new wr #[.int .i64 6, .int .i64 bd, .int .i64 n, .int .i64 cc, .int .i64 t] 44).cell (k := 3) rfl
        have y4 := (Arr.new wr #[.int .i64 6, .int .i64 bd, .int .i64 n, .int .i64 cc, .int .i64 t] 44).cell (k := 4) rfl
        have HO2 : Hid ((wr.alloc (.cells #[.int .i64 6, .int .i64 bd, .int .i64 n, .int .i64 cc, .int .i64 t] 44)).ownsRow w.heap.size 44 5 u3 i (((l.take i).map turnS).flatMap Sti.cells)) := own_al HO.out _
        have HB2 : Hid (Below w.heap.size w (wr.alloc (.cells #[.int .i64 6, .int .i64 bd, .int .i64 n, .int .i64 cc, .int .i64 t] 44))) := HB.out.alloc HB.out.size _
        generalize wr.alloc (.cells #[.int .i64 6, .int .i64 bd, .int .i64 n, .int .i64 cc, .int .i64 t] 44) = w2 at *
        go_wp2_with (at_builtin
                     refine app_el T22 [.int .i64 6, .int .i64 bd, .int .i64 n, .int .i64 cc, .int .i64 t] HO2.out HB2.out (Nat.le_refl _) rfl rfl rfl rfl rfl ?_ ?_ ?_
                     rotate_right
                     intro v1 w1 hown1 hb1 hg1 ho1
                     have HF := Lib.hid (And.intro hown1 hb1)
                     clear hown1 hb1 hg1 ho1)
        case refine_1 => simp [Value.oneCell']
        case refine_2 => omega
        go_roundg (l.length - (i + 1))
        case measure => omega
        case rel => exact ⟨i + 1, by omega, rfl, by go_num, by rw [HS.out, HE.out, List.flatMap_append]; simpa [Sti.cells] using HF.out.1, HF.out.2⟩
      · have q1 : (bd == 0) = false := by simpa using e1
        have q2 : (bd == 1) = false := by simpa using e2
        subst t1
        have HE : Hid (turnS ⟨6, bd, n, cc, t⟩ = ⟨6, bd, n, cc, t⟩) := by
          show _ = _
          unfold turnS flip
          dsimp only
          rw [if_neg (by omega)]
          rw [if_neg (by omega)]
        clear e1 e2
        go_upto_region 9 with fail
        have y0 := (Arr.new wr #[.int .i64 6, .int .i64 bd, .int .i64 n, .int .i64 cc, .int .i64 t] 44).cell (k := 0) rfl
        have y1 := (Arr.new wr #[.int .i64 6, .int .i64 bd, .int .i64 n, .int .i64 cc, .int .i64 t] 44).cell (k := 1) rfl
        have y2 := (Arr.new wr #[.int .i64 6, .int .i64 bd, .int .i64 n, .int .i64 cc, .int .i64 t] 44).cell (k := 2) rfl
        have y3 := (Arr.new wr #[.int .i64 6, .int .i64 bd, .int .i64 n, .int .i64 cc, .int .i64 t] 44).cell (k := 3) rfl
        have y4 := (Arr.new wr #[.int .i64 6, .int .i64 bd, .int .i64 n, .int .i64 cc, .int .i64 t] 44).cell (k := 4) rfl
        have HO2 : Hid ((wr.alloc (.cells #[.int .i64 6, .int .i64 bd, .int .i64 n, .int .i64 cc, .int .i64 t] 44)).ownsRow w.heap.size 44 5 u3 i (((l.take i).map turnS).flatMap Sti.cells)) := own_al HO.out _
        have HB2 : Hid (Below w.heap.size w (wr.alloc (.cells #[.int .i64 6, .int .i64 bd, .int .i64 n, .int .i64 cc, .int .i64 t] 44))) := HB.out.alloc HB.out.size _
        generalize wr.alloc (.cells #[.int .i64 6, .int .i64 bd, .int .i64 n, .int .i64 cc, .int .i64 t] 44) = w2 at *
        go_wp2_with (at_builtin
                     refine app_el T22 [.int .i64 6, .int .i64 bd, .int .i64 n, .int .i64 cc, .int .i64 t] HO2.out HB2.out (Nat.le_refl _) rfl rfl rfl rfl rfl ?_ ?_ ?_
                     rotate_right
                     intro v1 w1 hown1 hb1 hg1 ho1
                     have HF := Lib.hid (And.intro hown1 hb1)
                     clear hown1 hb1 hg1 ho1)
        case refine_1 => simp [Value.oneCell']
        case refine_2 => omega
        go_roundg (l.length - (i + 1))
        case measure => omega
        case rel => exact ⟨i + 1, by omega, rfl, by go_num, by rw [HS.out, HE.out, List.flatMap_append]; simpa [Sti.cells] using HF.out.1, HF.out.2⟩
      · have q1 : (bd == 0) = false := by simpa using e1
        have q2 : (bd == 1) = false := by simpa using e2
        subst t1
        have HE : Hid (turnS ⟨6, bd, n, cc, t⟩ = ⟨6, bd, n, cc, (-t)⟩) := by
          show _ = _
          unfold turnS flip
          dsimp only
          rw [if_neg (by omega)]
          rw [if_pos (by omega)]
        clear e1 e2
        go_upto_region 9 with fail
        have y0 := (Arr.new wr #[.int .i64 6, .int .i64 bd, .int .i64 n, .int .i64 cc, .int .i64 (-t)] 44).cell (k := 0) rfl
        have y1 := (Arr.new wr #[.int .i64 6, .int .i64 bd, .int .i64 n, .int .i64 cc, .int .i64 (-t)] 44).cell (k := 1) rfl
        have y2 := (Arr.new wr #[.int .i64 6, .int .i64 bd, .int .i64 n, .int .i64 cc, .int .i64 (-t)] 44).cell (k := 2) rfl
        have y3 := (Arr.new wr #[.int .i64 6, .int .i64 bd, .int .i64 n, .int .i64 cc, .int .i64 (-t)] 44).cell (k := 3) rfl
        have y4 := (Arr.new wr #[.int .i64 6, .int .i64 bd, .int .i64 n, .int .i64 cc, .int .i64 (-t)] 44).cell (k := 4) rfl
        have HO2 : Hid ((wr.alloc (.cells #[.int .i64 6, .int .i64 bd, .int .i64 n, .int .i64 cc, .int .i64 (-t)] 44)).ownsRow w.heap.size 44 5 u3 i (((l.take i).map turnS).flatMap Sti.cells)) := own_al HO.out _
        have HB2 : Hid (Below w.heap.size w (wr.alloc (.cells #[.int .i64 6, .int .i64 bd, .int .i64 n, .int .i64 cc, .int .i64 (-t)] 44))) := HB.out.alloc HB.out.size _
        generalize wr.alloc (.cells #[.int .i64 6, .int .i64 bd, .int .i64 n, .int .i64 cc, .int .i64 (-t)] 44) = w2 at *
        go_wp2_with (at_builtin
                     refine app_el T22 [.int .i64 6, .int .i64 bd, .int .i64 n, .int .i64 cc, .int .i64 (-t)] HO2.out HB2.out (Nat.le_refl _) rfl rfl rfl rfl rfl ?_ ?_ ?_
                     rotate_right
                     intro v1 w1 hown1 hb1 hg1 ho1
                     have HF := Lib.hid (And.intro hown1 hb1)
                     clear hown1 hb1 hg1 ho1)
        case refine_1 => simp [Value.oneCell']
        case refine_2 => omega
        go_roundg (l.length - (i + 1))
        case measure => omega
        case rel => exact ⟨i + 1, by omega, rfl, by go_num, by rw [HS.out, HE.out, List.flatMap_append]; simpa [Sti.cells] using HF.out.1, HF.out.2⟩
end Go.Proofs.Ytaacfjeddoekfaa
