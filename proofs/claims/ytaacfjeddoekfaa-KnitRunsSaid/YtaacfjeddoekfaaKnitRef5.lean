/- Chapter 11: the reference does a stitch, kind by kind. (Printed by gen_refdo2.py.) -/
import Derived.Test.YtaacfjeddoekfaaKnitRefX
import Derived.Deep.CutRange
namespace Go.Proofs.Ytaacfjeddoekfaa
open Go.RowKit
set_option linter.unusedVariables false
set_option linter.unusedSimpArgs false


set_option maxRecDepth 100000 in
set_option maxHeartbeats 4000000 in
theorem refDo_rack {w : World} {N : Nat} {k : KS} {hs : List Hd} {vl vh vo : Value} {S : Nat → Prop} (h : RSs S w N k hs vl vh vo) (hS : ∀ b, S b → b < w.heap.size) (hN : N ≤ 128) (hi : Kinv N k) (b n c t : Int) (hw : wrongK N k ⟨6, b, n, c, t⟩ = 0) :
    Calls Try.prog 31 #[sval N vl vh vo k.rack (k.done : Int), .agg #[.int .i64 6, .int .i64 b, .int .i64 n, .int .i64 c, .int .i64 t]] w fun e w' => ∃ vl' vh' vo' hs', e = .returned (sval N vl' vh' vo' (stepK k ⟨6, b, n, c, t⟩).rack ((stepK k ⟨6, b, n, c, t⟩).done : Int)) ∧ RSs (Gr S w w') w' N (stepK k ⟨6, b, n, c, t⟩) hs' vl' vh' vo' ∧ Below w.heap.size w w' := by
  have HM := Lib.hid h
  have HI := Lib.hid hi
  have HWB := Lib.hid (wrong_bounds hw)
  have hd := hi.d
  have hdn := HWB.out.2.2.1
  obtain ⟨hr1, hr2⟩ := hi.r
  have hlen := h.len
  have hL0 := hi.loops
  have hO0 := hi.loose
  have h8 := hi.on b n
  obtain ⟨A0, n0, rfl, hA0, hA0'⟩ := h.loops.sl
  obtain ⟨A1, n1, rfl, hA1, hA1'⟩ := h.held.sl
  obtain ⟨A2, n2, rfl, hA2, hA2'⟩ := h.loose.sl
  unfold maxLen at hA0' hA1' hA2'
  have hx0 := DS.start h hS #[.int .i64 6, .int .i64 b, .int .i64 n, .int .i64 c, .int .i64 t]
  have HX0 : Hid (DS S w (((w.alloc (.cells #[.int .i64 N, .slice A0 k.loops.length n0, .slice A1 hs.length n1, .slice A2 k.loose.length n2, .int .i64 k.rack, .int .i64 (k.done : Int)] 58)).alloc (.cells #[.int .i64 6, .int .i64 b, .int .i64 n, .int .i64 c, .int .i64 t] 44)).alloc (.cells #[.int .i64 0, nils, nils, nils, .int .i64 0, .int .i64 0] 58)) N k.loops hs k.loose k.rack (k.done : Int) (.slice A0 k.loops.length n0) (.slice A1 hs.length n1) (.slice A2 k.loose.length n2) [.int .i64 6, .int .i64 b, .int .i64 n, .int .i64 c, .int .i64 t] nils []) := hx0
  clear h hi hw hx0 hS
  show Calls Try.prog 31 #[.agg #[.int .i64 N, .slice A0 k.loops.length n0, .slice A1 hs.length n1, .slice A2 k.loose.length n2, .int .i64 k.rack, .int .i64 (k.done : Int)], .agg #[.int .i64 6, .int .i64 b, .int .i64 n, .int .i64 c, .int .i64 t]] w _
  go_enter Try.func31, Try.ntmps31
  go_upto_region 1 with fail
  generalize ((w.alloc (.cells #[.int .i64 N, .slice A0 k.loops.length n0, .slice A1 hs.length n1, .slice A2 k.loose.length n2, .int .i64 k.rack, .int .i64 (k.done : Int)] 58)).alloc (.cells #[.int .i64 6, .int .i64 b, .int .i64 n, .int .i64 c, .int .i64 t] 44)).alloc (.cells #[.int .i64 0, nils, nils, nils, .int .i64 0, .int .i64 0] 58) = w0 at *
  have s0 := HX0.out.dr.s.cell (k := 0) rfl
  have s1 := HX0.out.dr.s.cell (k := 1) rfl
  have s2 := HX0.out.dr.s.cell (k := 2) rfl
  have s3 := HX0.out.dr.s.cell (k := 3) rfl
  have s4 := HX0.out.dr.s.cell (k := 4) rfl
  have s5 := HX0.out.dr.s.cell (k := 5) rfl
  have x0 := HX0.out.dr.x.cell (k := 0) rfl
  have x1 := HX0.out.dr.x.cell (k := 1) rfl
  have x2 := HX0.out.dr.x.cell (k := 2) rfl
  have x3 := HX0.out.dr.x.cell (k := 3) rfl
  have x4 := HX0.out.dr.x.cell (k := 4) rfl
  have g5 := HX0.out.dr.s.free 5
  go_upto_region 2 with fail
  have HX1 := Lib.hid HX0.out.setD
  generalize w0.setCell ⟨w.heap.size, 5, none⟩ (.int .i64 ((k.done : Int) + 1)) = w1 at *
  clear s0 s1 s2 s3 s4 s5 x0 x1 x2 x3 x4
  clear g5 HX0
  have s0 := HX1.out.dr.s.cell (k := 0) rfl
  have s1 := HX1.out.dr.s.cell (k := 1) rfl
  have s2 := HX1.out.dr.s.cell (k := 2) rfl
  have s3 := HX1.out.dr.s.cell (k := 3) rfl
  have s4 := HX1.out.dr.s.cell (k := 4) rfl
  have s5 := HX1.out.dr.s.cell (k := 5) rfl
  have x0 := HX1.out.dr.x.cell (k := 0) rfl
  have x1 := HX1.out.dr.x.cell (k := 1) rfl
  have x2 := HX1.out.dr.x.cell (k := 2) rfl
  have x3 := HX1.out.dr.x.cell (k := 3) rfl
  have x4 := HX1.out.dr.x.cell (k := 4) rfl
  go_wp2_with fail
  refine (On_any (N := N) (r := k.rack) (d := (k.done : Int) + 1) (b := b) (n := n) w1 ⟨_, _, _, rfl⟩ (HX1.out.held.mono fun _ h => h.1) ⟨_, _, _, rfl⟩ (by omega)).mono ?_
  rintro e w2 ⟨u, rfl, hu, hb2, hnu⟩
  rw [HM.out.on] at hu
  have HX2 := Lib.hid (HX1.out.on hb2 hu)
  have HNU := Lib.hid hnu
  obtain ⟨Au, cu, rfl, hAu, hAu'⟩ := hu.sl
  unfold maxLen at hAu'
  clear s0 s1 s2 s3 s4 s5 x0 x1 x2 x3 x4
  clear hb2 HX1 hu hnu
  have s0 := HX2.out.dr.s.cell (k := 0) rfl
  have s1 := HX2.out.dr.s.cell (k := 1) rfl
  have s2 := HX2.out.dr.s.cell (k := 2) rfl
  have s3 := HX2.out.dr.s.cell (k := 3) rfl
  have s4 := HX2.out.dr.s.cell (k := 4) rfl
  have s5 := HX2.out.dr.s.cell (k := 5) rfl
  have x0 := HX2.out.dr.x.cell (k := 0) rfl
  have x1 := HX2.out.dr.x.cell (k := 1) rfl
  have x2 := HX2.out.dr.x.cell (k := 2) rfl
  have x3 := HX2.out.dr.x.cell (k := 3) rfl
  have x4 := HX2.out.dr.x.cell (k := 4) rfl
  have g4 := HX2.out.dr.s.free 4
  go_upto_region 24 with fail
  have HX3 := Lib.hid (HX2.out.setR t)
  generalize w2.setCell ⟨w.heap.size, 4, none⟩ (.int .i64 t) = w3 at *
  clear HX2 g4
  clear s0 s1 s2 s3 s4 s5 x0 x1 x2 x3 x4
  have s0 := HX3.out.dr.s.cell (k := 0) rfl
  have s1 := HX3.out.dr.s.cell (k := 1) rfl
  have s2 := HX3.out.dr.s.cell (k := 2) rfl
  have s3 := HX3.out.dr.s.cell (k := 3) rfl
  have s4 := HX3.out.dr.s.cell (k := 4) rfl
  have s5 := HX3.out.dr.s.cell (k := 5) rfl
  have x0 := HX3.out.dr.x.cell (k := 0) rfl
  have x1 := HX3.out.dr.x.cell (k := 1) rfl
  have x2 := HX3.out.dr.x.cell (k := 2) rfl
  have x3 := HX3.out.dr.x.cell (k := 3) rfl
  have x4 := HX3.out.dr.x.cell (k := 4) rfl
  have r0 := HX3.out.dr.r.cell (k := 0) rfl
  have f0 := HX3.out.dr.r.free 0
  have r1 := HX3.out.dr.r.cell (k := 1) rfl
  have f1 := HX3.out.dr.r.free 1
  have r2 := HX3.out.dr.r.cell (k := 2) rfl
  have f2 := HX3.out.dr.r.free 2
  have r3 := HX3.out.dr.r.cell (k := 3) rfl
  have f3 := HX3.out.dr.r.free 3
  have r4 := HX3.out.dr.r.cell (k := 4) rfl
  have f4 := HX3.out.dr.r.free 4
  have r5 := HX3.out.dr.r.cell (k := 5) rfl
  have f5 := HX3.out.dr.r.free 5
  have hq := ((((((HX3.out.dr.r.set 0 (.int .i64 N)).set 1 (.slice A0 k.loops.length n0)).set 2 (.slice A1 hs.length n1)).set 3 (.slice A2 k.loose.length n2)).set 4 (.int .i64 t)).set 5 (.int .i64 ((k.done : Int) + 1)))
  have q0 := hq.cell (k := 0) rfl
  have q1 := hq.cell (k := 1) rfl
  have q2 := hq.cell (k := 2) rfl
  have q3 := hq.cell (k := 3) rfl
  have q4 := hq.cell (k := 4) rfl
  have q5 := hq.cell (k := 5) rfl
  clear hq
  go_wp2_with fail
  have e : stepK k ⟨6, b, n, c, t⟩ = { k with rack := t, done := k.done + 1 } := by unfold stepK; rw [if_pos rfl]
  rw [e]
  refine bodyPost_ret (v := .agg #[.int .i64 N, .slice A0 k.loops.length n0, .slice A1 hs.length n1, .slice A2 k.loose.length n2, .int .i64 t, .int .i64 ((k.done : Int) + 1)]) (by simp [results, Try.results31, go_sem, q0, q1, q2, q3, q4, q5]) rfl ⟨_, _, _, _, rfl, HX3.out.fin rfl rfl HM.out.on (Nat.le_succ_of_le hlen)⟩

set_option maxRecDepth 100000 in
set_option maxHeartbeats 4000000 in
theorem refDo_miss {w : World} {N : Nat} {k : KS} {hs : List Hd} {vl vh vo : Value} {S : Nat → Prop} (h : RSs S w N k hs vl vh vo) (hS : ∀ b, S b → b < w.heap.size) (hN : N ≤ 128) (hi : Kinv N k) (b n c t : Int) (hw : wrongK N k ⟨3, b, n, c, t⟩ = 0) :
    Calls Try.prog 31 #[sval N vl vh vo k.rack (k.done : Int), .agg #[.int .i64 3, .int .i64 b, .int .i64 n, .int .i64 c, .int .i64 t]] w fun e w' => ∃ vl' vh' vo' hs', e = .returned (sval N vl' vh' vo' (stepK k ⟨3, b, n, c, t⟩).rack ((stepK k ⟨3, b, n, c, t⟩).done : Int)) ∧ RSs (Gr S w w') w' N (stepK k ⟨3, b, n, c, t⟩) hs' vl' vh' vo' ∧ Below w.heap.size w w' := by
  have HM := Lib.hid h
  have HI := Lib.hid hi
  have HWB := Lib.hid (wrong_bounds hw)
  have hd := hi.d
  have hdn := HWB.out.2.2.1
  obtain ⟨hr1, hr2⟩ := hi.r
  have hlen := h.len
  have hL0 := hi.loops
  have hO0 := hi.loose
  have h8 := hi.on b n
  obtain ⟨A0, n0, rfl, hA0, hA0'⟩ := h.loops.sl
  obtain ⟨A1, n1, rfl, hA1, hA1'⟩ := h.held.sl
  obtain ⟨A2, n2, rfl, hA2, hA2'⟩ := h.loose.sl
  unfold maxLen at hA0' hA1' hA2'
  have hx0 := DS.start h hS #[.int .i64 3, .int .i64 b, .int .i64 n, .int .i64 c, .int .i64 t]
  have HX0 : Hid (DS S w (((w.alloc (.cells #[.int .i64 N, .slice A0 k.loops.length n0, .slice A1 hs.length n1, .slice A2 k.loose.length n2, .int .i64 k.rack, .int .i64 (k.done : Int)] 58)).alloc (.cells #[.int .i64 3, .int .i64 b, .int .i64 n, .int .i64 c, .int .i64 t] 44)).alloc (.cells #[.int .i64 0, nils, nils, nils, .int .i64 0, .int .i64 0] 58)) N k.loops hs k.loose k.rack (k.done : Int) (.slice A0 k.loops.length n0) (.slice A1 hs.length n1) (.slice A2 k.loose.length n2) [.int .i64 3, .int .i64 b, .int .i64 n, .int .i64 c, .int .i64 t] nils []) := hx0
  have HT := Lib.hid (HWB.out.2.2.2.2.1 (show (3 : Int) ≠ 6 by decide))
  have hnb := HT.out.2
  clear h hi hw hx0 hS
  show Calls Try.prog 31 #[.agg #[.int .i64 N, .slice A0 k.loops.length n0, .slice A1 hs.length n1, .slice A2 k.loose.length n2, .int .i64 k.rack, .int .i64 (k.done : Int)], .agg #[.int .i64 3, .int .i64 b, .int .i64 n, .int .i64 c, .int .i64 t]] w _
  go_enter Try.func31, Try.ntmps31
  go_upto_region 1 with fail
  generalize ((w.alloc (.cells #[.int .i64 N, .slice A0 k.loops.length n0, .slice A1 hs.length n1, .slice A2 k.loose.length n2, .int .i64 k.rack, .int .i64 (k.done : Int)] 58)).alloc (.cells #[.int .i64 3, .int .i64 b, .int .i64 n, .int .i64 c, .int .i64 t] 44)).alloc (.cells #[.int .i64 0, nils, nils, nils, .int .i64 0, .int .i64 0] 58) = w0 at *
  have s0 := HX0.out.dr.s.cell (k := 0) rfl
  have s1 := HX0.out.dr.s.cell (k := 1) rfl
  have s2 := HX0.out.dr.s.cell (k := 2) rfl
  have s3 := HX0.out.dr.s.cell (k := 3) rfl
  have s4 := HX0.out.dr.s.cell (k := 4) rfl
  have s5 := HX0.out.dr.s.cell (k := 5) rfl
  have x0 := HX0.out.dr.x.cell (k := 0) rfl
  have x1 := HX0.out.dr.x.cell (k := 1) rfl
  have x2 := HX0.out.dr.x.cell (k := 2) rfl
  have x3 := HX0.out.dr.x.cell (k := 3) rfl
  have x4 := HX0.out.dr.x.cell (k := 4) rfl
  have g5 := HX0.out.dr.s.free 5
  go_upto_region 2 with fail
  have HX1 := Lib.hid HX0.out.setD
  generalize w0.setCell ⟨w.heap.size, 5, none⟩ (.int .i64 ((k.done : Int) + 1)) = w1 at *
  clear s0 s1 s2 s3 s4 s5 x0 x1 x2 x3 x4
  clear g5 HX0
  have s0 := HX1.out.dr.s.cell (k := 0) rfl
  have s1 := HX1.out.dr.s.cell (k := 1) rfl
  have s2 := HX1.out.dr.s.cell (k := 2) rfl
  have s3 := HX1.out.dr.s.cell (k := 3) rfl
  have s4 := HX1.out.dr.s.cell (k := 4) rfl
  have s5 := HX1.out.dr.s.cell (k := 5) rfl
  have x0 := HX1.out.dr.x.cell (k := 0) rfl
  have x1 := HX1.out.dr.x.cell (k := 1) rfl
  have x2 := HX1.out.dr.x.cell (k := 2) rfl
  have x3 := HX1.out.dr.x.cell (k := 3) rfl
  have x4 := HX1.out.dr.x.cell (k := 4) rfl
  go_wp2_with fail
  refine (On_any (N := N) (r := k.rack) (d := (k.done : Int) + 1) (b := b) (n := n) w1 ⟨_, _, _, rfl⟩ (HX1.out.held.mono fun _ h => h.1) ⟨_, _, _, rfl⟩ (by omega)).mono ?_
  rintro e w2 ⟨u, rfl, hu, hb2, hnu⟩
  rw [HM.out.on] at hu
  have HX2 := Lib.hid (HX1.out.on hb2 hu)
  have HNU := Lib.hid hnu
  obtain ⟨Au, cu, rfl, hAu, hAu'⟩ := hu.sl
  unfold maxLen at hAu'
  clear s0 s1 s2 s3 s4 s5 x0 x1 x2 x3 x4
  clear hb2 HX1 hu hnu
  have s0 := HX2.out.dr.s.cell (k := 0) rfl
  have s1 := HX2.out.dr.s.cell (k := 1) rfl
  have s2 := HX2.out.dr.s.cell (k := 2) rfl
  have s3 := HX2.out.dr.s.cell (k := 3) rfl
  have s4 := HX2.out.dr.s.cell (k := 4) rfl
  have s5 := HX2.out.dr.s.cell (k := 5) rfl
  have x0 := HX2.out.dr.x.cell (k := 0) rfl
  have x1 := HX2.out.dr.x.cell (k := 1) rfl
  have x2 := HX2.out.dr.x.cell (k := 2) rfl
  have x3 := HX2.out.dr.x.cell (k := 3) rfl
  have x4 := HX2.out.dr.x.cell (k := 4) rfl
  go_upto_region 24 with fail
  clear s0 s1 s2 s3 s4 s5 x0 x1 x2 x3 x4
  have s0 := HX2.out.dr.s.cell (k := 0) rfl
  have s1 := HX2.out.dr.s.cell (k := 1) rfl
  have s2 := HX2.out.dr.s.cell (k := 2) rfl
  have s3 := HX2.out.dr.s.cell (k := 3) rfl
  have s4 := HX2.out.dr.s.cell (k := 4) rfl
  have s5 := HX2.out.dr.s.cell (k := 5) rfl
  have x0 := HX2.out.dr.x.cell (k := 0) rfl
  have x1 := HX2.out.dr.x.cell (k := 1) rfl
  have x2 := HX2.out.dr.x.cell (k := 2) rfl
  have x3 := HX2.out.dr.x.cell (k := 3) rfl
  have x4 := HX2.out.dr.x.cell (k := 4) rfl
  have r0 := HX2.out.dr.r.cell (k := 0) rfl
  have f0 := HX2.out.dr.r.free 0
  have r1 := HX2.out.dr.r.cell (k := 1) rfl
  have f1 := HX2.out.dr.r.free 1
  have r2 := HX2.out.dr.r.cell (k := 2) rfl
  have f2 := HX2.out.dr.r.free 2
  have r3 := HX2.out.dr.r.cell (k := 3) rfl
  have f3 := HX2.out.dr.r.free 3
  have r4 := HX2.out.dr.r.cell (k := 4) rfl
  have f4 := HX2.out.dr.r.free 4
  have r5 := HX2.out.dr.r.cell (k := 5) rfl
  have f5 := HX2.out.dr.r.free 5
  have hq := ((((((HX2.out.dr.r.set 0 (.int .i64 N)).set 1 (.slice A0 k.loops.length n0)).set 2 (.slice A1 hs.length n1)).set 3 (.slice A2 k.loose.length n2)).set 4 (.int .i64 k.rack)).set 5 (.int .i64 ((k.done : Int) + 1)))
  have q0 := hq.cell (k := 0) rfl
  have q1 := hq.cell (k := 1) rfl
  have q2 := hq.cell (k := 2) rfl
  have q3 := hq.cell (k := 3) rfl
  have q4 := hq.cell (k := 4) rfl
  have q5 := hq.cell (k := 5) rfl
  clear hq
  go_wp2_with fail
  have e : stepK k ⟨3, b, n, c, t⟩ = { k with done := k.done + 1 } := by unfold stepK; rw [if_neg (show ¬ (3 : Int) = 6 by decide), if_neg (show ¬ (3 : Int) = 1 by decide), if_neg (show ¬ (3 : Int) = 2 by decide), if_neg (show ¬ (3 : Int) = 4 by decide), if_neg (show ¬ (3 : Int) = 5 by decide)]
  rw [e]
  refine bodyPost_ret (v := .agg #[.int .i64 N, .slice A0 k.loops.length n0, .slice A1 hs.length n1, .slice A2 k.loose.length n2, .int .i64 k.rack, .int .i64 ((k.done : Int) + 1)]) (by simp [results, Try.results31, go_sem, q0, q1, q2, q3, q4, q5]) rfl ⟨_, _, _, _, rfl, HX2.out.fin rfl rfl HM.out.on (Nat.le_succ_of_le hlen)⟩
end Go.Proofs.Ytaacfjeddoekfaa
