/- Chapter 11: the reference does a stitch, kind by kind. (Printed by gen_refdo2.py.) -/
import Derived.Test.YtaacfjeddoekfaaKnitRefX
import Derived.Deep.CutRange
namespace Go.Proofs.Ytaacfjeddoekfaa
open Go.RowKit
set_option linter.unusedVariables false
set_option linter.unusedSimpArgs false


set_option maxRecDepth 100000 in
set_option maxHeartbeats 4000000 in
theorem refDo_drop {w : World} {N : Nat} {k : KS} {hs : List Hd} {vl vh vo : Value} {S : Nat → Prop} (h : RSs S w N k hs vl vh vo) (hS : ∀ b, S b → b < w.heap.size) (hN : N ≤ 128) (hi : Kinv N k) (b n c t : Int) (hw : wrongK N k ⟨5, b, n, c, t⟩ = 0) :
    Calls Try.prog 31 #[sval N vl vh vo k.rack (k.done : Int), .agg #[.int .i64 5, .int .i64 b, .int .i64 n, .int .i64 c, .int .i64 t]] w fun e w' => ∃ vl' vh' vo' hs', e = .returned (sval N vl' vh' vo' (stepK k ⟨5, b, n, c, t⟩).rack ((stepK k ⟨5, b, n, c, t⟩).done : Int)) ∧ RSs (Gr S w w') w' N (stepK k ⟨5, b, n, c, t⟩) hs' vl' vh' vo' ∧ Below w.heap.size w w' := by
  have HM := Lib.hid h
  have HI := Lib.hid hi
  have HWB := Lib.hid (wrong_bounds hw)
  have hd := hi.d
  have hdn := HWB.out.2.2.1
  obtain ⟨hr1, hr2⟩ := hi.r
  have hlen := h.len
  have hL0 := hi.loops
  have hO0 := hi.loose
  have h8 := hi.on b n
  obtain ⟨A0, n0, rfl, hA0, hA0'⟩ := h.loops.sl
  obtain ⟨A1, n1, rfl, hA1, hA1'⟩ := h.held.sl
  obtain ⟨A2, n2, rfl, hA2, hA2'⟩ := h.loose.sl
  unfold maxLen at hA0' hA1' hA2'
  have hx0 := DS.start h hS #[.int .i64 5, .int .i64 b, .int .i64 n, .int .i64 c, .int .i64 t]
  have HX0 : Hid (DS S w (((w.alloc (.cells #[.int .i64 N, .slice A0 k.loops.length n0, .slice A1 hs.length n1, .slice A2 k.loose.length n2, .int .i64 k.rack, .int .i64 (k.done : Int)] 58)).alloc (.cells #[.int .i64 5, .int .i64 b, .int .i64 n, .int .i64 c, .int .i64 t] 44)).alloc (.cells #[.int .i64 0, nils, nils, nils, .int .i64 0, .int .i64 0] 58)) N k.loops hs k.loose k.rack (k.done : Int) (.slice A0 k.loops.length n0) (.slice A1 hs.length n1) (.slice A2 k.loose.length n2) [.int .i64 5, .int .i64 b, .int .i64 n, .int .i64 c, .int .i64 t] nils []) := hx0
  have HT := Lib.hid (HWB.out.2.2.2.2.1 (show (5 : Int) ≠ 6 by decide))
  have hnb := HT.out.2
  clear h hi hw hx0 hS
  show Calls Try.prog 31 #[.agg #[.int .i64 N, .slice A0 k.loops.length n0, .slice A1 hs.length n1, .slice A2 k.loose.length n2, .int .i64 k.rack, .int .i64 (k.done : Int)], .agg #[.int .i64 5, .int .i64 b, .int .i64 n, .int .i64 c, .int .i64 t]] w _
  go_enter Try.func31, Try.ntmps31
  go_upto_region 1 with fail
  generalize ((w.alloc (.cells #[.int .i64 N, .slice A0 k.loops.length n0, .slice A1 hs.length n1, .slice A2 k.loose.length n2, .int .i64 k.rack, .int .i64 (k.done : Int)] 58)).alloc (.cells #[.int .i64 5, .int .i64 b, .int .i64 n, .int .i64 c, .int .i64 t] 44)).alloc (.cells #[.int .i64 0, nils, nils, nils, .int .i64 0, .int .i64 0] 58) = w0 at *
  have s0 := HX0.out.dr.s.cell (k := 0) rfl
  have s1 := HX0.out.dr.s.cell (k := 1) rfl
  have s2 := HX0.out.dr.s.cell (k := 2) rfl
  have s3 := HX0.out.dr.s.cell (k := 3) rfl
  have s4 := HX0.out.dr.s.cell (k := 4) rfl
  have s5 := HX0.out.dr.s.cell (k := 5) rfl
  have x0 := HX0.out.dr.x.cell (k := 0) rfl
  have x1 := HX0.out.dr.x.cell (k := 1) rfl
  have x2 := HX0.out.dr.x.cell (k := 2) rfl
  have x3 := HX0.out.dr.x.cell (k := 3) rfl
  have x4 := HX0.out.dr.x.cell (k := 4) rfl
  have g5 := HX0.out.dr.s.free 5
  go_upto_region 2 with fail
  have HX1 := Lib.hid HX0.out.setD
  generalize w0.setCell ⟨w.heap.size, 5, none⟩ (.int .i64 ((k.done : Int) + 1)) = w1 at *
  clear s0 s1 s2 s3 s4 s5 x0 x1 x2 x3 x4
  clear g5 HX0
  have s0 := HX1.out.dr.s.cell (k := 0) rfl
  have s1 := HX1.out.dr.s.cell (k := 1) rfl
  have s2 := HX1.out.dr.s.cell (k := 2) rfl
  have s3 := HX1.out.dr.s.cell (k := 3) rfl
  have s4 := HX1.out.dr.s.cell (k := 4) rfl
  have s5 := HX1.out.dr.s.cell (k := 5) rfl
  have x0 := HX1.out.dr.x.cell (k := 0) rfl
  have x1 := HX1.out.dr.x.cell (k := 1) rfl
  have x2 := HX1.out.dr.x.cell (k := 2) rfl
  have x3 := HX1.out.dr.x.cell (k := 3) rfl
  have x4 := HX1.out.dr.x.cell (k := 4) rfl
  go_wp2_with fail
  refine (On_any (N := N) (r := k.rack) (d := (k.done : Int) + 1) (b := b) (n := n) w1 ⟨_, _, _, rfl⟩ (HX1.out.held.mono fun _ h => h.1) ⟨_, _, _, rfl⟩ (by omega)).mono ?_
  rintro e w2 ⟨u, rfl, hu, hb2, hnu⟩
  rw [HM.out.on] at hu
  have HX2 := Lib.hid (HX1.out.on hb2 hu)
  have HNU := Lib.hid hnu
  obtain ⟨Au, cu, rfl, hAu, hAu'⟩ := hu.sl
  unfold maxLen at hAu'
  clear s0 s1 s2 s3 s4 s5 x0 x1 x2 x3 x4
  clear hb2 HX1 hu hnu
  have s0 := HX2.out.dr.s.cell (k := 0) rfl
  have s1 := HX2.out.dr.s.cell (k := 1) rfl
  have s2 := HX2.out.dr.s.cell (k := 2) rfl
  have s3 := HX2.out.dr.s.cell (k := 3) rfl
  have s4 := HX2.out.dr.s.cell (k := 4) rfl
  have s5 := HX2.out.dr.s.cell (k := 5) rfl
  have x0 := HX2.out.dr.x.cell (k := 0) rfl
  have x1 := HX2.out.dr.x.cell (k := 1) rfl
  have x2 := HX2.out.dr.x.cell (k := 2) rfl
  have x3 := HX2.out.dr.x.cell (k := 3) rfl
  have x4 := HX2.out.dr.x.cell (k := 4) rfl
  go_wp2_with fail
  refine (taken_own (N := N) (r := k.rack) (d := (k.done : Int) + 1) (b := b) (n := n) w2 ⟨_, _, _, rfl⟩ (HX2.out.held.mono fun _ h => h.1) ⟨_, _, _, rfl⟩ (by omega)).mono ?_
  rintro e w3 ⟨v, rfl, hv, hb3⟩
  unfold sval
  have HX3 := Lib.hid (HX2.out.next hb3)
  have hs3 := HX2.out.dr.size
  have hs3' := hb3.size
  obtain ⟨Av, cv, rfl, hAv, hAv'⟩ := own_form hv
  unfold maxLen at hAv'
  have HV := Lib.hid (DXr.of HX2.out hb3 hv)
  clear s0 s1 s2 s3 s4 s5 x0 x1 x2 x3 x4
  clear hb3 hv HX2
  have s0 := HX3.out.dr.s.cell (k := 0) rfl
  have s1 := HX3.out.dr.s.cell (k := 1) rfl
  have s2 := HX3.out.dr.s.cell (k := 2) rfl
  have s3 := HX3.out.dr.s.cell (k := 3) rfl
  have s4 := HX3.out.dr.s.cell (k := 4) rfl
  have s5 := HX3.out.dr.s.cell (k := 5) rfl
  have x0 := HX3.out.dr.x.cell (k := 0) rfl
  have x1 := HX3.out.dr.x.cell (k := 1) rfl
  have x2 := HX3.out.dr.x.cell (k := 2) rfl
  have x3 := HX3.out.dr.x.cell (k := 3) rfl
  have x4 := HX3.out.dr.x.cell (k := 4) rfl
  have g0 := HX3.out.dr.s.free 0
  have g1 := HX3.out.dr.s.free 1
  have g2 := HX3.out.dr.s.free 2
  have g3 := HX3.out.dr.s.free 3
  have g4 := HX3.out.dr.s.free 4
  have g5 := HX3.out.dr.s.free 5
  go_upto_region 23 with fail
  have HX4 := HV
  generalize (((((w3.setCell ⟨w.heap.size, 0, none⟩ (.int .i64 N)).setCell ⟨w.heap.size, 1, none⟩ (.slice A0 k.loops.length n0)).setCell ⟨w.heap.size, 2, none⟩ (.slice Av (heldOff hs b n).length cv)).setCell ⟨w.heap.size, 3, none⟩ (.slice A2 k.loose.length n2)).setCell ⟨w.heap.size, 4, none⟩ (.int .i64 k.rack)).setCell ⟨w.heap.size, 5, none⟩ (.int .i64 ((k.done : Int) + 1)) = w4 at *
  clear s0 s1 s2 s3 s4 s5 x0 x1 x2 x3 x4
  clear HX3 HV g0 g1 g2 g3 g4 g5
  have s0 := HX4.out.dr.s.cell (k := 0) rfl
  have s1 := HX4.out.dr.s.cell (k := 1) rfl
  have s2 := HX4.out.dr.s.cell (k := 2) rfl
  have s3 := HX4.out.dr.s.cell (k := 3) rfl
  have s4 := HX4.out.dr.s.cell (k := 4) rfl
  have s5 := HX4.out.dr.s.cell (k := 5) rfl
  have x0 := HX4.out.dr.x.cell (k := 0) rfl
  have x1 := HX4.out.dr.x.cell (k := 1) rfl
  have x2 := HX4.out.dr.x.cell (k := 2) rfl
  have x3 := HX4.out.dr.x.cell (k := 3) rfl
  have x4 := HX4.out.dr.x.cell (k := 4) rfl
  have HL := Lib.hid (held_len hs b n)
  have hl1 : (heldOff hs b n).length ≤ hs.length := by have := HL.out; omega
  have z3 := HX4.out.dr.s.free 3
  have hsz4 := HX4.out.dr.size
  have hlt4 : w.heap.size < w4.heap.size := by omega
  obtain ⟨A2', n2', e2, g1, g2, HN⟩ := news_ints HX4.out.loose HX4.out.no
  simp only [Value.slice.injEq, true_and] at e2
  obtain ⟨rfl, rfl⟩ := e2
  obtain ⟨Au', cu', e3, g3, g4, HNu⟩ := news_ints HX4.out.ex HNU.out
  simp only [Value.slice.injEq, true_and] at e3
  obtain ⟨rfl, rfl⟩ := e3
  have HOB := Lib.hid (own_built w4 w4.heap.size 3 1 (Nat.le_refl _))
  have HBB : Hid (Below w4.heap.size w4 (w4.alloc (.cells #[] 3))) := (Below.refl _ _).alloc (Nat.le_refl _) _
  have HN1 := Lib.hid (HN.keep HBB.out.block)
  have HN2 := Lib.hid HNu
  have tok1 : True := trivial
  clear HN HNu g1 g2 g3 g4
  go_upto_region 24 with (first
    | (at_builtin
       have _t := tok1
       refine app_elsA T25 (ints k.loose) HOB.out HBB.out (Nat.le_refl _) rfl rfl rfl rfl HN1.out (by rw [ints_len, Nat.mul_one]) (ints_one _) ?h1 ?_
       rotate_right
       intro v1 w5 hown1 hb1 hg1 ho1
       rw [Nat.zero_add] at hown1
       obtain ⟨A5, c5, rfl, hA5, hA5'⟩ := own_form hown1
       have HO1 := Lib.hid hown1
       have HB1 := Lib.hid hb1
       clear tok1 _t hown1 hb1 hg1 ho1)
    | (at_builtin
       refine app_elsA T25 (ints (k.on b n)) HO1.out HB1.out (Nat.le_refl _) rfl rfl rfl rfl (HN2.out.keep HB1.out.block) (by rw [ints_len, Nat.mul_one]) (ints_one _) ?h2 ?_
       rotate_right
       intro v2 w6 hown2 hb2 hg2 ho2
       obtain ⟨A6, c6, rfl, hA6, hA6'⟩ := own_form hown2
       have HX6 := Lib.hid (HX4.out.growO (lo' := k.loose ++ k.on b n) hb2 (by rw [List.length_append, ints_app]; exact hown2))
       have y3 := (HX4.out.next hb2).dr.s.cell (k := 3) rfl
       have zf3 := (HX4.out.next hb2).dr.s.free 3
       clear hown2 hb2 hg2 ho2))
  case h1 => omega
  case h2 => omega
  generalize w6.setCell ⟨w.heap.size, 3, none⟩ (.slice A6 (k.loose.length + (k.on b n).length) c6) = w7 at *
  clear y3 zf3 z3
  clear s0 s1 s2 s3 s4 s5 x0 x1 x2 x3 x4
  have s0 := HX6.out.dr.s.cell (k := 0) rfl
  have s1 := HX6.out.dr.s.cell (k := 1) rfl
  have s2 := HX6.out.dr.s.cell (k := 2) rfl
  have s3 := HX6.out.dr.s.cell (k := 3) rfl
  have s4 := HX6.out.dr.s.cell (k := 4) rfl
  have s5 := HX6.out.dr.s.cell (k := 5) rfl
  have x0 := HX6.out.dr.x.cell (k := 0) rfl
  have x1 := HX6.out.dr.x.cell (k := 1) rfl
  have x2 := HX6.out.dr.x.cell (k := 2) rfl
  have x3 := HX6.out.dr.x.cell (k := 3) rfl
  have x4 := HX6.out.dr.x.cell (k := 4) rfl
  have r0 := HX6.out.dr.r.cell (k := 0) rfl
  have f0 := HX6.out.dr.r.free 0
  have r1 := HX6.out.dr.r.cell (k := 1) rfl
  have f1 := HX6.out.dr.r.free 1
  have r2 := HX6.out.dr.r.cell (k := 2) rfl
  have f2 := HX6.out.dr.r.free 2
  have r3 := HX6.out.dr.r.cell (k := 3) rfl
  have f3 := HX6.out.dr.r.free 3
  have r4 := HX6.out.dr.r.cell (k := 4) rfl
  have f4 := HX6.out.dr.r.free 4
  have r5 := HX6.out.dr.r.cell (k := 5) rfl
  have f5 := HX6.out.dr.r.free 5
  have hq := ((((((HX6.out.dr.r.set 0 (.int .i64 N)).set 1 (.slice A0 k.loops.length n0)).set 2 (.slice Av (heldOff hs b n).length cv)).set 3 (.slice A6 (k.loose.length + (k.on b n).length) c6)).set 4 (.int .i64 k.rack)).set 5 (.int .i64 ((k.done : Int) + 1)))
  have q0 := hq.cell (k := 0) rfl
  have q1 := hq.cell (k := 1) rfl
  have q2 := hq.cell (k := 2) rfl
  have q3 := hq.cell (k := 3) rfl
  have q4 := hq.cell (k := 4) rfl
  have q5 := hq.cell (k := 5) rfl
  clear hq
  go_wp2_with fail
  have e : stepK k ⟨5, b, n, c, t⟩ = { k with loose := k.loose ++ k.on b n, on := put k.on b n [], done := k.done + 1 } := by unfold stepK; rw [if_neg (show ¬ (5 : Int) = 6 by decide), if_neg (show ¬ (5 : Int) = 1 by decide), if_neg (show ¬ (5 : Int) = 2 by decide), if_neg (show ¬ (5 : Int) = 4 by decide), if_pos rfl]
  rw [e]
  refine bodyPost_ret (v := .agg #[.int .i64 N, .slice A0 k.loops.length n0, .slice Av (heldOff hs b n).length cv, .slice A6 (k.loose.length + (k.on b n).length) c6, .int .i64 k.rack, .int .i64 ((k.done : Int) + 1)]) (by simp [results, Try.results31, go_sem, q0, q1, q2, q3, q4, q5]) rfl ⟨_, _, _, _, rfl, HX6.out.to.fin rfl rfl (fun b' n' => on_drop HM.out.on _ _ _ _) (by show _ ≤ k.done + 1; omega)⟩
end Go.Proofs.Ytaacfjeddoekfaa
