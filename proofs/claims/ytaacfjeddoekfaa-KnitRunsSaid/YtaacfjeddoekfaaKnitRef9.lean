/- Chapter 11: the reference does a stitch, kind by kind. (Printed by gen_refdo2.py.) -/
import Derived.Test.YtaacfjeddoekfaaKnitRefX
import Derived.Deep.CutRange
namespace Go.Proofs.Ytaacfjeddoekfaa
open Go.RowKit
set_option linter.unusedVariables false
set_option linter.unusedSimpArgs false


set_option maxRecDepth 100000 in
set_option maxHeartbeats 4000000 in
theorem refDo_move {w : World} {N : Nat} {k : KS} {hs : List Hd} {vl vh vo : Value} {S : Nat → Prop} (h : RSs S w N k hs vl vh vo) (hS : ∀ b, S b → b < w.heap.size) (hN : N ≤ 128) (hi : Kinv N k) (b n c t : Int) (hw : wrongK N k ⟨4, b, n, c, t⟩ = 0) :
    Calls Try.prog 31 #[sval N vl vh vo k.rack (k.done : Int), .agg #[.int .i64 4, .int .i64 b, .int .i64 n, .int .i64 c, .int .i64 t]] w fun e w' => ∃ vl' vh' vo' hs', e = .returned (sval N vl' vh' vo' (stepK k ⟨4, b, n, c, t⟩).rack ((stepK k ⟨4, b, n, c, t⟩).done : Int)) ∧ RSs (Gr S w w') w' N (stepK k ⟨4, b, n, c, t⟩) hs' vl' vh' vo' ∧ Below w.heap.size w w' := by
  have HM := Lib.hid h
  have HI := Lib.hid hi
  have HWB := Lib.hid (wrong_bounds hw)
  have hd := hi.d
  have hdn := HWB.out.2.2.1
  obtain ⟨hr1, hr2⟩ := hi.r
  have hlen := h.len
  have hL0 := hi.loops
  have hO0 := hi.loose
  have h8 := hi.on b n
  obtain ⟨A0, n0, rfl, hA0, hA0'⟩ := h.loops.sl
  obtain ⟨A1, n1, rfl, hA1, hA1'⟩ := h.held.sl
  obtain ⟨A2, n2, rfl, hA2, hA2'⟩ := h.loose.sl
  unfold maxLen at hA0' hA1' hA2'
  have hx0 := DS.start h hS #[.int .i64 4, .int .i64 b, .int .i64 n, .int .i64 c, .int .i64 t]
  have HX0 : Hid (DS S w (((w.alloc (.cells #[.int .i64 N, .slice A0 k.loops.length n0, .slice A1 hs.length n1, .slice A2 k.loose.length n2, .int .i64 k.rack, .int .i64 (k.done : Int)] 58)).alloc (.cells #[.int .i64 4, .int .i64 b, .int .i64 n, .int .i64 c, .int .i64 t] 44)).alloc (.cells #[.int .i64 0, nils, nils, nils, .int .i64 0, .int .i64 0] 58)) N k.loops hs k.loose k.rack (k.done : Int) (.slice A0 k.loops.length n0) (.slice A1 hs.length n1) (.slice A2 k.loose.length n2) [.int .i64 4, .int .i64 b, .int .i64 n, .int .i64 c, .int .i64 t] nils []) := hx0
  have HT := Lib.hid (HWB.out.2.2.2.2.1 (show (4 : Int) ≠ 6 by decide))
  have hnb := HT.out.2
  clear h hi hw hx0 hS
  show Calls Try.prog 31 #[.agg #[.int .i64 N, .slice A0 k.loops.length n0, .slice A1 hs.length n1, .slice A2 k.loose.length n2, .int .i64 k.rack, .int .i64 (k.done : Int)], .agg #[.int .i64 4, .int .i64 b, .int .i64 n, .int .i64 c, .int .i64 t]] w _
  go_enter Try.func31, Try.ntmps31
  go_upto_region 1 with fail
  generalize ((w.alloc (.cells #[.int .i64 N, .slice A0 k.loops.length n0, .slice A1 hs.length n1, .slice A2 k.loose.length n2, .int .i64 k.rack, .int .i64 (k.done : Int)] 58)).alloc (.cells #[.int .i64 4, .int .i64 b, .int .i64 n, .int .i64 c, .int .i64 t] 44)).alloc (.cells #[.int .i64 0, nils, nils, nils, .int .i64 0, .int .i64 0] 58) = w0 at *
  have s0 := HX0.out.dr.s.cell (k := 0) rfl
  have s1 := HX0.out.dr.s.cell (k := 1) rfl
  have s2 := HX0.out.dr.s.cell (k := 2) rfl
  have s3 := HX0.out.dr.s.cell (k := 3) rfl
  have s4 := HX0.out.dr.s.cell (k := 4) rfl
  have s5 := HX0.out.dr.s.cell (k := 5) rfl
  have x0 := HX0.out.dr.x.cell (k := 0) rfl
  have x1 := HX0.out.dr.x.cell (k := 1) rfl
  have x2 := HX0.out.dr.x.cell (k := 2) rfl
  have x3 := HX0.out.dr.x.cell (k := 3) rfl
  have x4 := HX0.out.dr.x.cell (k := 4) rfl
  have g5 := HX0.out.dr.s.free 5
  go_upto_region 2 with fail
  have HX1 := Lib.hid HX0.out.setD
  generalize w0.setCell ⟨w.heap.size, 5, none⟩ (.int .i64 ((k.done : Int) + 1)) = w1 at *
  clear s0 s1 s2 s3 s4 s5 x0 x1 x2 x3 x4
  clear g5 HX0
  have s0 := HX1.out.dr.s.cell (k := 0) rfl
  have s1 := HX1.out.dr.s.cell (k := 1) rfl
  have s2 := HX1.out.dr.s.cell (k := 2) rfl
  have s3 := HX1.out.dr.s.cell (k := 3) rfl
  have s4 := HX1.out.dr.s.cell (k := 4) rfl
  have s5 := HX1.out.dr.s.cell (k := 5) rfl
  have x0 := HX1.out.dr.x.cell (k := 0) rfl
  have x1 := HX1.out.dr.x.cell (k := 1) rfl
  have x2 := HX1.out.dr.x.cell (k := 2) rfl
  have x3 := HX1.out.dr.x.cell (k := 3) rfl
  have x4 := HX1.out.dr.x.cell (k := 4) rfl
  go_wp2_with fail
  refine (On_any (N := N) (r := k.rack) (d := (k.done : Int) + 1) (b := b) (n := n) w1 ⟨_, _, _, rfl⟩ (HX1.out.held.mono fun _ h => h.1) ⟨_, _, _, rfl⟩ (by omega)).mono ?_
  rintro e w2 ⟨u, rfl, hu, hb2, hnu⟩
  rw [HM.out.on] at hu
  have HX2 := Lib.hid (HX1.out.on hb2 hu)
  have HNU := Lib.hid hnu
  obtain ⟨Au, cu, rfl, hAu, hAu'⟩ := hu.sl
  unfold maxLen at hAu'
  clear s0 s1 s2 s3 s4 s5 x0 x1 x2 x3 x4
  clear hb2 HX1 hu hnu
  have s0 := HX2.out.dr.s.cell (k := 0) rfl
  have s1 := HX2.out.dr.s.cell (k := 1) rfl
  have s2 := HX2.out.dr.s.cell (k := 2) rfl
  have s3 := HX2.out.dr.s.cell (k := 3) rfl
  have s4 := HX2.out.dr.s.cell (k := 4) rfl
  have s5 := HX2.out.dr.s.cell (k := 5) rfl
  have x0 := HX2.out.dr.x.cell (k := 0) rfl
  have x1 := HX2.out.dr.x.cell (k := 1) rfl
  have x2 := HX2.out.dr.x.cell (k := 2) rfl
  have x3 := HX2.out.dr.x.cell (k := 3) rfl
  have x4 := HX2.out.dr.x.cell (k := 4) rfl
  go_wp2_with fail
  refine (Facing_any (N := N) (r := k.rack) (d := (k.done : Int) + 1) (b := b) (n := n) w2 ⟨_, _, _, rfl⟩ ⟨_, _, _, rfl⟩ ⟨_, _, _, rfl⟩ ⟨hr1, hr2⟩ ⟨by omega, by omega⟩).mono ?_
  rintro e w2' ⟨rfl, hbf⟩
  have HY := Lib.hid (HX2.out.next hbf)
  clear s0 s1 s2 s3 s4 s5 x0 x1 x2 x3 x4
  clear hbf HX2
  have s0 := HY.out.dr.s.cell (k := 0) rfl
  have s1 := HY.out.dr.s.cell (k := 1) rfl
  have s2 := HY.out.dr.s.cell (k := 2) rfl
  have s3 := HY.out.dr.s.cell (k := 3) rfl
  have s4 := HY.out.dr.s.cell (k := 4) rfl
  have s5 := HY.out.dr.s.cell (k := 5) rfl
  have x0 := HY.out.dr.x.cell (k := 0) rfl
  have x1 := HY.out.dr.x.cell (k := 1) rfl
  have x2 := HY.out.dr.x.cell (k := 2) rfl
  have x3 := HY.out.dr.x.cell (k := 3) rfl
  have x4 := HY.out.dr.x.cell (k := 4) rfl
  go_wp2_with fail
  refine (taken_own (N := N) (r := k.rack) (d := (k.done : Int) + 1) (b := b) (n := n) w2' ⟨_, _, _, rfl⟩ (HY.out.held.mono fun _ h => h.1) ⟨_, _, _, rfl⟩ (by omega)).mono ?_
  rintro e w3 ⟨v, rfl, hv, hb3⟩
  unfold sval
  have HX3 := Lib.hid (HY.out.next hb3)
  have hs3 := HY.out.dr.size
  have hs3' := hb3.size
  obtain ⟨Av, cv, rfl, hAv, hAv'⟩ := own_form hv
  unfold maxLen at hAv'
  have HV := Lib.hid (DXr.of HY.out hb3 hv)
  clear s0 s1 s2 s3 s4 s5 x0 x1 x2 x3 x4
  clear hb3 hv HY
  have s0 := HX3.out.dr.s.cell (k := 0) rfl
  have s1 := HX3.out.dr.s.cell (k := 1) rfl
  have s2 := HX3.out.dr.s.cell (k := 2) rfl
  have s3 := HX3.out.dr.s.cell (k := 3) rfl
  have s4 := HX3.out.dr.s.cell (k := 4) rfl
  have s5 := HX3.out.dr.s.cell (k := 5) rfl
  have x0 := HX3.out.dr.x.cell (k := 0) rfl
  have x1 := HX3.out.dr.x.cell (k := 1) rfl
  have x2 := HX3.out.dr.x.cell (k := 2) rfl
  have x3 := HX3.out.dr.x.cell (k := 3) rfl
  have x4 := HX3.out.dr.x.cell (k := 4) rfl
  have g0 := HX3.out.dr.s.free 0
  have g1 := HX3.out.dr.s.free 1
  have g2 := HX3.out.dr.s.free 2
  have g3 := HX3.out.dr.s.free 3
  have g4 := HX3.out.dr.s.free 4
  have g5 := HX3.out.dr.s.free 5
  go_upto_region 16 with fail
  have HX4 := HV
  generalize (((((w3.setCell ⟨w.heap.size, 0, none⟩ (.int .i64 N)).setCell ⟨w.heap.size, 1, none⟩ (.slice A0 k.loops.length n0)).setCell ⟨w.heap.size, 2, none⟩ (.slice Av (heldOff hs b n).length cv)).setCell ⟨w.heap.size, 3, none⟩ (.slice A2 k.loose.length n2)).setCell ⟨w.heap.size, 4, none⟩ (.int .i64 k.rack)).setCell ⟨w.heap.size, 5, none⟩ (.int .i64 ((k.done : Int) + 1)) = w4 at *
  clear s0 s1 s2 s3 s4 s5 x0 x1 x2 x3 x4
  clear HX3 HV g0 g1 g2 g3 g4 g5
  have s0 := HX4.out.dr.s.cell (k := 0) rfl
  have s1 := HX4.out.dr.s.cell (k := 1) rfl
  have s2 := HX4.out.dr.s.cell (k := 2) rfl
  have s3 := HX4.out.dr.s.cell (k := 3) rfl
  have s4 := HX4.out.dr.s.cell (k := 4) rfl
  have s5 := HX4.out.dr.s.cell (k := 5) rfl
  have x0 := HX4.out.dr.x.cell (k := 0) rfl
  have x1 := HX4.out.dr.x.cell (k := 1) rfl
  have x2 := HX4.out.dr.x.cell (k := 2) rfl
  have x3 := HX4.out.dr.x.cell (k := 3) rfl
  have x4 := HX4.out.dr.x.cell (k := 4) rfl
  have HL := Lib.hid (held_len hs b n)
  have hl1 : (heldOff hs b n).length ≤ hs.length := by have := HL.out; omega
  have HON : Hid ((heldOff hs b n).length + (k.on b n).length = hs.length) := by have := HL.out; rw [HM.out.on] at this; exact this
  go_wp2_with fail
  clear s0 s1 s2 s3 s4 s5 x0 x1 x2 x3 x4
  go_loopg [107] (k.on b n).length (fun gg ctr wr => ∃ (i : Nat) (A : Option Addr) (c' : Nat), i ≤ (k.on b n).length ∧ gg = (k.on b n).length - i ∧ ctr = .int .i64 i ∧ (heldOff hs b n).length + i ≤ c' ∧ c' ≤ 9223372036854775807 ∧ DXr S w wr N k.loops (heldOff hs b n ++ ((k.on b n).take i).map fun x => (⟨x, fB b, fN k.rack b n⟩ : Hd)) k.loose k.rack ((k.done : Int) + 1) (.slice A0 k.loops.length n0) (.slice A ((heldOff hs b n).length + i) c') (.slice A2 k.loose.length n2) [.int .i64 4, .int .i64 b, .int .i64 n, .int .i64 c, .int .i64 t] (.slice Au (k.on b n).length cu) (k.on b n))
  case atStart => exact ⟨0, Av, cv, Nat.zero_le _, rfl, rfl, hAv, by omega, by rw [List.take_zero, List.map_nil, List.append_nil]; exact HX4.out⟩
  case round =>
    clear HX4
    obtain ⟨i, A, c', hi, rfl, rfl, hA, hA', hx⟩ := hrel
    have HX := Lib.hid hx
    clear hx
    have s0 := HX.out.dr.s.cell (k := 0) rfl
    have s1 := HX.out.dr.s.cell (k := 1) rfl
    have s2 := HX.out.dr.s.cell (k := 2) rfl
    have s3 := HX.out.dr.s.cell (k := 3) rfl
    have s4 := HX.out.dr.s.cell (k := 4) rfl
    have s5 := HX.out.dr.s.cell (k := 5) rfl
    have x0 := HX.out.dr.x.cell (k := 0) rfl
    have x1 := HX.out.dr.x.cell (k := 1) rfl
    have x2 := HX.out.dr.x.cell (k := 2) rfl
    have x3 := HX.out.dr.x.cell (k := 3) rfl
    have x4 := HX.out.dr.x.cell (k := 4) rfl
    by_cases hlt : i < (k.on b n).length
    case neg =>
      obtain rfl : i = (k.on b n).length := by omega
      rw [List.take_length] at HX
      go_upto_region 24 with fail
      clear s0 s1 s2 s3 s4 s5 x0 x1 x2 x3 x4
      have s0 := HX.out.dr.s.cell (k := 0) rfl
      have s1 := HX.out.dr.s.cell (k := 1) rfl
      have s2 := HX.out.dr.s.cell (k := 2) rfl
      have s3 := HX.out.dr.s.cell (k := 3) rfl
      have s4 := HX.out.dr.s.cell (k := 4) rfl
      have s5 := HX.out.dr.s.cell (k := 5) rfl
      have x0 := HX.out.dr.x.cell (k := 0) rfl
      have x1 := HX.out.dr.x.cell (k := 1) rfl
      have x2 := HX.out.dr.x.cell (k := 2) rfl
      have x3 := HX.out.dr.x.cell (k := 3) rfl
      have x4 := HX.out.dr.x.cell (k := 4) rfl
      have r0 := HX.out.dr.r.cell (k := 0) rfl
      have f0 := HX.out.dr.r.free 0
      have r1 := HX.out.dr.r.cell (k := 1) rfl
      have f1 := HX.out.dr.r.free 1
      have r2 := HX.out.dr.r.cell (k := 2) rfl
      have f2 := HX.out.dr.r.free 2
      have r3 := HX.out.dr.r.cell (k := 3) rfl
      have f3 := HX.out.dr.r.free 3
      have r4 := HX.out.dr.r.cell (k := 4) rfl
      have f4 := HX.out.dr.r.free 4
      have r5 := HX.out.dr.r.cell (k := 5) rfl
      have f5 := HX.out.dr.r.free 5
      have hq := ((((((HX.out.dr.r.set 0 (.int .i64 N)).set 1 (.slice A0 k.loops.length n0)).set 2 (.slice A ((heldOff hs b n).length + (k.on b n).length) c')).set 3 (.slice A2 k.loose.length n2)).set 4 (.int .i64 k.rack)).set 5 (.int .i64 ((k.done : Int) + 1)))
      have q0 := hq.cell (k := 0) rfl
      have q1 := hq.cell (k := 1) rfl
      have q2 := hq.cell (k := 2) rfl
      have q3 := hq.cell (k := 3) rfl
      have q4 := hq.cell (k := 4) rfl
      have q5 := hq.cell (k := 5) rfl
      clear hq
      go_wp2_with fail
      have e : stepK k ⟨4, b, n, c, t⟩ = { k with on := put (put k.on (fB b) (fN k.rack b n) (k.on (fB b) (fN k.rack b n) ++ k.on b n)) b n [], done := k.done + 1 } := by unfold stepK; rw [if_neg (show ¬ (4 : Int) = 6 by decide), if_neg (show ¬ (4 : Int) = 1 by decide), if_neg (show ¬ (4 : Int) = 2 by decide), if_pos rfl]
      rw [e]
      refine bodyPost_ret (v := .agg #[.int .i64 N, .slice A0 k.loops.length n0, .slice A ((heldOff hs b n).length + (k.on b n).length) c', .slice A2 k.loose.length n2, .int .i64 k.rack, .int .i64 ((k.done : Int) + 1)]) (by simp [results, Try.results31, go_sem, q0, q1, q2, q3, q4, q5]) rfl ⟨_, _, _, _, rfl, HX.out.to.fin rfl rfl (fun b' n' => on_move HM.out.on (fB_ne HT.out.1) _ _) (by rw [List.length_append, List.length_map]; show _ ≤ k.done + 1; have := HON.out; omega)⟩
    have hrw := HX.out.ex
    obtain ⟨Aw, cw, ew, hw1, hw2, hrow⟩ := hrw
    simp only [Value.slice.injEq, true_and] at ew
    obtain ⟨rfl, rfl⟩ := ew
    obtain ⟨bk, o, e, hbk, xc⟩ := ints_cell hrow hlt
    cases e
    have HTK : Hid ((k.on b n).take (i + 1) = (k.on b n).take i ++ [(k.on b n)[i]]) := List.take_succ_eq_append_getElem hlt
    have hlti : ((k.on b n).take i).length = i := by rw [List.length_take]; omega
    have HLT := Lib.hid hlti
    generalize (k.on b n)[i] = y at *
    have g2 := HX.out.dr.s.free 2
    have hsz5 := HX.out.dr.size
    have HHD : Hid (wr.ownsRow (w.heap.size + 3) 90 3 (.slice A ((heldOff hs b n).length + i) c') ((heldOff hs b n).length + i) ((heldOff hs b n ++ ((k.on b n).take i).map fun x => (⟨x, fB b, fN k.rack b n⟩ : Hd)).flatMap Hd.cells)) := by
      have h0 := HX.out.held
      rw [List.length_append, List.length_map, HLT.out] at h0
      exact h0
    clear hrow hw1 hw2 hlti
    go_wp2_with (
      at_builtin
      refine app_el T56 _ HHD.out (Below.refl _ _) hsz5 rfl rfl rfl rfl rfl ?_ ?_ ?_
      rotate_right
      intro v1 w6 hown1 hb1 hg1 ho1
      obtain ⟨A6, c6, rfl, hA6, hA6'⟩ := own_form hown1
      have HX6 := Lib.hid (HX.out.app (hs' := heldOff hs b n ++ ((k.on b n).take (i + 1)).map fun x => (⟨x, fB b, fN k.rack b n⟩ : Hd)) hown1 hb1 hg1 ho1 (by omega) ?hlen ?hus)
      have z2 := (HX.out.dr.next3 hb1).s.cell (k := 2) rfl
      have zf2 := (HX.out.dr.next3 hb1).s.free 2
      unfold maxLen at hA6'
      clear hown1 hb1 hg1 ho1)
    case refine_1 => simp [Value.oneCell']
    case refine_2 => have := HON.out; omega
    case hlen => rw [HTK.out, List.length_append, List.length_map, List.length_append, HLT.out, List.length_singleton]; omega
    case hus => rw [HTK.out, List.map_append, List.map_cons, List.map_nil, ← List.append_assoc]; exact (flat_snoc _ (⟨y, fB b, fN k.rack b n⟩ : Hd)).symm
    go_roundg ((k.on b n).length - (i + 1))
    case measure => omega
    case rel => exact ⟨i + 1, A6, c6, by omega, rfl, by go_num, by omega, by omega, HX6.out⟩
end Go.Proofs.Ytaacfjeddoekfaa
