/- Chapter 11: the reference does a stitch, kind by kind. (Printed by gen_refdo2.py.) -/
import Derived.Test.YtaacfjeddoekfaaKnitRefX
import Derived.Deep.CutRange
namespace Go.Proofs.Ytaacfjeddoekfaa
open Go.RowKit
set_option linter.unusedVariables false
set_option linter.unusedSimpArgs false


set_option maxRecDepth 100000 in
set_option maxHeartbeats 4000000 in
theorem refDo_knit {w : World} {N : Nat} {k : KS} {hs : List Hd} {vl vh vo : Value} {S : Nat → Prop} (h : RSs S w N k hs vl vh vo) (hS : ∀ b, S b → b < w.heap.size) (hN : N ≤ 128) (hi : Kinv N k) (b n c t : Int) (hw : wrongK N k ⟨1, b, n, c, t⟩ = 0) :
    Calls Try.prog 31 #[sval N vl vh vo k.rack (k.done : Int), .agg #[.int .i64 1, .int .i64 b, .int .i64 n, .int .i64 c, .int .i64 t]] w fun e w' => ∃ vl' vh' vo' hs', e = .returned (sval N vl' vh' vo' (stepK k ⟨1, b, n, c, t⟩).rack ((stepK k ⟨1, b, n, c, t⟩).done : Int)) ∧ RSs (Gr S w w') w' N (stepK k ⟨1, b, n, c, t⟩) hs' vl' vh' vo' ∧ Below w.heap.size w w' := by
  have HM := Lib.hid h
  have HI := Lib.hid hi
  have HWB := Lib.hid (wrong_bounds hw)
  have hd := hi.d
  have hdn := HWB.out.2.2.1
  obtain ⟨hr1, hr2⟩ := hi.r
  have hlen := h.len
  have hL0 := hi.loops
  have hO0 := hi.loose
  have h8 := hi.on b n
  obtain ⟨A0, n0, rfl, hA0, hA0'⟩ := h.loops.sl
  obtain ⟨A1, n1, rfl, hA1, hA1'⟩ := h.held.sl
  obtain ⟨A2, n2, rfl, hA2, hA2'⟩ := h.loose.sl
  unfold maxLen at hA0' hA1' hA2'
  have hx0 := DS.start h hS #[.int .i64 1, .int .i64 b, .int .i64 n, .int .i64 c, .int .i64 t]
  have HX0 : Hid (DS S w (((w.alloc (.cells #[.int .i64 N, .slice A0 k.loops.length n0, .slice A1 hs.length n1, .slice A2 k.loose.length n2, .int .i64 k.rack, .int .i64 (k.done : Int)] 58)).alloc (.cells #[.int .i64 1, .int .i64 b, .int .i64 n, .int .i64 c, .int .i64 t] 44)).alloc (.cells #[.int .i64 0, nils, nils, nils, .int .i64 0, .int .i64 0] 58)) N k.loops hs k.loose k.rack (k.done : Int) (.slice A0 k.loops.length n0) (.slice A1 hs.length n1) (.slice A2 k.loose.length n2) [.int .i64 1, .int .i64 b, .int .i64 n, .int .i64 c, .int .i64 t] nils []) := hx0
  have HT := Lib.hid (HWB.out.2.2.2.2.1 (show (1 : Int) ≠ 6 by decide))
  have hnb := HT.out.2
  clear h hi hw hx0 hS
  show Calls Try.prog 31 #[.agg #[.int .i64 N, .slice A0 k.loops.length n0, .slice A1 hs.length n1, .slice A2 k.loose.length n2, .int .i64 k.rack, .int .i64 (k.done : Int)], .agg #[.int .i64 1, .int .i64 b, .int .i64 n, .int .i64 c, .int .i64 t]] w _
  go_enter Try.func31, Try.ntmps31
  go_upto_region 1 with fail
  generalize ((w.alloc (.cells #[.int .i64 N, .slice A0 k.loops.length n0, .slice A1 hs.length n1, .slice A2 k.loose.length n2, .int .i64 k.rack, .int .i64 (k.done : Int)] 58)).alloc (.cells #[.int .i64 1, .int .i64 b, .int .i64 n, .int .i64 c, .int .i64 t] 44)).alloc (.cells #[.int .i64 0, nils, nils, nils, .int .i64 0, .int .i64 0] 58) = w0 at *
  have s0 := HX0.out.dr.s.cell (k := 0) rfl
  have s1 := HX0.out.dr.s.cell (k := 1) rfl
  have s2 := HX0.out.dr.s.cell (k := 2) rfl
  have s3 := HX0.out.dr.s.cell (k := 3) rfl
  have s4 := HX0.out.dr.s.cell (k := 4) rfl
  have s5 := HX0.out.dr.s.cell (k := 5) rfl
  have x0 := HX0.out.dr.x.cell (k := 0) rfl
  have x1 := HX0.out.dr.x.cell (k := 1) rfl
  have x2 := HX0.out.dr.x.cell (k := 2) rfl
  have x3 := HX0.out.dr.x.cell (k := 3) rfl
  have x4 := HX0.out.dr.x.cell (k := 4) rfl
  have g5 := HX0.out.dr.s.free 5
  go_upto_region 2 with fail
  have HX1 := Lib.hid HX0.out.setD
  generalize w0.setCell ⟨w.heap.size, 5, none⟩ (.int .i64 ((k.done : Int) + 1)) = w1 at *
  clear s0 s1 s2 s3 s4 s5 x0 x1 x2 x3 x4
  clear g5 HX0
  have s0 := HX1.out.dr.s.cell (k := 0) rfl
  have s1 := HX1.out.dr.s.cell (k := 1) rfl
  have s2 := HX1.out.dr.s.cell (k := 2) rfl
  have s3 := HX1.out.dr.s.cell (k := 3) rfl
  have s4 := HX1.out.dr.s.cell (k := 4) rfl
  have s5 := HX1.out.dr.s.cell (k := 5) rfl
  have x0 := HX1.out.dr.x.cell (k := 0) rfl
  have x1 := HX1.out.dr.x.cell (k := 1) rfl
  have x2 := HX1.out.dr.x.cell (k := 2) rfl
  have x3 := HX1.out.dr.x.cell (k := 3) rfl
  have x4 := HX1.out.dr.x.cell (k := 4) rfl
  go_wp2_with fail
  refine (On_any (N := N) (r := k.rack) (d := (k.done : Int) + 1) (b := b) (n := n) w1 ⟨_, _, _, rfl⟩ (HX1.out.held.mono fun _ h => h.1) ⟨_, _, _, rfl⟩ (by omega)).mono ?_
  rintro e w2 ⟨u, rfl, hu, hb2, hnu⟩
  rw [HM.out.on] at hu
  have HX2 := Lib.hid (HX1.out.on hb2 hu)
  have HNU := Lib.hid hnu
  obtain ⟨Au, cu, rfl, hAu, hAu'⟩ := hu.sl
  unfold maxLen at hAu'
  clear s0 s1 s2 s3 s4 s5 x0 x1 x2 x3 x4
  clear hb2 HX1 hu hnu
  have s0 := HX2.out.dr.s.cell (k := 0) rfl
  have s1 := HX2.out.dr.s.cell (k := 1) rfl
  have s2 := HX2.out.dr.s.cell (k := 2) rfl
  have s3 := HX2.out.dr.s.cell (k := 3) rfl
  have s4 := HX2.out.dr.s.cell (k := 4) rfl
  have s5 := HX2.out.dr.s.cell (k := 5) rfl
  have x0 := HX2.out.dr.x.cell (k := 0) rfl
  have x1 := HX2.out.dr.x.cell (k := 1) rfl
  have x2 := HX2.out.dr.x.cell (k := 2) rfl
  have x3 := HX2.out.dr.x.cell (k := 3) rfl
  have x4 := HX2.out.dr.x.cell (k := 4) rfl
  go_wp2_with fail
  refine (taken_own (N := N) (r := k.rack) (d := (k.done : Int) + 1) (b := b) (n := n) w2 ⟨_, _, _, rfl⟩ (HX2.out.held.mono fun _ h => h.1) ⟨_, _, _, rfl⟩ (by omega)).mono ?_
  rintro e w3 ⟨v, rfl, hv, hb3⟩
  unfold sval
  have HX3 := Lib.hid (HX2.out.next hb3)
  have hs3 := HX2.out.dr.size
  have hs3' := hb3.size
  obtain ⟨Av, cv, rfl, hAv, hAv'⟩ := own_form hv
  unfold maxLen at hAv'
  have HV := Lib.hid (DXr.of HX2.out hb3 hv)
  clear s0 s1 s2 s3 s4 s5 x0 x1 x2 x3 x4
  clear hb3 hv HX2
  have s0 := HX3.out.dr.s.cell (k := 0) rfl
  have s1 := HX3.out.dr.s.cell (k := 1) rfl
  have s2 := HX3.out.dr.s.cell (k := 2) rfl
  have s3 := HX3.out.dr.s.cell (k := 3) rfl
  have s4 := HX3.out.dr.s.cell (k := 4) rfl
  have s5 := HX3.out.dr.s.cell (k := 5) rfl
  have x0 := HX3.out.dr.x.cell (k := 0) rfl
  have x1 := HX3.out.dr.x.cell (k := 1) rfl
  have x2 := HX3.out.dr.x.cell (k := 2) rfl
  have x3 := HX3.out.dr.x.cell (k := 3) rfl
  have x4 := HX3.out.dr.x.cell (k := 4) rfl
  have g0 := HX3.out.dr.s.free 0
  have g1 := HX3.out.dr.s.free 1
  have g2 := HX3.out.dr.s.free 2
  have g3 := HX3.out.dr.s.free 3
  have g4 := HX3.out.dr.s.free 4
  have g5 := HX3.out.dr.s.free 5
  go_upto_region 8 with fail
  have HX4 := HV
  generalize (((((w3.setCell ⟨w.heap.size, 0, none⟩ (.int .i64 N)).setCell ⟨w.heap.size, 1, none⟩ (.slice A0 k.loops.length n0)).setCell ⟨w.heap.size, 2, none⟩ (.slice Av (heldOff hs b n).length cv)).setCell ⟨w.heap.size, 3, none⟩ (.slice A2 k.loose.length n2)).setCell ⟨w.heap.size, 4, none⟩ (.int .i64 k.rack)).setCell ⟨w.heap.size, 5, none⟩ (.int .i64 ((k.done : Int) + 1)) = w4 at *
  clear s0 s1 s2 s3 s4 s5 x0 x1 x2 x3 x4
  clear HX3 HV g0 g1 g2 g3 g4 g5
  have s0 := HX4.out.dr.s.cell (k := 0) rfl
  have s1 := HX4.out.dr.s.cell (k := 1) rfl
  have s2 := HX4.out.dr.s.cell (k := 2) rfl
  have s3 := HX4.out.dr.s.cell (k := 3) rfl
  have s4 := HX4.out.dr.s.cell (k := 4) rfl
  have s5 := HX4.out.dr.s.cell (k := 5) rfl
  have x0 := HX4.out.dr.x.cell (k := 0) rfl
  have x1 := HX4.out.dr.x.cell (k := 1) rfl
  have x2 := HX4.out.dr.x.cell (k := 2) rfl
  have x3 := HX4.out.dr.x.cell (k := 3) rfl
  have x4 := HX4.out.dr.x.cell (k := 4) rfl
  obtain ⟨A0', n0', tv, e0, g1, g2, HN, ht⟩ := news_loops HX4.out.loops HX4.out.nl
  simp only [Value.slice.injEq, true_and] at e0
  obtain ⟨rfl, rfl⟩ := e0
  have HNN := Lib.hid HN
  have HTT := Lib.hid ht
  clear HN ht
  have HSZ : Hid (∀ w', Below w4.heap.size w4 w' → Below w4.heap.size w4 w' ∧ w'.cell? ⟨w.heap.size, 1, none⟩ = some (.slice A0 k.loops.length n0) ∧ w'.cell? ⟨w.heap.size + 1, 3, none⟩ = some (.int .i64 c)) := fun w' hb => ⟨hb, (HX4.out.next hb).dr.s.cell (k := 1) rfl, (HX4.out.next hb).dr.x.cell (k := 3) rfl⟩
  have HSS := Lib.hid (HSZ.out w4.drew (below_dN (n := 1) (Below.refl _ _)))
  go_cut [] from 35 to 45 (fun wx => ∃ A c', k.loops.length + 1 ≤ c' ∧ c' ≤ maxLen ∧ DXr S w wx N (k.loops ++ [⟨c, k.on b n⟩]) (heldOff hs b n) k.loose k.rack ((k.done : Int) + 1) (.slice A (k.loops.length + 1) c') (.slice Av (heldOff hs b n).length cv) (.slice A2 k.loose.length n2) [.int .i64 1, .int .i64 b, .int .i64 n, .int .i64 c, .int .i64 t] (.slice Au (k.on b n).length cu) (k.on b n))
  case first =>
    clear s0 s2 s3 s4 s5 x0 x1 x2 x4
    refine wp_region_planT (.take 1 (.take 2 (.take 4 (.take 5 (.take 6 (.take 7 (PT2 0 3 8 9 (.take 10 (.one 11 .nil))))))))) 11 (fun w' => Below w4.heap.size w4 w' ∧ w'.cell? ⟨w.heap.size, 1, none⟩ = some (.slice A0 k.loops.length n0) ∧ w'.cell? ⟨w.heap.size + 1, 3, none⟩ = some (.int .i64 c)) (by kernel_rfl) (by kernel_rfl) (by kernel_rfl) (by kernel_rfl) HSS.out ?_
    repeat (first
      | (refine planT_val _ ?_ (by rfl) (by rfl) ?_ ?_
         rotate_left 1
         · rintro w9 ⟨_, s1, x3⟩; go_simp; first | done | with_reducible rfl
         (try simp only [Act.put, List.setIfInBounds_toArray, List.set_cons_zero, List.set_cons_succ])))
    refine planT_two_app (wz := w4) (b0 := 0) (a1 := 3) (b1 := 8) (a2 := 9) (r := .take 10 (.one 11 .nil)) _ _ _ _ (e := 41) T23 (lrow k.loops tv) #[.int .i64 c, .slice Au (k.on b n).length cu] (by rfl) (by rfl) (by rfl) (by rfl) rfl rfl rfl rfl HSS.out.1 (fun w' hb => HSZ.out w' hb) rfl rfl
      (by intro w; go_simp; first | done | rfl | (refine And.intro ?_ ?_ <;> rfl)) (by intro v2 w; go_simp; first | done | rfl | (refine And.intro ?_ ?_ <;> rfl)) (by intro w; go_simp; first | done | rfl | (refine And.intro ?_ ?_ <;> rfl)) (by intro v0 w; go_simp; first | done | rfl | (refine And.intro ?_ ?_ <;> rfl)) (by intro v0 v1 w; go_simp; first | done | rfl | (refine And.intro ?_ ?_ <;> rfl))
      (fun _ => rfl) (fun _ _ => rfl) (fun _ _ => rfl) (fun _ => rfl) (fun _ _ => rfl) (fun _ _ => rfl) (fun _ _ _ => rfl) (fun _ _ _ => rfl) (fun _ _ _ => rfl) (fun _ _ _ => rfl) (fun _ _ _ => rfl) (fun _ _ _ => rfl)
      HNN.out (lrow_len _ _) (lrow_one fun i hi => ints_cell1 (HTT.out i hi)) (by rfl) (by simp [Value.oneCell']) (by omega) ?_
    intro v' w5 hv' hb5
    rw [Nat.zero_add] at hv'
    have HF := Lib.hid (And.intro hv' hb5)
    obtain ⟨Av', cv', rfl, hAw, hAw'⟩ := own_form hv'
    obtain ⟨_, s1, x3⟩ := HSZ.out w5 hb5
    have HB5 := Lib.hid (HX4.out.next hb5)
    have z1 := HB5.out.dr.s.free 1
    have HG := Lib.hid (HX4.out.growL HTT.out HX4.out.ex hb5 (c := c) hv' (by omega) (by simp))
    clear HB5 HF
    clear hv' hb5
    refine ⟨fun v0 v1 v2 => ?_, fun v0 v1 v2 => ?_, fun v0 v1 v2 => ?_⟩
    all_goals
      refine planT_val _ ?_ (by rfl) (by rfl) ?_ ?_
      rotate_left 1
      · rintro w9 ⟨_, s1, x3⟩; go_simp; first | done | with_reducible rfl
      refine planT_store _ ?_ (by rfl) (by rfl) ?_ (.inl rfl) ?_
      rotate_left 1
      · go_simp; first | done | rfl | (refine And.intro ?_ ?_ <;> rfl)
      refine planT_end ?_
      (try simp only [Act.put, List.setIfInBounds_toArray, List.set_cons_zero, List.set_cons_succ])
      go_wp2_with fail
      go_meet
      exact ⟨Av', cv', hAw, hAw', HG.out⟩
  case rest =>
    obtain ⟨A', c', hA', hA'', hdx⟩ := hcut
    unfold maxLen at hA''
    have HX5 := Lib.hid hdx
    clear hdx HSS HSZ HNN HTT HX4
    have HL := Lib.hid (held_len hs b n)
    have hl1 : (heldOff hs b n).length ≤ hs.length := by have := HL.out; omega
    clear s0 s1 s2 s3 s4 s5 x0 x1 x2 x3 x4
    have s0 := HX5.out.dr.s.cell (k := 0) rfl
    have s1 := HX5.out.dr.s.cell (k := 1) rfl
    have s2 := HX5.out.dr.s.cell (k := 2) rfl
    have s3 := HX5.out.dr.s.cell (k := 3) rfl
    have s4 := HX5.out.dr.s.cell (k := 4) rfl
    have s5 := HX5.out.dr.s.cell (k := 5) rfl
    have x0 := HX5.out.dr.x.cell (k := 0) rfl
    have x1 := HX5.out.dr.x.cell (k := 1) rfl
    have x2 := HX5.out.dr.x.cell (k := 2) rfl
    have x3 := HX5.out.dr.x.cell (k := 3) rfl
    have x4 := HX5.out.dr.x.cell (k := 4) rfl
    have g2 := HX5.out.dr.s.free 2
    have hsz5 := HX5.out.dr.size
    go_upto_region 24 with (
                 at_builtin
                 refine app_el T56 _ HX5.out.held (Below.refl _ _) hsz5 rfl rfl rfl rfl rfl ?_ ?_ ?_
                 rotate_right
                 intro v1 w6 hown1 hb1 hg1 ho1
                 obtain ⟨A6, c6, rfl, hA6, hA6'⟩ := own_form hown1
                 have HX6 := Lib.hid (HX5.out.app (hs' := heldOff hs b n ++ [⟨(k.loops.length : Int), b, n⟩]) hown1 hb1 hg1 ho1 (by omega) ?hlen ?hus)
                 have z2 := (HX5.out.dr.next3 hb1).s.cell (k := 2) rfl
                 have zf2 := (HX5.out.dr.next3 hb1).s.free 2
                 clear hown1 hb1 hg1 ho1)
    case refine_1 => simp [Value.oneCell']
    case refine_2 => omega
    case hlen => simp
    case hus => rw [flat_snoc]
    generalize w6.setCell ⟨w.heap.size, 2, none⟩ (.slice A6 ((heldOff hs b n).length + 1) c6) = w7 at *
    clear z2 zf2 g2 HX5
    clear s0 s1 s2 s3 s4 s5 x0 x1 x2 x3 x4
    have s0 := HX6.out.dr.s.cell (k := 0) rfl
    have s1 := HX6.out.dr.s.cell (k := 1) rfl
    have s2 := HX6.out.dr.s.cell (k := 2) rfl
    have s3 := HX6.out.dr.s.cell (k := 3) rfl
    have s4 := HX6.out.dr.s.cell (k := 4) rfl
    have s5 := HX6.out.dr.s.cell (k := 5) rfl
    have x0 := HX6.out.dr.x.cell (k := 0) rfl
    have x1 := HX6.out.dr.x.cell (k := 1) rfl
    have x2 := HX6.out.dr.x.cell (k := 2) rfl
    have x3 := HX6.out.dr.x.cell (k := 3) rfl
    have x4 := HX6.out.dr.x.cell (k := 4) rfl
    have r0 := HX6.out.dr.r.cell (k := 0) rfl
    have f0 := HX6.out.dr.r.free 0
    have r1 := HX6.out.dr.r.cell (k := 1) rfl
    have f1 := HX6.out.dr.r.free 1
    have r2 := HX6.out.dr.r.cell (k := 2) rfl
    have f2 := HX6.out.dr.r.free 2
    have r3 := HX6.out.dr.r.cell (k := 3) rfl
    have f3 := HX6.out.dr.r.free 3
    have r4 := HX6.out.dr.r.cell (k := 4) rfl
    have f4 := HX6.out.dr.r.free 4
    have r5 := HX6.out.dr.r.cell (k := 5) rfl
    have f5 := HX6.out.dr.r.free 5
    have hq := ((((((HX6.out.dr.r.set 0 (.int .i64 N)).set 1 (.slice A' (k.loops.length + 1) c')).set 2 (.slice A6 ((heldOff hs b n).length + 1) c6)).set 3 (.slice A2 k.loose.length n2)).set 4 (.int .i64 k.rack)).set 5 (.int .i64 ((k.done : Int) + 1)))
    have q0 := hq.cell (k := 0) rfl
    have q1 := hq.cell (k := 1) rfl
    have q2 := hq.cell (k := 2) rfl
    have q3 := hq.cell (k := 3) rfl
    have q4 := hq.cell (k := 4) rfl
    have q5 := hq.cell (k := 5) rfl
    clear hq
    go_wp2_with fail
    have e : stepK k ⟨1, b, n, c, t⟩ = { k with loops := k.loops ++ [⟨c, k.on b n⟩], on := put k.on b n [(k.loops.length : Int)], done := k.done + 1 } := by unfold stepK; rw [if_neg (show ¬ (1 : Int) = 6 by decide), if_pos rfl]
    rw [e]
    refine bodyPost_ret (v := .agg #[.int .i64 N, .slice A' (k.loops.length + 1) c', .slice A6 ((heldOff hs b n).length + 1) c6, .slice A2 k.loose.length n2, .int .i64 k.rack, .int .i64 ((k.done : Int) + 1)]) (by simp [results, Try.results31, go_sem, q0, q1, q2, q3, q4, q5]) rfl ⟨_, _, _, _, rfl, HX6.out.to.fin rfl rfl (fun b' n' => on_knit HM.out.on _ _ _ _ _) (by rw [List.length_append, List.length_singleton]; show _ ≤ k.done + 1; omega)⟩
end Go.Proofs.Ytaacfjeddoekfaa
