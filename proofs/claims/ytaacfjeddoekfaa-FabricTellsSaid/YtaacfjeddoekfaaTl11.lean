/- Texts of the seat, put together: KnitRef6, KnitRef7, KnitRef8, KnitRef9, KnitDo. -/
import Derived.Test.YtaacfjeddoekfaaTl10
import Derived.Deep.CutRange
/- Chapter 11: the reference does a stitch, kind by kind. (Printed by gen_refdo2.py.) -/
namespace Go.Proofs.Ytaacfjeddoekfaa
open Go.RowKit
set_option linter.unusedVariables false
set_option linter.unusedSimpArgs false


set_option maxRecDepth 100000 in
set_option maxHeartbeats 4000000 in
theorem refDo_knit {w : World} {N : Nat} {k : KS} {hs : List Hd} {vl vh vo : Value} {S : Nat → Prop} (h : RSs S w N k hs vl vh vo) (hS : ∀ b, S b → b < w.heap.size) (hN : N ≤ 128) (hi : Kinv N k) (b n c t : Int) (hw : wrongK N k ⟨1, b, n, c, t⟩ = 0) :
    Calls Try.prog 31 #[sval N vl vh vo k.rack (k.done : Int), .agg #[.int .i64 1, .int .i64 b, .int .i64 n, .int .i64 c, .int .i64 t]] w fun e w' => ∃ vl' vh' vo' hs', e = .returned (sval N vl' vh' vo' (stepK k ⟨1, b, n, c, t⟩).rack ((stepK k ⟨1, b, n, c, t⟩).done : Int)) ∧ RSs (Gr S w w') w' N (stepK k ⟨1, b, n, c, t⟩) hs' vl' vh' vo' ∧ Below w.heap.size w w' := by
  have HM := Lib.hid h
  have HI := Lib.hid hi
  have HWB := Lib.hid (wrong_bounds hw)
  have hd := hi.d
  have hdn := HWB.out.2.2.1
  obtain ⟨hr1, hr2⟩ := hi.r
  have hlen := h.len
  have hL0 := hi.loops
  have hO0 := hi.loose
  have h8 := hi.on b n
  obtain ⟨A0, n0, rfl, hA0, hA0'⟩ := h.loops.sl
  obtain ⟨A1, n1, rfl, hA1, hA1'⟩ := h.held.sl
  obtain ⟨A2, n2, rfl, hA2, hA2'⟩ := h.loose.sl
  unfold maxLen at hA0' hA1' hA2'
  have hx0 := DS.start h hS #[.int .i64 1, .int .i64 b, .int .i64 n, .int .i64 c, .int .i64 t]
  have HX0 : Hid (DS S w (((w.alloc (.cells #[.int .i64 N, .slice A0 k.loops.length n0, .slice A1 hs.length n1, .slice A2 k.loose.length n2, .int .i64 k.rack, .int .i64 (k.done : Int)] 58)).alloc (.cells #[.int .i64 1, .int .i64 b, .int .i64 n, .int .i64 c, .int .i64 t] 44)).alloc (.cells #[.int .i64 0, nils, nils, nils, .int .i64 0, .int .i64 0] 58)) N k.loops hs k.loose k.rack (k.done : Int) (.slice A0 k.loops.length n0) (.slice A1 hs.length n1) (.slice A2 k.loose.length n2) [.int .i64 1, .int .i64 b, .int .i64 n, .int .i64 c, .int .i64 t] nils []) := hx0
  have HT := Lib.hid (HWB.out.2.2.2.2.1 (show (1 : Int) ≠ 6 by decide))
  have hnb := HT.out.2
  clear h hi hw hx0 hS
  show Calls Try.prog 31 #[.agg #[.int .i64 N, .slice A0 k.loops.length n0, .slice A1 hs.length n1, .slice A2 k.loose.length n2, .int .i64 k.rack, .int .i64 (k.done : Int)], .agg #[.int .i64 1, .int .i64 b, .int .i64 n, .int .i64 c, .int .i64 t]] w _
  go_enter Try.func31, Try.ntmps31
  go_upto_region 1 with fail
  generalize ((w.alloc (.cells #[.int .i64 N, .slice A0 k.loops.length n0, .slice A1 hs.length n1, .slice A2 k.loose.length n2, .int .i64 k.rack, .int .i64 (k.done : Int)] 58)).alloc (.cells #[.int .i64 1, .int .i64 b, .int .i64 n, .int .i64 c, .int .i64 t] 44)).alloc (.cells #[.int .i64 0, nils, nils, nils, .int .i64 0, .int .i64 0] 58) = w0 at *
  have s0 := HX0.out.dr.s.cell (k := 0) rfl
  have s1 := HX0.out.dr.s.cell (k := 1) rfl
  have s2 := HX0.out.dr.s.cell (k := 2) rfl
  have s3 := HX0.out.dr.s.cell (k := 3) rfl
  have s4 := HX0.out.dr.s.cell (k := 4) rfl
  have s5 := HX0.out.dr.s.cell (k := 5) rfl
  have x0 := HX0.out.dr.x.cell (k := 0) rfl
  have x1 := HX0.out.dr.x.cell (k := 1) rfl
  have x2 := HX0.out.dr.x.cell (k := 2) rfl
  have x3 := HX0.out.dr.x.cell (k := 3) rfl
  have x4 := HX0.out.dr.x.cell (k := 4) rfl
  have g5 := HX0.out.dr.s.free 5
  go_upto_region 2 with fail
  have HX1 := Lib.hid HX0.out.setD
  generalize w0.setCell ⟨w.heap.size, 5, none⟩ (.int .i64 ((k.done : Int) + 1)) = w1 at *
  clear s0 s1 s2 s3 s4 s5 x0 x1 x2 x3 x4
  clear g5 HX0
  have s0 := HX1.out.dr.s.cell (k := 0) rfl
  have s1 := HX1.out.dr.s.cell (k := 1) rfl
  have s2 := HX1.out.dr.s.cell (k := 2) rfl
  have s3 := HX1.out.dr.s.cell (k := 3) rfl
  have s4 := HX1.out.dr.s.cell (k := 4) rfl
  have s5 := HX1.out.dr.s.cell (k := 5) rfl
  have x0 := HX1.out.dr.x.cell (k := 0) rfl
  have x1 := HX1.out.dr.x.cell (k := 1) rfl
  have x2 := HX1.out.dr.x.cell (k := 2) rfl
  have x3 := HX1.out.dr.x.cell (k := 3) rfl
  have x4 := HX1.out.dr.x.cell (k := 4) rfl
  go_wp2_with fail
  refine (On_any (N := N) (r := k.rack) (d := (k.done : Int) + 1) (b := b) (n := n) w1 ⟨_, _, _, rfl⟩ (HX1.out.held.mono fun _ h => h.1) ⟨_, _, _, rfl⟩ (by omega)).mono ?_
  rintro e w2 ⟨u, rfl, hu, hb2, hnu⟩
  rw [HM.out.on] at hu
  have HX2 := Lib.hid (HX1.out.on hb2 hu)
  have HNU := Lib.hid hnu
  obtain ⟨Au, cu, rfl, hAu, hAu'⟩ := hu.sl
  unfold maxLen at hAu'
  clear s0 s1 s2 s3 s4 s5 x0 x1 x2 x3 x4
  clear hb2 HX1 hu hnu
  have s0 := HX2.out.dr.s.cell (k := 0) rfl
  have s1 := HX2.out.dr.s.cell (k := 1) rfl
  have s2 := HX2.out.dr.s.cell (k := 2) rfl
  have s3 := HX2.out.dr.s.cell (k := 3) rfl
  have s4 := HX2.out.dr.s.cell (k := 4) rfl
  have s5 := HX2.out.dr.s.cell (k := 5) rfl
  have x0 := HX2.out.dr.x.cell (k := 0) rfl
  have x1 := HX2.out.dr.x.cell (k := 1) rfl
  have x2 := HX2.out.dr.x.cell (k := 2) rfl
  have x3 := HX2.out.dr.x.cell (k := 3) rfl
  have x4 := HX2.out.dr.x.cell (k := 4) rfl
  go_wp2_with fail
  refine (taken_own (N := N) (r := k.rack) (d := (k.done : Int) + 1) (b := b) (n := n) w2 ⟨_, _, _, rfl⟩ (HX2.out.held.mono fun _ h => h.1) ⟨_, _, _, rfl⟩ (by omega)).mono ?_
  rintro e w3 ⟨v, rfl, hv, hb3⟩
  unfold sval
  have HX3 := Lib.hid (HX2.out.next hb3)
  have hs3 := HX2.out.dr.size
  have hs3' := hb3.size
  obtain ⟨Av, cv, rfl, hAv, hAv'⟩ := own_form hv
  unfold maxLen at hAv'
  have HV := Lib.hid (DXr.of HX2.out hb3 hv)
  clear s0 s1 s2 s3 s4 s5 x0 x1 x2 x3 x4
  clear hb3 hv HX2
  have s0 := HX3.out.dr.s.cell (k := 0) rfl
  have s1 := HX3.out.dr.s.cell (k := 1) rfl
  have s2 := HX3.out.dr.s.cell (k := 2) rfl
  have s3 := HX3.out.dr.s.cell (k := 3) rfl
  have s4 := HX3.out.dr.s.cell (k := 4) rfl
  have s5 := HX3.out.dr.s.cell (k := 5) rfl
  have x0 := HX3.out.dr.x.cell (k := 0) rfl
  have x1 := HX3.out.dr.x.cell (k := 1) rfl
  have x2 := HX3.out.dr.x.cell (k := 2) rfl
  have x3 := HX3.out.dr.x.cell (k := 3) rfl
  have x4 := HX3.out.dr.x.cell (k := 4) rfl
  have g0 := HX3.out.dr.s.free 0
  have g1 := HX3.out.dr.s.free 1
  have g2 := HX3.out.dr.s.free 2
  have g3 := HX3.out.dr.s.free 3
  have g4 := HX3.out.dr.s.free 4
  have g5 := HX3.out.dr.s.free 5
  go_upto_region 8 with fail
  have HX4 := HV
  generalize (((((w3.setCell ⟨w.heap.size, 0, none⟩ (.int .i64 N)).setCell ⟨w.heap.size, 1, none⟩ (.slice A0 k.loops.length n0)).setCell ⟨w.heap.size, 2, none⟩ (.slice Av (heldOff hs b n).length cv)).setCell ⟨w.heap.size, 3, none⟩ (.slice A2 k.loose.length n2)).setCell ⟨w.heap.size, 4, none⟩ (.int .i64 k.rack)).setCell ⟨w.heap.size, 5, none⟩ (.int .i64 ((k.done : Int) + 1)) = w4 at *
  clear s0 s1 s2 s3 s4 s5 x0 x1 x2 x3 x4
  clear HX3 HV g0 g1 g2 g3 g4 g5
  have s0 := HX4.out.dr.s.cell (k := 0) rfl
  have s1 := HX4.out.dr.s.cell (k := 1) rfl
  have s2 := HX4.out.dr.s.cell (k := 2) rfl
  have s3 := HX4.out.dr.s.cell (k := 3) rfl
  have s4 := HX4.out.dr.s.cell (k := 4) rfl
  have s5 := HX4.out.dr.s.cell (k := 5) rfl
  have x0 := HX4.out.dr.x.cell (k := 0) rfl
  have x1 := HX4.out.dr.x.cell (k := 1) rfl
  have x2 := HX4.out.dr.x.cell (k := 2) rfl
  have x3 := HX4.out.dr.x.cell (k := 3) rfl
  have x4 := HX4.out.dr.x.cell (k := 4) rfl
  obtain ⟨A0', n0', tv, e0, g1, g2, HN, ht⟩ := news_loops HX4.out.loops HX4.out.nl
  simp only [Value.slice.injEq, true_and] at e0
  obtain ⟨rfl, rfl⟩ := e0
  have HNN := Lib.hid HN
  have HTT := Lib.hid ht
  clear HN ht
  have HSZ : Hid (∀ w', Below w4.heap.size w4 w' → Below w4.heap.size w4 w' ∧ w'.cell? ⟨w.heap.size, 1, none⟩ = some (.slice A0 k.loops.length n0) ∧ w'.cell? ⟨w.heap.size + 1, 3, none⟩ = some (.int .i64 c)) := fun w' hb => ⟨hb, (HX4.out.next hb).dr.s.cell (k := 1) rfl, (HX4.out.next hb).dr.x.cell (k := 3) rfl⟩
  have HSS := Lib.hid (HSZ.out w4.drew (below_dN (n := 1) (Below.refl _ _)))
  go_cut [] from 35 to 45 (fun wx => ∃ A c', k.loops.length + 1 ≤ c' ∧ c' ≤ maxLen ∧ DXr S w wx N (k.loops ++ [⟨c, k.on b n⟩]) (heldOff hs b n) k.loose k.rack ((k.done : Int) + 1) (.slice A (k.loops.length + 1) c') (.slice Av (heldOff hs b n).length cv) (.slice A2 k.loose.length n2) [.int .i64 1, .int .i64 b, .int .i64 n, .int .i64 c, .int .i64 t] (.slice Au (k.on b n).length cu) (k.on b n))
  case first =>
    clear s0 s2 s3 s4 s5 x0 x1 x2 x4
    refine wp_region_planT (.take 1 (.take 2 (.take 4 (.take 5 (.take 6 (.take 7 (PT2 0 3 8 9 (.take 10 (.one 11 .nil))))))))) 11 (fun w' => Below w4.heap.size w4 w' ∧ w'.cell? ⟨w.heap.size, 1, none⟩ = some (.slice A0 k.loops.length n0) ∧ w'.cell? ⟨w.heap.size + 1, 3, none⟩ = some (.int .i64 c)) (by kernel_rfl) (by kernel_rfl) (by kernel_rfl) (by kernel_rfl) HSS.out ?_
    repeat (first
      | (refine planT_val _ ?_ (by rfl) (by rfl) ?_ ?_
         rotate_left 1
         · rintro w9 ⟨_, s1, x3⟩; go_simp; first | done | with_reducible rfl
         (try simp only [Act.put, List.setIfInBounds_toArray, List.set_cons_zero, List.set_cons_succ])))
    refine planT_two_app (wz := w4) (b0 := 0) (a1 := 3) (b1 := 8) (a2 := 9) (r := .take 10 (.one 11 .nil)) _ _ _ _ (e := 41) T23 (lrow k.loops tv) #[.int .i64 c, .slice Au (k.on b n).length cu] (by rfl) (by rfl) (by rfl) (by rfl) rfl rfl rfl rfl HSS.out.1 (fun w' hb => HSZ.out w' hb) rfl rfl
      (by intro w; go_simp; first | done | rfl | (refine And.intro ?_ ?_ <;> rfl)) (by intro v2 w; go_simp; first | done | rfl | (refine And.intro ?_ ?_ <;> rfl)) (by intro w; go_simp; first | done | rfl | (refine And.intro ?_ ?_ <;> rfl)) (by intro v0 w; go_simp; first | done | rfl | (refine And.intro ?_ ?_ <;> rfl)) (by intro v0 v1 w; go_simp; first | done | rfl | (refine And.intro ?_ ?_ <;> rfl))
      (fun _ => rfl) (fun _ _ => rfl) (fun _ _ => rfl) (fun _ => rfl) (fun _ _ => rfl) (fun _ _ => rfl) (fun _ _ _ => rfl) (fun _ _ _ => rfl) (fun _ _ _ => rfl) (fun _ _ _ => rfl) (fun _ _ _ => rfl) (fun _ _ _ => rfl)
      HNN.out (lrow_len _ _) (lrow_one fun i hi => ints_cell1 (HTT.out i hi)) (by rfl) (by simp [Value.oneCell']) (by omega) ?_
    intro v' w5 hv' hb5
    rw [Nat.zero_add] at hv'
    have HF := Lib.hid (And.intro hv' hb5)
    obtain ⟨Av', cv', rfl, hAw, hAw'⟩ := own_form hv'
    obtain ⟨_, s1, x3⟩ := HSZ.out w5 hb5
    have HB5 := Lib.hid (HX4.out.next hb5)
    have z1 := HB5.out.dr.s.free 1
    have HG := Lib.hid (HX4.out.growL HTT.out HX4.out.ex hb5 (c := c) hv' (by omega) (by simp))
    clear HB5 HF
    clear hv' hb5
    refine ⟨fun v0 v1 v2 => ?_, fun v0 v1 v2 => ?_, fun v0 v1 v2 => ?_⟩
    all_goals
      refine planT_val _ ?_ (by rfl) (by rfl) ?_ ?_
      rotate_left 1
      · rintro w9 ⟨_, s1, x3⟩; go_simp; first | done | with_reducible rfl
      refine planT_store _ ?_ (by rfl) (by rfl) ?_ (.inl rfl) ?_
      rotate_left 1
      · go_simp; first | done | rfl | (refine And.intro ?_ ?_ <;> rfl)
      refine planT_end ?_
      (try simp only [Act.put, List.setIfInBounds_toArray, List.set_cons_zero, List.set_cons_succ])
      go_wp2_with fail
      go_meet
      exact ⟨Av', cv', hAw, hAw', HG.out⟩
  case rest =>
    obtain ⟨A', c', hA', hA'', hdx⟩ := hcut
    unfold maxLen at hA''
    have HX5 := Lib.hid hdx
    clear hdx HSS HSZ HNN HTT HX4
    have HL := Lib.hid (held_len hs b n)
    have hl1 : (heldOff hs b n).length ≤ hs.length := by have := HL.out; omega
    clear s0 s1 s2 s3 s4 s5 x0 x1 x2 x3 x4
    have s0 := HX5.out.dr.s.cell (k := 0) rfl
    have s1 := HX5.out.dr.s.cell (k := 1) rfl
    have s2 := HX5.out.dr.s.cell (k := 2) rfl
    have s3 := HX5.out.dr.s.cell (k := 3) rfl
    have s4 := HX5.out.dr.s.cell (k := 4) rfl
    have s5 := HX5.out.dr.s.cell (k := 5) rfl
    have x0 := HX5.out.dr.x.cell (k := 0) rfl
    have x1 := HX5.out.dr.x.cell (k := 1) rfl
    have x2 := HX5.out.dr.x.cell (k := 2) rfl
    have x3 := HX5.out.dr.x.cell (k := 3) rfl
    have x4 := HX5.out.dr.x.cell (k := 4) rfl
    have g2 := HX5.out.dr.s.free 2
    have hsz5 := HX5.out.dr.size
    go_upto_region 24 with (
                 at_builtin
                 refine app_el T56 _ HX5.out.held (Below.refl _ _) hsz5 rfl rfl rfl rfl rfl ?_ ?_ ?_
                 rotate_right
                 intro v1 w6 hown1 hb1 hg1 ho1
                 obtain ⟨A6, c6, rfl, hA6, hA6'⟩ := own_form hown1
                 have HX6 := Lib.hid (HX5.out.app (hs' := heldOff hs b n ++ [⟨(k.loops.length : Int), b, n⟩]) hown1 hb1 hg1 ho1 (by omega) ?hlen ?hus)
                 have z2 := (HX5.out.dr.next3 hb1).s.cell (k := 2) rfl
                 have zf2 := (HX5.out.dr.next3 hb1).s.free 2
                 clear hown1 hb1 hg1 ho1)
    case refine_1 => simp [Value.oneCell']
    case refine_2 => omega
    case hlen => simp
    case hus => rw [flat_snoc]
    generalize w6.setCell ⟨w.heap.size, 2, none⟩ (.slice A6 ((heldOff hs b n).length + 1) c6) = w7 at *
    clear z2 zf2 g2 HX5
    clear s0 s1 s2 s3 s4 s5 x0 x1 x2 x3 x4
    have s0 := HX6.out.dr.s.cell (k := 0) rfl
    have s1 := HX6.out.dr.s.cell (k := 1) rfl
    have s2 := HX6.out.dr.s.cell (k := 2) rfl
    have s3 := HX6.out.dr.s.cell (k := 3) rfl
    have s4 := HX6.out.dr.s.cell (k := 4) rfl
    have s5 := HX6.out.dr.s.cell (k := 5) rfl
    have x0 := HX6.out.dr.x.cell (k := 0) rfl
    have x1 := HX6.out.dr.x.cell (k := 1) rfl
    have x2 := HX6.out.dr.x.cell (k := 2) rfl
    have x3 := HX6.out.dr.x.cell (k := 3) rfl
    have x4 := HX6.out.dr.x.cell (k := 4) rfl
    have r0 := HX6.out.dr.r.cell (k := 0) rfl
    have f0 := HX6.out.dr.r.free 0
    have r1 := HX6.out.dr.r.cell (k := 1) rfl
    have f1 := HX6.out.dr.r.free 1
    have r2 := HX6.out.dr.r.cell (k := 2) rfl
    have f2 := HX6.out.dr.r.free 2
    have r3 := HX6.out.dr.r.cell (k := 3) rfl
    have f3 := HX6.out.dr.r.free 3
    have r4 := HX6.out.dr.r.cell (k := 4) rfl
    have f4 := HX6.out.dr.r.free 4
    have r5 := HX6.out.dr.r.cell (k := 5) rfl
    have f5 := HX6.out.dr.r.free 5
    have hq := ((((((HX6.out.dr.r.set 0 (.int .i64 N)).set 1 (.slice A' (k.loops.length + 1) c')).set 2 (.slice A6 ((heldOff hs b n).length + 1) c6)).set 3 (.slice A2 k.loose.length n2)).set 4 (.int .i64 k.rack)).set 5 (.int .i64 ((k.done : Int) + 1)))
    have q0 := hq.cell (k := 0) rfl
    have q1 := hq.cell (k := 1) rfl
    have q2 := hq.cell (k := 2) rfl
    have q3 := hq.cell (k := 3) rfl
    have q4 := hq.cell (k := 4) rfl
    have q5 := hq.cell (k := 5) rfl
    clear hq
    go_wp2_with fail
    have e : stepK k ⟨1, b, n, c, t⟩ = { k with loops := k.loops ++ [⟨c, k.on b n⟩], on := put k.on b n [(k.loops.length : Int)], done := k.done + 1 } := by unfold stepK; rw [if_neg (show ¬ (1 : Int) = 6 by decide), if_pos rfl]
    rw [e]
    refine bodyPost_ret (v := .agg #[.int .i64 N, .slice A' (k.loops.length + 1) c', .slice A6 ((heldOff hs b n).length + 1) c6, .slice A2 k.loose.length n2, .int .i64 k.rack, .int .i64 ((k.done : Int) + 1)]) (by simp [results, Try.results31, go_sem, q0, q1, q2, q3, q4, q5]) rfl ⟨_, _, _, _, rfl, HX6.out.to.fin rfl rfl (fun b' n' => on_knit HM.out.on _ _ _ _ _) (by rw [List.length_append, List.length_singleton]; show _ ≤ k.done + 1; omega)⟩
end Go.Proofs.Ytaacfjeddoekfaa
/- Chapter 11: the reference does a stitch, kind by kind. (Printed by gen_refdo2.py.) -/
namespace Go.Proofs.Ytaacfjeddoekfaa
open Go.RowKit
set_option linter.unusedVariables false
set_option linter.unusedSimpArgs false


set_option maxRecDepth 100000 in
set_option maxHeartbeats 4000000 in
theorem refDo_tuck {w : World} {N : Nat} {k : KS} {hs : List Hd} {vl vh vo : Value} {S : Nat → Prop} (h : RSs S w N k hs vl vh vo) (hS : ∀ b, S b → b < w.heap.size) (hN : N ≤ 128) (hi : Kinv N k) (b n c t : Int) (hw : wrongK N k ⟨2, b, n, c, t⟩ = 0) :
    Calls Try.prog 31 #[sval N vl vh vo k.rack (k.done : Int), .agg #[.int .i64 2, .int .i64 b, .int .i64 n, .int .i64 c, .int .i64 t]] w fun e w' => ∃ vl' vh' vo' hs', e = .returned (sval N vl' vh' vo' (stepK k ⟨2, b, n, c, t⟩).rack ((stepK k ⟨2, b, n, c, t⟩).done : Int)) ∧ RSs (Gr S w w') w' N (stepK k ⟨2, b, n, c, t⟩) hs' vl' vh' vo' ∧ Below w.heap.size w w' := by
  have HM := Lib.hid h
  have HI := Lib.hid hi
  have HWB := Lib.hid (wrong_bounds hw)
  have hd := hi.d
  have hdn := HWB.out.2.2.1
  obtain ⟨hr1, hr2⟩ := hi.r
  have hlen := h.len
  have hL0 := hi.loops
  have hO0 := hi.loose
  have h8 := hi.on b n
  obtain ⟨A0, n0, rfl, hA0, hA0'⟩ := h.loops.sl
  obtain ⟨A1, n1, rfl, hA1, hA1'⟩ := h.held.sl
  obtain ⟨A2, n2, rfl, hA2, hA2'⟩ := h.loose.sl
  unfold maxLen at hA0' hA1' hA2'
  have hx0 := DS.start h hS #[.int .i64 2, .int .i64 b, .int .i64 n, .int .i64 c, .int .i64 t]
  have HX0 : Hid (DS S w (((w.alloc (.cells #[.int .i64 N, .slice A0 k.loops.length n0, .slice A1 hs.length n1, .slice A2 k.loose.length n2, .int .i64 k.rack, .int .i64 (k.done : Int)] 58)).alloc (.cells #[.int .i64 2, .int .i64 b, .int .i64 n, .int .i64 c, .int .i64 t] 44)).alloc (.cells #[.int .i64 0, nils, nils, nils, .int .i64 0, .int .i64 0] 58)) N k.loops hs k.loose k.rack (k.done : Int) (.slice A0 k.loops.length n0) (.slice A1 hs.length n1) (.slice A2 k.loose.length n2) [.int .i64 2, .int .i64 b, .int .i64 n, .int .i64 c, .int .i64 t] nils []) := hx0
  have HT := Lib.hid (HWB.out.2.2.2.2.1 (show (2 : Int) ≠ 6 by decide))
  have hnb := HT.out.2
  clear h hi hw hx0 hS
  show Calls Try.prog 31 #[.agg #[.int .i64 N, .slice A0 k.loops.length n0, .slice A1 hs.length n1, .slice A2 k.loose.length n2, .int .i64 k.rack, .int .i64 (k.done : Int)], .agg #[.int .i64 2, .int .i64 b, .int .i64 n, .int .i64 c, .int .i64 t]] w _
  go_enter Try.func31, Try.ntmps31
  go_upto_region 1 with fail
  generalize ((w.alloc (.cells #[.int .i64 N, .slice A0 k.loops.length n0, .slice A1 hs.length n1, .slice A2 k.loose.length n2, .int .i64 k.rack, .int .i64 (k.done : Int)] 58)).alloc (.cells #[.int .i64 2, .int .i64 b, .int .i64 n, .int .i64 c, .int .i64 t] 44)).alloc (.cells #[.int .i64 0, nils, nils, nils, .int .i64 0, .int .i64 0] 58) = w0 at *
  have s0 := HX0.out.dr.s.cell (k := 0) rfl
  have s1 := HX0.out.dr.s.cell (k := 1) rfl
  have s2 := HX0.out.dr.s.cell (k := 2) rfl
  have s3 := HX0.out.dr.s.cell (k := 3) rfl
  have s4 := HX0.out.dr.s.cell (k := 4) rfl
  have s5 := HX0.out.dr.s.cell (k := 5) rfl
  have x0 := HX0.out.dr.x.cell (k := 0) rfl
  have x1 := HX0.out.dr.x.cell (k := 1) rfl
  have x2 := HX0.out.dr.x.cell (k := 2) rfl
  have x3 := HX0.out.dr.x.cell (k := 3) rfl
  have x4 := HX0.out.dr.x.cell (k := 4) rfl
  have g5 := HX0.out.dr.s.free 5
  go_upto_region 2 with fail
  have HX1 := Lib.hid HX0.out.setD
  generalize w0.setCell ⟨w.heap.size, 5, none⟩ (.int .i64 ((k.done : Int) + 1)) = w1 at *
  clear s0 s1 s2 s3 s4 s5 x0 x1 x2 x3 x4
  clear g5 HX0
  have s0 := HX1.out.dr.s.cell (k := 0) rfl
  have s1 := HX1.out.dr.s.cell (k := 1) rfl
  have s2 := HX1.out.dr.s.cell (k := 2) rfl
  have s3 := HX1.out.dr.s.cell (k := 3) rfl
  have s4 := HX1.out.dr.s.cell (k := 4) rfl
  have s5 := HX1.out.dr.s.cell (k := 5) rfl
  have x0 := HX1.out.dr.x.cell (k := 0) rfl
  have x1 := HX1.out.dr.x.cell (k := 1) rfl
  have x2 := HX1.out.dr.x.cell (k := 2) rfl
  have x3 := HX1.out.dr.x.cell (k := 3) rfl
  have x4 := HX1.out.dr.x.cell (k := 4) rfl
  go_wp2_with fail
  refine (On_any (N := N) (r := k.rack) (d := (k.done : Int) + 1) (b := b) (n := n) w1 ⟨_, _, _, rfl⟩ (HX1.out.held.mono fun _ h => h.1) ⟨_, _, _, rfl⟩ (by omega)).mono ?_
  rintro e w2 ⟨u, rfl, hu, hb2, hnu⟩
  rw [HM.out.on] at hu
  have HX2 := Lib.hid (HX1.out.on hb2 hu)
  have HNU := Lib.hid hnu
  obtain ⟨Au, cu, rfl, hAu, hAu'⟩ := hu.sl
  unfold maxLen at hAu'
  clear s0 s1 s2 s3 s4 s5 x0 x1 x2 x3 x4
  clear hb2 HX1 hu hnu
  have s0 := HX2.out.dr.s.cell (k := 0) rfl
  have s1 := HX2.out.dr.s.cell (k := 1) rfl
  have s2 := HX2.out.dr.s.cell (k := 2) rfl
  have s3 := HX2.out.dr.s.cell (k := 3) rfl
  have s4 := HX2.out.dr.s.cell (k := 4) rfl
  have s5 := HX2.out.dr.s.cell (k := 5) rfl
  have x0 := HX2.out.dr.x.cell (k := 0) rfl
  have x1 := HX2.out.dr.x.cell (k := 1) rfl
  have x2 := HX2.out.dr.x.cell (k := 2) rfl
  have x3 := HX2.out.dr.x.cell (k := 3) rfl
  have x4 := HX2.out.dr.x.cell (k := 4) rfl
  have h8' : hs.length ≤ 4096 := by omega
  go_upto_region 11 with fail
  obtain ⟨A0', n0', tv, e0, g1, g2, HN, ht⟩ := news_loops HX2.out.loops HX2.out.nl
  simp only [Value.slice.injEq, true_and] at e0
  obtain ⟨rfl, rfl⟩ := e0
  have HNN := Lib.hid HN
  have HTT := Lib.hid ht
  clear HN ht
  have HSZ : Hid (∀ w', Below w2.heap.size w2 w' → Below w2.heap.size w2 w' ∧ w'.cell? ⟨w.heap.size, 1, none⟩ = some (.slice A0 k.loops.length n0) ∧ w'.cell? ⟨w.heap.size + 1, 3, none⟩ = some (.int .i64 c)) := fun w' hb => ⟨hb, (HX2.out.next hb).dr.s.cell (k := 1) rfl, (HX2.out.next hb).dr.x.cell (k := 3) rfl⟩
  have HSS := Lib.hid (HSZ.out w2.drew (below_dN (n := 1) (Below.refl _ _)))
  clear s0 s1 s2 s3 s4 s5 x0 x1 x2 x3 x4
  go_cut [] from 62 to 71 (fun wx => ∃ A c', k.loops.length + 1 ≤ c' ∧ c' ≤ maxLen ∧ DS S w wx N (k.loops ++ [⟨c, []⟩]) hs k.loose k.rack ((k.done : Int) + 1) (.slice A (k.loops.length + 1) c') (.slice A1 hs.length n1) (.slice A2 k.loose.length n2) [.int .i64 2, .int .i64 b, .int .i64 n, .int .i64 c, .int .i64 t] (.slice Au (k.on b n).length cu) (k.on b n))
  case first =>
    refine wp_region_planT (.take 1 (.take 2 (.take 4 (.take 5 (.take 6 (PT2 0 3 7 8 (.take 9 (.one 10 .nil)))))))) 10 (fun w' => Below w2.heap.size w2 w' ∧ w'.cell? ⟨w.heap.size, 1, none⟩ = some (.slice A0 k.loops.length n0) ∧ w'.cell? ⟨w.heap.size + 1, 3, none⟩ = some (.int .i64 c)) (by kernel_rfl) (by kernel_rfl) (by kernel_rfl) (by kernel_rfl) HSS.out ?_
    repeat (first
      | (refine planT_val _ ?_ (by rfl) (by rfl) ?_ ?_
         rotate_left 1
         · rintro w9 ⟨_, s1, x3⟩; go_simp; first | done | with_reducible rfl
         (try simp only [Act.put, List.setIfInBounds_toArray, List.set_cons_zero, List.set_cons_succ])))
    refine planT_two_app (wz := w2) (b0 := 0) (a1 := 3) (b1 := 7) (a2 := 8) (r := .take 9 (.one 10 .nil)) _ _ _ _ (e := 41) T23 (lrow k.loops tv) #[.int .i64 c, .slice none 0 0] (by rfl) (by rfl) (by rfl) (by rfl) rfl rfl rfl rfl HSS.out.1 (fun w' hb => HSZ.out w' hb) rfl rfl
      (by intro w; go_simp; first | done | rfl | (refine And.intro ?_ ?_ <;> rfl)) (by intro v2 w; go_simp; first | done | rfl | (refine And.intro ?_ ?_ <;> rfl)) (by intro w; go_simp; first | done | rfl | (refine And.intro ?_ ?_ <;> rfl)) (by intro v0 w; go_simp; first | done | rfl | (refine And.intro ?_ ?_ <;> rfl)) (by intro v0 v1 w; go_simp; first | done | rfl | (refine And.intro ?_ ?_ <;> rfl))
      (fun _ => rfl) (fun _ _ => rfl) (fun _ _ => rfl) (fun _ => rfl) (fun _ _ => rfl) (fun _ _ => rfl) (fun _ _ _ => rfl) (fun _ _ _ => rfl) (fun _ _ _ => rfl) (fun _ _ _ => rfl) (fun _ _ _ => rfl) (fun _ _ _ => rfl)
      HNN.out (lrow_len _ _) (lrow_one fun i hi => ints_cell1 (HTT.out i hi)) (by rfl) (by simp [Value.oneCell']) (by omega) ?_
    intro v' w5 hv' hb5
    rw [Nat.zero_add] at hv'
    have HF := Lib.hid (And.intro hv' hb5)
    obtain ⟨Av', cv', rfl, hAw, hAw'⟩ := own_form hv'
    obtain ⟨_, s1, x3⟩ := HSZ.out w5 hb5
    have HB5 := Lib.hid (HX2.out.next hb5)
    have z1 := HB5.out.dr.s.free 1
    have HG := Lib.hid (HX2.out.growL HTT.out (ints_nil (S := Fs S w w2)) hb5 (c := c) hv' (by omega) (by simp))
    clear HB5 HF
    clear hv' hb5
    refine ⟨fun v0 v1 v2 => ?_, fun v0 v1 v2 => ?_, fun v0 v1 v2 => ?_⟩
    all_goals
      refine planT_val _ ?_ (by rfl) (by rfl) ?_ ?_
      rotate_left 1
      · rintro w9 ⟨_, s1, x3⟩; go_simp; first | done | with_reducible rfl
      refine planT_store _ ?_ (by rfl) (by rfl) ?_ (.inl rfl) ?_
      rotate_left 1
      · go_simp; first | done | rfl | (refine And.intro ?_ ?_ <;> rfl)
      refine planT_end ?_
      (try simp only [Act.put, List.setIfInBounds_toArray, List.set_cons_zero, List.set_cons_succ])
      go_wp2_with fail
      go_meet
      exact ⟨Av', cv', hAw, hAw', HG.out⟩
  case rest =>
    obtain ⟨A', c', hA', hA'', hdx⟩ := hcut
    unfold maxLen at hA''
    have HX3 := Lib.hid hdx
    clear hdx HSS HSZ HNN HTT HX2
    obtain ⟨A1', n1', e1, g1, g2, HN⟩ := news_els HX3.out.held HX3.out.nh
    simp only [Value.slice.injEq, true_and] at e1
    obtain ⟨rfl, rfl⟩ := e1
    have HNN := Lib.hid HN
    clear HN
    obtain ⟨w3, rfl⟩ : ∃ w3, w3 = wc := ⟨_, rfl⟩
    have HSZ : Hid (∀ w', Below w3.heap.size w3 w' → Below w3.heap.size w3 w' ∧ w'.cell? ⟨w.heap.size, 1, none⟩ = some (.slice A' (k.loops.length + 1) c') ∧ w'.cell? ⟨w.heap.size, 2, none⟩ = some (.slice A1 hs.length n1) ∧ w'.cell? ⟨w.heap.size + 1, 1, none⟩ = some (.int .i64 b) ∧ w'.cell? ⟨w.heap.size + 1, 2, none⟩ = some (.int .i64 n)) := fun w' hb => ⟨hb, (HX3.out.next hb).dr.s.cell (k := 1) rfl, (HX3.out.next hb).dr.s.cell (k := 2) rfl, (HX3.out.next hb).dr.x.cell (k := 1) rfl, (HX3.out.next hb).dr.x.cell (k := 2) rfl⟩
    have HSS := Lib.hid (HSZ.out w3.drew (below_dN (n := 1) (Below.refl _ _)))
    have q4 : IntKind.i64.wrap (k.loops.length : Int) = (k.loops.length : Int) := IntWalk.i64_in _ (by omega)
    have q1 : ((k.loops.length + 1 : Nat) : Int) - 1 = (k.loops.length : Int) := by omega
    have q2 : IntKind.i64.wrap (((k.loops.length + 1 : Nat) : Int) - 1) = (k.loops.length : Int) := by rw [q1]; exact IntWalk.i64_in _ (by omega)
    have q3 : IntKind.i64.wrap ((k.loops.length : Int) + 1 - 1) = (k.loops.length : Int) := by rw [show (k.loops.length : Int) + 1 - 1 = (k.loops.length : Int) by omega]; exact IntWalk.i64_in _ (by omega)
    go_upto_region 12 with fail
    refine wp_region_planT (.take 1 (.take 2 (.take 4 (.take 5 (.take 6 (.take 7 (.take 8 (.take 9 (.take 10 (.take 11 (.take 12 (PT2 0 3 13 14 (.take 15 (.one 16 .nil)))))))))))))) 16 (fun w' => Below w3.heap.size w3 w' ∧ w'.cell? ⟨w.heap.size, 1, none⟩ = some (.slice A' (k.loops.length + 1) c') ∧ w'.cell? ⟨w.heap.size, 2, none⟩ = some (.slice A1 hs.length n1) ∧ w'.cell? ⟨w.heap.size + 1, 1, none⟩ = some (.int .i64 b) ∧ w'.cell? ⟨w.heap.size + 1, 2, none⟩ = some (.int .i64 n)) (by kernel_rfl) (by kernel_rfl) (by kernel_rfl) (by kernel_rfl) HSS.out ?_
    repeat (first
      | (refine planT_val _ ?_ (by rfl) (by rfl) ?_ ?_
         rotate_left 1
         · rintro w9 ⟨_, s1, s2, x1, x2⟩; go_simp; first | done | with_reducible rfl
         (try simp only [Act.put, List.setIfInBounds_toArray, List.set_cons_zero, List.set_cons_succ])))
    refine planT_two_app (wz := w3) (b0 := 0) (a1 := 3) (b1 := 13) (a2 := 14) (r := .take 15 (.one 16 .nil)) _ _ _ _ (e := 90) T56 (hs.flatMap Hd.cells) #[.int .i64 (k.loops.length : Int), .int .i64 b, .int .i64 n] (by rfl) (by rfl) (by rfl) (by rfl) rfl rfl rfl rfl HSS.out.1 (fun w' hb => HSZ.out w' hb) rfl rfl
      (by intro w; go_simp; first | done | rfl | (refine And.intro ?_ ?_ <;> rfl)) (by intro v2 w; go_simp; first | done | rfl | (refine And.intro ?_ ?_ <;> rfl)) (by intro w; go_simp; first | done | rfl | (refine And.intro ?_ ?_ <;> rfl)) (by intro v0 w; go_simp; first | done | rfl | (refine And.intro ?_ ?_ <;> rfl)) (by intro v0 v1 w; go_simp; first | done | rfl | (refine And.intro ?_ ?_ <;> rfl))
      (fun _ => rfl) (fun _ _ => rfl) (fun _ _ => rfl) (fun _ => rfl) (fun _ _ => rfl) (fun _ _ => rfl) (fun _ _ _ => rfl) (fun _ _ _ => rfl) (fun _ _ _ => rfl) (fun _ _ _ => rfl) (fun _ _ _ => rfl) (fun _ _ _ => rfl)
      HNN.out (flat_len Hd.cells_len _) (hd_one _) (by rfl) (by simp [Value.oneCell']) (by omega) ?_
    intro v' w5 hv' hb5
    rw [Nat.zero_add] at hv'
    have HF := Lib.hid (And.intro hv' hb5)
    obtain ⟨Av', cv', rfl, hAw, hAw'⟩ := own_form hv'
    obtain ⟨_, s1, s2, x1, x2⟩ := HSZ.out w5 hb5
    have HB5 := Lib.hid (HX3.out.next hb5)
    have z2 := HB5.out.dr.s.free 2
    have hs3 := HX3.out.dr.size
    have HG := Lib.hid (HX3.out.growH (hs' := hs ++ [⟨(k.loops.length : Int), b, n⟩]) (v' := .slice Av' (hs.length + 1) cv') hb5 (B := w3.heap.size) hs3 (by rw [flat_snoc]; exact hv'))
    clear HB5 HF
    unfold maxLen at hAw'
    clear hv' hb5
    refine ⟨fun v0 v1 v2 => ?_, fun v0 v1 v2 => ?_, fun v0 v1 v2 => ?_⟩
    all_goals
      refine planT_val _ ?_ (by rfl) (by rfl) ?_ ?_
      rotate_left 1
      · rintro w9 ⟨_, s1, s2, x1, x2⟩; go_simp; first | done | with_reducible rfl
      refine planT_store _ ?_ (by rfl) (by rfl) ?_ (.inl rfl) ?_
      rotate_left 1
      · go_simp; first | done | rfl | (refine And.intro ?_ ?_ <;> rfl)
      refine planT_end ?_
      (try simp only [Act.put, List.setIfInBounds_toArray, List.set_cons_zero, List.set_cons_succ])
      go_upto_region 24 with fail
      generalize w5.setCell ⟨w.heap.size, 2, none⟩ (.slice Av' (hs.length + 1) cv') = w7 at *
      clear z2 HSS HSZ HNN HX3 q1 q2 q3 q4 s1 s2 x1 x2
      have s0 := HG.out.dr.s.cell (k := 0) rfl
      have s1 := HG.out.dr.s.cell (k := 1) rfl
      have s2 := HG.out.dr.s.cell (k := 2) rfl
      have s3 := HG.out.dr.s.cell (k := 3) rfl
      have s4 := HG.out.dr.s.cell (k := 4) rfl
      have s5 := HG.out.dr.s.cell (k := 5) rfl
      have x0 := HG.out.dr.x.cell (k := 0) rfl
      have x1 := HG.out.dr.x.cell (k := 1) rfl
      have x2 := HG.out.dr.x.cell (k := 2) rfl
      have x3 := HG.out.dr.x.cell (k := 3) rfl
      have x4 := HG.out.dr.x.cell (k := 4) rfl
      have r0 := HG.out.dr.r.cell (k := 0) rfl
      have f0 := HG.out.dr.r.free 0
      have r1 := HG.out.dr.r.cell (k := 1) rfl
      have f1 := HG.out.dr.r.free 1
      have r2 := HG.out.dr.r.cell (k := 2) rfl
      have f2 := HG.out.dr.r.free 2
      have r3 := HG.out.dr.r.cell (k := 3) rfl
      have f3 := HG.out.dr.r.free 3
      have r4 := HG.out.dr.r.cell (k := 4) rfl
      have f4 := HG.out.dr.r.free 4
      have r5 := HG.out.dr.r.cell (k := 5) rfl
      have f5 := HG.out.dr.r.free 5
      have hq := ((((((HG.out.dr.r.set 0 (.int .i64 N)).set 1 (.slice A' (k.loops.length + 1) c')).set 2 (.slice Av' (hs.length + 1) cv')).set 3 (.slice A2 k.loose.length n2)).set 4 (.int .i64 k.rack)).set 5 (.int .i64 ((k.done : Int) + 1)))
      have q0 := hq.cell (k := 0) rfl
      have q1 := hq.cell (k := 1) rfl
      have q2 := hq.cell (k := 2) rfl
      have q3 := hq.cell (k := 3) rfl
      have q4 := hq.cell (k := 4) rfl
      have q5 := hq.cell (k := 5) rfl
      clear hq
      go_wp2_with fail
      have e : stepK k ⟨2, b, n, c, t⟩ = { k with loops := k.loops ++ [⟨c, []⟩], on := put k.on b n (k.on b n ++ [(k.loops.length : Int)]), done := k.done + 1 } := by unfold stepK; rw [if_neg (show ¬ (2 : Int) = 6 by decide), if_neg (show ¬ (2 : Int) = 1 by decide), if_pos rfl]
      rw [e]
      refine bodyPost_ret (v := .agg #[.int .i64 N, .slice A' (k.loops.length + 1) c', .slice Av' (hs.length + 1) cv', .slice A2 k.loose.length n2, .int .i64 k.rack, .int .i64 ((k.done : Int) + 1)]) (by simp [results, Try.results31, go_sem, q0, q1, q2, q3, q4, q5]) rfl ⟨_, _, _, _, rfl, HG.out.fin rfl rfl (fun b' n' => on_tuck HM.out.on _ _ _ _ _) (by rw [List.length_append, List.length_singleton]; show _ ≤ k.done + 1; omega)⟩

end Go.Proofs.Ytaacfjeddoekfaa
/- Chapter 11: the reference does a stitch, kind by kind. (Printed by gen_refdo2.py.) -/
namespace Go.Proofs.Ytaacfjeddoekfaa
open Go.RowKit
set_option linter.unusedVariables false
set_option linter.unusedSimpArgs false


set_option maxRecDepth 100000 in
set_option maxHeartbeats 4000000 in
theorem refDo_drop {w : World} {N : Nat} {k : KS} {hs : List Hd} {vl vh vo : Value} {S : Nat → Prop} (h : RSs S w N k hs vl vh vo) (hS : ∀ b, S b → b < w.heap.size) (hN : N ≤ 128) (hi : Kinv N k) (b n c t : Int) (hw : wrongK N k ⟨5, b, n, c, t⟩ = 0) :
    Calls Try.prog 31 #[sval N vl vh vo k.rack (k.done : Int), .agg #[.int .i64 5, .int .i64 b, .int .i64 n, .int .i64 c, .int .i64 t]] w fun e w' => ∃ vl' vh' vo' hs', e = .returned (sval N vl' vh' vo' (stepK k ⟨5, b, n, c, t⟩).rack ((stepK k ⟨5, b, n, c, t⟩).done : Int)) ∧ RSs (Gr S w w') w' N (stepK k ⟨5, b, n, c, t⟩) hs' vl' vh' vo' ∧ Below w.heap.size w w' := by
  have HM := Lib.hid h
  have HI := Lib.hid hi
  have HWB := Lib.hid (wrong_bounds hw)
  have hd := hi.d
  have hdn := HWB.out.2.2.1
  obtain ⟨hr1, hr2⟩ := hi.r
  have hlen := h.len
  have hL0 := hi.loops
  have hO0 := hi.loose
  have h8 := hi.on b n
  obtain ⟨A0, n0, rfl, hA0, hA0'⟩ := h.loops.sl
  obtain ⟨A1, n1, rfl, hA1, hA1'⟩ := h.held.sl
  obtain ⟨A2, n2, rfl, hA2, hA2'⟩ := h.loose.sl
  unfold maxLen at hA0' hA1' hA2'
  have hx0 := DS.start h hS #[.int .i64 5, .int .i64 b, .int .i64 n, .int .i64 c, .int .i64 t]
  have HX0 : Hid (DS S w (((w.alloc (.cells #[.int .i64 N, .slice A0 k.loops.length n0, .slice A1 hs.length n1, .slice A2 k.loose.length n2, .int .i64 k.rack, .int .i64 (k.done : Int)] 58)).alloc (.cells #[.int .i64 5, .int .i64 b, .int .i64 n, .int .i64 c, .int .i64 t] 44)).alloc (.cells #[.int .i64 0, nils, nils, nils, .int .i64 0, .int .i64 0] 58)) N k.loops hs k.loose k.rack (k.done : Int) (.slice A0 k.loops.length n0) (.slice A1 hs.length n1) (.slice A2 k.loose.length n2) [.int .i64 5, .int .i64 b, .int .i64 n, .int .i64 c, .int .i64 t] nils []) := hx0
  have HT := Lib.hid (HWB.out.2.2.2.2.1 (show (5 : Int) ≠ 6 by decide))
  have hnb := HT.out.2
  clear h hi hw hx0 hS
  show Calls Try.prog 31 #[.agg #[.int .i64 N, .slice A0 k.loops.length n0, .slice A1 hs.length n1, .slice A2 k.loose.length n2, .int .i64 k.rack, .int .i64 (k.done : Int)], .agg #[.int .i64 5, .int .i64 b, .int .i64 n, .int .i64 c, .int .i64 t]] w _
  go_enter Try.func31, Try.ntmps31
  go_upto_region 1 with fail
  generalize ((w.alloc (.cells #[.int .i64 N, .slice A0 k.loops.length n0, .slice A1 hs.length n1, .slice A2 k.loose.length n2, .int .i64 k.rack, .int .i64 (k.done : Int)] 58)).alloc (.cells #[.int .i64 5, .int .i64 b, .int .i64 n, .int .i64 c, .int .i64 t] 44)).alloc (.cells #[.int .i64 0, nils, nils, nils, .int .i64 0, .int .i64 0] 58) = w0 at *
  have s0 := HX0.out.dr.s.cell (k := 0) rfl
  have s1 := HX0.out.dr.s.cell (k := 1) rfl
  have s2 := HX0.out.dr.s.cell (k := 2) rfl
  have s3 := HX0.out.dr.s.cell (k := 3) rfl
  have s4 := HX0.out.dr.s.cell (k := 4) rfl
  have s5 := HX0.out.dr.s.cell (k := 5) rfl
  have x0 := HX0.out.dr.x.cell (k := 0) rfl
  have x1 := HX0.out.dr.x.cell (k := 1) rfl
  have x2 := HX0.out.dr.x.cell (k := 2) rfl
  have x3 := HX0.out.dr.x.cell (k := 3) rfl
  have x4 := HX0.out.dr.x.cell (k := 4) rfl
  have g5 := HX0.out.dr.s.free 5
  go_upto_region 2 with fail
  have HX1 := Lib.hid HX0.out.setD
  generalize w0.setCell ⟨w.heap.size, 5, none⟩ (.int .i64 ((k.done : Int) + 1)) = w1 at *
  clear s0 s1 s2 s3 s4 s5 x0 x1 x2 x3 x4
  clear g5 HX0
  have s0 := HX1.out.dr.s.cell (k := 0) rfl
  have s1 := HX1.out.dr.s.cell (k := 1) rfl
  have s2 := HX1.out.dr.s.cell (k := 2) rfl
  have s3 := HX1.out.dr.s.cell (k := 3) rfl
  have s4 := HX1.out.dr.s.cell (k := 4) rfl
  have s5 := HX1.out.dr.s.cell (k := 5) rfl
  have x0 := HX1.out.dr.x.cell (k := 0) rfl
  have x1 := HX1.out.dr.x.cell (k := 1) rfl
  have x2 := HX1.out.dr.x.cell (k := 2) rfl
  have x3 := HX1.out.dr.x.cell (k := 3) rfl
  have x4 := HX1.out.dr.x.cell (k := 4) rfl
  go_wp2_with fail
  refine (On_any (N := N) (r := k.rack) (d := (k.done : Int) + 1) (b := b) (n := n) w1 ⟨_, _, _, rfl⟩ (HX1.out.held.mono fun _ h => h.1) ⟨_, _, _, rfl⟩ (by omega)).mono ?_
  rintro e w2 ⟨u, rfl, hu, hb2, hnu⟩
  rw [HM.out.on] at hu
  have HX2 := Lib.hid (HX1.out.on hb2 hu)
  have HNU := Lib.hid hnu
  obtain ⟨Au, cu, rfl, hAu, hAu'⟩ := hu.sl
  unfold maxLen at hAu'
  clear s0 s1 s2 s3 s4 s5 x0 x1 x2 x3 x4
  clear hb2 HX1 hu hnu
  have s0 := HX2.out.dr.s.cell (k := 0) rfl
  have s1 := HX2.out.dr.s.cell (k := 1) rfl
  have s2 := HX2.out.dr.s.cell (k := 2) rfl
  have s3 := HX2.out.dr.s.cell (k := 3) rfl
  have s4 := HX2.out.dr.s.cell (k := 4) rfl
  have s5 := HX2.out.dr.s.cell (k := 5) rfl
  have x0 := HX2.out.dr.x.cell (k := 0) rfl
  have x1 := HX2.out.dr.x.cell (k := 1) rfl
  have x2 := HX2.out.dr.x.cell (k := 2) rfl
  have x3 := HX2.out.dr.x.cell (k := 3) rfl
  have x4 := HX2.out.dr.x.cell (k := 4) rfl
  go_wp2_with fail
  refine (taken_own (N := N) (r := k.rack) (d := (k.done : Int) + 1) (b := b) (n := n) w2 ⟨_, _, _, rfl⟩ (HX2.out.held.mono fun _ h => h.1) ⟨_, _, _, rfl⟩ (by omega)).mono ?_
  rintro e w3 ⟨v, rfl, hv, hb3⟩
  unfold sval
  have HX3 := Lib.hid (HX2.out.next hb3)
  have hs3 := HX2.out.dr.size
  have hs3' := hb3.size
  obtain ⟨Av, cv, rfl, hAv, hAv'⟩ := own_form hv
  unfold maxLen at hAv'
  have HV := Lib.hid (DXr.of HX2.out hb3 hv)
  clear s0 s1 s2 s3 s4 s5 x0 x1 x2 x3 x4
  clear hb3 hv HX2
  have s0 := HX3.out.dr.s.cell (k := 0) rfl
  have s1 := HX3.out.dr.s.cell (k := 1) rfl
  have s2 := HX3.out.dr.s.cell (k := 2) rfl
  have s3 := HX3.out.dr.s.cell (k := 3) rfl
  have s4 := HX3.out.dr.s.cell (k := 4) rfl
  have s5 := HX3.out.dr.s.cell (k := 5) rfl
  have x0 := HX3.out.dr.x.cell (k := 0) rfl
  have x1 := HX3.out.dr.x.cell (k := 1) rfl
  have x2 := HX3.out.dr.x.cell (k := 2) rfl
  have x3 := HX3.out.dr.x.cell (k := 3) rfl
  have x4 := HX3.out.dr.x.cell (k := 4) rfl
  have g0 := HX3.out.dr.s.free 0
  have g1 := HX3.out.dr.s.free 1
  have g2 := HX3.out.dr.s.free 2
  have g3 := HX3.out.dr.s.free 3
  have g4 := HX3.out.dr.s.free 4
  have g5 := HX3.out.dr.s.free 5
  go_upto_region 23 with fail
  have HX4 := HV
  generalize (((((w3.setCell ⟨w.heap.size, 0, none⟩ (.int .i64 N)).setCell ⟨w.heap.size, 1, none⟩ (.slice A0 k.loops.length n0)).setCell ⟨w.heap.size, 2, none⟩ (.slice Av (heldOff hs b n).length cv)).setCell ⟨w.heap.size, 3, none⟩ (.slice A2 k.loose.length n2)).setCell ⟨w.heap.size, 4, none⟩ (.int .i64 k.rack)).setCell ⟨w.heap.size, 5, none⟩ (.int .i64 ((k.done : Int) + 1)) = w4 at *
  clear s0 s1 s2 s3 s4 s5 x0 x1 x2 x3 x4
  clear HX3 HV g0 g1 g2 g3 g4 g5
  have s0 := HX4.out.dr.s.cell (k := 0) rfl
  have s1 := HX4.out.dr.s.cell (k := 1) rfl
  have s2 := HX4.out.dr.s.cell (k := 2) rfl
  have s3 := HX4.out.dr.s.cell (k := 3) rfl
  have s4 := HX4.out.dr.s.cell (k := 4) rfl
  have s5 := HX4.out.dr.s.cell (k := 5) rfl
  have x0 := HX4.out.dr.x.cell (k := 0) rfl
  have x1 := HX4.out.dr.x.cell (k := 1) rfl
  have x2 := HX4.out.dr.x.cell (k := 2) rfl
  have x3 := HX4.out.dr.x.cell (k := 3) rfl
  have x4 := HX4.out.dr.x.cell (k := 4) rfl
  have HL := Lib.hid (held_len hs b n)
  have hl1 : (heldOff hs b n).length ≤ hs.length := by have := HL.out; omega
  have z3 := HX4.out.dr.s.free 3
  have hsz4 := HX4.out.dr.size
  have hlt4 : w.heap.size < w4.heap.size := by omega
  obtain ⟨A2', n2', e2, g1, g2, HN⟩ := news_ints HX4.out.loose HX4.out.no
  simp only [Value.slice.injEq, true_and] at e2
  obtain ⟨rfl, rfl⟩ := e2
  obtain ⟨Au', cu', e3, g3, g4, HNu⟩ := news_ints HX4.out.ex HNU.out
  simp only [Value.slice.injEq, true_and] at e3
  obtain ⟨rfl, rfl⟩ := e3
  have HOB := Lib.hid (own_built w4 w4.heap.size 3 1 (Nat.le_refl _))
  have HBB : Hid (Below w4.heap.size w4 (w4.alloc (.cells #[] 3))) := (Below.refl _ _).alloc (Nat.le_refl _) _
  have HN1 := Lib.hid (HN.keep HBB.out.block)
  have HN2 := Lib.hid HNu
  have tok1 : True := trivial
  clear HN HNu g1 g2 g3 g4
  go_upto_region 24 with (first
    | (at_builtin
       have _t := tok1
       refine app_elsA T25 (ints k.loose) HOB.out HBB.out (Nat.le_refl _) rfl rfl rfl rfl HN1.out (by rw [ints_len, Nat.mul_one]) (ints_one _) ?h1 ?_
       rotate_right
       intro v1 w5 hown1 hb1 hg1 ho1
       rw [Nat.zero_add] at hown1
       obtain ⟨A5, c5, rfl, hA5, hA5'⟩ := own_form hown1
       have HO1 := Lib.hid hown1
       have HB1 := Lib.hid hb1
       clear tok1 _t hown1 hb1 hg1 ho1)
    | (at_builtin
       refine app_elsA T25 (ints (k.on b n)) HO1.out HB1.out (Nat.le_refl _) rfl rfl rfl rfl (HN2.out.keep HB1.out.block) (by rw [ints_len, Nat.mul_one]) (ints_one _) ?h2 ?_
       rotate_right
       intro v2 w6 hown2 hb2 hg2 ho2
       obtain ⟨A6, c6, rfl, hA6, hA6'⟩ := own_form hown2
       have HX6 := Lib.hid (HX4.out.growO (lo' := k.loose ++ k.on b n) hb2 (by rw [List.length_append, ints_app]; exact hown2))
       have y3 := (HX4.out.next hb2).dr.s.cell (k := 3) rfl
       have zf3 := (HX4.out.next hb2).dr.s.free 3
       clear hown2 hb2 hg2 ho2))
  case h1 => omega
  case h2 => omega
  generalize w6.setCell ⟨w.heap.size, 3, none⟩ (.slice A6 (k.loose.length + (k.on b n).length) c6) = w7 at *
  clear y3 zf3 z3
  clear s0 s1 s2 s3 s4 s5 x0 x1 x2 x3 x4
  have s0 := HX6.out.dr.s.cell (k := 0) rfl
  have s1 := HX6.out.dr.s.cell (k := 1) rfl
  have s2 := HX6.out.dr.s.cell (k := 2) rfl
  have s3 := HX6.out.dr.s.cell (k := 3) rfl
  have s4 := HX6.out.dr.s.cell (k := 4) rfl
  have s5 := HX6.out.dr.s.cell (k := 5) rfl
  have x0 := HX6.out.dr.x.cell (k := 0) rfl
  have x1 := HX6.out.dr.x.cell (k := 1) rfl
  have x2 := HX6.out.dr.x.cell (k := 2) rfl
  have x3 := HX6.out.dr.x.cell (k := 3) rfl
  have x4 := HX6.out.dr.x.cell (k := 4) rfl
  have r0 := HX6.out.dr.r.cell (k := 0) rfl
  have f0 := HX6.out.dr.r.free 0
  have r1 := HX6.out.dr.r.cell (k := 1) rfl
  have f1 := HX6.out.dr.r.free 1
  have r2 := HX6.out.dr.r.cell (k := 2) rfl
  have f2 := HX6.out.dr.r.free 2
  have r3 := HX6.out.dr.r.cell (k := 3) rfl
  have f3 := HX6.out.dr.r.free 3
  have r4 := HX6.out.dr.r.cell (k := 4) rfl
  have f4 := HX6.out.dr.r.free 4
  have r5 := HX6.out.dr.r.cell (k := 5) rfl
  have f5 := HX6.out.dr.r.free 5
  have hq := ((((((HX6.out.dr.r.set 0 (.int .i64 N)).set 1 (.slice A0 k.loops.length n0)).set 2 (.slice Av (heldOff hs b n).length cv)).set 3 (.slice A6 (k.loose.length + (k.on b n).length) c6)).set 4 (.int .i64 k.rack)).set 5 (.int .i64 ((k.done : Int) + 1)))
  have q0 := hq.cell (k := 0) rfl
  have q1 := hq.cell (k := 1) rfl
  have q2 := hq.cell (k := 2) rfl
  have q3 := hq.cell (k := 3) rfl
  have q4 := hq.cell (k := 4) rfl
  have q5 := hq.cell (k := 5) rfl
  clear hq
  go_wp2_with fail
  have e : stepK k ⟨5, b, n, c, t⟩ = { k with loose := k.loose ++ k.on b n, on := put k.on b n [], done := k.done + 1 } := by unfold stepK; rw [if_neg (show ¬ (5 : Int) = 6 by decide), if_neg (show ¬ (5 : Int) = 1 by decide), if_neg (show ¬ (5 : Int) = 2 by decide), if_neg (show ¬ (5 : Int) = 4 by decide), if_pos rfl]
  rw [e]
  refine bodyPost_ret (v := .agg #[.int .i64 N, .slice A0 k.loops.length n0, .slice Av (heldOff hs b n).length cv, .slice A6 (k.loose.length + (k.on b n).length) c6, .int .i64 k.rack, .int .i64 ((k.done : Int) + 1)]) (by simp [results, Try.results31, go_sem, q0, q1, q2, q3, q4, q5]) rfl ⟨_, _, _, _, rfl, HX6.out.to.fin rfl rfl (fun b' n' => on_drop HM.out.on _ _ _ _) (by show _ ≤ k.done + 1; omega)⟩
end Go.Proofs.Ytaacfjeddoekfaa
/- Chapter 11: the reference does a stitch, kind by kind. (Printed by gen_refdo2.py.) -/
namespace Go.Proofs.Ytaacfjeddoekfaa
open Go.RowKit
set_option linter.unusedVariables false
set_option linter.unusedSimpArgs false


set_option maxRecDepth 100000 in
set_option maxHeartbeats 4000000 in
theorem refDo_move {w : World} {N : Nat} {k : KS} {hs : List Hd} {vl vh vo : Value} {S : Nat → Prop} (h : RSs S w N k hs vl vh vo) (hS : ∀ b, S b → b < w.heap.size) (hN : N ≤ 128) (hi : Kinv N k) (b n c t : Int) (hw : wrongK N k ⟨4, b, n, c, t⟩ = 0) :
    Calls Try.prog 31 #[sval N vl vh vo k.rack (k.done : Int), .agg #[.int .i64 4, .int .i64 b, .int .i64 n, .int .i64 c, .int .i64 t]] w fun e w' => ∃ vl' vh' vo' hs', e = .returned (sval N vl' vh' vo' (stepK k ⟨4, b, n, c, t⟩).rack ((stepK k ⟨4, b, n, c, t⟩).done : Int)) ∧ RSs (Gr S w w') w' N (stepK k ⟨4, b, n, c, t⟩) hs' vl' vh' vo' ∧ Below w.heap.size w w' := by
  have HM := Lib.hid h
  have HI := Lib.hid hi
  have HWB := Lib.hid (wrong_bounds hw)
  have hd := hi.d
  have hdn := HWB.out.2.2.1
  obtain ⟨hr1, hr2⟩ := hi.r
  have hlen := h.len
  have hL0 := hi.loops
  have hO0 := hi.loose
  have h8 := hi.on b n
  obtain ⟨A0, n0, rfl, hA0, hA0'⟩ := h.loops.sl
  obtain ⟨A1, n1, rfl, hA1, hA1'⟩ := h.held.sl
  obtain ⟨A2, n2, rfl, hA2, hA2'⟩ := h.loose.sl
  unfold maxLen at hA0' hA1' hA2'
  have hx0 := DS.start h hS #[.int .i64 4, .int .i64 b, .int .i64 n, .int .i64 c, .int .i64 t]
  have HX0 : Hid (DS S w (((w.alloc (.cells #[.int .i64 N, .slice A0 k.loops.length n0, .slice A1 hs.length n1, .slice A2 k.loose.length n2, .int .i64 k.rack, .int .i64 (k.done : Int)] 58)).alloc (.cells #[.int .i64 4, .int .i64 b, .int .i64 n, .int .i64 c, .int .i64 t] 44)).alloc (.cells #[.int .i64 0, nils, nils, nils, .int .i64 0, .int .i64 0] 58)) N k.loops hs k.loose k.rack (k.done : Int) (.slice A0 k.loops.length n0) (.slice A1 hs.length n1) (.slice A2 k.loose.length n2) [.int .i64 4, .int .i64 b, .int .i64 n, .int .i64 c, .int .i64 t] nils []) := hx0
  have HT := Lib.hid (HWB.out.2.2.2.2.1 (show (4 : Int) ≠ 6 by decide))
  have hnb := HT.out.2
  clear h hi hw hx0 hS
  show Calls Try.prog 31 #[.agg #[.int .i64 N, .slice A0 k.loops.length n0, .slice A1 hs.length n1, .slice A2 k.loose.length n2, .int .i64 k.rack, .int .i64 (k.done : Int)], .agg #[.int .i64 4, .int .i64 b, .int .i64 n, .int .i64 c, .int .i64 t]] w _
  go_enter Try.func31, Try.ntmps31
  go_upto_region 1 with fail
  generalize ((w.alloc (.cells #[.int .i64 N, .slice A0 k.loops.length n0, .slice A1 hs.length n1, .slice A2 k.loose.length n2, .int .i64 k.rack, .int .i64 (k.done : Int)] 58)).alloc (.cells #[.int .i64 4, .int .i64 b, .int .i64 n, .int .i64 c, .int .i64 t] 44)).alloc (.cells #[.int .i64 0, nils, nils, nils, .int .i64 0, .int .i64 0] 58) = w0 at *
  have s0 := HX0.out.dr.s.cell (k := 0) rfl
  have s1 := HX0.out.dr.s.cell (k := 1) rfl
  have s2 := HX0.out.dr.s.cell (k := 2) rfl
  have s3 := HX0.out.dr.s.cell (k := 3) rfl
  have s4 := HX0.out.dr.s.cell (k := 4) rfl
  have s5 := HX0.out.dr.s.cell (k := 5) rfl
  have x0 := HX0.out.dr.x.cell (k := 0) rfl
  have x1 := HX0.out.dr.x.cell (k := 1) rfl
  have x2 := HX0.out.dr.x.cell (k := 2) rfl
  have x3 := HX0.out.dr.x.cell (k := 3) rfl
  have x4 := HX0.out.dr.x.cell (k := 4) rfl
  have g5 := HX0.out.dr.s.free 5
  go_upto_region 2 with fail
  have HX1 := Lib.hid HX0.out.setD
  generalize w0.setCell ⟨w.heap.size, 5, none⟩ (.int .i64 ((k.done : Int) + 1)) = w1 at *
  clear s0 s1 s2 s3 s4 s5 x0 x1 x2 x3 x4
  clear g5 HX0
  have s0 := HX1.out.dr.s.cell (k := 0) rfl
  have s1 := HX1.out.dr.s.cell (k := 1) rfl
  have s2 := HX1.out.dr.s.cell (k := 2) rfl
  have s3 := HX1.out.dr.s.cell (k := 3) rfl
  have s4 := HX1.out.dr.s.cell (k := 4) rfl
  have s5 := HX1.out.dr.s.cell (k := 5) rfl
  have x0 := HX1.out.dr.x.cell (k := 0) rfl
  have x1 := HX1.out.dr.x.cell (k := 1) rfl
  have x2 := HX1.out.dr.x.cell (k := 2) rfl
  have x3 := HX1.out.dr.x.cell (k := 3) rfl
  have x4 := HX1.out.dr.x.cell (k := 4) rfl
  go_wp2_with fail
  refine (On_any (N := N) (r := k.rack) (d := (k.done : Int) + 1) (b := b) (n := n) w1 ⟨_, _, _, rfl⟩ (HX1.out.held.mono fun _ h => h.1) ⟨_, _, _, rfl⟩ (by omega)).mono ?_
  rintro e w2 ⟨u, rfl, hu, hb2, hnu⟩
  rw [HM.out.on] at hu
  have HX2 := Lib.hid (HX1.out.on hb2 hu)
  have HNU := Lib.hid hnu
  obtain ⟨Au, cu, rfl, hAu, hAu'⟩ := hu.sl
  unfold maxLen at hAu'
  clear s0 s1 s2 s3 s4 s5 x0 x1 x2 x3 x4
  clear hb2 HX1 hu hnu
  have s0 := HX2.out.dr.s.cell (k := 0) rfl
  have s1 := HX2.out.dr.s.cell (k := 1) rfl
  have s2 := HX2.out.dr.s.cell (k := 2) rfl
  have s3 := HX2.out.dr.s.cell (k := 3) rfl
  have s4 := HX2.out.dr.s.cell (k := 4) rfl
  have s5 := HX2.out.dr.s.cell (k := 5) rfl
  have x0 := HX2.out.dr.x.cell (k := 0) rfl
  have x1 := HX2.out.dr.x.cell (k := 1) rfl
  have x2 := HX2.out.dr.x.cell (k := 2) rfl
  have x3 := HX2.out.dr.x.cell (k := 3) rfl
  have x4 := HX2.out.dr.x.cell (k := 4) rfl
  go_wp2_with fail
  refine (Facing_any (N := N) (r := k.rack) (d := (k.done : Int) + 1) (b := b) (n := n) w2 ⟨_, _, _, rfl⟩ ⟨_, _, _, rfl⟩ ⟨_, _, _, rfl⟩ ⟨hr1, hr2⟩ ⟨by omega, by omega⟩).mono ?_
  rintro e w2' ⟨rfl, hbf⟩
  have HY := Lib.hid (HX2.out.next hbf)
  clear s0 s1 s2 s3 s4 s5 x0 x1 x2 x3 x4
  clear hbf HX2
  have s0 := HY.out.dr.s.cell (k := 0) rfl
  have s1 := HY.out.dr.s.cell (k := 1) rfl
  have s2 := HY.out.dr.s.cell (k := 2) rfl
  have s3 := HY.out.dr.s.cell (k := 3) rfl
  have s4 := HY.out.dr.s.cell (k := 4) rfl
  have s5 := HY.out.dr.s.cell (k := 5) rfl
  have x0 := HY.out.dr.x.cell (k := 0) rfl
  have x1 := HY.out.dr.x.cell (k := 1) rfl
  have x2 := HY.out.dr.x.cell (k := 2) rfl
  have x3 := HY.out.dr.x.cell (k := 3) rfl
  have x4 := HY.out.dr.x.cell (k := 4) rfl
  go_wp2_with fail
  refine (taken_own (N := N) (r := k.rack) (d := (k.done : Int) + 1) (b := b) (n := n) w2' ⟨_, _, _, rfl⟩ (HY.out.held.mono fun _ h => h.1) ⟨_, _, _, rfl⟩ (by omega)).mono ?_
  rintro e w3 ⟨v, rfl, hv, hb3⟩
  unfold sval
  have HX3 := Lib.hid (HY.out.next hb3)
  have hs3 := HY.out.dr.size
  have hs3' := hb3.size
  obtain ⟨Av, cv, rfl, hAv, hAv'⟩ := own_form hv
  unfold maxLen at hAv'
  have HV := Lib.hid (DXr.of HY.out hb3 hv)
  clear s0 s1 s2 s3 s4 s5 x0 x1 x2 x3 x4
  clear hb3 hv HY
  have s0 := HX3.out.dr.s.cell (k := 0) rfl
  have s1 := HX3.out.dr.s.cell (k := 1) rfl
  have s2 := HX3.out.dr.s.cell (k := 2) rfl
  have s3 := HX3.out.dr.s.cell (k := 3) rfl
  have s4 := HX3.out.dr.s.cell (k := 4) rfl
  have s5 := HX3.out.dr.s.cell (k := 5) rfl
  have x0 := HX3.out.dr.x.cell (k := 0) rfl
  have x1 := HX3.out.dr.x.cell (k := 1) rfl
  have x2 := HX3.out.dr.x.cell (k := 2) rfl
  have x3 := HX3.out.dr.x.cell (k := 3) rfl
  have x4 := HX3.out.dr.x.cell (k := 4) rfl
  have g0 := HX3.out.dr.s.free 0
  have g1 := HX3.out.dr.s.free 1
  have g2 := HX3.out.dr.s.free 2
  have g3 := HX3.out.dr.s.free 3
  have g4 := HX3.out.dr.s.free 4
  have g5 := HX3.out.dr.s.free 5
  go_upto_region 16 with fail
  have HX4 := HV
  generalize (((((w3.setCell ⟨w.heap.size, 0, none⟩ (.int .i64 N)).setCell ⟨w.heap.size, 1, none⟩ (.slice A0 k.loops.length n0)).setCell ⟨w.heap.size, 2, none⟩ (.slice Av (heldOff hs b n).length cv)).setCell ⟨w.heap.size, 3, none⟩ (.slice A2 k.loose.length n2)).setCell ⟨w.heap.size, 4, none⟩ (.int .i64 k.rack)).setCell ⟨w.heap.size, 5, none⟩ (.int .i64 ((k.done : Int) + 1)) = w4 at *
  clear s0 s1 s2 s3 s4 s5 x0 x1 x2 x3 x4
  clear HX3 HV g0 g1 g2 g3 g4 g5
  have s0 := HX4.out.dr.s.cell (k := 0) rfl
  have s1 := HX4.out.dr.s.cell (k := 1) rfl
  have s2 := HX4.out.dr.s.cell (k := 2) rfl
  have s3 := HX4.out.dr.s.cell (k := 3) rfl
  have s4 := HX4.out.dr.s.cell (k := 4) rfl
  have s5 := HX4.out.dr.s.cell (k := 5) rfl
  have x0 := HX4.out.dr.x.cell (k := 0) rfl
  have x1 := HX4.out.dr.x.cell (k := 1) rfl
  have x2 := HX4.out.dr.x.cell (k := 2) rfl
  have x3 := HX4.out.dr.x.cell (k := 3) rfl
  have x4 := HX4.out.dr.x.cell (k := 4) rfl
  have HL := Lib.hid (held_len hs b n)
  have hl1 : (heldOff hs b n).length ≤ hs.length := by have := HL.out; omega
  have HON : Hid ((heldOff hs b n).length + (k.on b n).length = hs.length) := by have := HL.out; rw [HM.out.on] at this; exact this
  go_wp2_with fail
  clear s0 s1 s2 s3 s4 s5 x0 x1 x2 x3 x4
  go_loopg [107] (k.on b n).length (fun gg ctr wr => ∃ (i : Nat) (A : Option Addr) (c' : Nat), i ≤ (k.on b n).length ∧ gg = (k.on b n).length - i ∧ ctr = .int .i64 i ∧ (heldOff hs b n).length + i ≤ c' ∧ c' ≤ 9223372036854775807 ∧ DXr S w wr N k.loops (heldOff hs b n ++ ((k.on b n).take i).map fun x => (⟨x, fB b, fN k.rack b n⟩ : Hd)) k.loose k.rack ((k.done : Int) + 1) (.slice A0 k.loops.length n0) (.slice A ((heldOff hs b n).length + i) c') (.slice A2 k.loose.length n2) [.int .i64 4, .int .i64 b, .int .i64 n, .int .i64 c, .int .i64 t] (.slice Au (k.on b n).length cu) (k.on b n))
  case atStart => exact ⟨0, Av, cv, Nat.zero_le _, rfl, rfl, hAv, by omega, by rw [List.take_zero, List.map_nil, List.append_nil]; exact HX4.out⟩
  case round =>
    clear HX4
    obtain ⟨i, A, c', hi, rfl, rfl, hA, hA', hx⟩ := hrel
    have HX := Lib.hid hx
    clear hx
    have s0 := HX.out.dr.s.cell (k := 0) rfl
    have s1 := HX.out.dr.s.cell (k := 1) rfl
    have s2 := HX.out.dr.s.cell (k := 2) rfl
    have s3 := HX.out.dr.s.cell (k := 3) rfl
    have s4 := HX.out.dr.s.cell (k := 4) rfl
    have s5 := HX.out.dr.s.cell (k := 5) rfl
    have x0 := HX.out.dr.x.cell (k := 0) rfl
    have x1 := HX.out.dr.x.cell (k := 1) rfl
    have x2 := HX.out.dr.x.cell (k := 2) rfl
    have x3 := HX.out.dr.x.cell (k := 3) rfl
    have x4 := HX.out.dr.x.cell (k := 4) rfl
    by_cases hlt : i < (k.on b n).length
    case neg =>
      obtain rfl : i = (k.on b n).length := by omega
      rw [List.take_length] at HX
      go_upto_region 24 with fail
      clear s0 s1 s2 s3 s4 s5 x0 x1 x2 x3 x4
      have s0 := HX.out.dr.s.cell (k := 0) rfl
      have s1 := HX.out.dr.s.cell (k := 1) rfl
      have s2 := HX.out.dr.s.cell (k := 2) rfl
      have s3 := HX.out.dr.s.cell (k := 3) rfl
      have s4 := HX.out.dr.s.cell (k := 4) rfl
      have s5 := HX.out.dr.s.cell (k := 5) rfl
      have x0 := HX.out.dr.x.cell (k := 0) rfl
      have x1 := HX.out.dr.x.cell (k := 1) rfl
      have x2 := HX.out.dr.x.cell (k := 2) rfl
      have x3 := HX.out.dr.x.cell (k := 3) rfl
      have x4 := HX.out.dr.x.cell (k := 4) rfl
      have r0 := HX.out.dr.r.cell (k := 0) rfl
      have f0 := HX.out.dr.r.free 0
      have r1 := HX.out.dr.r.cell (k := 1) rfl
      have f1 := HX.out.dr.r.free 1
      have r2 := HX.out.dr.r.cell (k := 2) rfl
      have f2 := HX.out.dr.r.free 2
      have r3 := HX.out.dr.r.cell (k := 3) rfl
      have f3 := HX.out.dr.r.free 3
      have r4 := HX.out.dr.r.cell (k := 4) rfl
      have f4 := HX.out.dr.r.free 4
      have r5 := HX.out.dr.r.cell (k := 5) rfl
      have f5 := HX.out.dr.r.free 5
      have hq := ((((((HX.out.dr.r.set 0 (.int .i64 N)).set 1 (.slice A0 k.loops.length n0)).set 2 (.slice A ((heldOff hs b n).length + (k.on b n).length) c')).set 3 (.slice A2 k.loose.length n2)).set 4 (.int .i64 k.rack)).set 5 (.int .i64 ((k.done : Int) + 1)))
      have q0 := hq.cell (k := 0) rfl
      have q1 := hq.cell (k := 1) rfl
      have q2 := hq.cell (k := 2) rfl
      have q3 := hq.cell (k := 3) rfl
      have q4 := hq.cell (k := 4) rfl
      have q5 := hq.cell (k := 5) rfl
      clear hq
      go_wp2_with fail
      have e : stepK k ⟨4, b, n, c, t⟩ = { k with on := put (put k.on (fB b) (fN k.rack b n) (k.on (fB b) (fN k.rack b n) ++ k.on b n)) b n [], done := k.done + 1 } := by unfold stepK; rw [if_neg (show ¬ (4 : Int) = 6 by decide), if_neg (show ¬ (4 : Int) = 1 by decide), if_neg (show ¬ (4 : Int) = 2 by decide), if_pos rfl]
      rw [e]
      refine bodyPost_ret (v := .agg #[.int .i64 N, .slice A0 k.loops.length n0, .slice A ((heldOff hs b n).length + (k.on b n).length) c', .slice A2 k.loose.length n2, .int .i64 k.rack, .int .i64 ((k.done : Int) + 1)]) (by simp [results, Try.results31, go_sem, q0, q1, q2, q3, q4, q5]) rfl ⟨_, _, _, _, rfl, HX.out.to.fin rfl rfl (fun b' n' => on_move HM.out.on (fB_ne HT.out.1) _ _) (by rw [List.length_append, List.length_map]; show _ ≤ k.done + 1; have := HON.out; omega)⟩
    have hrw := HX.out.ex
    obtain ⟨Aw, cw, ew, hw1, hw2, hrow⟩ := hrw
    simp only [Value.slice.injEq, true_and] at ew
    obtain ⟨rfl, rfl⟩ := ew
    obtain ⟨bk, o, e, hbk, xc⟩ := ints_cell hrow hlt
    cases e
    have HTK : Hid ((k.on b n).take (i + 1) = (k.on b n).take i ++ [(k.on b n)[i]]) := List.take_succ_eq_append_getElem hlt
    have hlti : ((k.on b n).take i).length = i := by rw [List.length_take]; omega
    have HLT := Lib.hid hlti
    generalize (k.on b n)[i] = y at *
    have g2 := HX.out.dr.s.free 2
    have hsz5 := HX.out.dr.size
    have HHD : Hid (wr.ownsRow (w.heap.size + 3) 90 3 (.slice A ((heldOff hs b n).length + i) c') ((heldOff hs b n).length + i) ((heldOff hs b n ++ ((k.on b n).take i).map fun x => (⟨x, fB b, fN k.rack b n⟩ : Hd)).flatMap Hd.cells)) := by
      have h0 := HX.out.held
      rw [List.length_append, List.length_map, HLT.out] at h0
      exact h0
    clear hrow hw1 hw2 hlti
    go_wp2_with (
      at_builtin
      refine app_el T56 _ HHD.out (Below.refl _ _) hsz5 rfl rfl rfl rfl rfl ?_ ?_ ?_
      rotate_right
      intro v1 w6 hown1 hb1 hg1 ho1
      obtain ⟨A6, c6, rfl, hA6, hA6'⟩ := own_form hown1
      have HX6 := Lib.hid (HX.out.app (hs' := heldOff hs b n ++ ((k.on b n).take (i + 1)).map fun x => (⟨x, fB b, fN k.rack b n⟩ : Hd)) hown1 hb1 hg1 ho1 (by omega) ?hlen ?hus)
      have z2 := (HX.out.dr.next3 hb1).s.cell (k := 2) rfl
      have zf2 := (HX.out.dr.next3 hb1).s.free 2
      unfold maxLen at hA6'
      clear hown1 hb1 hg1 ho1)
    case refine_1 => simp [Value.oneCell']
    case refine_2 => have := HON.out; omega
    case hlen => rw [HTK.out, List.length_append, List.length_map, List.length_append, HLT.out, List.length_singleton]; omega
    case hus => rw [HTK.out, List.map_append, List.map_cons, List.map_nil, ← List.append_assoc]; exact (flat_snoc _ (⟨y, fB b, fN k.rack b n⟩ : Hd)).symm
    go_roundg ((k.on b n).length - (i + 1))
    case measure => omega
    case rel => exact ⟨i + 1, A6, c6, by omega, rfl, by go_num, by omega, by omega, HX6.out⟩
end Go.Proofs.Ytaacfjeddoekfaa
/- Chapter 11: the reference does a stitch, of any kind. -/
namespace Go.Proofs.Ytaacfjeddoekfaa
open Go.RowKit
set_option linter.unusedVariables false

theorem refDo_any {w : World} {N : Nat} {k : KS} {hs : List Hd} {vl vh vo : Value} {S : Nat → Prop} (h : RSs S w N k hs vl vh vo) (hS : ∀ b, S b → b < w.heap.size) (hN : N ≤ 128) (hi : Kinv N k) (x : Sti) (hw : wrongK N k x = 0) :
    Calls Try.prog 31 #[sval N vl vh vo k.rack (k.done : Int), .agg x.cells.toArray] w fun e w' => ∃ vl' vh' vo' hs', e = .returned (sval N vl' vh' vo' (stepK k x).rack ((stepK k x).done : Int)) ∧ RSs (Gr S w w') w' N (stepK k x) hs' vl' vh' vo' ∧ Below w.heap.size w w' := by
  obtain ⟨d, b, n, c, t⟩ := x
  have hb := wrong_bounds hw
  have h1 : 1 ≤ d := hb.1
  have h6 : d ≤ 6 := hb.2.1
  have hd : d = 1 ∨ d = 2 ∨ d = 3 ∨ d = 4 ∨ d = 5 ∨ d = 6 := by omega
  rcases hd with rfl | rfl | rfl | rfl | rfl | rfl
  · exact refDo_knit h hS hN hi b n c t hw
  · exact refDo_tuck h hS hN hi b n c t hw
  · exact refDo_miss h hS hN hi b n c t hw
  · exact refDo_move h hS hN hi b n c t hw
  · exact refDo_drop h hS hN hi b n c t hw
  · exact refDo_rack h hS hN hi b n c t hw
end Go.Proofs.Ytaacfjeddoekfaa
