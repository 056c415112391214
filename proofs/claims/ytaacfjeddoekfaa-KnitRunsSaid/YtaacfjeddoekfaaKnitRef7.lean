/- Chapter 11: the reference does a stitch, kind by kind. (Printed by gen_refdo2.py.) -/
import Derived.Test.YtaacfjeddoekfaaKnitRefX
import Derived.Deep.CutRange
namespace Go.Proofs.Ytaacfjeddoekfaa
open Go.RowKit
set_option linter.unusedVariables false
set_option linter.unusedSimpArgs false


set_option maxRecDepth 100000 in
set_option maxHeartbeats 4000000 in
theorem refDo_tuck {w : World} {N : Nat} {k : KS} {hs : List Hd} {vl vh vo : Value} {S : Nat → Prop} (h : RSs S w N k hs vl vh vo) (hS : ∀ b, S b → b < w.heap.size) (hN : N ≤ 128) (hi : Kinv N k) (b n c t : Int) (hw : wrongK N k ⟨2, b, n, c, t⟩ = 0) :
    Calls Try.prog 31 #[sval N vl vh vo k.rack (k.done : Int), .agg #[.int .i64 2, .int .i64 b, .int .i64 n, .int .i64 c, .int .i64 t]] w fun e w' => ∃ vl' vh' vo' hs', e = .returned (sval N vl' vh' vo' (stepK k ⟨2, b, n, c, t⟩).rack ((stepK k ⟨2, b, n, c, t⟩).done : Int)) ∧ RSs (Gr S w w') w' N (stepK k ⟨2, b, n, c, t⟩) hs' vl' vh' vo' ∧ Below w.heap.size w w' := by
  have HM := Lib.hid h
  have HI := Lib.hid hi
  have HWB := Lib.hid (wrong_bounds hw)
  have hd := hi.d
  have hdn := HWB.out.2.2.1
  obtain ⟨hr1, hr2⟩ := hi.r
  have hlen := h.len
  have hL0 := hi.loops
  have hO0 := hi.loose
  have h8 := hi.on b n
  obtain ⟨A0, n0, rfl, hA0, hA0'⟩ := h.loops.sl
  obtain ⟨A1, n1, rfl, hA1, hA1'⟩ := h.held.sl
  obtain ⟨A2, n2, rfl, hA2, hA2'⟩ := h.loose.sl
  unfold maxLen at hA0' hA1' hA2'
  have hx0 := DS.start h hS #[.int .i64 2, .int .i64 b, .int .i64 n, .int .i64 c, .int .i64 t]
  have HX0 : Hid (DS S w (((w.alloc (.cells #[.int .i64 N, .slice A0 k.loops.length n0, .slice A1 hs.length n1, .slice A2 k.loose.length n2, .int .i64 k.rack, .int .i64 (k.done : Int)] 58)).alloc (.cells #[.int .i64 2, .int .i64 b, .int .i64 n, .int .i64 c, .int .i64 t] 44)).alloc (.cells #[.int .i64 0, nils, nils, nils, .int .i64 0, .int .i64 0] 58)) N k.loops hs k.loose k.rack (k.done : Int) (.slice A0 k.loops.length n0) (.slice A1 hs.length n1) (.slice A2 k.loose.length n2) [.int .i64 2, .int .i64 b, .int .i64 n, .int .i64 c, .int .i64 t] nils []) := hx0
  have HT := Lib.hid (HWB.out.2.2.2.2.1 (show (2 : Int) ≠ 6 by decide))
  have hnb := HT.out.2
  clear h hi hw hx0 hS
  show Calls Try.prog 31 #[.agg #[.int .i64 N, .slice A0 k.loops.length n0, .slice A1 hs.length n1, .slice A2 k.loose.length n2, .int .i64 k.rack, .int .i64 (k.done : Int)], .agg #[.int .i64 2, .int .i64 b, .int .i64 n, .int .i64 c, .int .i64 t]] w _
  go_enter Try.func31, Try.ntmps31
  go_upto_region 1 with fail
  generalize ((w.alloc (.cells #[.int .i64 N, .slice A0 k.loops.length n0, .slice A1 hs.length n1, .slice A2 k.loose.length n2, .int .i64 k.rack, .int .i64 (k.done : Int)] 58)).alloc (.cells #[.int .i64 2, .int .i64 b, .int .i64 n, .int .i64 c, .int .i64 t] 44)).alloc (.cells #[.int .i64 0, nils, nils, nils, .int .i64 0, .int .i64 0] 58) = w0 at *
  have s0 := HX0.out.dr.s.cell (k := 0) rfl
  have s1 := HX0.out.dr.s.cell (k := 1) rfl
  have s2 := HX0.out.dr.s.cell (k := 2) rfl
  have s3 := HX0.out.dr.s.cell (k := 3) rfl
  have s4 := HX0.out.dr.s.cell (k := 4) rfl
  have s5 := HX0.out.dr.s.cell (k := 5) rfl
  have x0 := HX0.out.dr.x.cell (k := 0) rfl
  have x1 := HX0.out.dr.x.cell (k := 1) rfl
  have x2 := HX0.out.dr.x.cell (k := 2) rfl
  have x3 := HX0.out.dr.x.cell (k := 3) rfl
  have x4 := HX0.out.dr.x.cell (k := 4) rfl
  have g5 := HX0.out.dr.s.free 5
  go_upto_region 2 with fail
  have HX1 := Lib.hid HX0.out.setD
  generalize w0.setCell ⟨w.heap.size, 5, none⟩ (.int .i64 ((k.done : Int) + 1)) = w1 at *
  clear s0 s1 s2 s3 s4 s5 x0 x1 x2 x3 x4
  clear g5 HX0
  have s0 := HX1.out.dr.s.cell (k := 0) rfl
  have s1 := HX1.out.dr.s.cell (k := 1) rfl
  have s2 := HX1.out.dr.s.cell (k := 2) rfl
  have s3 := HX1.out.dr.s.cell (k := 3) rfl
  have s4 := HX1.out.dr.s.cell (k := 4) rfl
  have s5 := HX1.out.dr.s.cell (k := 5) rfl
  have x0 := HX1.out.dr.x.cell (k := 0) rfl
  have x1 := HX1.out.dr.x.cell (k := 1) rfl
  have x2 := HX1.out.dr.x.cell (k := 2) rfl
  have x3 := HX1.out.dr.x.cell (k := 3) rfl
  have x4 := HX1.out.dr.x.cell (k := 4) rfl
  go_wp2_with fail
  refine (On_any (N := N) (r := k.rack) (d := (k.done : Int) + 1) (b := b) (n := n) w1 ⟨_, _, _, rfl⟩ (HX1.out.held.mono fun _ h => h.1) ⟨_, _, _, rfl⟩ (by omega)).mono ?_
  rintro e w2 ⟨u, rfl, hu, hb2, hnu⟩
  rw [HM.out.on] at hu
  have HX2 := Lib.hid (HX1.out.on hb2 hu)
  have HNU := Lib.hid hnu
  obtain ⟨Au, cu, rfl, hAu, hAu'⟩ := hu.sl
  unfold maxLen at hAu'
  clear s0 s1 s2 s3 s4 s5 x0 x1 x2 x3 x4
  clear hb2 HX1 hu hnu
  have s0 := HX2.out.dr.s.cell (k := 0) rfl
  have s1 := HX2.out.dr.s.cell (k := 1) rfl
  have s2 := HX2.out.dr.s.cell (k := 2) rfl
  have s3 := HX2.out.dr.s.cell (k := 3) rfl
  have s4 := HX2.out.dr.s.cell (k := 4) rfl
  have s5 := HX2.out.dr.s.cell (k := 5) rfl
  have x0 := HX2.out.dr.x.cell (k := 0) rfl
  have x1 := HX2.out.dr.x.cell (k := 1) rfl
  have x2 := HX2.out.dr.x.cell (k := 2) rfl
  have x3 := HX2.out.dr.x.cell (k := 3) rfl
  have x4 := HX2.out.dr.x.cell (k := 4) rfl
  have h8' : hs.length ≤ 4096 := by omega
  go_upto_region 11 with fail
  obtain ⟨A0', n0', tv, e0, g1, g2, HN, ht⟩ := news_loops HX2.out.loops HX2.out.nl
  simp only [Value.slice.injEq, true_and] at e0
  obtain ⟨rfl, rfl⟩ := e0
  have HNN := Lib.hid HN
  have HTT := Lib.hid ht
  clear HN ht
  have HSZ : Hid (∀ w', Below w2.heap.size w2 w' → Below w2.heap.size w2 w' ∧ w'.cell? ⟨w.heap.size, 1, none⟩ = some (.slice A0 k.loops.length n0) ∧ w'.cell? ⟨w.heap.size + 1, 3, none⟩ = some (.int .i64 c)) := fun w' hb => ⟨hb, (HX2.out.next hb).dr.s.cell (k := 1) rfl, (HX2.out.next hb).dr.x.cell (k := 3) rfl⟩
  have HSS := Lib.hid (HSZ.out w2.drew (below_dN (n := 1) (Below.refl _ _)))
  clear s0 s1 s2 s3 s4 s5 x0 x1 x2 x3 x4
  go_cut [] from 62 to 71 (fun wx => ∃ A c', k.loops.length + 1 ≤ c' ∧ c' ≤ maxLen ∧ DS S w wx N (k.loops ++ [⟨c, []⟩]) hs k.loose k.rack ((k.done : Int) + 1) (.slice A (k.loops.length + 1) c') (.slice A1 hs.length n1) (.slice A2 k.loose.length n2) [.int .i64 2, .int .i64 b, .int .i64 n, .int .i64 c, .int .i64 t] (.slice Au (k.on b n).length cu) (k.on b n))
  case first =>
    refine wp_region_planT (.take 1 (.take 2 (.take 4 (.take 5 (.take 6 (PT2 0 3 7 8 (.take 9 (.one 10 .nil)))))))) 10 (fun w' => Below w2.heap.size w2 w' ∧ w'.cell? ⟨w.heap.size, 1, none⟩ = some (.slice A0 k.loops.length n0) ∧ w'.cell? ⟨w.heap.size + 1, 3, none⟩ = some (.int .i64 c)) (by kernel_rfl) (by kernel_rfl) (by kernel_rfl) (by kernel_rfl) HSS.out ?_
    repeat (first
      | (refine planT_val _ ?_ (by rfl) (by rfl) ?_ ?_
         rotate_left 1
         · rintro w9 ⟨_, s1, x3⟩; go_simp; first | done | with_reducible rfl
         (try simp only [Act.put, List.setIfInBounds_toArray, List.set_cons_zero, List.set_cons_succ])))
    refine planT_two_app (wz := w2) (b0 := 0) (a1 := 3) (b1 := 7) (a2 := 8) (r := .take 9 (.one 10 .nil)) _ _ _ _ (e := 41) T23 (lrow k.loops tv) #[.int .i64 c, .slice none 0 0] (by rfl) (by rfl) (by rfl) (by rfl) rfl rfl rfl rfl HSS.out.1 (fun w' hb => HSZ.out w' hb) rfl rfl
      (by intro w; go_simp; first | done | rfl | (refine And.intro ?_ ?_ <;> rfl)) (by intro v2 w; go_simp; first | done | rfl | (refine And.intro ?_ ?_ <;> rfl)) (by intro w; go_simp; first | done | rfl | (refine And.intro ?_ ?_ <;> rfl)) (by intro v0 w; go_simp; first | done | rfl | (refine And.intro ?_ ?_ <;> rfl)) (by intro v0 v1 w; go_simp; first | done | rfl | (refine And.intro ?_ ?_ <;> rfl))
      (fun _ => rfl) (fun _ _ => rfl) (fun _ _ => rfl) (fun _ => rfl) (fun _ _ => rfl) (fun _ _ => rfl) (fun _ _ _ => rfl) (fun _ _ _ => rfl) (fun _ _ _ => rfl) (fun _ _ _ => rfl) (fun _ _ _ => rfl) (fun _ _ _ => rfl)
      HNN.out (lrow_len _ _) (lrow_one fun i hi => ints_cell1 (HTT.out i hi)) (by rfl) (by simp [Value.oneCell']) (by omega) ?_
    intro v' w5 hv' hb5
    rw [Nat.zero_add] at hv'
    have HF := Lib.hid (And.intro hv' hb5)
    obtain ⟨Av', cv', rfl, hAw, hAw'⟩ := own_form hv'
    obtain ⟨_, s1, x3⟩ := HSZ.out w5 hb5
    have HB5 := Lib.hid (HX2.out.next hb5)
    have z1 := HB5.out.dr.s.free 1
    have HG := Lib.hid (HX2.out.growL HTT.out (ints_nil (S := Fs S w w2)) hb5 (c := c) hv' (by omega) (by simp))
    clear HB5 HF
    clear hv' hb5
    refine ⟨fun v0 v1 v2 => ?_, fun v0 v1 v2 => ?_, fun v0 v1 v2 => ?_⟩
    all_goals
      refine planT_val _ ?_ (by rfl) (by rfl) ?_ ?_
      rotate_left 1
      · rintro w9 ⟨_, s1, x3⟩; go_simp; first | done | with_reducible rfl
      refine planT_store _ ?_ (by rfl) (by rfl) ?_ (.inl rfl) ?_
      rotate_left 1
      · go_simp; first | done | rfl | (refine And.intro ?_ ?_ <;> rfl)
      refine planT_end ?_
      (try simp only [Act.put, List.setIfInBounds_toArray, List.set_cons_zero, List.set_cons_succ])
      go_wp2_with fail
      go_meet
      exact ⟨Av', cv', hAw, hAw', HG.out⟩
  case rest =>
    obtain ⟨A', c', hA', hA'', hdx⟩ := hcut
    unfold maxLen at hA''
    have HX3 := Lib.hid hdx
    clear hdx HSS HSZ HNN HTT HX2
    obtain ⟨A1', n1', e1, g1, g2, HN⟩ := news_els HX3.out.held HX3.out.nh
    simp only [Value.slice.injEq, true_and] at e1
    obtain ⟨rfl, rfl⟩ := e1
    have HNN := Lib.hid HN
    clear HN
    obtain ⟨w3, rfl⟩ : ∃ w3, w3 = wc := ⟨_, rfl⟩
    have HSZ : Hid (∀ w', Below w3.heap.size w3 w' → Below w3.heap.size w3 w' ∧ w'.cell? ⟨w.heap.size, 1, none⟩ = some (.slice A' (k.loops.length + 1) c') ∧ w'.cell? ⟨w.heap.size, 2, none⟩ = some (.slice A1 hs.length n1) ∧ w'.cell? ⟨w.heap.size + 1, 1, none⟩ = some (.int .i64 b) ∧ w'.cell? ⟨w.heap.size + 1, 2, none⟩ = some (.int .i64 n)) := fun w' hb => ⟨hb, (HX3.out.next hb).dr.s.cell (k := 1) rfl, (HX3.out.next hb).dr.s.cell (k := 2) rfl, (HX3.out.next hb).dr.x.cell (k := 1) rfl, (HX3.out.next hb).dr.x.cell (k := 2) rfl⟩
    have HSS := Lib.hid (HSZ.out w3.drew (below_dN (n := 1) (Below.refl _ _)))
    have q4 : IntKind.i64.wrap (k.loops.length : Int) = (k.loops.length : Int) := IntWalk.i64_in _ (by omega)
    have q1 : ((k.loops.length + 1 : Nat) : Int) - 1 = (k.loops.length : Int) := by omega
    have q2 : IntKind.i64.wrap (((k.loops.length + 1 : Nat) : Int) - 1) = (k.loops.length : Int) := by rw [q1]; exact IntWalk.i64_in _ (by omega)
    have q3 : IntKind.i64.wrap ((k.loops.length : Int) + 1 - 1) = (k.loops.length : Int) := by rw [show (k.loops.length : Int) + 1 - 1 = (k.loops.length : Int) by omega]; exact IntWalk.i64_in _ (by omega)
    go_upto_region 12 with fail
    refine wp_region_planT (.take 1 (.take 2 (.take 4 (.take 5 (.take 6 (.take 7 (.take 8 (.take 9 (.take 10 (.take 11 (.take 12 (PT2 0 3 13 14 (.take 15 (.one 16 .nil)))))))))))))) 16 (fun w' => Below w3.heap.size w3 w' ∧ w'.cell? ⟨w.heap.size, 1, none⟩ = some (.slice A' (k.loops.length + 1) c') ∧ w'.cell? ⟨w.heap.size, 2, none⟩ = some (.slice A1 hs.length n1) ∧ w'.cell? ⟨w.heap.size + 1, 1, none⟩ = some (.int .i64 b) ∧ w'.cell? ⟨w.heap.size + 1, 2, none⟩ = some (.int .i64 n)) (by kernel_rfl) (by kernel_rfl) (by kernel_rfl) (by kernel_rfl) HSS.out ?_
    repeat (first
      | (refine planT_val _ ?_ (by rfl) (by rfl) ?_ ?_
         rotate_left 1
         · rintro w9 ⟨_, s1, s2, x1, x2⟩; go_simp; first | done | with_reducible rfl
         (try simp only [Act.put, List.setIfInBounds_toArray, List.set_cons_zero, List.set_cons_succ])))
    refine planT_two_app (wz := w3) (b0 := 0) (a1 := 3) (b1 := 13) (a2 := 14) (r := .take 15 (.one 16 .nil)) _ _ _ _ (e := 90) T56 (hs.flatMap Hd.cells) #[.int .i64 (k.loops.length : Int), .int .i64 b, .int .i64 n] (by rfl) (by rfl) (by rfl) (by rfl) rfl rfl rfl rfl HSS.out.1 (fun w' hb => HSZ.out w' hb) rfl rfl
      (by intro w; go_simp; first | done | rfl | (refine And.intro ?_ ?_ <;> rfl)) (by intro v2 w; go_simp; first | done | rfl | (refine And.intro ?_ ?_ <;> rfl)) (by intro w; go_simp; first | done | rfl | (refine And.intro ?_ ?_ <;> rfl)) (by intro v0 w; go_simp; first | done | rfl | (refine And.intro ?_ ?_ <;> rfl)) (by intro v0 v1 w; go_simp; first | done | rfl | (refine And.intro ?_ ?_ <;> rfl))
      (fun _ => rfl) (fun _ _ => rfl) (fun _ _ => rfl) (fun _ => rfl) (fun _ _ => rfl) (fun _ _ => rfl) (fun _ _ _ => rfl) (fun _ _ _ => rfl) (fun _ _ _ => rfl) (fun _ _ _ => rfl) (fun _ _ _ => rfl) (fun _ _ _ => rfl)
      HNN.out (flat_len Hd.cells_len _) (hd_one _) (by rfl) (by simp [Value.oneCell']) (by omega) ?_
    intro v' w5 hv' hb5
    rw [Nat.zero_add] at hv'
    have HF := Lib.hid (And.intro hv' hb5)
    obtain ⟨Av', cv', rfl, hAw, hAw'⟩ := own_form hv'
    obtain ⟨_, s1, s2, x1, x2⟩ := HSZ.out w5 hb5
    have HB5 := Lib.hid (HX3.out.next hb5)
    have z2 := HB5.out.dr.s.free 2
    have hs3 := HX3.out.dr.size
    have HG := Lib.hid (HX3.out.growH (hs' := hs ++ [⟨(k.loops.length : Int), b, n⟩]) (v' := .slice Av' (hs.length + 1) cv') hb5 (B := w3.heap.size) hs3 (by rw [flat_snoc]; exact hv'))
    clear HB5 HF
    unfold maxLen at hAw'
    clear hv' hb5
    refine ⟨fun v0 v1 v2 => ?_, fun v0 v1 v2 => ?_, fun v0 v1 v2 => ?_⟩
    all_goals
      refine planT_val _ ?_ (by rfl) (by rfl) ?_ ?_
      rotate_left 1
      · rintro w9 ⟨_, s1, s2, x1, x2⟩; go_simp; first | done | with_reducible rfl
      refine planT_store _ ?_ (by rfl) (by rfl) ?_ (.inl rfl) ?_
      rotate_left 1
      · go_simp; first | done | rfl | (refine And.intro ?_ ?_ <;> rfl)
      refine planT_end ?_
      (try simp only [Act.put, List.setIfInBounds_toArray, List.set_cons_zero, List.set_cons_succ])
      go_upto_region 24 with fail
      generalize w5.setCell ⟨w.heap.size, 2, none⟩ (.slice Av' (hs.length + 1) cv') = w7 at *
      clear z2 HSS HSZ HNN HX3 q1 q2 q3 q4 s1 s2 x1 x2
      have s0 := HG.out.dr.s.cell (k := 0) rfl
      have s1 := HG.out.dr.s.cell (k := 1) rfl
      have s2 := HG.out.dr.s.cell (k := 2) rfl
      have s3 := HG.out.dr.s.cell (k := 3) rfl
      have s4 := HG.out.dr.s.cell (k := 4) rfl
      have s5 := HG.out.dr.s.cell (k := 5) rfl
      have x0 := HG.out.dr.x.cell (k := 0) rfl
      have x1 := HG.out.dr.x.cell (k := 1) rfl
      have x2 := HG.out.dr.x.cell (k := 2) rfl
      have x3 := HG.out.dr.x.cell (k := 3) rfl
      have x4 := HG.out.dr.x.cell (k := 4) rfl
      have r0 := HG.out.dr.r.cell (k := 0) rfl
      have f0 := HG.out.dr.r.free 0
      have r1 := HG.out.dr.r.cell (k := 1) rfl
      have f1 := HG.out.dr.r.free 1
      have r2 := HG.out.dr.r.cell (k := 2) rfl
      have f2 := HG.out.dr.r.free 2
      have r3 := HG.out.dr.r.cell (k := 3) rfl
      have f3 := HG.out.dr.r.free 3
      have r4 := HG.out.dr.r.cell (k := 4) rfl
      have f4 := HG.out.dr.r.free 4
      have r5 := HG.out.dr.r.cell (k := 5) rfl
      have f5 := HG.out.dr.r.free 5
      have hq := ((((((HG.out.dr.r.set 0 (.int .i64 N)).set 1 (.slice A' (k.loops.length + 1) c')).set 2 (.slice Av' (hs.length + 1) cv')).set 3 (.slice A2 k.loose.length n2)).set 4 (.int .i64 k.rack)).set 5 (.int .i64 ((k.done : Int) + 1)))
      have q0 := hq.cell (k := 0) rfl
      have q1 := hq.cell (k := 1) rfl
      have q2 := hq.cell (k := 2) rfl
      have q3 := hq.cell (k := 3) rfl
      have q4 := hq.cell (k := 4) rfl
      have q5 := hq.cell (k := 5) rfl
      clear hq
      go_wp2_with fail
      have e : stepK k ⟨2, b, n, c, t⟩ = { k with loops := k.loops ++ [⟨c, []⟩], on := put k.on b n (k.on b n ++ [(k.loops.length : Int)]), done := k.done + 1 } := by unfold stepK; rw [if_neg (show ¬ (2 : Int) = 6 by decide), if_neg (show ¬ (2 : Int) = 1 by decide), if_pos rfl]
      rw [e]
      refine bodyPost_ret (v := .agg #[.int .i64 N, .slice A' (k.loops.length + 1) c', .slice Av' (hs.length + 1) cv', .slice A2 k.loose.length n2, .int .i64 k.rack, .int .i64 ((k.done : Int) + 1)]) (by simp [results, Try.results31, go_sem, q0, q1, q2, q3, q4, q5]) rfl ⟨_, _, _, _, rfl, HG.out.fin rfl rfl (fun b' n' => on_tuck HM.out.on _ _ _ _ _) (by rw [List.length_append, List.length_singleton]; show _ ≤ k.done + 1; omega)⟩

end Go.Proofs.Ytaacfjeddoekfaa
