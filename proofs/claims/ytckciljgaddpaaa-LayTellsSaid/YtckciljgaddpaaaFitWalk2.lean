/- Chapter 16: the reference's Fits. (Printed by gen_reffit.py.) -/
import Derived.Test.YtckciljgaddpaaaFitWalk1
import Derived.Test.YtckciljgaddpaaaSeq
namespace Go.Proofs.Ytckciljgaddpaaa
open Go.RowKit
set_option linter.unusedVariables false

set_option maxHeartbeats 1000000 in
theorem between_any (a n b m : Int) (ha : 0 ≤ a ∧ a ≤ 9223372036854775807) (hb : 0 ≤ b ∧ b ≤ 9223372036854775807) (w : World) : Calls Try.prog 17 #[.int .i64 a, .int .i64 n, .int .i64 b, .int .i64 m] w fun e w' => e = .returned (.bool (btw a n b m)) ∧ w = w' := by
  by_cases h : a ≤ b
  · have HE : Hid (btw a n b m = decide (b - a < n)) := by show _ = _; unfold btw; rw [if_pos h]
    go_enter Try.func17, Try.ntmps17
    go_wp2_with fail
    go_ret
    exact ⟨ret_bool HE.out.symm, rfl⟩
  · have HE : Hid (btw a n b m = decide (a - b < m)) := by show _ = _; unfold btw; rw [if_neg h]
    go_enter Try.func17, Try.ntmps17
    go_wp2_with fail
    go_ret
    exact ⟨ret_bool HE.out.symm, rfl⟩

set_option maxHeartbeats 1000000 in
theorem refFits_not {v u : Value} {ps : List Pc} (W H : Int) (w : World) (hv : Pieces w (fun b => b < w.heap.size) v ps) {c : Int} (hc : c ≠ 0)
    (HC : ∀ (v : Value) (w : World), Pieces w (fun b => b < w.heap.size) v ps → Calls Try.prog 16 #[.int .i64 W, v] w fun e w' => e = .returned (.int .i64 c) ∧ Below w.heap.size w w') :
    Calls Try.prog 11 #[.int .i64 W, .int .i64 H, v, u] w fun e w' => e = .returned (.tuple #[.bool false, .int .i64 c]) ∧ Below w.heap.size w w' := by
  have HV := Lib.hid hv
  have HH := Lib.hid HC
  have hcn : (c != 0) = true := by simpa using hc
  clear HC hc
  go_enter Try.func11, Try.ntmps11
  go_wp2_with fail
  refine (HH.out _ _ HV.out).mono ?_
  rintro e w1 ⟨rfl, hb1⟩
  have HB1 := Lib.hid hb1
  clear hb1
  go_wp2_with fail
  go_ret2
  exact ⟨rfl, HB1.out⟩

set_option maxHeartbeats 1000000 in
theorem refFits_len {v u : Value} {ps : List Pc} {zs : List Pt} {S : Nat → Prop} (W H : Int) (w : World) (hv : Pieces w (fun b => b < w.heap.size) v ps) (hu : Points w S u zs) (hl : zs.length ≠ ps.length)
    (HC : ∀ (v : Value) (w : World), Pieces w (fun b => b < w.heap.size) v ps → Calls Try.prog 16 #[.int .i64 W, v] w fun e w' => e = .returned (.int .i64 0) ∧ Below w.heap.size w w') :
    Calls Try.prog 11 #[.int .i64 W, .int .i64 H, v, u] w fun e w' => e = .returned (.tuple #[.bool false, .int .i64 8]) ∧ Below w.heap.size w w' := by
  have HV := Lib.hid hv
  have HH := Lib.hid HC
  obtain ⟨A, c, rfl, h1, h2, hr⟩ := hv
  obtain ⟨A2, c2, rfl, h3, h4, hr2⟩ := hu
  clear hr hr2 HC
  unfold maxLen at h2 h4
  have hne : ((zs.length : Int) != (ps.length : Int)) = true := by simp; omega
  clear hl
  go_enter Try.func11, Try.ntmps11
  go_wp2_with fail
  refine (HH.out _ _ HV.out).mono ?_
  rintro e w1 ⟨rfl, hb1⟩
  have HB1 := Lib.hid hb1
  clear hb1
  go_wp2_with fail
  go_ret2
  exact ⟨rfl, HB1.out⟩

set_option maxRecDepth 100000 in
set_option maxHeartbeats 8000000 in
theorem refFits_ok {v u : Value} {ps : List Pc} {zs : List Pt} (W H : Int) (w : World) (hv : Pieces w (fun b => b < w.heap.size) v ps) (hu : Points w (fun b => b < w.heap.size) u zs) (hl : zs.length = ps.length)
    (hW1 : 1 ≤ W) (hW2 : W ≤ 1048576) (hH : -9223372036854775808 ≤ H ∧ H ≤ 9223372036854775807) (hz : ∀ z ∈ zs, -9223372036854775808 ≤ z.x ∧ z.x ≤ 9223372036854775807 ∧ -9223372036854775808 ≤ z.y ∧ z.y ≤ 9223372036854775807) (hn : ps.length ≤ 256) (hok : ∀ i (hi : i < ps.length), ¬ ps[i].bad W) :
    Calls Try.prog 11 #[.int .i64 W, .int .i64 H, v, u] w fun e w' => e = .returned (.tuple #[.bool (fitB W H ps zs), .int .i64 0]) ∧ Below w.heap.size w w' := by
  have HV := Lib.hid hv
  have HU := Lib.hid hu
  have HL := Lib.hid hl
  have HOK := Lib.hid hok
  have HZ := Lib.hid hz
  obtain ⟨A, c, rfl, h1, h2, hr⟩ := hv
  obtain ⟨A2, c2, rfl, h3, h4, hr2⟩ := hu
  rw [hl] at h3 HU ⊢
  clear hr hr2 hl hok hz
  unfold maxLen at h2 h4
  have hPS : Hid (∀ k (hk : k < ps.length), 1 ≤ ps[k].w ∧ ps[k].w ≤ W ∧ 1 ≤ ps[k].h ∧ ps[k].h ≤ 1048576) := fun k hk => by
    have := HOK.out k hk
    unfold Pc.bad at this
    omega
  go_enter Try.func11, Try.ntmps11
  go_wp2_with fail
  refine (Wrong_ok W _ HV.out hW1 hW2 hn HOK.out).mono ?_
  rintro e w1 ⟨rfl, hb1⟩
  have HB1 := Lib.hid hb1
  clear hb1
  go_wp2_with fail
  go_loopg [31] ps.length (fun gg ctr wr => ∃ i : Nat, i ≤ ps.length ∧ gg = ps.length - i ∧ ctr = .int .i64 i ∧ (∀ j, j < i → inR W H (ps.getD j noPc) (zs.getD j noPt)) ∧ Below w.heap.size w wr)
  case atStart => exact ⟨0, by omega, rfl, rfl, fun j h => by omega, HB1.out⟩
  case round =>
    clear HB1
    obtain ⟨i, hi, rfl, rfl, hft, hb⟩ := hrel
    have HFT := Lib.hid hft
    have HB := Lib.hid hb
    clear hft hb
    by_cases hlt : i < ps.length
    case pos =>
      have hlz : i < zs.length := by rw [HL.out]; exact hlt
      obtain ⟨b, o, e, hb1, p0, p1⟩ := pc_cells (prow_of (HV.out.same (Same.of_below HB.out))) hlt
      cases e
      obtain ⟨b2, o2, e, hb2, u0, u1⟩ := pt_cells (qrow_of (HU.out.same (Same.of_below HB.out))) hlz
      cases e
      have hpk := hPS.out i hlt
      have hzk := HZ.out _ (List.getElem_mem hlz)
      have HIN : Hid ((inR W H (ps.getD i noPc) (zs.getD i noPt) → inR W H ps[i] zs[i]) ∧ (inR W H ps[i] zs[i] → inR W H (ps.getD i noPc) (zs.getD i noPt))) := by rw [pc_getD hlt, pt_getD hlz]; exact ⟨id, id⟩
      generalize ps[i] = p at *
      generalize zs[i] = z at *
      obtain ⟨hp1, hp2, hp3, hp4⟩ := hpk
      obtain ⟨hz1, hz2, hz3, hz4⟩ := hzk
      have hlw1 : b < wr.heap.size := Nat.lt_of_lt_of_le hb1 HB.out.size
      have hlw2 : b2 < wr.heap.size := Nat.lt_of_lt_of_le hb2 HB.out.size
      have HAL := Lib.hid ((HB.out.alloc HB.out.size (.cells #[.int .i64 p.w, .int .i64 p.h] 29)).alloc (by have := HB.out.size; simp; omega) (.cells #[.int .i64 z.x, .int .i64 z.y] 36))
      have hcs : z.x < 0 ∨ (0 ≤ z.x ∧ W < z.x) ∨ (0 ≤ z.x ∧ z.x ≤ W ∧ W - z.x < p.w) ∨ (0 ≤ z.x ∧ z.x ≤ W ∧ p.w ≤ W - z.x ∧ z.y < 0) ∨ (0 ≤ z.x ∧ z.x ≤ W ∧ p.w ≤ W - z.x ∧ 0 ≤ z.y ∧ H < z.y) ∨
          (0 ≤ z.x ∧ z.x ≤ W ∧ p.w ≤ W - z.x ∧ 0 ≤ z.y ∧ z.y ≤ H ∧ H - z.y < p.h) ∨ (0 ≤ z.x ∧ z.x ≤ W ∧ p.w ≤ W - z.x ∧ 0 ≤ z.y ∧ z.y ≤ H ∧ p.h ≤ H - z.y) := by omega
      have HNO : Hid (¬ inR W H p z → fitB W H ps zs = false) := fun h => fitB_false fun hf => h (HIN.out.1 (hf.inr i hlt))
      rcases hcs with k1 | ⟨k1, k2⟩ | ⟨k1, k2, k3⟩ | ⟨k1, k2, k3, k4⟩ | ⟨k1, k2, k3, k4, k5⟩ | ⟨k1, k2, k3, k4, k5, k6⟩ | ⟨k1, k2, k3, k4, k5, k6⟩
      case inr.inr.inr.inr.inr.inr =>
        have HN : Hid (∀ j, j < i + 1 → inR W H (ps.getD j noPc) (zs.getD j noPt)) := fun j hj => by
          rcases Nat.lt_or_eq_of_le (Nat.le_of_lt_succ hj) with h | rfl
          · exact HFT.out j h
          · exact HIN.out.2 (by unfold inR; omega)
        go_wp2_with fail
        go_roundg (ps.length - (i + 1))
        case measure => omega
        case rel => exact ⟨i + 1, by omega, rfl, by go_num, HN.out, HAL.out⟩
      all_goals
        have HE : Hid (fitB W H ps zs = false) := HNO.out (by unfold inR; omega)
        go_wp2_with fail
        go_ret2
        exact ⟨by rw [HE.out]; rfl, HAL.out⟩
    obtain rfl : i = ps.length := by omega
    clear hi hlt
    go_wp2_with fail
    go_loopg [81] ps.length (fun gg ctr wr => ∃ i : Nat, i ≤ ps.length ∧ gg = ps.length - i ∧ ctr = .int .i64 i ∧ (∀ j k, j < i → k < ps.length → j ≠ k → ¬ ovl (ps.getD j noPc) (zs.getD j noPt) (ps.getD k noPc) (zs.getD k noPt)) ∧ Below w.heap.size w wr)
    case atStart => exact ⟨0, by omega, rfl, rfl, fun j k h => by omega, HB.out⟩
    case round =>
      clear HB
      obtain ⟨i, hi, rfl, rfl, hfo, hb⟩ := hrel
      have HFO := Lib.hid hfo
      have HB := Lib.hid hb
      clear hfo hb
      by_cases hlt : i < ps.length
      case neg =>
        have HE : Hid (fitB W H ps zs = true) := fitB_true ⟨HFT.out, fun j k hk hj => HFO.out j k (by omega) (by omega) (by omega)⟩
        go_wp2_with fail
        go_ret2
        exact ⟨by rw [HE.out]; rfl, HB.out⟩
      have hlz : i < zs.length := by rw [HL.out]; exact hlt
      obtain ⟨b, o, e, hb1, p0, p1⟩ := pc_cells (prow_of (HV.out.same (Same.of_below HB.out))) hlt
      cases e
      obtain ⟨b2, o2, e, hb2, _, _⟩ := pt_cells (qrow_of (HU.out.same (Same.of_below HB.out))) hlz
      cases e
      have HPI : Hid (ps.getD i noPc = ps[i] ∧ zs.getD i noPt = zs[i]) := ⟨pc_getD hlt, pt_getD hlz⟩
      have hpk := hPS.out i hlt
      have hinr := HFT.out i hlt
      rw [HPI.out.1, HPI.out.2] at hinr
      unfold inR at hinr
      have HZI : Hid (∀ wq, Below w.heap.size w wq → wq.cell? ⟨b2, o2 + i * 2, none⟩ = some (.int .i64 zs[i].x) ∧ wq.cell? ⟨b2, o2 + i * 2 + 1, none⟩ = some (.int .i64 zs[i].y)) := fun wq hq => by
        obtain ⟨b', o', e, _, u0, u1⟩ := pt_cells (qrow_of (HU.out.same (Same.of_below hq))) hlz
        cases e
        exact ⟨u0, u1⟩
      generalize hpi : ps[i] = p at *
      generalize hzi : zs[i] = z at *
      clear hpi hzi
      have HAL := Lib.hid (HB.out.alloc HB.out.size (.cells #[.int .i64 p.w, .int .i64 p.h] 29))
      have HPB := Lib.hid (Arr.new wr #[.int .i64 p.w, .int .i64 p.h] 29)
      go_wp2_with fail
      clear p0 p1
      have hP1 : w.heap.size ≤ wr.heap.size := HB.out.size
      generalize wr.alloc (.cells #[.int .i64 p.w, .int .i64 p.h] 29) = w2 at *
      generalize hP : wr.heap.size = P at *
      clear hP
      go_loopg [88] ps.length (fun gg ctr w3 => ∃ k : Nat, k ≤ ps.length ∧ gg = ps.length - k ∧ ctr = .int .i64 k ∧ (∀ j, j < k → i ≠ j → ¬ ovl (ps.getD i noPc) (zs.getD i noPt) (ps.getD j noPc) (zs.getD j noPt)) ∧ Below w2.heap.size w2 w3)
      case atStart => exact ⟨0, by omega, rfl, rfl, fun j h => by omega, Below.refl _ _⟩
      case round =>
        obtain ⟨k, hk, rfl, rfl, hno, hb3⟩ := hrel
        have HNV := Lib.hid hno
        have HB3 := Lib.hid hb3
        have HBB := Lib.hid (HAL.out.trans (hb3.mono HAL.out.size))
        clear hno hb3
        by_cases hki : k < ps.length
        case neg =>
          have HN : Hid (∀ j k, j < i + 1 → k < ps.length → j ≠ k → ¬ ovl (ps.getD j noPc) (zs.getD j noPt) (ps.getD k noPc) (zs.getD k noPt)) := fun j k' hj hk' hne => by
            rcases Nat.lt_or_eq_of_le (Nat.le_of_lt_succ hj) with h | rfl
            · exact HFO.out j k' h hk' hne
            · exact HNV.out k' (by omega) hne
          go_wp2_with fail
          go_roundg (ps.length - (i + 1))
          case measure => omega
          case rel => exact ⟨i + 1, by omega, rfl, by go_num, HN.out, HBB.out⟩
        have hkz : k < zs.length := by rw [HL.out]; omega
        obtain ⟨b', o', e, _, p0, p1⟩ := pc_cells (prow_of (HV.out.same (Same.of_below HBB.out))) hki
        cases e
        obtain ⟨b', o', e, _, u0, u1⟩ := pt_cells (qrow_of (HU.out.same (Same.of_below HBB.out))) hkz
        cases e
        obtain ⟨u2, u3⟩ := HZI.out _ HBB.out
        have r0 := (HPB.out.of_eq (HB3.out.block _ HPB.out.lt)).cell (k := 0) rfl
        have r1 := (HPB.out.of_eq (HB3.out.block _ HPB.out.lt)).cell (k := 1) rfl
        have hl1 : P < wr.heap.size := Nat.lt_of_lt_of_le HPB.out.lt HB3.out.size
        have hl3 : b < wr.heap.size := by omega
        have hl4 : b2 < wr.heap.size := by omega
        have HPK : Hid (ps.getD k noPc = ps[k] ∧ zs.getD k noPt = zs[k]) := ⟨pc_getD hki, pt_getD hkz⟩
        have hqk := hPS.out k hki
        have hinq := HFT.out k hki
        rw [HPK.out.1, HPK.out.2] at hinq
        unfold inR at hinq
        have HIK : Hid (i = k → ps.getD i noPc = ps.getD k noPc) := fun h => by rw [h]
        generalize ps[k] = q at *
        generalize zs[k] = u at *
        obtain ⟨e1, e2, e3, e4⟩ := hpk
        obtain ⟨g1, g2, g3, g4⟩ := hqk
        obtain ⟨f1, f2, f3, f4, f5⟩ := hinr
        obtain ⟨f6, f7, f8, f9, f10⟩ := hinq
        have HAL2 := Lib.hid (HB3.out.alloc HB3.out.size (.cells #[.int .i64 q.w, .int .i64 q.h] 29))
        have HAL3 := Lib.hid (HAL.out.trans (HAL2.out.mono HAL.out.size))
        have HBO : Hid ((btw z.x p.w u.x q.w && btw z.y p.h u.y q.h) = true ↔ ovl p z q u) := btw_ovl ⟨e1, e3⟩ ⟨g1, g3⟩
        have HNX : Hid ((i ≠ k → ¬ ovl p z q u) → ∀ j, j < k + 1 → i ≠ j → ¬ ovl (ps.getD i noPc) (zs.getD i noPt) (ps.getD j noPc) (zs.getD j noPt)) := fun h j hj hne => by
          rcases Nat.lt_or_eq_of_le (Nat.le_of_lt_succ hj) with h1 | rfl
          · exact HNV.out j h1 hne
          · rw [HPI.out.1, HPI.out.2, HPK.out.1, HPK.out.2]; exact h hne
        by_cases hik : i = k
        · have HN := Lib.hid (HNX.out (fun h => absurd hik h))
          have hne : ((i : Int) != (k : Int)) = false := by simp; omega
          clear hik
          go_upto_region 19 with fail
          refine wp_region_seq (fun w' => ∃ k, w' = (wr.alloc (.cells #[.int .i64 q.w, .int .i64 q.h] 29)).drewN k) (by kernel_rfl) (by kernel_rfl) ⟨1, rfl⟩ ?_
          show Seq _ _ _ _ [_, _, _, _, _, _, _, _, _, _, _, _, _, _, _, _, _, _, _, _, _, _, _, _, _, _, _, _, _, _, _, _, _, _, _, _, _] _
          repeat (first
            | (refine seq_skip (by rfl) ?_; (try simp only [Act.put, List.setIfInBounds_toArray, List.set_cons_zero, List.set_cons_succ]))
            | (refine seq_val ?_ (by rfl) ?_ ?_
               rotate_left 1
               · rintro w5 ⟨k5, rfl⟩; go_simp; first | done | with_reducible rfl
               (try simp only [Act.put, List.setIfInBounds_toArray, List.set_cons_zero, List.set_cons_succ]))
          )
          refine seq_end ?_
          rintro w7 ⟨k7, rfl⟩
          have HD := Lib.hid (below_dN (n := k7) HAL2.out)
          go_wp2_with fail
          go_roundg (ps.length - (k + 1))
          case measure => omega
          case rel => exact ⟨k + 1, by omega, rfl, by go_num, HN.out, HD.out⟩
        have hne : ((i : Int) != (k : Int)) = true := by simp; omega
        have HIKN := Lib.hid hik
        clear hik
        cases hbx : btw z.x p.w u.x q.w with
        | false =>
          have HN : Hid _ := Lib.hid (HNX.out (fun _ h => by have := HBO.out.2 h; rw [hbx] at this; simp at this))
          go_upto_region 19 with fail
          refine wp_region_seq (fun w' => ∃ k, w' = (wr.alloc (.cells #[.int .i64 q.w, .int .i64 q.h] 29)).drewN k) (by kernel_rfl) (by kernel_rfl) ⟨1, rfl⟩ ?_
          show Seq _ _ _ _ [_, _, _, _, _, _, _, _, _, _, _, _, _, _, _, _, _, _, _, _, _, _, _, _, _, _, _, _, _, _, _, _, _, _, _, _, _] _
          repeat (first
            | (refine seq_skip (by rfl) ?_; (try simp only [Act.put, List.setIfInBounds_toArray, List.set_cons_zero, List.set_cons_succ]))
            | (refine seq_val ?_ (by rfl) ?_ ?_
               rotate_left 1
               · rintro w5 ⟨k5, rfl⟩; go_simp; first | done | with_reducible rfl
               (try simp only [Act.put, List.setIfInBounds_toArray, List.set_cons_zero, List.set_cons_succ]))
            | (refine seq_call ?_ ?_ ?_ (by rfl) ?_ ?_ ?_
               rotate_left 3
               · rintro w5 ⟨k5, rfl⟩; go_simp; (refine And.intro ?_ ?_ <;> rfl)
               · rintro w5 ⟨k5, rfl⟩
                 refine Calls.mono (between_any _ _ _ _ (by constructor <;> omega) (by constructor <;> omega) _) ?_
                 rintro e W' ⟨rfl, rfl⟩
                 refine And.intro ?_ ⟨k5, rfl⟩
                 first
                   | rw [hbx]
               (try simp only [Act.put, List.setIfInBounds_toArray, List.set_cons_zero, List.set_cons_succ])))
          refine seq_end ?_
          rintro w7 ⟨k7, rfl⟩
          have HD := Lib.hid (below_dN (n := k7) HAL2.out)
          go_wp2_with fail
          go_roundg (ps.length - (k + 1))
          case measure => omega
          case rel => exact ⟨k + 1, by omega, rfl, by go_num, HN.out, HD.out⟩
        | true =>
          cases hby : btw z.y p.h u.y q.h with
          | false =>
            have HN : Hid _ := Lib.hid (HNX.out (fun _ h => by have := HBO.out.2 h; rw [hbx, hby] at this; simp at this))
            go_upto_region 19 with fail
            refine wp_region_seq (fun w' => ∃ k, w' = (wr.alloc (.cells #[.int .i64 q.w, .int .i64 q.h] 29)).drewN k) (by kernel_rfl) (by kernel_rfl) ⟨1, rfl⟩ ?_
            show Seq _ _ _ _ [_, _, _, _, _, _, _, _, _, _, _, _, _, _, _, _, _, _, _, _, _, _, _, _, _, _, _, _, _, _, _, _, _, _, _, _, _] _
            repeat (first
              | (refine seq_skip (by rfl) ?_; (try simp only [Act.put, List.setIfInBounds_toArray, List.set_cons_zero, List.set_cons_succ]))
              | (refine seq_val ?_ (by rfl) ?_ ?_
                 rotate_left 1
                 · rintro w5 ⟨k5, rfl⟩; go_simp; first | done | with_reducible rfl
                 (try simp only [Act.put, List.setIfInBounds_toArray, List.set_cons_zero, List.set_cons_succ]))
              | (refine seq_call ?_ ?_ ?_ (by rfl) ?_ ?_ ?_
                 rotate_left 3
                 · rintro w5 ⟨k5, rfl⟩; go_simp; (refine And.intro ?_ ?_ <;> rfl)
                 · rintro w5 ⟨k5, rfl⟩
                   refine Calls.mono (between_any _ _ _ _ (by constructor <;> omega) (by constructor <;> omega) _) ?_
                   rintro e W' ⟨rfl, rfl⟩
                   refine And.intro ?_ ⟨k5, rfl⟩
                   first
                     | rw [hbx]
                     | rw [hby]
                 (try simp only [Act.put, List.setIfInBounds_toArray, List.set_cons_zero, List.set_cons_succ])))
            refine seq_end ?_
            rintro w7 ⟨k7, rfl⟩
            have HD := Lib.hid (below_dN (n := k7) HAL2.out)
            go_wp2_with fail
            go_roundg (ps.length - (k + 1))
            case measure => omega
            case rel => exact ⟨k + 1, by omega, rfl, by go_num, HN.out, HD.out⟩
          | true =>
            have HE : Hid (fitB W H ps zs = false) := fitB_false fun hf => by
              have ho := HBO.out.1 (by rw [hbx, hby]; rfl)
              rw [← HPI.out.1, ← HPI.out.2, ← HPK.out.1, ← HPK.out.2] at ho
              rcases Nat.lt_or_gt_of_ne HIKN.out with h | h
              · exact hf.apart k i h hki (ovl_symm.1 ho)
              · exact hf.apart i k h hlt ho
            go_upto_region 19 with fail
            refine wp_region_seq (fun w' => ∃ k, w' = (wr.alloc (.cells #[.int .i64 q.w, .int .i64 q.h] 29)).drewN k) (by kernel_rfl) (by kernel_rfl) ⟨1, rfl⟩ ?_
            show Seq _ _ _ _ [_, _, _, _, _, _, _, _, _, _, _, _, _, _, _, _, _, _, _, _, _, _, _, _, _, _, _, _, _, _, _, _, _, _, _, _, _] _
            repeat (first
              | (refine seq_skip (by rfl) ?_; (try simp only [Act.put, List.setIfInBounds_toArray, List.set_cons_zero, List.set_cons_succ]))
              | (refine seq_val ?_ (by rfl) ?_ ?_
                 rotate_left 1
                 · rintro w5 ⟨k5, rfl⟩; go_simp; first | done | with_reducible rfl
                 (try simp only [Act.put, List.setIfInBounds_toArray, List.set_cons_zero, List.set_cons_succ]))
              | (refine seq_call ?_ ?_ ?_ (by rfl) ?_ ?_ ?_
                 rotate_left 3
                 · rintro w5 ⟨k5, rfl⟩; go_simp; (refine And.intro ?_ ?_ <;> rfl)
                 · rintro w5 ⟨k5, rfl⟩
                   refine Calls.mono (between_any _ _ _ _ (by constructor <;> omega) (by constructor <;> omega) _) ?_
                   rintro e W' ⟨rfl, rfl⟩
                   refine And.intro ?_ ⟨k5, rfl⟩
                   first
                     | rw [hbx]
                     | rw [hby]
                 (try simp only [Act.put, List.setIfInBounds_toArray, List.set_cons_zero, List.set_cons_succ])))
            refine seq_end ?_
            rintro w7 ⟨k7, rfl⟩
            have HD := Lib.hid (below_dN (n := k7) HAL3.out)
            go_wp2_with fail
            go_ret2
            exact ⟨by rw [HE.out]; rfl, HD.out⟩
end Go.Proofs.Ytckciljgaddpaaa
