/- Chapter 16: the program's Fits. -/
import Derived.Test.YtckciljgaddpaaaFitPlain
namespace Go.Proofs.Ytckciljgaddpaaa
open Go.RowKit
set_option linter.unusedVariables false

theorem pt_cells {w : World} {S : Nat → Prop} {A : Option Addr} {xs : List Pt} (hr : Row w S 2 A xs.length (xs.flatMap Pt.cells)) {k : Nat} (hk : k < xs.length) :
    ∃ b o, A = some ⟨b, o, none⟩ ∧ S b ∧ w.cell? ⟨b, o + k * 2, none⟩ = some (.int .i64 xs[k].x) ∧ w.cell? ⟨b, o + k * 2 + 1, none⟩ = some (.int .i64 xs[k].y) := by
  obtain ⟨b, o, e, hs, hc⟩ := els_at Pt.cells_len hr (by decide) hk
  exact ⟨b, o, e, hs, hc 0 _ rfl, hc 1 _ rfl⟩
theorem qrow_of {w : World} {S : Nat → Prop} {A : Option Addr} {n c : Nat} {xs : List Pt} (h : Points w S (.slice A n c) xs) : Row w S 2 A xs.length (xs.flatMap Pt.cells) := by
  obtain ⟨A', c', e, _, _, h⟩ := h
  cases e
  exact h

set_option maxHeartbeats 1000000 in
theorem Fits_not {v u : Value} {ps : List Pc} (W H : Int) (w : World) (hv : Pieces w (fun b => b < w.heap.size) v ps) {c : Int} (hc : c ≠ 0)
    (HC : ∀ (v : Value) (w : World), Pieces w (fun b => b < w.heap.size) v ps → Calls Try.prog 12 #[.int .i64 W, v] w fun e w' => e = .returned (.int .i64 c) ∧ Below w.heap.size w w') :
    Calls Try.prog 10 #[.int .i64 W, .int .i64 H, v, u] w fun e w' => e = .returned (.tuple #[.bool false, .int .i64 c]) ∧ Below w.heap.size w w' := by
  have HV := Lib.hid hv
  have HH := Lib.hid HC
  have hcn : (c != 0) = true := by simpa using hc
  clear HC hc
  go_enter Try.func10, Try.ntmps10
  go_wp2_with fail
  refine (HH.out _ _ HV.out).mono ?_
  rintro e w1 ⟨rfl, hb1⟩
  have HB1 := Lib.hid hb1
  clear hb1
  go_wp2_with fail
  go_ret2
  exact ⟨rfl, HB1.out⟩

set_option maxHeartbeats 1000000 in
theorem Fits_len {v u : Value} {ps : List Pc} {zs : List Pt} {S : Nat → Prop} (W H : Int) (w : World) (hv : Pieces w (fun b => b < w.heap.size) v ps) (hu : Points w S u zs) (hl : zs.length ≠ ps.length)
    (HC : ∀ (v : Value) (w : World), Pieces w (fun b => b < w.heap.size) v ps → Calls Try.prog 12 #[.int .i64 W, v] w fun e w' => e = .returned (.int .i64 0) ∧ Below w.heap.size w w') :
    Calls Try.prog 10 #[.int .i64 W, .int .i64 H, v, u] w fun e w' => e = .returned (.tuple #[.bool false, .int .i64 8]) ∧ Below w.heap.size w w' := by
  have HV := Lib.hid hv
  have HH := Lib.hid HC
  obtain ⟨A, c, rfl, h1, h2, hr⟩ := hv
  obtain ⟨A2, c2, rfl, h3, h4, hr2⟩ := hu
  clear hr hr2 HC
  unfold maxLen at h2 h4
  have hne : ((zs.length : Int) != (ps.length : Int)) = true := by simp; omega
  clear hl
  go_enter Try.func10, Try.ntmps10
  go_wp2_with fail
  refine (HH.out _ _ HV.out).mono ?_
  rintro e w1 ⟨rfl, hb1⟩
  have HB1 := Lib.hid hb1
  clear hb1
  go_wp2_with fail
  go_ret2
  exact ⟨rfl, HB1.out⟩

set_option maxRecDepth 100000 in
set_option maxHeartbeats 4000000 in
theorem Fits_ok {v u : Value} {ps : List Pc} {zs : List Pt} (W H : Int) (w : World) (hv : Pieces w (fun b => b < w.heap.size) v ps) (hu : Points w (fun b => b < w.heap.size) u zs) (hl : zs.length = ps.length)
    (hW1 : 1 ≤ W) (hW2 : W ≤ 1048576) (hH : -9223372036854775808 ≤ H ∧ H ≤ 9223372036854775807) (hz : ∀ z ∈ zs, -9223372036854775808 ≤ z.x ∧ z.x ≤ 9223372036854775807 ∧ -9223372036854775808 ≤ z.y ∧ z.y ≤ 9223372036854775807) (hn : ps.length ≤ 256) (hok : ∀ i (hi : i < ps.length), ¬ ps[i].bad W) :
    Calls Try.prog 10 #[.int .i64 W, .int .i64 H, v, u] w fun e w' => e = .returned (.tuple #[.bool (fitB W H ps zs), .int .i64 0]) ∧ Below w.heap.size w w' := by
  have HV := Lib.hid hv
  have HU := Lib.hid hu
  have HL := Lib.hid hl
  have HOK := Lib.hid hok
  have HZ := Lib.hid hz
  obtain ⟨A, c, rfl, h1, h2, hr⟩ := hv
  obtain ⟨A2, c2, rfl, h3, h4, hr2⟩ := hu
  rw [hl] at h3 HU ⊢
  clear hr hr2 hl hok hz
  unfold maxLen at h2 h4
  go_enter Try.func10, Try.ntmps10
  go_wp2_with fail
  refine (wrong_ok W _ HV.out hW1 hW2 hn HOK.out).mono ?_
  rintro e w1 ⟨rfl, hb1⟩
  have HB1 := Lib.hid hb1
  clear hb1
  go_wp2_with fail
  go_loopg [30] ps.length (fun gg ctr wr => ∃ i : Nat, i ≤ ps.length ∧ gg = ps.length - i ∧ ctr = .int .i64 i ∧ FitTo W H ps zs i ∧ Below w.heap.size w wr)
  case atStart => exact ⟨0, by omega, rfl, rfl, fun j h => by omega, HB1.out⟩
  case round =>
    clear HB1
    obtain ⟨i, hi, rfl, rfl, hft, hb⟩ := hrel
    have HFT := Lib.hid hft
    have HB := Lib.hid hb
    clear hft hb
    by_cases hlt : i < ps.length
    case neg =>
      obtain rfl : i = ps.length := by omega
      have HE : Hid (fitB W H ps zs = true) := fitB_true HFT.out.done
      go_wp2_with fail
      go_ret2
      exact ⟨by rw [HE.out]; rfl, HB.out⟩
    have hlz : i < zs.length := by rw [HL.out]; exact hlt
    obtain ⟨b, o, e, hb1, p0, p1⟩ := pc_cells (prow_of (HV.out.same (Same.of_below HB.out))) hlt
    cases e
    obtain ⟨b2, o2, e, hb2, u0, u1⟩ := pt_cells (qrow_of (HU.out.same (Same.of_below HB.out))) hlz
    cases e
    have hpk := HOK.out i hlt
    unfold Pc.bad at hpk
    have hzk := HZ.out _ (List.getElem_mem hlz)
    have HIN : Hid ((inR W H (ps.getD i noPc) (zs.getD i noPt) → inR W H ps[i] zs[i]) ∧ (inR W H ps[i] zs[i] → inR W H (ps.getD i noPc) (zs.getD i noPt))) := by rw [pc_getD hlt, pt_getD hlz]; exact ⟨id, id⟩
    have HOV : Hid (∀ k (hk : k < i), ovl (ps.getD i noPc) (zs.getD i noPt) (ps.getD k noPc) (zs.getD k noPt) ↔ ovl ps[i] zs[i] (ps[k]'(by omega)) (zs[k]'(by omega))) := fun k hk => by rw [pc_getD hlt, pt_getD hlz, pc_getD (show k < ps.length by omega), pt_getD (show k < zs.length by omega)]
    have hps : Hid (∀ k (hk : k < i), 1 ≤ (ps[k]'(by omega)).w ∧ (ps[k]'(by omega)).w ≤ W ∧ 1 ≤ (ps[k]'(by omega)).h ∧ (ps[k]'(by omega)).h ≤ 1048576) := fun k hk => by
      have := HOK.out k (by omega)
      unfold Pc.bad at this
      omega
    generalize ps[i] = p at *
    generalize zs[i] = z at *
    obtain ⟨hp1, hp2, hp3, hp4⟩ : 1 ≤ p.w ∧ p.w ≤ W ∧ 1 ≤ p.h ∧ p.h ≤ 1048576 := by omega
    obtain ⟨hz1, hz2, hz3, hz4⟩ := hzk
    clear hpk
    have HAL := Lib.hid ((HB.out.alloc HB.out.size (.cells #[.int .i64 p.w, .int .i64 p.h] 29)).alloc (by have := HB.out.size; simp; omega) (.cells #[.int .i64 z.x, .int .i64 z.y] 36))
    have hlw1 : b < wr.heap.size := Nat.lt_of_lt_of_le hb1 HB.out.size
    have hlw2 : b2 < wr.heap.size := Nat.lt_of_lt_of_le hb2 HB.out.size
    have hcs : z.x < 0 ∨ (0 ≤ z.x ∧ z.y < 0) ∨ (0 ≤ z.x ∧ 0 ≤ z.y ∧ W - p.w < z.x) ∨ (0 ≤ z.x ∧ 0 ≤ z.y ∧ z.x ≤ W - p.w ∧ H < p.h) ∨ (0 ≤ z.x ∧ 0 ≤ z.y ∧ z.x ≤ W - p.w ∧ p.h ≤ H ∧ H - p.h < z.y) ∨
        (0 ≤ z.x ∧ 0 ≤ z.y ∧ z.x ≤ W - p.w ∧ p.h ≤ H ∧ z.y ≤ H - p.h) := by omega
    have HNO : Hid (¬ inR W H p z → fitB W H ps zs = false) := fun h => fitB_false fun hf => h (HIN.out.1 (hf.inr i hlt))
    rcases hcs with k1 | ⟨k1, k2⟩ | ⟨k1, k2, k3⟩ | ⟨k1, k2, k3, k4⟩ | ⟨k1, k2, k3, k4, k5⟩ | ⟨k1, k2, k3, k4, k5⟩
    case inr.inr.inr.inr.inr =>
      have HI2 : Hid (inR W H (ps.getD i noPc) (zs.getD i noPt)) := HIN.out.2 ⟨k1, k2, k3, k4, k5⟩
      have HPB : Hid (Arr ((wr.alloc (.cells #[.int .i64 p.w, .int .i64 p.h] 29)).alloc (.cells #[.int .i64 z.x, .int .i64 z.y] 36)) wr.heap.size 29 [.int .i64 p.w, .int .i64 p.h]) := (Arr.new wr #[.int .i64 p.w, .int .i64 p.h] 29).alloc _
      have HZB := Arr.new (wr.alloc (.cells #[.int .i64 p.w, .int .i64 p.h] 29)) #[.int .i64 z.x, .int .i64 z.y] 36
      rw [World.size_alloc] at HZB
      have HZB := Lib.hid HZB
      go_wp2_with fail
      clear p0 p1 u0 u1
      have hP1 : w.heap.size ≤ wr.heap.size := HB.out.size
      generalize (wr.alloc (.cells #[.int .i64 p.w, .int .i64 p.h] 29)).alloc (.cells #[.int .i64 z.x, .int .i64 z.y] 36) = w2 at *
      generalize hP : wr.heap.size = P at *
      clear hP
      go_loopg [75] i (fun gg ctr w3 => ∃ k : Nat, k ≤ i ∧ gg = i - k ∧ ctr = .int .i64 k ∧ (∀ j, j < k → ¬ ovl (ps.getD i noPc) (zs.getD i noPt) (ps.getD j noPc) (zs.getD j noPt)) ∧ Below w2.heap.size w2 w3)
      case atStart => exact ⟨0, by omega, rfl, rfl, fun j h => by omega, Below.refl _ _⟩
      case round =>
        obtain ⟨k, hk, rfl, rfl, hno, hb3⟩ := hrel
        have HNV := Lib.hid hno
        have HB3 := Lib.hid hb3
        have HBB := Lib.hid (HAL.out.trans (hb3.mono HAL.out.size))
        clear hno hb3
        by_cases hki : k < i
        case neg =>
          obtain rfl : i = k := by omega
          have HN := Lib.hid (HFT.out.next HI2.out HNV.out)
          go_wp2_with fail
          go_roundg (ps.length - (i + 1))
          case measure => omega
          case rel => exact ⟨i + 1, by omega, rfl, by go_num, HN.out, HBB.out⟩
        have hkp : k < ps.length := by omega
        have hkz : k < zs.length := by rw [HL.out]; omega
        obtain ⟨b', o', e, _, p0, p1⟩ := pc_cells (prow_of (HV.out.same (Same.of_below HBB.out))) hkp
        cases e
        obtain ⟨b', o', e, _, u0, u1⟩ := pt_cells (qrow_of (HU.out.same (Same.of_below HBB.out))) hkz
        cases e
        have r0 := (HPB.out.of_eq (HB3.out.block _ HPB.out.lt)).cell (k := 0) rfl
        have r1 := (HPB.out.of_eq (HB3.out.block _ HPB.out.lt)).cell (k := 1) rfl
        have r2 := (HZB.out.of_eq (HB3.out.block _ HZB.out.lt)).cell (k := 0) rfl
        have r3 := (HZB.out.of_eq (HB3.out.block _ HZB.out.lt)).cell (k := 1) rfl
        have hl1 : P < wr.heap.size := Nat.lt_of_lt_of_le HPB.out.lt HB3.out.size
        have hl2 : P + 1 < wr.heap.size := Nat.lt_of_lt_of_le HZB.out.lt HB3.out.size
        have hl3 : b < wr.heap.size := by omega
        have hl4 : b2 < wr.heap.size := by omega
        have hOV := HOV.out k hki
        obtain ⟨hq1, hq2, hq3, hq4⟩ := hps.out k hki
        have HFI : Hid (inR W H (ps.getD k noPc) (zs.getD k noPt)) := (HFT.out k hki).1
        have hfi : 0 ≤ zs[k].x ∧ 0 ≤ zs[k].y ∧ zs[k].x ≤ W - ps[k].w ∧ ps[k].h ≤ H ∧ zs[k].y ≤ H - ps[k].h := by have := HFI.out; rw [pc_getD hkp, pt_getD hkz] at this; exact this
        have HOVk := Lib.hid hOV
        clear hOV HFI
        generalize ps[k] = q at *
        generalize zs[k] = u at *
        obtain ⟨f1, f2, f3, f4, f5⟩ := hfi
        have HAL2 := Lib.hid ((HB3.out.alloc HB3.out.size (.cells #[.int .i64 q.w, .int .i64 q.h] 29)).alloc (by have := HB3.out.size; simp; omega) (.cells #[.int .i64 u.x, .int .i64 u.y] 36))
        have HAL3 := Lib.hid (HAL.out.trans (HAL2.out.mono HAL.out.size))
        have hcs2 : (¬ z.x - u.x < q.w) ∨ (z.x - u.x < q.w ∧ ¬ u.x - z.x < p.w) ∨ (z.x - u.x < q.w ∧ u.x - z.x < p.w ∧ ¬ z.y - u.y < q.h) ∨ (z.x - u.x < q.w ∧ u.x - z.x < p.w ∧ z.y - u.y < q.h ∧ ¬ u.y - z.y < p.h) ∨
            (z.x - u.x < q.w ∧ u.x - z.x < p.w ∧ z.y - u.y < q.h ∧ u.y - z.y < p.h) := by omega
        rcases hcs2 with c1 | ⟨c1, c2⟩ | ⟨c1, c2, c3⟩ | ⟨c1, c2, c3, c4⟩ | ⟨c1, c2, c3, c4⟩
        case inr.inr.inr.inr =>
          have HE : Hid (fitB W H ps zs = false) := fitB_false fun hf => hf.apart i k hki hlt (HOVk.out.2 ⟨c1, c2, c3, c4⟩)
          go_wp2_with fail
          go_ret2
          exact ⟨by rw [HE.out]; rfl, HAL3.out⟩
        all_goals
          have HN : Hid (∀ j, j < k + 1 → ¬ ovl (ps.getD i noPc) (zs.getD i noPt) (ps.getD j noPc) (zs.getD j noPt)) := fun j hj => by
            rcases Nat.lt_or_eq_of_le (Nat.le_of_lt_succ hj) with h | rfl
            · exact HNV.out j h
            · intro h
              have := HOVk.out.1 h
              unfold ovl at this
              omega
          go_wp2_with fail
          go_roundg (i - (k + 1))
          case measure => omega
          case rel => exact ⟨k + 1, by omega, rfl, by go_num, HN.out, HAL2.out⟩
    all_goals
      have HE : Hid (fitB W H ps zs = false) := HNO.out (by unfold inR; omega)
      go_wp2_with fail
      go_ret2
      exact ⟨by rw [HE.out]; rfl, HAL.out⟩
end Go.Proofs.Ytckciljgaddpaaa
