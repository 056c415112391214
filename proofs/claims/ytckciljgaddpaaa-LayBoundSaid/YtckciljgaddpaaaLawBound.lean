/- Chapter 16: the walk of LayBound. -/
import Derived.Test.YtckciljgaddpaaaLayWalk4
namespace Go.Proofs.Ytckciljgaddpaaa
open Go.RowKit
set_option linter.unusedVariables false

theorem area_bounds {W : Int} {ps : List Pc} (hp : Pcs W (wOf ps) (hOf ps) ps.length) (hh : ∀ i, i < ps.length → hOf ps i ≤ 1048576) (hW : W ≤ 1048576) : ∀ t, t ≤ ps.length → 0 ≤ area (wOf ps) (hOf ps) id t ∧ area (wOf ps) (hOf ps) id t ≤ 1099511627776 * t
  | 0, _ => by simp [area]
  | t + 1, ht => by
    have ih := area_bounds hp hh hW t (by omega)
    have a := hp.w0 t (by omega)
    have b := hp.w1 t (by omega)
    have c := hp.h0 t (by omega)
    have d := hh t (by omega)
    have e0 : 0 ≤ wOf ps t * hOf ps t := Int.mul_nonneg (by omega) (by omega)
    have e1 : wOf ps t * hOf ps t ≤ 1048576 * hOf ps t := Int.mul_le_mul_of_nonneg_right (by omega) (by omega)
    have e : area (wOf ps) (hOf ps) id (t + 1) = area (wOf ps) (hOf ps) id t + wOf ps t * hOf ps t := rfl
    rw [e]
    omega

set_option maxRecDepth 100000 in
set_option maxHeartbeats 2000000 in
theorem bound_walk (W : Int) {v : Value} {ps : List Pc} {w : World} (hv : Pieces w (fun b => b < w.heap.size) v ps) :
    Calls Try.prog 3 #[.int .i64 W, v] w fun e w' => e = .returned (.bool true) ∧ Below w.heap.size w w' := by
  obtain ⟨cc, a1, a2, hz, HC⟩ := wrong_both W ps
  have HV := Lib.hid hv
  have HZ := Lib.hid hz
  have HCC := Lib.hid fun v w hv => (HC v w hv).1
  clear hz HC
  by_cases hcz : cc = 0
  case neg =>
    have hcn : (cc != 0) = true := by simpa using hcz
    obtain ⟨A, c, rfl, h1, h2, hr⟩ := hv
    clear hr
    go_enter Try.func3, Try.ntmps3
    go_wp2_with fail
    refine (alive_true w).mono ?_
    rintro e w1 ⟨rfl, hb1⟩
    have HB1 := Lib.hid hb1
    clear hb1
    go_wp2_with fail
    refine (Lay_not W _ ((HV.out.same (Same.of_below HB1.out)).mono fun i h => Nat.lt_of_lt_of_le h HB1.out.size) hcz HCC.out).mono ?_
    rintro e w2 ⟨rfl, hb2⟩
    have HB2 := Lib.hid (HB1.out.trans (hb2.mono HB1.out.size))
    clear hb2 hcz
    go_wp2_with fail
    go_ret
    exact ⟨rfl, HB2.out⟩
  obtain ⟨hW1, hW2, hn, hok⟩ := HZ.out hcz
  have HPC : Hid (Pcs W (wOf ps) (hOf ps) ps.length ∧ ∀ i, i < ps.length → hOf ps i ≤ 1048576) := by
    have key : ∀ i (hi : i < ps.length), 1 ≤ wOf ps i ∧ wOf ps i ≤ W ∧ 1 ≤ hOf ps i ∧ hOf ps i ≤ 1048576 := fun i hi => by
      have := hok i hi
      unfold Pc.bad at this
      unfold wOf hOf
      rw [pc_getD hi]
      omega
    exact ⟨⟨fun i hi => (key i hi).1, fun i hi => (key i hi).2.1, fun i hi => (key i hi).2.2.1⟩, fun i hi => (key i hi).2.2.2⟩
  have HOK := Lib.hid hok
  clear hok HZ HCC hcz a1 a2
  obtain ⟨A, c, rfl, h1, h2, hr⟩ := hv
  clear hr
  unfold maxLen at h2
  go_enter Try.func3, Try.ntmps3
  go_wp2_with fail
  refine (alive_true w).mono ?_
  rintro e w1 ⟨rfl, hb1⟩
  have HB1 := Lib.hid hb1
  clear hb1
  go_wp2_with fail
  refine (Lay_ok W _ ((HV.out.same (Same.of_below HB1.out)).mono fun i h => Nat.lt_of_lt_of_le h HB1.out.size) hW1 hW2 hn HOK.out).mono ?_
  rintro e w2 ⟨σ, τ, ho, u, rfl, hu, hb2⟩
  have HB2 := Lib.hid (HB1.out.trans (hb2.mono HB1.out.size))
  have hh1 := hi_le HPC.out.1 ho hW1 HPC.out.2 ps.length (Nat.le_refl _)
  have sh := sh_all HPC.out.1 ho hW1 ps.length (Nat.le_refl _)
  have hh0 : 0 ≤ (ss W (wOf ps) (hOf ps) σ ps.length).hi := by have := sh.y0; have := sh.yh; omega
  have HAP : Hid (area (wOf ps) (hOf ps) σ ps.length = area (wOf ps) (hOf ps) id ps.length) := area_perm ho
  have HBD := Lib.hid (fun most hm h0 => bounds HPC.out.1 ho hW1 (most := most) hm h0)
  clear hb2 hu sh
  generalize (ss W (wOf ps) (hOf ps) σ ps.length).hi = hi at *
  go_wp2_with fail
  go_loopg [8, 9, 25] ps.length (fun gg sa sm ctr wr => ∃ (t : Nat) (m : Int), t ≤ ps.length ∧ gg = ps.length - t ∧ ctr = .int .i64 t ∧ sa = .int .i64 (area (wOf ps) (hOf ps) id t) ∧ sm = .int .i64 m ∧ 0 ≤ m ∧ m ≤ 1048576 ∧ (∀ i, i < t → hOf ps i ≤ m) ∧ Below w.heap.size w wr)
  case atStart => exact ⟨0, 0, by omega, rfl, rfl, rfl, rfl, by decide, by decide, fun i h => by omega, HB2.out⟩
  case round =>
    clear HB2 HB1
    obtain ⟨t, m, ht, rfl, rfl, rfl, rfl, m0, m1, hm, hb⟩ := hrel
    have HM := Lib.hid hm
    have HB := Lib.hid hb
    have ab := area_bounds HPC.out.1 HPC.out.2 hW2 t ht
    clear hm hb
    by_cases hlt : t < ps.length
    case neg =>
      obtain rfl : t = ps.length := by omega
      have hb2 := HBD.out m HM.out m0
      rw [HAP.out] at hb2
      have q1 : hi * W ≤ 268435456 * 1048576 := Int.mul_le_mul (by omega) hW2 (by omega) (by decide)
      have q2 : m * W ≤ 1048576 * 1048576 := Int.mul_le_mul m1 hW2 (by omega) (by decide)
      have q3 : 0 ≤ hi * W := Int.mul_nonneg hh0 (by omega)
      have q4 : 0 ≤ m * W := Int.mul_nonneg m0 (by omega)
      generalize hA : area (wOf ps) (hOf ps) id ps.length = A2 at *
      clear hA
      obtain ⟨hb3, hb4⟩ := hb2
      generalize hQ1 : hi * W = P1 at *
      generalize hQ2 : m * W = P2 at *
      have HQ1 := Lib.hid hQ1
      have HQ2 := Lib.hid hQ2
      have w1' : IntKind.i64.wrap (hi * W) = P1 := by rw [HQ1.out]; exact IntWalk.i64_in _ (by omega)
      have w2' : IntKind.i64.wrap (m * W) = P2 := by rw [HQ2.out]; exact IntWalk.i64_in _ (by omega)
      have w1'' : wrap64 (hi * W) = P1 := by rw [HQ1.out]; exact IntWalk.wrap64_in _ (by omega)
      have w2'' : wrap64 (m * W) = P2 := by rw [HQ2.out]; exact IntWalk.wrap64_in _ (by omega)
      clear hQ1 hQ2
      go_wp2_with fail
      go_ret
      exact ⟨rfl, HB.out⟩
    obtain ⟨b, o, e, _, p0, p1⟩ := pc_cells (prow_of (HV.out.same (Same.of_below HB.out))) hlt
    cases e
    have HEQ : Hid (wOf ps t = ps[t].w ∧ hOf ps t = ps[t].h) := by
      show _ ∧ _
      unfold wOf hOf
      rw [pc_getD hlt]
      exact ⟨rfl, rfl⟩
    have HAL := Lib.hid (HB.out.alloc HB.out.size (.cells #[.int .i64 ps[t].w, .int .i64 ps[t].h] 29))
    rw [← HEQ.out.1, ← HEQ.out.2] at HAL
    rw [← HEQ.out.1] at p0
    rw [← HEQ.out.2] at p1
    have d0 := HPC.out.1.w0 _ hlt
    have d1 := HPC.out.1.w1 _ hlt
    have d2 := HPC.out.1.h0 _ hlt
    have d3 := HPC.out.2 _ hlt
    have q1 : wOf ps t * hOf ps t ≤ 1048576 * 1048576 := Int.mul_le_mul (by omega) d3 (by omega) (by decide)
    have q0 : 0 ≤ wOf ps t * hOf ps t := Int.mul_nonneg (by omega) (by omega)
    have HAE : Hid (area (wOf ps) (hOf ps) id (t + 1) = area (wOf ps) (hOf ps) id t + wOf ps t * hOf ps t) := rfl
    have HN1 : Hid (∀ m', hOf ps t ≤ m' → m ≤ m' → ∀ i, i < t + 1 → hOf ps i ≤ m') := fun m' k1 k2 i hi => by
      rcases Nat.lt_or_eq_of_le (Nat.le_of_lt_succ hi) with h | rfl
      · have := HM.out i h; omega
      · exact k1
    generalize area (wOf ps) (hOf ps) id t = A2 at *
    generalize hpw : wOf ps t = pw at *
    generalize hph : hOf ps t = ph at *
    clear hpw hph
    generalize hQ : pw * ph = P at *
    have HQ := Lib.hid hQ
    have w1' : IntKind.i64.wrap (pw * ph) = P := by rw [HQ.out]; exact IntWalk.i64_in _ (by omega)
    have w1'' : wrap64 (pw * ph) = P := by rw [HQ.out]; exact IntWalk.wrap64_in _ (by omega)
    clear hQ
    by_cases hmx : m < ph
    · go_wp2_with fail
      go_roundg (ps.length - (t + 1))
      case measure => omega
      case rel => exact ⟨t + 1, ph, by omega, rfl, by go_num, by rw [HAE.out], rfl, by omega, d3, HN1.out ph (Int.le_refl _) (by omega), HAL.out⟩
    · go_wp2_with fail
      go_roundg (ps.length - (t + 1))
      case measure => omega
      case rel => exact ⟨t + 1, m, by omega, rfl, by go_num, by rw [HAE.out], rfl, by omega, m1, HN1.out m (by omega) (Int.le_refl _), HAL.out⟩
end Go.Proofs.Ytckciljgaddpaaa
