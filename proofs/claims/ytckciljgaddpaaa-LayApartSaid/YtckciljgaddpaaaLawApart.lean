/- Chapter 16: the walk of LayApart. -/
import Derived.Test.YtckciljgaddpaaaFitWalk1
namespace Go.Proofs.Ytckciljgaddpaaa
open Go.RowKit
set_option linter.unusedVariables false

theorem pcs_of {W : Int} {ps : List Pc} (hok : ∀ i (hi : i < ps.length), ¬ ps[i].bad W) : Pcs W (wOf ps) (hOf ps) ps.length ∧ ∀ i, i < ps.length → hOf ps i ≤ 1048576 := by
  have key : ∀ i (hi : i < ps.length), 1 ≤ wOf ps i ∧ wOf ps i ≤ W ∧ 1 ≤ hOf ps i ∧ hOf ps i ≤ 1048576 := fun i hi => by
    have := hok i hi
    unfold Pc.bad at this
    unfold wOf hOf
    rw [pc_getD hi]
    omega
  exact ⟨⟨fun i hi => (key i hi).1, fun i hi => (key i hi).2.1, fun i hi => (key i hi).2.2.1⟩, fun i hi => (key i hi).2.2.2⟩
/-- the points that Lay gives -/
def laid (W : Int) (ps : List Pc) (σ τ : Nat → Nat) : List Pt := (List.range ps.length).map (qOf W ps σ τ ps.length)
theorem laid_len (W : Int) (ps : List Pc) (σ τ : Nat → Nat) : (laid W ps σ τ).length = ps.length := by unfold laid; simp
theorem laid_get {W : Int} {ps : List Pc} {σ τ : Nat → Nat} (ho : Ord (hOf ps) ps.length σ τ) {i : Nat} (hi : i < ps.length) : (laid W ps σ τ).getD i noPt = ⟨pX W (wOf ps) (hOf ps) σ (τ i), pY W (wOf ps) (hOf ps) σ (τ i)⟩ := by
  unfold laid
  simp [hi]
  unfold qOf
  rw [if_pos (ho.lt' hi)]
theorem fit_laid {W : Int} {ps : List Pc} {σ τ : Nat → Nat} (hok : ∀ i (hi : i < ps.length), ¬ ps[i].bad W) (ho : Ord (hOf ps) ps.length σ τ) (hW : 1 ≤ W) : Fit W (ss W (wOf ps) (hOf ps) σ ps.length).hi ps (laid W ps σ τ) := by
  obtain ⟨hp, hh⟩ := pcs_of hok
  have e1 : ∀ i, (ps.getD i noPc).w = wOf ps i := fun _ => rfl
  have e2 : ∀ i, (ps.getD i noPc).h = hOf ps i := fun _ => rfl
  have sh := sh_all hp ho hW ps.length (Nat.le_refl _)
  refine ⟨fun i hi => ?_, fun i k hk hi => ?_⟩
  · rw [laid_get ho hi]
    have := sh.prev (τ i) (ho.lt' hi)
    rw [ho.st] at this
    unfold inR
    have h0 := hp.h0 i hi
    rw [e1, e2]
    dsimp only
    have := sh.yh
    omega
  · rw [laid_get ho hi, laid_get ho (show k < ps.length by omega)]
    have ne : τ i ≠ τ k := fun e => by have := congrArg σ e; rw [ho.st, ho.st] at this; omega
    unfold ovl
    rw [e1, e1, e2, e2]
    dsimp only
    rcases Nat.lt_or_gt_of_ne ne with h | h
    · have := sh.apt _ _ h (ho.lt' (show k < ps.length by omega))
      unfold Apt at this
      rw [ho.st] at this
      omega
    · have := sh.apt _ _ h (ho.lt' hi)
      unfold Apt at this
      rw [ho.st] at this
      omega

def cov (x y : Int) (p : Pc) (z : Pt) : Prop := z.x ≤ x ∧ x - z.x < p.w ∧ z.y ≤ y ∧ y - z.y < p.h
/-- m of the first t pieces cover the point -/
def Covers (x y : Int) (ps : List Pc) (zs : List Pt) (t : Nat) (m : Int) : Prop := (m = 0 ∧ ∀ j, j < t → ¬ cov x y (ps.getD j noPc) (zs.getD j noPt)) ∨ (m = 1 ∧ ∃ j, j < t ∧ cov x y (ps.getD j noPc) (zs.getD j noPt))
theorem Covers.le {x y : Int} {ps : List Pc} {zs : List Pt} {t : Nat} {m : Int} (h : Covers x y ps zs t m) : 0 ≤ m ∧ m ≤ 1 := by rcases h with ⟨h, _⟩ | ⟨h, _⟩ <;> omega
theorem Covers.no {x y : Int} {ps : List Pc} {zs : List Pt} {t : Nat} {m : Int} (h : Covers x y ps zs t m) (hc : ¬ cov x y (ps.getD t noPc) (zs.getD t noPt)) : Covers x y ps zs (t + 1) m := by
  rcases h with ⟨h, h2⟩ | ⟨h, j, h2, h3⟩
  · refine .inl ⟨h, fun j hj => ?_⟩
    rcases Nat.lt_or_eq_of_le (Nat.le_of_lt_succ hj) with h1 | rfl
    · exact h2 j h1
    · exact hc
  · exact .inr ⟨h, j, by omega, h3⟩
theorem Covers.yes {W H x y : Int} {ps : List Pc} {zs : List Pt} {t : Nat} {m : Int} (hf : Fit W H ps zs) (ht : t < ps.length) (h : Covers x y ps zs t m) (hc : cov x y (ps.getD t noPc) (zs.getD t noPt)) : m = 0 ∧ Covers x y ps zs (t + 1) (m + 1) := by
  rcases h with ⟨h, h2⟩ | ⟨h, j, h2, h3⟩
  · exact ⟨h, .inr ⟨by omega, t, by omega, hc⟩⟩
  · exfalso
    refine hf.apart t j h2 ht ?_
    unfold cov at hc h3
    unfold ovl
    omega

set_option maxRecDepth 100000 in
set_option maxHeartbeats 4000000 in
theorem apart_walk (W : Int) {v : Value} {ps : List Pc} (x y : Int) (bx : -9223372036854775808 ≤ x ∧ x ≤ 9223372036854775807) (by_ : -9223372036854775808 ≤ y ∧ y ≤ 9223372036854775807) {w : World} (hv : Pieces w (fun b => b < w.heap.size) v ps) :
    Calls Try.prog 5 #[.int .i64 W, v, .int .i64 x, .int .i64 y] w fun e w' => e = .returned (.bool true) ∧ Below w.heap.size w w' := by
  obtain ⟨cc, a1, a2, hz, HC⟩ := wrong_both W ps
  have HV := Lib.hid hv
  have HZ := Lib.hid hz
  have HCC := Lib.hid fun v w hv => (HC v w hv).1
  clear hz HC
  by_cases hcz : cc = 0
  case neg =>
    have hcn : (cc != 0) = true := by simpa using hcz
    obtain ⟨A, c, rfl, h1, h2, hr⟩ := hv
    clear hr
    go_enter Try.func5, Try.ntmps5
    go_wp2_with fail
    refine (alive_true w).mono ?_
    rintro e w1 ⟨rfl, hb1⟩
    have HB1 := Lib.hid hb1
    clear hb1
    go_wp2_with fail
    refine (Lay_not W _ ((HV.out.same (Same.of_below HB1.out)).mono fun i h => Nat.lt_of_lt_of_le h HB1.out.size) hcz HCC.out).mono ?_
    rintro e w2 ⟨rfl, hb2⟩
    have HB2 := Lib.hid (HB1.out.trans (hb2.mono HB1.out.size))
    clear hb2 hcz
    go_wp2_with fail
    go_ret
    exact ⟨rfl, HB2.out⟩
  obtain ⟨hW1, hW2, hn, hok⟩ := HZ.out hcz
  have HPC := Lib.hid (pcs_of hok)
  have HOK := Lib.hid hok
  clear hok HZ HCC hcz a1 a2
  obtain ⟨A, c, rfl, h1, h2, hr⟩ := hv
  clear hr
  unfold maxLen at h2
  go_enter Try.func5, Try.ntmps5
  go_wp2_with fail
  refine (alive_true w).mono ?_
  rintro e w1 ⟨rfl, hb1⟩
  have HB1 := Lib.hid hb1
  clear hb1
  go_wp2_with fail
  refine (Lay_ok W _ ((HV.out.same (Same.of_below HB1.out)).mono fun i h => Nat.lt_of_lt_of_le h HB1.out.size) hW1 hW2 hn HOK.out).mono ?_
  rintro e w2 ⟨σ, τ, ho, u, rfl, hu, hb2⟩
  have HB2 := Lib.hid (HB1.out.trans (hb2.mono HB1.out.size))
  have hh1 := hi_le HPC.out.1 ho hW1 HPC.out.2 ps.length (Nat.le_refl _)
  have sh := sh_all HPC.out.1 ho hW1 ps.length (Nat.le_refl _)
  have hh0 : 0 ≤ (ss W (wOf ps) (hOf ps) σ ps.length).hi := by have := sh.y0; have := sh.yh; omega
  have HFIT := Lib.hid (fit_laid HOK.out ho hW1)
  have HU : Hid (Points w2 (fun b => b < w2.heap.size) u (laid W ps σ τ)) := hu.mono fun i h => h.2
  have hll : (laid W ps σ τ).length = ps.length := laid_len _ _ _ _
  clear hb2 hu sh ho
  generalize (ss W (wOf ps) (hOf ps) σ ps.length).hi = hi at *
  generalize laid W ps σ τ = zs at *
  have HLL := Lib.hid hll
  clear hll
  have HZB : Hid (∀ z ∈ zs, -9223372036854775808 ≤ z.x ∧ z.x ≤ 9223372036854775807 ∧ -9223372036854775808 ≤ z.y ∧ z.y ≤ 9223372036854775807) := fun z hz => by
    obtain ⟨i, hi', rfl⟩ := List.mem_iff_getElem.1 hz
    have := HFIT.out.inr i (by rw [← HLL.out]; exact hi')
    rw [pt_getD hi'] at this
    unfold inR at this
    have h0 := HPC.out.1.w0 i (by rw [← HLL.out]; exact hi')
    have h1 := HPC.out.1.h0 i (by rw [← HLL.out]; exact hi')
    unfold wOf at h0
    unfold hOf at h1
    omega
  go_wp2_with fail
  refine (Fits_ok W hi _ ((HV.out.same (Same.of_below HB2.out)).mono fun i h => Nat.lt_of_lt_of_le h HB2.out.size) HU.out HLL.out hW1 hW2 (by omega) HZB.out hn HOK.out).mono ?_
  rintro e w3 ⟨rfl, hb3⟩
  rw [fitB_true HFIT.out]
  have HB3 := Lib.hid (HB2.out.trans (hb3.mono HB2.out.size))
  have HU3 := Lib.hid (HU.out.same (Same.of_below hb3))
  have hw23 := hb3.size
  clear hb3
  obtain ⟨A2, c2, rfl, h3, h4, hr2⟩ := HU.out
  rw [HLL.out] at HU HU3 h3 ⊢
  unfold maxLen at h4
  clear hr2
  have hne : ((ps.length : Int) != (ps.length : Int)) = false := by simp
  go_wp2_with fail
  clear hne
  go_loopg [13, 51] ps.length (fun gg sm ctr wr => ∃ (t : Nat) (m : Int), t ≤ ps.length ∧ gg = ps.length - t ∧ ctr = .int .i64 t ∧ sm = .int .i64 m ∧ Covers x y ps zs t m ∧ Below w3.heap.size w3 wr)
  case atStart => exact ⟨0, 0, by omega, rfl, rfl, rfl, .inl ⟨rfl, fun j h => by omega⟩, Below.refl _ _⟩
  case round =>
    obtain ⟨t, m, ht, rfl, rfl, rfl, hcv, hb⟩ := hrel
    have HC := Lib.hid hcv
    have HBR := Lib.hid hb
    have HB := Lib.hid (HB3.out.trans (hb.mono HB3.out.size))
    obtain ⟨hm0, hm1⟩ := hcv.le
    clear hcv hb
    by_cases hlt : t < ps.length
    case neg =>
      go_wp2_with fail
      go_ret
      exact ⟨rfl, HB.out⟩
    have hlz : t < zs.length := by rw [HLL.out]; exact hlt
    obtain ⟨b, o, e, hb1, p0, p1⟩ := pc_cells (prow_of (HV.out.same (Same.of_below HB.out))) hlt
    cases e
    obtain ⟨b2, o2, e, hb2, u0, u1⟩ := pt_cells (qrow_of (HU3.out.same ((Same.of_below HBR.out).mono fun i h => Nat.lt_of_lt_of_le h hw23))) hlz
    cases e
    have hl1 : b < wr.heap.size := Nat.lt_of_lt_of_le hb1 HB.out.size
    have hl2 : b2 < wr.heap.size := Nat.lt_of_lt_of_le hb2 (Nat.le_trans hw23 HBR.out.size)
    have hin : inR W hi ps[t] zs[t] := by have := HFIT.out.inr t hlt; rw [pc_getD hlt, pt_getD hlz] at this; exact this
    have hpk := HOK.out t hlt
    unfold Pc.bad at hpk
    unfold inR at hin
    have HNO : Hid (¬ cov x y ps[t] zs[t] → Covers x y ps zs (t + 1) m) := fun h => HC.out.no (by rw [pc_getD hlt, pt_getD hlz]; exact h)
    have HYES : Hid (cov x y ps[t] zs[t] → m = 0 ∧ Covers x y ps zs (t + 1) (m + 1)) := fun h => HC.out.yes HFIT.out hlt (by rw [pc_getD hlt, pt_getD hlz]; exact h)
    generalize ps[t] = p at *
    generalize zs[t] = z at *
    obtain ⟨f1, f2, f3, f4, f5⟩ := hin
    obtain ⟨hp1, hp2, hp3, hp4⟩ : 1 ≤ p.w ∧ p.w ≤ W ∧ 1 ≤ p.h ∧ p.h ≤ 1048576 := by omega
    clear hpk
    have g1 : z.x + p.w ≤ W := by omega
    have g2 : z.y + p.h ≤ hi := by omega
    have HAL := Lib.hid ((HBR.out.alloc HBR.out.size (.cells #[.int .i64 p.w, .int .i64 p.h] 29)).alloc (by have := HBR.out.size; simp; omega) (.cells #[.int .i64 z.x, .int .i64 z.y] 36))
    have hcs : (¬ z.x ≤ x) ∨ (z.x ≤ x ∧ ¬ x - z.x < p.w) ∨ (z.x ≤ x ∧ x - z.x < p.w ∧ ¬ z.y ≤ y) ∨ (z.x ≤ x ∧ x - z.x < p.w ∧ z.y ≤ y ∧ ¬ y - z.y < p.h) ∨ (z.x ≤ x ∧ x - z.x < p.w ∧ z.y ≤ y ∧ y - z.y < p.h) := by omega
    rcases hcs with c1 | ⟨c1, c2⟩ | ⟨c1, c2, c3⟩ | ⟨c1, c2, c3, c4⟩ | ⟨c1, c2, c3, c4⟩
    case inr.inr.inr.inr =>
      obtain ⟨hm, hcv⟩ := HYES.out ⟨c1, c2, c3, c4⟩
      have HCV := Lib.hid hcv
      clear hm hcv
      go_wp2_with fail
      go_roundg (ps.length - (t + 1))
      case measure => omega
      case rel => exact ⟨t + 1, m + 1, by omega, rfl, by go_num, rfl, HCV.out, HAL.out⟩
    all_goals
      have HCV : Hid (Covers x y ps zs (t + 1) m) := HNO.out (by unfold cov; omega)
      go_wp2_with fail
      go_roundg (ps.length - (t + 1))
      case measure => omega
      case rel => exact ⟨t + 1, m, by omega, rfl, by go_num, rfl, HCV.out, HAL.out⟩
theorem apart_law (W : Int) {v : Value} {ps : List Pc} {w : World} (hv : Pieces w (fun b => b < w.heap.size) v ps) (x y : Int) (bx : -9223372036854775808 ≤ x ∧ x ≤ 9223372036854775807) (by_ : -9223372036854775808 ≤ y ∧ y ≤ 9223372036854775807) :
    Calls Try.prog 5 #[.int .i64 W, v, .int .i64 x, .int .i64 y] w fun e w' => e = .returned (.bool true) ∧ Below w.heap.size w w' := apart_walk W x y bx by_ hv
end Go.Proofs.Ytckciljgaddpaaa
