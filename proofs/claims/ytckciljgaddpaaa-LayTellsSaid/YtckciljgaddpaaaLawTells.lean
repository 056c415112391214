/- Chapter 16: the walk of LayTells. -/
import Derived.Test.YtckciljgaddpaaaLawTells0
namespace Go.Proofs.Ytckciljgaddpaaa
open Go.RowKit
set_option linter.unusedVariables false

set_option maxHeartbeats 4000000 in
theorem tells_walk (W H : Int) (hH : In64 H) {v u : Value} {ps : List Pc} {zs : List Pt} {w : World} (hv : Pieces w (fun b => b < w.heap.size) v ps) (hu : Pts w u zs) :
    Calls Try.prog 4 #[.int .i64 W, v, .int .i64 H, u] w fun e w' => e = .returned (.bool true) ∧ Below w.heap.size w w' := by
  have HV := Lib.hid hv
  have HU := Lib.hid hu
  obtain ⟨bf, cf, HF1, HF2⟩ := fits_both W H hH (v := v) (u := u) (ps := ps) (zs := zs)
  have HF1 := Lib.hid HF1
  have HF2 := Lib.hid HF2
  have e1 : (bf == bf) = true := by simp
  have e2 : (cf == cf) = true := by simp
  obtain ⟨cc, a1, a2, hz, HC⟩ := wrong_both W ps
  have HC1 := Lib.hid fun v w hv => (HC v w hv).1
  have HC2 := Lib.hid fun v w hv => (HC v w hv).2
  have HZ := Lib.hid hz
  clear HC hz
  obtain ⟨A, c, rfl, h1, h2, hr⟩ := hv
  obtain ⟨hu0, A2, c2, rfl, h3, h4, hr2⟩ := hu
  clear hr hr2 hu0
  unfold maxLen at h2 h4
  by_cases hcz : cc = 0
  case neg =>
    have hc2 : (cc != cc) = false := by simp
    go_enter Try.func4, Try.ntmps4
    go_wp2_with fail
    refine (Lay_not W _ HV.out hcz HC1.out).mono ?_
    rintro e w1 ⟨rfl, hb1⟩
    have HB1 := Lib.hid hb1
    clear hb1
    go_wp2_with fail
    refine (refLay_not W _ (pieces_grown HV.out HB1.out) hcz HC2.out).mono ?_
    rintro e w2 ⟨rfl, hb2⟩
    have HB2 := Lib.hid (HB1.out.trans (hb2.mono HB1.out.size))
    clear hb2 hcz
    go_wp2_with fail
    refine (samePts_self (S := fun _ => True) (T := fun _ => True) (zs := []) _ ⟨none, 0, rfl, by simp, by simp [maxLen], .nil _ _ _ _⟩ ⟨none, 0, rfl, by simp, by simp [maxLen], .nil _ _ _ _⟩).mono ?_
    rintro e w3 ⟨rfl, n3, rfl⟩
    have HB3 := Lib.hid (below_dN (n := n3) HB2.out)
    go_wp2_with fail
    refine (HF1.out _ (pieces_grown HV.out HB3.out) ⟨HU.out.1, HU.out.grown HB3.out⟩).mono ?_
    rintro e w4 ⟨rfl, hb4⟩
    have HB4 := Lib.hid (HB3.out.trans (hb4.mono HB3.out.size))
    clear hb4
    go_wp2_with fail
    refine (HF2.out _ (pieces_grown HV.out HB4.out) ⟨HU.out.1, HU.out.grown HB4.out⟩).mono ?_
    rintro e w5 ⟨rfl, hb5⟩
    have HB5 := Lib.hid (HB4.out.trans (hb5.mono HB4.out.size))
    clear hb5
    go_wp2_with fail
    go_ret
    exact ⟨rfl, HB5.out⟩
  obtain ⟨hW1, hW2, hn, hok⟩ := HZ.out hcz
  have HOK := Lib.hid hok
  clear hok HZ HC1 HC2 hcz a1 a2
  go_enter Try.func4, Try.ntmps4
  go_wp2_with fail
  refine (Lay_ok W _ HV.out hW1 hW2 hn HOK.out).mono ?_
  rintro e w1 ⟨σ, τ, ho, x1, rfl, hu1, hb1⟩
  have HB1 := Lib.hid hb1
  have HP1 : Hid (Points w1 (fun b => b < w1.heap.size) x1 _) := hu1.mono fun i h => h.2
  have HO := Lib.hid ho
  clear hb1 hu1 ho
  generalize hhi : (ss W (wOf ps) (hOf ps) σ ps.length).hi = hi at *
  have HHI := Lib.hid hhi
  clear hhi
  have hne : (hi != hi) = false := by simp
  have hlen : ((List.range ps.length).map (qOf W ps σ τ ps.length)).length = ps.length := by simp
  obtain ⟨A3, c3, rfl, g1, g2, hr3⟩ := HP1.out
  rw [hlen] at HP1 g1 ⊢
  have HLEN := Lib.hid hlen
  clear hr3 hlen
  go_wp2_with fail
  refine (refLay_ok W _ (pieces_grown HV.out HB1.out) hW1 hW2 hn HOK.out HO.out).mono ?_
  rintro e w2 ⟨x2, rfl, hu2, hb2⟩
  rw [HHI.out]
  have HB2 := Lib.hid (HB1.out.trans (hb2.mono HB1.out.size))
  have HP2 : Hid (Points w2 (fun b => b < w2.heap.size) x2 _) := hu2.mono fun i h => h.2
  have HP3 := Lib.hid (HP1.out.same (Same.of_below hb2))
  clear hb2 hu2
  obtain ⟨A4, c4, rfl, g3, g4, hr4⟩ := HP2.out
  rw [HLEN.out] at HP2 g3 ⊢
  clear hr4
  go_wp2_with fail
  refine (samePts_self _ HP3.out HP2.out).mono ?_
  rintro e w3 ⟨rfl, n3, rfl⟩
  have HB3 := Lib.hid (below_dN (n := n3) HB2.out)
  go_wp2_with fail
  refine (HF1.out _ (pieces_grown HV.out HB3.out) ⟨HU.out.1, HU.out.grown HB3.out⟩).mono ?_
  rintro e w4 ⟨rfl, hb4⟩
  have HB4 := Lib.hid (HB3.out.trans (hb4.mono HB3.out.size))
  clear hb4
  go_wp2_with fail
  refine (HF2.out _ (pieces_grown HV.out HB4.out) ⟨HU.out.1, HU.out.grown HB4.out⟩).mono ?_
  rintro e w5 ⟨rfl, hb5⟩
  have HB5 := Lib.hid (HB4.out.trans (hb5.mono HB4.out.size))
  clear hb5
  go_wp2_with fail
  go_ret
  exact ⟨rfl, HB5.out⟩
theorem tells_law (W : Int) {v : Value} {ps : List Pc} {w : World} (hv : Pieces w (fun b => b < w.heap.size) v ps) (H : Int) {u : Value} {zs : List Pt} (hu : Pts w u zs) (hH : -9223372036854775808 ≤ H ∧ H ≤ 9223372036854775807) :
    Calls Try.prog 4 #[.int .i64 W, v, .int .i64 H, u] w fun e w' => e = .returned (.bool true) ∧ Below w.heap.size w w' := tells_walk W H hH hv hu
end Go.Proofs.Ytckciljgaddpaaa
