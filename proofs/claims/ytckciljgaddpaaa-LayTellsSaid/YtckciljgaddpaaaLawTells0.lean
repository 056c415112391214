/- Chapter 16: both Fits alike; points compared. -/
import Derived.Test.YtckciljgaddpaaaLayWalk5
import Derived.Test.YtckciljgaddpaaaFitWalk2
import Derived.Test.YtckciljgaddpaaaOpenLay
namespace Go.Proofs.Ytckciljgaddpaaa
open Go.RowKit
set_option linter.unusedVariables false

set_option maxHeartbeats 1000000 in
theorem refLay_not {v : Value} {ps : List Pc} (W : Int) (w : World) (hv : Pieces w (fun b => b < w.heap.size) v ps) {c : Int} (hc : c ≠ 0)
    (HC : ∀ (v : Value) (w : World), Pieces w (fun b => b < w.heap.size) v ps → Calls Try.prog 16 #[.int .i64 W, v] w fun e w' => e = .returned (.int .i64 c) ∧ Below w.heap.size w w') :
    Calls Try.prog 8 #[.int .i64 W, v] w fun e w' => e = .returned (.tuple #[.slice none 0 0, .int .i64 0, .int .i64 c]) ∧ Below w.heap.size w w' := by
  have HV := Lib.hid hv
  have HH := Lib.hid HC
  have hcn : (c != 0) = true := by simpa using hc
  clear HC hc
  obtain ⟨A, cc, rfl, h1, h2, hr⟩ := hv
  clear hr
  go_enter Try.func8, Try.ntmps8
  go_wp2_with fail
  refine (HH.out _ _ HV.out).mono ?_
  rintro e w1 ⟨rfl, hb1⟩
  have HB1 := Lib.hid hb1
  clear hb1
  go_wp2_with fail
  go_ret3
  exact ⟨rfl, HB1.out⟩

set_option maxHeartbeats 1000000 in
theorem samePts_self {S T : Nat → Prop} {a b : Value} {zs : List Pt} (w : World) (ha : Points w S a zs) (hb : Points w T b zs) :
    Calls Try.prog 9 #[a, b] w fun e w' => e = .returned (.bool true) ∧ ∃ n, w' = w.drewN n := by
  have HA := Lib.hid ha
  have HB := Lib.hid hb
  obtain ⟨A, c, rfl, h1, h2, hr⟩ := ha
  obtain ⟨A2, c2, rfl, h3, h4, hr2⟩ := hb
  clear hr hr2
  unfold maxLen at h2 h4
  go_enter Try.func9, Try.ntmps9
  go_wp2_with fail
  go_loopg [13] zs.length (fun gg ctr wr => ∃ k n : Nat, k ≤ zs.length ∧ gg = zs.length - k ∧ ctr = .int .i64 k ∧ wr = w.drewN n)
  case atStart => exact ⟨0, 0, Nat.zero_le _, rfl, rfl, rfl⟩
  case round =>
    obtain ⟨k, n, hk, rfl, rfl, rfl⟩ := hrel
    by_cases hlt : k < zs.length
    · obtain ⟨b, o, e, _, u0, u1⟩ := pt_cells (qrow_of HA.out) hlt
      cases e
      obtain ⟨b2, o2, e, _, v0, v1⟩ := pt_cells (qrow_of HB.out) hlt
      cases e
      generalize zs[k] = z at *
      have e1 : (z.x != z.x) = false := by simp
      have e2 : (z.y != z.y) = false := by simp
      have e3 : (z.x == z.x) = true := by simp
      have e4 : (z.y == z.y) = true := by simp
      go_wp2_with (go_quiet (fail))
      go_roundg (zs.length - (k + 1))
      case measure => omega
      case rel => exact ⟨k + 1, _, by omega, rfl, by go_num, rfl⟩
    · go_wp2_with fail
      go_ret
      exact ⟨rfl, n, rfl⟩

theorem Pts.grown {w w' : World} {v : Value} {zs : List Pt} (h : Pts w v zs) (hb : Below w.heap.size w w') : Points w' (fun b => b < w'.heap.size) v zs :=
  (h.2.same (Same.of_below hb)).mono fun i hi => Nat.lt_of_lt_of_le hi hb.size
theorem pieces_grown {w w' : World} {v : Value} {ps : List Pc} (h : Pieces w (fun b => b < w.heap.size) v ps) (hb : Below w.heap.size w w') : Pieces w' (fun b => b < w'.heap.size) v ps :=
  (h.same (Same.of_below hb)).mono fun i hi => Nat.lt_of_lt_of_le hi hb.size

/-- both Fits answer alike -/
theorem fits_both (W H : Int) (hH : In64 H) {v u : Value} {ps : List Pc} {zs : List Pt} : ∃ (b : Bool) (c : Int), (∀ w, Pieces w (fun b => b < w.heap.size) v ps → Pts w u zs → Calls Try.prog 10 #[.int .i64 W, .int .i64 H, v, u] w fun e w' => e = .returned (.tuple #[.bool b, .int .i64 c]) ∧ Below w.heap.size w w') ∧
    (∀ w, Pieces w (fun b => b < w.heap.size) v ps → Pts w u zs → Calls Try.prog 11 #[.int .i64 W, .int .i64 H, v, u] w fun e w' => e = .returned (.tuple #[.bool b, .int .i64 c]) ∧ Below w.heap.size w w') := by
  obtain ⟨cc, a1, a2, hz, HC⟩ := wrong_both W ps
  by_cases hcz : cc = 0
  · obtain ⟨hW1, hW2, hn, hok⟩ := hz hcz
    subst hcz
    by_cases hl : zs.length = ps.length
    · exact ⟨fitB W H ps zs, 0, fun w hv hu => Fits_ok W H w hv hu.2 hl hW1 hW2 hH (fun z hz => ⟨(hu.1 z hz).1.1, (hu.1 z hz).1.2, (hu.1 z hz).2.1, (hu.1 z hz).2.2⟩) hn hok,
        fun w hv hu => refFits_ok W H w hv hu.2 hl hW1 hW2 hH (fun z hz => ⟨(hu.1 z hz).1.1, (hu.1 z hz).1.2, (hu.1 z hz).2.1, (hu.1 z hz).2.2⟩) hn hok⟩
    · exact ⟨false, 8, fun w hv hu => Fits_len W H w hv hu.2 hl (fun v w hv => (HC v w hv).1), fun w hv hu => refFits_len W H w hv hu.2 hl (fun v w hv => (HC v w hv).2)⟩
  · exact ⟨false, cc, fun w hv hu => Fits_not W H w hv hcz (fun v w hv => (HC v w hv).1), fun w hv hu => refFits_not W H w hv hcz (fun v w hv => (HC v w hv).2)⟩

end Go.Proofs.Ytckciljgaddpaaa
