/- Chapter 11: the walk of KnitTurned. -/
import Derived.Test.YtaacfjeddoekfaaLawTurned
import Derived.Test.YtaacfjeddoekfaaOpenKnit
namespace Go.Proofs.Ytaacfjeddoekfaa
open Go.RowKit
set_option linter.unusedVariables false
set_option linter.unusedSimpArgs false

def plainE (n : Int) (l : List Sti) : List Int := if 1 ≤ n ∧ n ≤ 128 then errsK n.toNat zeroK l else []
def plainK (n : Int) (l : List Sti) : Kn := if 1 ≤ n ∧ n ≤ 128 then told n.toNat (afterK n.toNat l) else noKn
def plainC (n : Int) : Int := if 1 ≤ n ∧ n ≤ 128 then 0 else 3
theorem plainKnit_any (n : Int) {v : Value} {l : List Sti} (w : World) (hv : Stitches w (fun b => b < w.heap.size) v l) (hl : l.length ≤ 4000000000000) :
    Calls Try.prog 14 #[.int .i64 n, v] w fun e w' => ∃ u kv, e = .returned (.tuple #[u, kv, .int .i64 (plainC n)]) ∧ Ints w' (fun b => b < w'.heap.size) u (plainE n l) ∧ KnR w' (fun b => b < w'.heap.size) kv (plainK n l) ∧ Below w.heap.size w w' := by
  by_cases h : 1 ≤ n ∧ n ≤ 128
  · obtain ⟨N, rfl⟩ : ∃ N : Nat, n = (N : Int) := ⟨n.toNat, by omega⟩
    unfold plainE plainK plainC
    rw [if_pos h, if_pos h, if_pos h, Int.toNat_natCast]
    exact plainKnit_ok N (by omega) (by omega) w hv hl
  · unfold plainE plainK plainC
    rw [if_neg h, if_neg h, if_neg h]
    refine (plainKnit_bad n (by omega) w hv).mono ?_
    rintro e w' ⟨rfl, hb⟩
    exact ⟨_, _, rfl, Ints.nil _ _, noKn_R _ _, hb⟩
def swapKn (k : Kn) : Kn := ⟨k.loops, k.back, k.front, k.loose, -k.rack⟩
theorem plainE_turn (n : Int) (l : List Sti) : plainE n (l.map turnS) = plainE n l := by
  unfold plainE
  split
  · have := errs_turn n.toNat l zeroK
    rw [turn_zero] at this
    exact this
  · rfl
theorem plainK_turn (n : Int) (l : List Sti) : plainK n (l.map turnS) = swapKn (plainK n l) := by
  unfold plainK
  split
  · rw [after_turn, told_turn]; rfl
  · rfl
theorem stitches_grown {w w' : World} {v : Value} {l : List Sti} (h : Stitches w (fun b => b < w.heap.size) v l) (hb : Below w.heap.size w w') : Stitches w' (fun b => b < w'.heap.size) v l := stis_grown h hb

set_option maxRecDepth 100000 in
set_option maxHeartbeats 4000000 in
theorem turned_walk (n : Int) {v : Value} {l : List Sti} {w : World} (hv : Stis w v l) (hb : l.length * 40 ≤ 140737488351232) :
    Calls Try.prog 5 #[.int .i64 n, v] w fun e w' => e = .returned (.bool true) ∧ Below w.heap.size w w' := by
  have HV := Lib.hid hv.2
  have HOK : Hid (∀ x ∈ l, -9223372036854775808 ≤ x.t ∧ x.t ≤ 9223372036854775807) := fun x hx => (hv.1 x hx).2.2.2.2
  have hv2 := hv.2
  obtain ⟨A, c, rfl, h1, h2, hr⟩ := hv2
  clear hr hv
  unfold maxLen at h2
  have HPE := Lib.hid (plainE_turn n l)
  have HPK := Lib.hid (plainK_turn n l)
  have HP1 : Hid (∀ w, Stitches w (fun b => b < w.heap.size) (.slice A l.length c) l → Calls Try.prog 14 #[.int .i64 n, .slice A l.length c] w fun e w' => ∃ u kv, e = .returned (.tuple #[u, kv, .int .i64 (plainC n)]) ∧ Ints w' (fun b => b < w'.heap.size) u (plainE n l) ∧ KnR w' (fun b => b < w'.heap.size) kv (plainK n l) ∧ Below w.heap.size w w') := fun w hv => plainKnit_any n w hv (by omega)
  have HP2 : Hid (∀ w v, Stitches w (fun b => b < w.heap.size) v (l.map turnS) → Calls Try.prog 14 #[.int .i64 n, v] w fun e w' => ∃ u kv, e = .returned (.tuple #[u, kv, .int .i64 (plainC n)]) ∧ Ints w' (fun b => b < w'.heap.size) u (plainE n l) ∧ KnR w' (fun b => b < w'.heap.size) kv (swapKn (plainK n l)) ∧ Below w.heap.size w w') := fun w v hv => by
    have := plainKnit_any n w hv (by rw [List.length_map]; omega)
    rwa [HPE.out, HPK.out] at this
  clear HPE HPK
  have hrk : -4 ≤ (plainK n l).rack ∧ (plainK n l).rack ≤ 4 := by
    unfold plainK
    split
    · exact (kinv_after _ _).r
    · exact ⟨by decide, by decide⟩
  generalize plainE n l = es at *
  generalize plainC n = pc at *
  generalize plainK n l = kn at *
  have hne : (pc != pc) = false := by simp
  have hnl : ((es.length : Int) != (es.length : Int)) = false := by simp
  go_enter Try.func5, Try.ntmps5
  go_wp2_with fail
  refine (knitAlive w).mono ?_
  rintro e w1 ⟨rfl, hb1⟩
  have HB1 := Lib.hid hb1
  clear hb1
  go_wp2_with fail
  refine (HP1.out _ (stitches_grown HV.out HB1.out)).mono ?_
  rintro e w2 ⟨u, kv, rfl, hu, hk, hb2⟩
  have HB2 := Lib.hid (HB1.out.trans (hb2.mono HB1.out.size))
  have HU := Lib.hid hu
  have HK := Lib.hid hk
  obtain ⟨Au, cu, rfl, _, _, _⟩ := hu
  obtain ⟨vl, vf, vb, vo, rfl, hl', hf', hb', ho'⟩ := hk
  obtain ⟨Aq, cq, tq, rfl, _⟩ := hl'
  obtain ⟨Af, cf, tf, rfl, _⟩ := hf'
  obtain ⟨Ab, cb, tb, rfl, _⟩ := hb'
  obtain ⟨Ao, co, rfl, _⟩ := ho'
  clear hb2
  have HX := Lib.hid (Arr.new w2 #[.slice Aq kn.loops.length cq, .slice Af kn.front.length cf, .slice Ab kn.back.length cb, .slice Ao kn.loose.length co, .int .i64 kn.rack] 27)
  have HB3 : Hid (Below w.heap.size w (w2.alloc (.cells #[.slice Aq kn.loops.length cq, .slice Af kn.front.length cf, .slice Ab kn.back.length cb, .slice Ao kn.loose.length co, .int .i64 kn.rack] 27))) := HB2.out.alloc HB2.out.size _
  have HS23 : Hid (Below w2.heap.size w2 (w2.alloc (.cells #[.slice Aq kn.loops.length cq, .slice Af kn.front.length cf, .slice Ab kn.back.length cb, .slice Ao kn.loose.length co, .int .i64 kn.rack] 27))) := (Below.refl _ _).alloc (Nat.le_refl _) _
  go_upto_region 4 with fail
  generalize w2.alloc (.cells #[.slice Aq kn.loops.length cq, .slice Af kn.front.length cf, .slice Ab kn.back.length cb, .slice Ao kn.loose.length co, .int .i64 kn.rack] 27) = w3 at *
  go_wp2_with fail
  refine (turned_any _ (stitches_grown HV.out HB3.out) hb HOK.out).mono ?_
  rintro e w4 ⟨lv, rfl, hlv, hb4⟩
  have HB4 := Lib.hid hb4
  have HL : Hid (Stitches w4 (fun b => b < w4.heap.size) lv (l.map turnS)) := hlv.mono fun i h => h.2
  clear hb4 hlv
  go_wp2_with fail
  refine (HP2.out _ _ HL.out).mono ?_
  rintro e w5 ⟨u2, kv2, rfl, hu, hk, hb5⟩
  have HB5 := Lib.hid (HB4.out.trans (hb5.mono HB4.out.size))
  have HU2 := Lib.hid hu
  obtain ⟨Au2, cu2, rfl, _, _, _⟩ := hu
  obtain ⟨vl2, vf2, vb2, vo2, rfl, hl', hf', hb', ho'⟩ := hk
  have HK2 : Hid (KnR w5 (fun b => b < w5.heap.size) (.agg #[vl2, vb2, vf2, vo2, .int .i64 kn.rack]) kn) := ⟨vl2, vb2, vf2, vo2, rfl, hl', hb', hf', ho'⟩
  obtain ⟨Aq2, cq2, tq2, rfl, _⟩ := hl'
  obtain ⟨Af2, cf2, tf2, rfl, _⟩ := hf'
  obtain ⟨Ab2, cb2, tb2, rfl, _⟩ := hb'
  obtain ⟨Ao2, co2, rfl, _⟩ := ho'
  clear hb5
  have HU1 : Hid (Ints w5 (fun b => b < w5.heap.size) (.slice Au es.length cu) es) := ((HU.out.same fun b hb => HS23.out.block b hb).same fun b hb => HB5.out.block b (Nat.lt_of_lt_of_le hb HS23.out.size)).mono fun b hb => Nat.lt_of_lt_of_le hb (Nat.le_trans HS23.out.size HB5.out.size)
  have hsw : (swapKn kn).loops.length = kn.loops.length ∧ (swapKn kn).front.length = kn.back.length ∧ (swapKn kn).back.length = kn.front.length ∧ (swapKn kn).loose.length = kn.loose.length ∧ (swapKn kn).rack = -kn.rack := ⟨rfl, rfl, rfl, rfl, rfl⟩
  obtain ⟨z1, z2, z3, z4, z5⟩ := hsw
  rw [z1, z4] at HK2
  rw [z2] at HK2
  rw [z3] at HK2
  rw [z1, z2, z3, z4, z5]
  clear z1 z2 z3 z4 z5
  have hng : - -kn.rack = kn.rack := Int.neg_neg _
  have HM := Lib.hid (Arr.new w5 #[.slice Aq2 kn.loops.length cq2, .slice Af2 kn.back.length cf2, .slice Ab2 kn.front.length cb2, .slice Ao2 kn.loose.length co2, .int .i64 (-kn.rack)] 27)
  have HB56 : Hid (Below w5.heap.size w5 (w5.alloc (.cells #[.slice Aq2 kn.loops.length cq2, .slice Af2 kn.back.length cf2, .slice Ab2 kn.front.length cb2, .slice Ao2 kn.loose.length co2, .int .i64 (-kn.rack)] 27))) := (Below.refl _ _).alloc (Nat.le_refl _) _
  go_upto_region 5 with fail
  generalize w5.alloc (.cells #[.slice Aq2 kn.loops.length cq2, .slice Af2 kn.back.length cf2, .slice Ab2 kn.front.length cb2, .slice Ao2 kn.loose.length co2, .int .i64 (-kn.rack)] 27) = w6 at *
  have HX6 : Hid (Arr w6 w2.heap.size 27 [.slice Aq kn.loops.length cq, .slice Af kn.front.length cf, .slice Ab kn.back.length cb, .slice Ao kn.loose.length co, .int .i64 kn.rack]) := (HX.out.of_eq (HB5.out.block _ HX.out.lt)).of_eq (HB56.out.block _ (Nat.lt_of_lt_of_le HX.out.lt HB5.out.size))
  have hg2 : w2.heap.size < w5.heap.size := Nat.lt_of_lt_of_le HX.out.lt HB5.out.size
  have hu1 := HU1.out
  have hu2 := HU2.out
  obtain ⟨A1, c1, e, g1, g2, ra⟩ := hu1
  cases e
  obtain ⟨A2, c2, e, g3, g4, rb⟩ := hu2
  cases e
  have RA := Lib.hid (ra.same (w' := w6) fun b hb => HB56.out.block b hb)
  have RB := Lib.hid (rb.same (w' := w6) fun b hb => HB56.out.block b hb)
  unfold maxLen at g2 g4
  clear ra rb
  go_wp2_with fail
  go_loopg [41] es.length (fun gg ctr wr => ∃ i k : Nat, i ≤ es.length ∧ gg = es.length - i ∧ ctr = .int .i64 i ∧ wr = w6.drewN k)
  case atStart => exact ⟨0, 0, by omega, rfl, rfl, rfl⟩
  case round =>
    obtain ⟨i, k, hi, rfl, rfl, rfl⟩ := hrel
    by_cases hlt : i < es.length
    case pos =>
      obtain ⟨b, o, e, _, hx⟩ := ints_cell RA.out hlt
      cases e
      obtain ⟨b', o', e, _, hy⟩ := ints_cell RB.out hlt
      cases e
      generalize es[i] = x at *
      have hxx : (x != x) = false := by simp
      go_wp2_with (go_quiet (fail))
      go_roundg (es.length - (i + 1))
      case measure => omega
      case rel => exact ⟨i + 1, _, by omega, rfl, by go_num, rfl⟩
    have HM7 := Lib.hid (HM.out.dN k)
    have HX7 := Lib.hid (HX6.out.dN k)
    have HB67 : Hid (Below w5.heap.size w5 (w6.drewN k)) := below_dN HB56.out
    generalize w6.drewN k = w7 at *
    have m1 := HM7.out.cell (k := 1) rfl
    have m2 := HM7.out.cell (k := 2) rfl
    have m4 := HM7.out.cell (k := 4) rfl
    have f1 := HM7.out.free 1
    have f2 := HM7.out.free 2
    have f4 := HM7.out.free 4
    have HM8 := Lib.hid (((HM7.out.set 1 (.slice Ab2 kn.front.length cb2)).set 2 (.slice Af2 kn.back.length cf2)).set 4 (.int .i64 kn.rack))
    have HX8 := Lib.hid (((HX7.out.far (p := ⟨w5.heap.size, 1, none⟩) (by show w2.heap.size ≠ w5.heap.size; omega) (.slice Ab2 kn.front.length cb2)).far (p := ⟨w5.heap.size, 2, none⟩) (by show w2.heap.size ≠ w5.heap.size; omega) (.slice Af2 kn.back.length cf2)).far (p := ⟨w5.heap.size, 4, none⟩) (by show w2.heap.size ≠ w5.heap.size; omega) (.int .i64 kn.rack))
    have HB8 := Lib.hid (((HB67.out.setCell (p := ⟨w5.heap.size, 1, none⟩) (Nat.le_refl _) (.slice Ab2 kn.front.length cb2)).setCell (p := ⟨w5.heap.size, 2, none⟩) (Nat.le_refl _) (.slice Af2 kn.back.length cf2)).setCell (p := ⟨w5.heap.size, 4, none⟩) (Nat.le_refl _) (.int .i64 kn.rack))
    go_upto_region 14 with fail
    generalize ((w7.setCell ⟨w5.heap.size, 1, none⟩ (.slice Ab2 kn.front.length cb2)).setCell ⟨w5.heap.size, 2, none⟩ (.slice Af2 kn.back.length cf2)).setCell ⟨w5.heap.size, 4, none⟩ (.int .i64 kn.rack) = w8 at *
    clear m1 m2 m4 f1 f2 f4
    have a0 := HX8.out.cell (k := 0) rfl
    have a1 := HX8.out.cell (k := 1) rfl
    have a2 := HX8.out.cell (k := 2) rfl
    have a3 := HX8.out.cell (k := 3) rfl
    have a4 := HX8.out.cell (k := 4) rfl
    have b0 := HM8.out.cell (k := 0) rfl
    have b1 := HM8.out.cell (k := 1) rfl
    have b2 := HM8.out.cell (k := 2) rfl
    have b3 := HM8.out.cell (k := 3) rfl
    have b4 := HM8.out.cell (k := 4) rfl
    go_wp2_with fail
    refine (Same_self w8 ((HK.out.same fun b hb => (HS23.out.block b hb)).same fun b hb => ?_) (HK2.out.same fun b hb => HB8.out.block b hb) (fun b hb => ?_) (fun b hb => Nat.lt_of_lt_of_le hb HB8.out.size)).mono ?_
    · exact (HB8.out.block b (by have : b < w2.heap.size := hb; omega)).trans (HB5.out.block b (Nat.lt_of_lt_of_le hb HS23.out.size))
    · have h1 : b < w2.heap.size := hb
      have := HB8.out.size
      omega
    rintro e w9 ⟨rfl, hb9⟩
    have HB9 : Hid (Below w.heap.size w w9) := ((HB3.out.trans (HB5.out.mono HB3.out.size)).trans (HB8.out.mono (Nat.le_trans HB3.out.size HB5.out.size))).trans (hb9.mono (Nat.le_trans (Nat.le_trans HB3.out.size HB5.out.size) HB8.out.size))
    clear hb9
    go_wp2_with fail
    go_ret
    exact ⟨rfl, HB9.out⟩
end Go.Proofs.Ytaacfjeddoekfaa
