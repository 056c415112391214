/- Chapter 11: the walk of KnitSkips. -/
import Derived.Test.YtaacfjeddoekfaaLawTurned2
namespace Go.Proofs.Ytaacfjeddoekfaa
open Go.RowKit
set_option linter.unusedVariables false
set_option linter.unusedSimpArgs false

theorem run_of_fine {N : Nat} {l : List Sti} (h : ∀ e ∈ errsK N zeroK l, e = 0) : runF N l = (0, 0) ∧ runK N l = told N (afterK N l) := by
  have := firstBad_none h
  unfold runF runK
  rw [this]
  exact ⟨rfl, rfl⟩
theorem after_kept (N : Nat) (l : List Sti) : afterK N (keptK N zeroK l) = afterK N l := kept_fold N l zeroK

set_option maxRecDepth 100000 in
set_option maxHeartbeats 4000000 in
theorem skips_walk (n : Int) {v : Value} {l : List Sti} {w : World} (hv : Stis w v l) (hb : l.length * 40 ≤ 140737488351232) :
    Calls Try.prog 6 #[.int .i64 n, v] w fun e w' => e = .returned (.bool true) ∧ Below w.heap.size w w' := by
  have HV := Lib.hid hv.2
  have hv2 := hv.2
  by_cases hn : 1 ≤ n ∧ n ≤ 128
  case neg =>
    obtain ⟨A, c, rfl, h1, h2, hr⟩ := hv2
    clear hr hv
    have hn' : n < 1 ∨ 128 < n := by omega
    have HN := Lib.hid hn'
    clear hn hn'
    go_enter Try.func6, Try.ntmps6
    go_wp2_with fail
    refine (knitAlive w).mono ?_
    rintro e w1 ⟨rfl, hb1⟩
    have HB1 := Lib.hid hb1
    clear hb1
    go_wp2_with fail
    refine (plainKnit_bad n HN.out _ (stitches_grown HV.out HB1.out)).mono ?_
    rintro e w2 ⟨rfl, hb2⟩
    have HB2 : Hid (∀ o, Below w.heap.size w (w2.alloc o)) := fun o => (HB1.out.trans (hb2.mono HB1.out.size)).alloc (Nat.le_trans HB1.out.size hb2.size) o
    clear hb2
    go_wp2_with fail
    go_ret
    exact ⟨rfl, HB2.out _⟩
  obtain ⟨N, rfl⟩ : ∃ N : Nat, n = (N : Int) := ⟨n.toNat, by omega⟩
  have hN1 : 1 ≤ N := by omega
  have hN2 : N ≤ 128 := by omega
  obtain ⟨A, c, rfl, h1, h2, hr⟩ := hv2
  clear hr hv hn
  unfold maxLen at h2
  have HEL : Hid ((errsK N zeroK l).length = l.length) := errsK_len N l zeroK
  have hnl : ((l.length : Int) != (l.length : Int)) = false := by simp
  go_enter Try.func6, Try.ntmps6
  go_wp2_with fail
  refine (knitAlive w).mono ?_
  rintro e w1 ⟨rfl, hb1⟩
  have HB1 := Lib.hid hb1
  clear hb1
  go_wp2_with fail
  refine (plainKnit_ok N hN1 hN2 _ (stitches_grown HV.out HB1.out) (by omega)).mono ?_
  rintro e w2 ⟨u, kv, rfl, hu, hk, hb2⟩
  have HB2 := Lib.hid (HB1.out.trans (hb2.mono HB1.out.size))
  have HK := Lib.hid hk
  obtain ⟨Au, cu, rfl, g1, g2, ra⟩ := hu
  rw [HEL.out] at g1 ⊢
  unfold maxLen at g2
  generalize hkn : told N (afterK N l) = kn at *
  have HKN := Lib.hid hkn
  clear hkn
  obtain ⟨vl, vf, vb, vo, rfl, hl', hf', hb', ho'⟩ := hk
  obtain ⟨Aq, cq, tq, rfl, _⟩ := hl'
  obtain ⟨Af, cf, tf, rfl, _⟩ := hf'
  obtain ⟨Ab, cb, tb, rfl, _⟩ := hb'
  obtain ⟨Ao, co, rfl, _⟩ := ho'
  have HS23 : Hid (Below w2.heap.size w2 (w2.alloc (.cells #[.slice Aq kn.loops.length cq, .slice Af kn.front.length cf, .slice Ab kn.back.length cb, .slice Ao kn.loose.length co, .int .i64 kn.rack] 27))) := (Below.refl _ _).alloc (Nat.le_refl _) _
  have RA := Lib.hid (ra.same fun b hb => HS23.out.block b hb)
  have HX := Lib.hid (Arr.new w2 #[.slice Aq kn.loops.length cq, .slice Af kn.front.length cf, .slice Ab kn.back.length cb, .slice Ao kn.loose.length co, .int .i64 kn.rack] 27)
  have HB3 : Hid (Below w.heap.size w (w2.alloc (.cells #[.slice Aq kn.loops.length cq, .slice Af kn.front.length cf, .slice Ab kn.back.length cb, .slice Ao kn.loose.length co, .int .i64 kn.rack] 27))) := HB2.out.alloc HB2.out.size _
  clear hb2 ra
  go_upto_region 4 with fail
  generalize w2.alloc (.cells #[.slice Aq kn.loops.length cq, .slice Af kn.front.length cf, .slice Ab kn.back.length cb, .slice Ao kn.loose.length co, .int .i64 kn.rack] 27) = w3 at *
  go_wp2_with fail
  go_loopg [8, 31] l.length (fun gg out ctr wr => ∃ i : Nat, i ≤ l.length ∧ gg = l.length - i ∧ ctr = .int .i64 i ∧ wr.ownsRow w3.heap.size 44 5 out (keptK N zeroK (l.take i)).length ((keptK N zeroK (l.take i)).flatMap Sti.cells) ∧ Below w3.heap.size w3 wr)
  case atStart => exact ⟨0, by omega, rfl, rfl, World.ownsRow_nil _ _ _ _, Below.refl _ _⟩
  case round =>
    obtain ⟨i, hi, rfl, rfl, ho, hbr⟩ := hrel
    have HO := Lib.hid ho
    have HB := Lib.hid hbr
    have HBW := Lib.hid (HB3.out.trans (hbr.mono HB3.out.size))
    clear hbr
    by_cases hlt : i < l.length
    case neg =>
      obtain rfl : i = l.length := by omega
      rw [List.take_length] at HO ho
      have HST : Hid (Stitches wr (fun b => b < wr.heap.size) u8 (keptK N zeroK l)) := (Stitches.of_own HO.out).mono fun b hb => hb.2
      obtain ⟨HR1, HR2⟩ := run_of_fine (kept_errs N l zeroK)
      rw [after_kept, HKN.out] at HR2
      have HRF := Lib.hid HR1
      have HRK := Lib.hid HR2
      have HXr := Lib.hid (HX.out.of_eq (HB.out.block _ HX.out.lt))
      clear HR1 HR2 HO
      obtain ⟨Ak, ck, rfl, _, _⟩ := own_form ho
      clear ho
      go_wp2_with fail
      refine (Run_ok N hN1 hN2 _ HST.out).mono ?_
      rintro e w4 ⟨kv2, rfl, hk2, hb4⟩
      rw [HRF.out]
      rw [HRK.out] at hk2
      have HB4 := Lib.hid hb4
      have HK2 := Lib.hid hk2
      obtain ⟨vl2, vf2, vb2, vo2, rfl, hl', hf', hb', ho'⟩ := hk2
      obtain ⟨Aq2, cq2, tq2, rfl, _⟩ := hl'
      obtain ⟨Af2, cf2, tf2, rfl, _⟩ := hf'
      obtain ⟨Ab2, cb2, tb2, rfl, _⟩ := hb'
      obtain ⟨Ao2, co2, rfl, _⟩ := ho'
      have HXs := Lib.hid (HXr.out.of_eq (hb4.block _ HXr.out.lt))
      clear hb4
      have HY := Lib.hid ((Arr.new w4 #[.slice Aq2 kn.loops.length cq2, .slice Af2 kn.front.length cf2, .slice Ab2 kn.back.length cb2, .slice Ao2 kn.loose.length co2, .int .i64 kn.rack] 27).alloc (.cells #[.int .i64 0, .int .i64 0] 30))
      have HY2 := Lib.hid (arr_new2 w4 (.cells #[.slice Aq2 kn.loops.length cq2, .slice Af2 kn.front.length cf2, .slice Ab2 kn.back.length cb2, .slice Ao2 kn.loose.length co2, .int .i64 kn.rack] 27) #[.int .i64 0, .int .i64 0] 30)
      have HB45 : Hid (Below w4.heap.size w4 ((w4.alloc (.cells #[.slice Aq2 kn.loops.length cq2, .slice Af2 kn.front.length cf2, .slice Ab2 kn.back.length cb2, .slice Ao2 kn.loose.length co2, .int .i64 kn.rack] 27)).alloc (.cells #[.int .i64 0, .int .i64 0] 30))) := ((Below.refl _ _).alloc (Nat.le_refl _) _).alloc (by simp) _
      go_upto_region 16 with fail
      generalize (w4.alloc (.cells #[.slice Aq2 kn.loops.length cq2, .slice Af2 kn.front.length cf2, .slice Ab2 kn.back.length cb2, .slice Ao2 kn.loose.length co2, .int .i64 kn.rack] 27)).alloc (.cells #[.int .i64 0, .int .i64 0] 30) = w5 at *
      have HXt := Lib.hid (HXs.out.of_eq (HB45.out.block _ HXs.out.lt))
      have a0 := HXt.out.cell (k := 0) rfl
      have a1 := HXt.out.cell (k := 1) rfl
      have a2 := HXt.out.cell (k := 2) rfl
      have a3 := HXt.out.cell (k := 3) rfl
      have a4 := HXt.out.cell (k := 4) rfl
      have b0 := HY.out.cell (k := 0) rfl
      have b1 := HY.out.cell (k := 1) rfl
      have b2 := HY.out.cell (k := 2) rfl
      have b3 := HY.out.cell (k := 3) rfl
      have b4 := HY.out.cell (k := 4) rfl
      have d0 := HY2.out.cell (k := 0) rfl
      have d1 := HY2.out.cell (k := 1) rfl
      have s23 := HS23.out.size
      have s3r := HB.out.size
      have sr4 := HB4.out.size
      have s45 := HB45.out.size
      go_wp2_with fail
      refine (Same_self w5 (S := fun b => b < w2.heap.size) (T := fun b => b < w4.heap.size) (HK.out.same fun b hb => ?_) (HK2.out.same fun b hb => HB45.out.block b hb) (fun b hb => by have : b < w2.heap.size := hb; omega) (fun b hb => by have : b < w4.heap.size := hb; omega)).mono ?_
      · have hb : b < w2.heap.size := hb
        exact (((HB45.out.block b (by omega)).trans (HB4.out.block b (by omega))).trans (HB.out.block b (by omega))).trans (HS23.out.block b hb)
      rintro e w9 ⟨rfl, hb9⟩
      have HB9 : Hid (Below w.heap.size w w9) := ((HBW.out.trans (HB4.out.mono HBW.out.size)).trans (HB45.out.mono (Nat.le_trans HBW.out.size sr4))).trans (hb9.mono (Nat.le_trans HBW.out.size (Nat.le_trans sr4 s45)))
      clear hb9
      go_wp2_with fail
      go_ret
      exact ⟨rfl, HB9.out⟩
    clear ho
    obtain ⟨b, o, e, hbb, x0, x1, x2, x3, x4⟩ := sti_cells (srow_of (HV.out.same (Same.of_below HBW.out))) hlt
    cases e
    have hbw : b < wr.heap.size := Nat.lt_of_lt_of_le hbb HBW.out.size
    have hle : i < (errsK N zeroK l).length := by rw [HEL.out]; exact hlt
    obtain ⟨b', o', e, hb2, y0⟩ := ints_cell (RA.out.same (w' := wr) fun b hb => HB.out.block b (Nat.lt_of_lt_of_le hb HS23.out.size)) hle
    cases e
    have hbw2 : b' < wr.heap.size := Nat.lt_of_lt_of_le hb2 (Nat.le_trans HS23.out.size HB.out.size)
    have hee : (errsK N zeroK l)[i] = wrongK N (afterK N (l.take i)) l[i] := by
      have := errsK_get (N := N) hlt
      rw [List.getElem?_eq_getElem hle] at this
      exact Option.some.inj this
    rw [hee] at y0
    have HS : Hid (keptK N zeroK (l.take (i + 1)) = keptK N zeroK (l.take i) ++ (if wrongK N (afterK N (l.take i)) l[i] = 0 then [l[i]] else [])) := kept_take hlt
    have hkl : (keptK N zeroK (l.take i)).length ≤ i := by have := kept_len N (l.take i) zeroK; rw [List.length_take] at this; omega
    clear hee
    generalize l[i] = x at *
    generalize wrongK N (afterK N (l.take i)) x = er at *
    generalize keptK N zeroK (l.take i) = L at *
    have HO2 := Lib.hid (own_al HO.out (.cells #[.int .i64 x.d, .int .i64 x.b, .int .i64 x.n, .int .i64 x.c, .int .i64 x.t] 44))
    have HB2' := Lib.hid (HB.out.alloc HB.out.size (.cells #[.int .i64 x.d, .int .i64 x.b, .int .i64 x.n, .int .i64 x.c, .int .i64 x.t] 44))
    by_cases hz : er = 0
    · have HE : Hid (keptK N zeroK (l.take (i + 1)) = L ++ [x]) := by show _ = _; rw [HS.out, if_pos hz]
      subst hz
      have z0 := (Arr.new wr #[.int .i64 x.d, .int .i64 x.b, .int .i64 x.n, .int .i64 x.c, .int .i64 x.t] 44).cell (k := 0) rfl
      have z1 := (Arr.new wr #[.int .i64 x.d, .int .i64 x.b, .int .i64 x.n, .int .i64 x.c, .int .i64 x.t] 44).cell (k := 1) rfl
      have z2 := (Arr.new wr #[.int .i64 x.d, .int .i64 x.b, .int .i64 x.n, .int .i64 x.c, .int .i64 x.t] 44).cell (k := 2) rfl
      have z3 := (Arr.new wr #[.int .i64 x.d, .int .i64 x.b, .int .i64 x.n, .int .i64 x.c, .int .i64 x.t] 44).cell (k := 3) rfl
      have z4 := (Arr.new wr #[.int .i64 x.d, .int .i64 x.b, .int .i64 x.n, .int .i64 x.c, .int .i64 x.t] 44).cell (k := 4) rfl
      go_upto_region 13 with (go_quiet (fail))
      generalize hw4 : wr.alloc (.cells #[.int .i64 x.d, .int .i64 x.b, .int .i64 x.n, .int .i64 x.c, .int .i64 x.t] 44) = w4 at *
      clear hw4
      go_wp2_with (at_builtin
                   refine app_el T22 [.int .i64 x.d, .int .i64 x.b, .int .i64 x.n, .int .i64 x.c, .int .i64 x.t] HO2.out HB2'.out (Nat.le_refl _) rfl rfl rfl rfl rfl ?_ ?_ ?_
                   rotate_right
                   intro v1 w5 hown1 hb1 hg1 ho1
                   have HF := Lib.hid (And.intro hown1 hb1)
                   clear hown1 hb1 hg1 ho1)
      case refine_1 => simp [Value.oneCell']
      case refine_2 => omega
      go_roundg (l.length - (i + 1))
      case measure => omega
      case rel => exact ⟨i + 1, by omega, rfl, by go_num, by rw [HE.out, List.length_append, List.length_singleton, List.flatMap_append]; simpa [Sti.cells] using HF.out.1, HF.out.2⟩
    · have HE : Hid (keptK N zeroK (l.take (i + 1)) = L) := by show _ = _; rw [HS.out, if_neg hz, List.append_nil]
      have hzb : (er == 0) = false := by simpa using hz
      clear hz
      go_wp2_with fail
      go_roundg (l.length - (i + 1))
      case measure => omega
      case rel => exact ⟨i + 1, by omega, rfl, by go_num, by rw [HE.out]; exact HO2.out, HB2'.out⟩
end Go.Proofs.Ytaacfjeddoekfaa
