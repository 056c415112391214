/- Chapter 12: 'alive' is true; the walk of FabricCounts. -/
import Derived.Test.YtaacfjeddoekfaaFabWalk3
import Derived.Test.YtaacfjeddoekfaaLawTurned
import Derived.Test.YtaacfjeddoekfaaOpenKnit
namespace Go.Proofs.Ytaacfjeddoekfaa
open Go.RowKit
set_option linter.unusedVariables false
set_option linter.unusedSimpArgs false

def twoC : List Sti := [⟨2, 0, 0, 1, 0⟩, ⟨2, 0, 0, 0, 0⟩]
theorem twoC_run : runAF 1 twoC = (0, 0) ∧ (clothA 1 twoC).loops.length = 2 ∧ ((clothA 1 twoC).loops.getD 0 noLop).car = 0 := by decide

set_option maxRecDepth 100000 in
set_option maxHeartbeats 2000000 in
theorem fabAlive (w : World) : Calls Try.prog 18 #[] w fun e w' => e = .returned (.bool true) ∧ Below w.heap.size w w' := by
  have HB : Hid (Below w.heap.size w (w.alloc (.cells #[.int .i64 2, .int .i64 0, .int .i64 0, .int .i64 1, .int .i64 0, .int .i64 2, .int .i64 0, .int .i64 0, .int .i64 0, .int .i64 0] 44))) := (Below.refl _ _).alloc (Nat.le_refl _) _
  have HD : Hid (Stitches (w.alloc (.cells #[.int .i64 2, .int .i64 0, .int .i64 0, .int .i64 1, .int .i64 0, .int .i64 2, .int .i64 0, .int .i64 0, .int .i64 0, .int .i64 0] 44)) (fun b => b < (w.alloc (.cells #[.int .i64 2, .int .i64 0, .int .i64 0, .int .i64 1, .int .i64 0, .int .i64 2, .int .i64 0, .int .i64 0, .int .i64 0, .int .i64 0] 44)).heap.size) (.slice (some ⟨w.heap.size, 0, none⟩) 2 2) twoC) := by
    refine ⟨some ⟨w.heap.size, 0, none⟩, 2, rfl, Nat.le_refl _, by simp [maxLen], rfl, fun _ => ⟨w.heap.size, 0, rfl, by simp, fun j u hu => ?_⟩⟩
    rw [Nat.zero_add]
    exact (Arr.new w _ 44).cell hu
  go_enter Try.func18, Try.ntmps18
  go_wp2_with fail
  refine (Cloth_any 1 _ HD.out).mono ?_
  rintro e w1 ⟨kv, rfl, hk, hb1⟩
  have HB1 := Lib.hid (HB.out.trans (hb1.mono (by simp)))
  clear hb1
  rw [twoC_run.1]
  have e2 := twoC_run.2.1
  have e3 := twoC_run.2.2
  generalize clothA 1 twoC = kn at *
  obtain ⟨vl, vf, vb, vo, rfl, hl', hf', hb', ho'⟩ := hk
  obtain ⟨Aq, cq, tq, rfl, hc1, hc2, hrow, hin⟩ := hl'
  obtain ⟨Af, cf, tf, rfl, _⟩ := hf'
  obtain ⟨Ab, cb, tb, rfl, _⟩ := hb'
  obtain ⟨Ap, cp, rfl, _⟩ := ho'
  obtain ⟨b, o, e, hbb, x1, _⟩ := loop_cells hrow (i := 0) (by omega)
  cases e
  rw [e3] at x1
  have x1' : w1.cell? ⟨b, o, none⟩ = some (.int .i64 0) := by simpa using x1
  rw [e2] at hc1 ⊢
  unfold maxLen at hc2
  clear hrow hin
  have HBF : Hid (∀ o o', Below w.heap.size w ((w1.alloc o).alloc o')) := fun o o' => (HB1.out.alloc HB1.out.size _).alloc (by have := HB1.out.size; simp; omega) _
  go_wp2_with fail
  go_ret
  exact ⟨rfl, HBF.out _ _⟩

/-- what a cloth that is fine has -/
theorem cloth_facts {n : Int} {l : List Sti} (h : (runAF n l).1 = 0) : (∀ c, (l.filter yarnK).countP (fun x => x.c == c) = (cars (clothA n l).loops).count c) ∧ (clothA n l).loops.length ≤ 4096 ∧ ∀ i, i + 1 < (clothA n l).loops.length → ((clothA n l).loops.getD i noLop).car ≤ ((clothA n l).loops.getD (i + 1) noLop).car := by
  obtain ⟨N, rfl, h1, h2, hg, e, _⟩ := runA_ok h
  have ec := (runA_of_good h1 h2 hg).2
  rw [ec]
  refine ⟨fun c => laid_there hg c, ?_, fun i hi => cloth_rise ?_⟩
  · rw [cloth_loops_len]; exact (ok_after h1 h2 l).loops
  · rw [cloth_loops_len] at hi; exact hi
theorem laid_take {l : List Sti} {i : Nat} (h : i < l.length) (c : Int) : ((l.take (i + 1)).filter yarnK).countP (fun x => x.c == c) = ((l.take i).filter yarnK).countP (fun x => x.c == c) + (if (yarnK l[i] && (l[i].c == c)) = true then 1 else 0) := by
  rw [List.take_succ_eq_append_getElem h, List.filter_append, List.countP_append]
  congr 1
  by_cases h1 : yarnK l[i] = true
  · rw [List.filter_cons_of_pos h1, List.filter_nil, List.countP_singleton, h1, Bool.true_and]
  · rw [List.filter_cons_of_neg h1, List.filter_nil]
    have : yarnK l[i] = false := by simpa using h1
    rw [this]
    rfl
theorem laid_le (l : List Sti) (i : Nat) (c : Int) : ((l.take i).filter yarnK).countP (fun x => x.c == c) ≤ i :=
  Nat.le_trans (List.countP_le_length) (Nat.le_trans (List.length_filter_le ..) (List.length_take_le ..))
theorem cars_take {ls : List Lop} {i : Nat} (h : i < ls.length) (c : Int) : (cars (ls.take (i + 1))).count c = (cars (ls.take i)).count c + (if ((ls.getD i noLop).car == c) = true then 1 else 0) := by
  rw [List.take_succ_eq_append_getElem h]
  unfold cars
  rw [List.map_append, List.count_append, List.map_singleton, List.count_singleton]
  rw [List.getD_eq_getElem?_getD, List.getElem?_eq_getElem h]
  rfl

set_option maxRecDepth 100000 in
set_option maxHeartbeats 3000000 in
theorem counts_walk (n : Int) {v : Value} {l : List Sti} (c : Int) {w : World} (hv : Stis w v l) (hb : l.length * 40 ≤ 140737488351232) :
    Calls Try.prog 7 #[.int .i64 n, v, .int .i64 c] w fun e w' => e = .returned (.bool true) ∧ Below w.heap.size w w' := by
  have HV := Lib.hid hv.2
  have hv2 := hv.2
  have HCL : Hid (∀ w v, Stitches w (fun b => b < w.heap.size) v l → Calls Try.prog 19 #[.int .i64 n, v] w fun e w' => ∃ kv, e = .returned (.tuple #[kv, .agg #[.int .i64 (runAF n l).1, .int .i64 (runAF n l).2]]) ∧ KnR w' (fun b => w.heap.size ≤ b ∧ b < w'.heap.size) kv (clothA n l) ∧ Below w.heap.size w w') := fun w v hv => Cloth_any n w hv
  have HFA : Hid ((runAF n l).1 = 0 → _) := fun h => cloth_facts (n := n) (l := l) h
  obtain ⟨A, cc, rfl, h1, h2, hr⟩ := hv2
  clear hr hv
  unfold maxLen at h2
  generalize (runAF n l).1 = f1 at *
  generalize (runAF n l).2 = fi at *
  generalize clothA n l = kn at *
  go_enter Try.func7, Try.ntmps7
  go_wp2_with fail
  refine (fabAlive w).mono ?_
  rintro e w1 ⟨rfl, hb1⟩
  have HB1 := Lib.hid hb1
  clear hb1
  go_wp2_with fail
  refine (HCL.out _ _ (stis_grown HV.out HB1.out)).mono ?_
  rintro e w2 ⟨kv, rfl, hk, hb2⟩
  have HK := Lib.hid hk
  have HB2 := Lib.hid (HB1.out.trans (hb2.mono HB1.out.size))
  clear hb2
  obtain ⟨vl, vf, vb, vo, rfl, hl', hf', hb', ho'⟩ := hk
  obtain ⟨Aq, cq, tq, rfl, hq1, hq2, hrow, hin⟩ := hl'
  obtain ⟨Af, cf, tf, rfl, _⟩ := hf'
  obtain ⟨Ab, cb, tb, rfl, _⟩ := hb'
  obtain ⟨Ap, cp, rfl, _⟩ := ho'
  have HROW := Lib.hid hrow
  have HIN := Lib.hid hin
  clear hrow hin
  unfold maxLen at hq2
  have HX := Lib.hid ((Arr.new w2 #[.slice Aq kn.loops.length cq, .slice Af kn.front.length cf, .slice Ab kn.back.length cb, .slice Ap kn.loose.length cp, .int .i64 kn.rack] 27).alloc (.cells #[.int .i64 f1, .int .i64 fi] 30))
  have HX2 := Lib.hid (arr_new2 w2 (.cells #[.slice Aq kn.loops.length cq, .slice Af kn.front.length cf, .slice Ab kn.back.length cb, .slice Ap kn.loose.length cp, .int .i64 kn.rack] 27) #[.int .i64 f1, .int .i64 fi] 30)
  have HS23 : Hid (Below w2.heap.size w2 ((w2.alloc (.cells #[.slice Aq kn.loops.length cq, .slice Af kn.front.length cf, .slice Ab kn.back.length cb, .slice Ap kn.loose.length cp, .int .i64 kn.rack] 27)).alloc (.cells #[.int .i64 f1, .int .i64 fi] 30))) := ((Below.refl _ _).alloc (Nat.le_refl _) _).alloc (by simp) _
  go_upto_region 4 with fail
  generalize (w2.alloc (.cells #[.slice Aq kn.loops.length cq, .slice Af kn.front.length cf, .slice Ab kn.back.length cb, .slice Ap kn.loose.length cp, .int .i64 kn.rack] 27)).alloc (.cells #[.int .i64 f1, .int .i64 fi] 30) = w3 at *
  have HB3 := Lib.hid (HB2.out.trans (HS23.out.mono HB2.out.size))
  have e0 := HX2.out.cell (k := 0) rfl
  by_cases hz : f1 = 0
  case neg =>
    have hzb : (f1 != 0) = true := by simpa using hz
    clear hz
    go_wp2_with fail
    go_ret
    exact ⟨rfl, HB3.out⟩
  obtain ⟨hlaid, hlen, hrise⟩ := HFA.out hz
  subst hz
  have HLAID := Lib.hid (hlaid c)
  have HRISE := Lib.hid hrise
  clear hlaid hrise HFA
  have HLT : Hid (∀ i (h : i < l.length), ((l.take (i + 1)).filter yarnK).countP (fun x => x.c == c) = ((l.take i).filter yarnK).countP (fun x => x.c == c) + (if (yarnK l[i] && (l[i].c == c)) = true then 1 else 0)) := fun i h => laid_take h c
  have HLE : Hid (∀ i, ((l.take i).filter yarnK).countP (fun x => x.c == c) ≤ i) := fun i => laid_le l i c
  go_wp2_with fail
  clear e0
  go_loopg [9, 28] l.length (fun gg laid ctr wr => ∃ i : Nat, i ≤ l.length ∧ gg = l.length - i ∧ ctr = .int .i64 i ∧ laid = .int .i64 (((l.take i).filter yarnK).countP (fun x => x.c == c) : Nat) ∧ Below w3.heap.size w3 wr)
  case atStart => exact ⟨0, by omega, rfl, rfl, rfl, Below.refl _ _⟩
  case round =>
    obtain ⟨i, hi, rfl, rfl, rfl, hbr⟩ := hrel
    have HB := Lib.hid hbr
    clear hbr
    by_cases hlt : i < l.length
    case pos =>
      have HBW := Lib.hid (HB3.out.trans (HB.out.mono HB3.out.size))
      obtain ⟨b, o, e, hbb, x0, x1, x2, x3, x4⟩ := sti_cells (srow_of (HV.out.same (Same.of_below HBW.out))) hlt
      cases e
      have hle := HLE.out i
      have HS := Lib.hid (HLT.out i hlt)
      generalize l[i] = x at *
      generalize ((l.take i).filter yarnK).countP (fun x => x.c == c) = m at *
      have HBN : Hid (∀ o, Below w3.heap.size w3 (wr.alloc o)) := fun o => HB.out.alloc HB.out.size o
      have HY : Hid (yarnK x = decide (x.d = 1 ∨ x.d = 2)) := rfl
      by_cases d1 : x.d = 1
      · have q1 : (x.d == 1) = true := by simpa using d1
        have hyy : yarnK x = true := by rw [HY.out]; simp [d1]
        by_cases cq : x.c = c
        · have q3 : (x.c == c) = true := by simpa using cq
          have HE : Hid (((l.take (i + 1)).filter yarnK).countP (fun x => x.c == c) = m + 1) := by show _ = _; rw [HS.out, hyy, q3]; rfl
          clear d1 cq hyy
          go_wp2_with fail
          go_roundg (l.length - (i + 1))
          case measure => omega
          case rel => exact ⟨i + 1, by omega, rfl, by go_num, by rw [HE.out]; go_num, HBN.out _⟩
        · have q3 : (x.c == c) = false := by simpa using cq
          have HE : Hid (((l.take (i + 1)).filter yarnK).countP (fun x => x.c == c) = m) := by show _ = _; rw [HS.out, hyy, q3]; rfl
          clear d1 cq hyy
          go_wp2_with fail
          go_roundg (l.length - (i + 1))
          case measure => omega
          case rel => exact ⟨i + 1, by omega, rfl, by go_num, by rw [HE.out], HBN.out _⟩
      · have q1 : (x.d == 1) = false := by simpa using d1
        by_cases d2 : x.d = 2
        · have q2 : (x.d == 2) = true := by simpa using d2
          have hyy : yarnK x = true := by rw [HY.out]; simp [d2]
          by_cases cq : x.c = c
          · have q3 : (x.c == c) = true := by simpa using cq
            have HE : Hid (((l.take (i + 1)).filter yarnK).countP (fun x => x.c == c) = m + 1) := by show _ = _; rw [HS.out, hyy, q3]; rfl
            clear d1 d2 cq hyy
            go_wp2_with fail
            go_roundg (l.length - (i + 1))
            case measure => omega
            case rel => exact ⟨i + 1, by omega, rfl, by go_num, by rw [HE.out]; go_num, HBN.out _⟩
          · have q3 : (x.c == c) = false := by simpa using cq
            have HE : Hid (((l.take (i + 1)).filter yarnK).countP (fun x => x.c == c) = m) := by show _ = _; rw [HS.out, hyy, q3]; rfl
            clear d1 d2 cq hyy
            go_wp2_with fail
            go_roundg (l.length - (i + 1))
            case measure => omega
            case rel => exact ⟨i + 1, by omega, rfl, by go_num, by rw [HE.out], HBN.out _⟩
        · have q2 : (x.d == 2) = false := by simpa using d2
          have hyy : yarnK x = false := by rw [HY.out]; simp [d1, d2]
          have HE : Hid (((l.take (i + 1)).filter yarnK).countP (fun x => x.c == c) = m) := by show _ = _; rw [HS.out, hyy, Bool.false_and]; rfl
          clear d1 d2 hyy
          go_wp2_with fail
          go_roundg (l.length - (i + 1))
          case measure => omega
          case rel => exact ⟨i + 1, by omega, rfl, by go_num, by rw [HE.out], HBN.out _⟩
    obtain rfl : i = l.length := by omega
    have HBR := Lib.hid HB.out
    have HT : Hid (((l.take l.length).filter yarnK).countP (fun x => x.c == c) = (cars kn.loops).count c) := by show _ = _; rw [List.take_length]; exact HLAID.out
    have hle := HLE.out l.length
    rw [HT.out] at hle ⊢
    clear HT HLE HLT hi hlt HLAID
    have HCT : Hid (∀ i (h : i < kn.loops.length), (cars (kn.loops.take (i + 1))).count c = (cars (kn.loops.take i)).count c + (if ((kn.loops.getD i noLop).car == c) = true then 1 else 0)) := fun i h => cars_take h c
    have HCE : Hid ((cars (kn.loops.take kn.loops.length)).count c = (cars kn.loops).count c) := by show _ = _; rw [List.take_length]
    have HCL2 : Hid (∀ i, (cars (kn.loops.take i)).count c ≤ i) := fun i => Nat.le_trans List.count_le_length (by rw [cars_len]; exact List.length_take_le ..)
    generalize (cars kn.loops).count c = tot at *
    have HX3 := Lib.hid (HX.out.of_eq (HBR.out.block _ HX.out.lt))
    have hx0 := HX3.out.cell (k := 0) rfl
    have HR3 : Hid (∀ w', Below wr.heap.size wr w' → Row w' (fun b => w1.heap.size ≤ b ∧ b < w2.heap.size) 2 Aq kn.loops.length (lrow kn.loops tq)) := fun w' hb => (((HROW.out.same fun b hb => HS23.out.block b hb.2).same (w' := wr) fun b hb => HBR.out.block b (Nat.lt_of_lt_of_le hb.2 HS23.out.size)).same fun b hb' => hb.block b (Nat.lt_of_lt_of_le hb'.2 (Nat.le_trans HS23.out.size HBR.out.size))).mono fun b hb => ⟨by have := hb.1; exact this, hb.2⟩
    have HBW := Lib.hid (HB3.out.trans (HBR.out.mono HB3.out.size))
    have hwx : w2.heap.size < wr.heap.size := HX3.out.lt
    clear HB HBR
    go_wp2_with fail
    clear hx0
    generalize hwq : wr = wq at *
    clear hwq
    go_loopg [10, 52] kn.loops.length (fun gg there ctr wr => ∃ i : Nat, i ≤ kn.loops.length ∧ gg = kn.loops.length - i ∧ ctr = .int .i64 i ∧ there = .int .i64 ((cars (kn.loops.take i)).count c : Nat) ∧ Below wq.heap.size wq wr)
    case atStart => exact ⟨0, by omega, rfl, rfl, rfl, Below.refl _ _⟩
    case round =>
      obtain ⟨i, hi, rfl, rfl, rfl, hbr⟩ := hrel
      have HB := Lib.hid hbr
      clear hbr
      by_cases hlt : i < kn.loops.length
      case neg =>
        obtain rfl : i = kn.loops.length := by omega
        rw [HCE.out]
        have HBF := Lib.hid (HBW.out.trans (HB.out.mono HBW.out.size))
        go_wp2_with fail
        go_ret
        exact ⟨rfl, HBF.out⟩
      have hxz := (HX3.out.of_eq (HB.out.block _ HX3.out.lt)).cell (k := 0) rfl
      obtain ⟨b, o, e, hbb, u0, u1⟩ := loop_cells (HR3.out wr HB.out) hlt
      have HE := Lib.hid e
      obtain ⟨At, ct, et, _⟩ := HIN.out i hlt
      rw [et] at u1
      clear et
      have HS := Lib.hid (HCT.out i hlt)
      have hle2 := HCL2.out i
      have HBN : Hid (∀ o, Below wq.heap.size wq (wr.alloc o)) := fun o => HB.out.alloc HB.out.size o
      have hbw : b < wr.heap.size := by have := hbb.2; have := HB.out.size; omega
      have hxw : w2.heap.size < wr.heap.size := by have := HB.out.size; omega
      generalize hcar : (kn.loops.getD i noLop).car = car at *
      generalize (kn.loops.getD i noLop).thr.length = tl at *
      generalize (cars (kn.loops.take i)).count c = m at *
      cases e
      have y0 := (Arr.new wr #[.int .i64 car, .slice At tl ct] 41).cell (k := 0) rfl
      have y1 := (Arr.new wr #[.int .i64 car, .slice At tl ct] 41).cell (k := 1) rfl
      by_cases hi0 : i = 0
      · subst hi0
        have u0' : wr.cell? ⟨b, o, none⟩ = some (.int .i64 car) := by simpa using u0
        have u1' : wr.cell? ⟨b, o + 1, none⟩ = some (.slice At tl ct) := by simpa using u1
        by_cases cq : car = c
        · have q3 : (car == c) = true := by simpa using cq
          have HEE : Hid ((cars (kn.loops.take (0 + 1))).count c = m + 1) := by show _ = _; rw [HS.out, q3]; rfl
          clear cq
          go_wp2_with (go_quiet (fail))
          go_roundg (kn.loops.length - (0 + 1))
          case measure => omega
          case rel => exact ⟨0 + 1, by omega, rfl, by go_num, by rw [HEE.out]; go_num, below_dN (HBN.out _)⟩
        · have q3 : (car == c) = false := by simpa using cq
          have HEE : Hid ((cars (kn.loops.take (0 + 1))).count c = m) := by show _ = _; rw [HS.out, q3]; rfl
          clear cq
          go_wp2_with (go_quiet (fail))
          go_roundg (kn.loops.length - (0 + 1))
          case measure => omega
          case rel => exact ⟨0 + 1, by omega, rfl, by go_num, by rw [HEE.out], below_dN (HBN.out _)⟩
      · obtain ⟨j, rfl⟩ : ∃ j, i = j + 1 := ⟨i - 1, by omega⟩
        have hjl : j < kn.loops.length := by omega
        obtain ⟨b', o', e, _, t0, _⟩ := loop_cells (HR3.out wr HB.out) hjl
        rw [HE.out] at e
        cases e
        have hr := HRISE.out j hlt
        rw [hcar] at hr
        generalize (kn.loops.getD j noLop).car = car0 at *
        have hgt : decide (car0 > car) = false := by rw [decide_eq_false_iff_not]; omega
        have hgt2 : decide (car < car0) = false := by rw [decide_eq_false_iff_not]; omega
        by_cases cq : car = c
        · have q3 : (car == c) = true := by simpa using cq
          have HEE : Hid ((cars (kn.loops.take (j + 1 + 1))).count c = m + 1) := by show _ = _; rw [HS.out, q3]; rfl
          clear cq
          go_wp2_with (go_quiet (fail))
          go_roundg (kn.loops.length - (j + 1 + 1))
          case measure => omega
          case rel => exact ⟨j + 1 + 1, by omega, rfl, by go_num, by rw [HEE.out]; go_num, below_dN (HBN.out _)⟩
        · have q3 : (car == c) = false := by simpa using cq
          have HEE : Hid ((cars (kn.loops.take (j + 1 + 1))).count c = m) := by show _ = _; rw [HS.out, q3]; rfl
          clear cq
          go_wp2_with (go_quiet (fail))
          go_roundg (kn.loops.length - (j + 1 + 1))
          case measure => omega
          case rel => exact ⟨j + 1 + 1, by omega, rfl, by go_num, by rw [HEE.out], below_dN (HBN.out _)⟩
end Go.Proofs.Ytaacfjeddoekfaa
