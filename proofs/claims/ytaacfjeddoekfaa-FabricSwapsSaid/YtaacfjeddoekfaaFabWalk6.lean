/- Chapter 12: the program's May. -/
import Derived.Test.YtaacfjeddoekfaaFabWalk5
namespace Go.Proofs.Ytaacfjeddoekfaa
open Go.RowKit
set_option linter.unusedVariables false
set_option linter.unusedSimpArgs false

/-- two stitches that may be exchanged, as the machine counts -/
def mayW (x y : Sti) (r : Int) : Bool :=
  if x.d = 6 ∨ y.d = 6 then false else if (yarnK x && (yarnK y && (x.c == y.c))) = true then false else (touchW x r).all fun a => !decide (a ∈ touchW y r)

set_option maxRecDepth 100000 in
set_option maxHeartbeats 3000000 in
theorem May_any (x y : Sti) (r : Int) (w : World) : Calls Try.prog 21 #[.agg #[.int .i64 x.d, .int .i64 x.b, .int .i64 x.n, .int .i64 x.c, .int .i64 x.t], .agg #[.int .i64 y.d, .int .i64 y.b, .int .i64 y.n, .int .i64 y.c, .int .i64 y.t], .int .i64 r] w fun e w' => e = .returned (.bool (mayW x y r)) ∧ Below w.heap.size w w' := by
  have HX := Lib.hid ((Arr.new w #[.int .i64 x.d, .int .i64 x.b, .int .i64 x.n, .int .i64 x.c, .int .i64 x.t] 44).alloc (.cells #[.int .i64 y.d, .int .i64 y.b, .int .i64 y.n, .int .i64 y.c, .int .i64 y.t] 44))
  have HY := Lib.hid (arr_new2 w (.cells #[.int .i64 x.d, .int .i64 x.b, .int .i64 x.n, .int .i64 x.c, .int .i64 x.t] 44) #[.int .i64 y.d, .int .i64 y.b, .int .i64 y.n, .int .i64 y.c, .int .i64 y.t] 44)
  have HB1 : Hid (Below w.heap.size w ((w.alloc (.cells #[.int .i64 x.d, .int .i64 x.b, .int .i64 x.n, .int .i64 x.c, .int .i64 x.t] 44)).alloc (.cells #[.int .i64 y.d, .int .i64 y.b, .int .i64 y.n, .int .i64 y.c, .int .i64 y.t] 44))) := ((Below.refl _ _).alloc (Nat.le_refl _) _).alloc (by simp) _
  have HM : Hid (mayW x y r = if x.d = 6 ∨ y.d = 6 then false else if (yarnK x && (yarnK y && (x.c == y.c))) = true then false else (touchW x r).all fun a => !decide (a ∈ touchW y r)) := rfl
  go_enter Try.func21, Try.ntmps21
  go_upto_region 1 with fail
  generalize (w.alloc (.cells #[.int .i64 x.d, .int .i64 x.b, .int .i64 x.n, .int .i64 x.c, .int .i64 x.t] 44)).alloc (.cells #[.int .i64 y.d, .int .i64 y.b, .int .i64 y.n, .int .i64 y.c, .int .i64 y.t] 44) = w1 at *
  have x0 := HX.out.cell (k := 0) rfl
  have x1 := HX.out.cell (k := 1) rfl
  have x2 := HX.out.cell (k := 2) rfl
  have x3 := HX.out.cell (k := 3) rfl
  have x4 := HX.out.cell (k := 4) rfl
  have y0 := HY.out.cell (k := 0) rfl
  have y1 := HY.out.cell (k := 1) rfl
  have y2 := HY.out.cell (k := 2) rfl
  have y3 := HY.out.cell (k := 3) rfl
  have y4 := HY.out.cell (k := 4) rfl
  by_cases dx : x.d = 6
  · have q : (x.d == 6) = true := by simpa using dx
    have HE : Hid (mayW x y r = false) := by show _ = _; rw [HM.out, if_pos (.inl dx)]
    clear dx HM
    go_wp2_with fail
    go_ret
    refine ⟨?_, HB1.out⟩
    rw [HE.out]; rfl
  have q1 : (x.d == 6) = false := by simpa using dx
  by_cases dy : y.d = 6
  · have q : (y.d == 6) = true := by simpa using dy
    have HE : Hid (mayW x y r = false) := by show _ = _; rw [HM.out, if_pos (.inr dy)]
    clear dx dy HM
    go_wp2_with fail
    go_ret
    refine ⟨?_, HB1.out⟩
    rw [HE.out]; rfl
  have q2 : (y.d == 6) = false := by simpa using dy
  have HM2 : Hid (mayW x y r = if (yarnK x && (yarnK y && (x.c == y.c))) = true then false else (touchW x r).all fun a => !decide (a ∈ touchW y r)) := by
    show _ = _; rw [HM.out, if_neg (by rintro (h | h); exact dx h; exact dy h)]
  clear dx dy HM
  go_upto_region 3 with fail
  go_cut [29] from 17 to 29 (fun c wx => c = .bool (yarnK x && (yarnK y && (x.c == y.c))) ∧ Below w1.heap.size w1 wx)
  case first =>
    cases hyx : yarnK x
    · go_wp2_with fail
      refine (yarn_any x w1).mono ?_
      rintro e w2 ⟨rfl, hb2⟩
      have HB2 := Lib.hid hb2
      rw [hyx]
      clear hb2
      go_wp2_with fail
      go_meet
      exact ⟨by rw [hyx]; rfl, HB2.out⟩
    · go_wp2_with fail
      refine (yarn_any x w1).mono ?_
      rintro e w2 ⟨rfl, hb2⟩
      have HB2 := Lib.hid hb2
      have HY2 := Lib.hid (HY.out.of_eq (hb2.block _ HY.out.lt))
      have HX2 := Lib.hid (HX.out.of_eq (hb2.block _ HX.out.lt))
      rw [hyx]
      clear hb2 x0 x1 x2 x3 x4 y0 y1 y2 y3 y4
      have y0 := HY2.out.cell (k := 0) rfl
      have y1 := HY2.out.cell (k := 1) rfl
      have y2 := HY2.out.cell (k := 2) rfl
      have y3 := HY2.out.cell (k := 3) rfl
      have y4 := HY2.out.cell (k := 4) rfl
      cases hyy : yarnK y
      · go_wp2_with fail
        refine (yarn_any y w2).mono ?_
        rintro e w3 ⟨rfl, hb3⟩
        have HB3 := Lib.hid (HB2.out.trans (hb3.mono HB2.out.size))
        rw [hyy]
        clear hb3 y0 y1 y2 y3 y4
        go_wp2_with fail
        go_meet
        exact ⟨by rw [hyx, hyy]; rfl, HB3.out⟩
      · go_wp2_with fail
        refine (yarn_any y w2).mono ?_
        rintro e w3 ⟨rfl, hb3⟩
        have HB3 := Lib.hid (HB2.out.trans (hb3.mono HB2.out.size))
        have HY3 := Lib.hid (HY2.out.of_eq (hb3.block _ HY2.out.lt))
        have HX3 := Lib.hid (HX2.out.of_eq (hb3.block _ HX2.out.lt))
        rw [hyy]
        clear hb3 y0 y1 y2 y3 y4
        have x3 := HX3.out.cell (k := 3) rfl
        have y3 := HY3.out.cell (k := 3) rfl
        go_wp2_with fail
        go_meet
        exact ⟨by rw [hyx, hyy]; rfl, HB3.out⟩
  case rest =>
    obtain ⟨rfl, hbx⟩ := hcut
    have HBX := Lib.hid hbx
    have HX3 := Lib.hid (HX.out.of_eq (hbx.block _ HX.out.lt))
    have HY3 := Lib.hid (HY.out.of_eq (hbx.block _ HY.out.lt))
    have HBW := Lib.hid (HB1.out.trans (hbx.mono HB1.out.size))
    clear hbx x0 x1 x2 x3 x4 y0 y1 y2 y3 y4
    cases hyc : (yarnK x && (yarnK y && (x.c == y.c)))
    case true =>
      have HE : Hid (mayW x y r = false) := by show _ = _; rw [HM2.out, if_pos hyc]
      clear hyc HM2
      go_wp2_with fail
      go_ret
      refine ⟨?_, HBW.out⟩
      rw [HE.out]; rfl
    have HM3 : Hid (mayW x y r = (touchW x r).all fun a => !decide (a ∈ touchW y r)) := by show _ = _; rw [HM2.out, if_neg (by rw [hyc]; exact Bool.false_ne_true)]
    clear hyc HM2
    have x0 := HX3.out.cell (k := 0) rfl
    have x1 := HX3.out.cell (k := 1) rfl
    have x2 := HX3.out.cell (k := 2) rfl
    have x3 := HX3.out.cell (k := 3) rfl
    have x4 := HX3.out.cell (k := 4) rfl
    go_wp2_with fail
    refine (touched_any x r wc).mono ?_
    rintro e wA ⟨v, rfl, hv, hbA⟩
    have HBA := Lib.hid (HBW.out.trans (hbA.mono HBW.out.size))
    have HYA := Lib.hid (HY3.out.of_eq (hbA.block _ HY3.out.lt))
    obtain ⟨A, c, rfl, h1, h2, hr⟩ := hv
    have HR := Lib.hid hr
    unfold maxLen at h2
    clear hr hbA x0 x1 x2 x3 x4
    generalize touchW x r = L at *
    have HTY : Hid (∀ w : World, Calls Try.prog 39 #[.agg #[.int .i64 y.d, .int .i64 y.b, .int .i64 y.n, .int .i64 y.c, .int .i64 y.t], .int .i64 r] w fun e w' => ∃ v, e = .returned v ∧ Ndls w' (fun b => w.heap.size ≤ b ∧ b < w'.heap.size) v (touchW y r) ∧ Below w.heap.size w w') := fun w => touched_any y r w
    generalize touchW y r = M at *
    go_wp2_with fail
    go_loopg [34] L.length (fun gg ctr wr => ∃ i : Nat, i ≤ L.length ∧ gg = L.length - i ∧ ctr = .int .i64 i ∧ Below wA.heap.size wA wr ∧ ∀ j (h : j < L.length), j < i → L[j] ∉ M)
    case atStart => exact ⟨0, by omega, rfl, rfl, Below.refl _ _, fun j h hj => by omega⟩
    case round =>
      obtain ⟨i, hi, rfl, rfl, hb, hall⟩ := hrel
      have HB := Lib.hid hb
      have HALL := Lib.hid hall
      clear hb hall
      by_cases hlt : i < L.length
      case neg =>
        obtain rfl : i = L.length := by omega
        have HE : Hid (mayW x y r = true) := by
          show _ = _
          rw [HM3.out, List.all_eq_true]
          intro a ha
          obtain ⟨j, hj, rfl⟩ := List.getElem_of_mem ha
          rw [decide_eq_false (HALL.out j hj hj)]; rfl
        have HBF := Lib.hid (HBA.out.trans (HB.out.mono HBA.out.size))
        clear HM3
        go_wp2_with fail
        go_ret
        refine ⟨?_, HBF.out⟩
        rw [HE.out]; rfl
      obtain ⟨b, o, e, hbb, x0, x1⟩ := ndl_cells (HR.out.same (w' := wr) fun b hb => HB.out.block b hb.2) hlt
      cases e
      have HI : Hid (∀ a, a = L[i] → a ∈ M → mayW x y r = false) := fun a e h => by
        rw [HM3.out, List.all_eq_false]
        refine ⟨a, by rw [e]; exact List.getElem_mem _, ?_⟩
        rw [decide_eq_true h]; simp
      have HN : Hid (∀ a, a = L[i] → a ∉ M → ∀ j (h : j < L.length), j < i + 1 → L[j] ∉ M) := fun x e h j hj hji => by
        rcases Nat.lt_or_eq_of_le (Nat.le_of_lt_succ hji) with h1 | h1
        · exact HALL.out j hj h1
        · subst h1; rw [← e]; exact h
      generalize L[i] = a at *
      have HI2 := Lib.hid (HI.out a rfl)
      have HN2 := Lib.hid (HN.out a rfl)
      clear HI HN HM3
      have HY4 := Lib.hid ((HYA.out.of_eq (HB.out.block _ HYA.out.lt)).alloc (.cells #[.int .i64 a.1, .int .i64 a.2] 71))
      have HA4 := Lib.hid (Arr.new wr #[.int .i64 a.1, .int .i64 a.2] 71)
      have HB4 : Hid (Below wA.heap.size wA (wr.alloc (.cells #[.int .i64 a.1, .int .i64 a.2] 71))) := HB.out.alloc HB.out.size _
      go_upto_region 8 with fail
      generalize wr.alloc (.cells #[.int .i64 a.1, .int .i64 a.2] 71) = w4 at *
      have y0 := HY4.out.cell (k := 0) rfl
      have y1 := HY4.out.cell (k := 1) rfl
      have y2 := HY4.out.cell (k := 2) rfl
      have y3 := HY4.out.cell (k := 3) rfl
      have y4 := HY4.out.cell (k := 4) rfl
      have z0 := HA4.out.cell (k := 0) rfl
      have z1 := HA4.out.cell (k := 1) rfl
      have HBd : Hid (Below w4.heap.size w4 w4.drew) := below_dN (n := 1) (Below.refl _ _)
      go_cut [34, 42] from 34 to 43 (fun ct v wx => ct = .int .i64 i ∧ v = .bool (decide (a ∈ M)) ∧ Below wA.heap.size wA wx)
      case first =>
        go_region_held3 (fun w' => w'.cell? ⟨w.heap.size + 1, 0, none⟩ = some (.int .i64 y.d) ∧ w'.cell? ⟨w.heap.size + 1, 1, none⟩ = some (.int .i64 y.b) ∧ w'.cell? ⟨w.heap.size + 1, 2, none⟩ = some (.int .i64 y.n) ∧ w'.cell? ⟨w.heap.size + 1, 3, none⟩ = some (.int .i64 y.c) ∧ w'.cell? ⟨w.heap.size + 1, 4, none⟩ = some (.int .i64 y.t) ∧ w'.cell? ⟨wr.heap.size, 0, none⟩ = some (.int .i64 a.1) ∧ w'.cell? ⟨wr.heap.size, 1, none⟩ = some (.int .i64 a.2)) (go_keep)
          (first
            | (go_at_call 39
               refine (HTY.out _).mono ?_
               rintro e w6 ⟨v, rfl, hv, hb⟩
               have HB6 : Hid (Below w4.heap.size w4 w6) := HBd.out.trans (hb.mono (Nat.le_refl _))
               have HV6 := Lib.hid hv
               have HY6 := Lib.hid (HY4.out.of_eq (HB6.out.block _ HY4.out.lt))
               have HA6 := Lib.hid (HA4.out.of_eq (HB6.out.block _ HA4.out.lt))
               obtain ⟨A6, c6, rfl, _, _, _⟩ := hv
               have p0 := HY6.out.cell (k := 0) rfl
               have p1 := HY6.out.cell (k := 1) rfl
               have p2 := HY6.out.cell (k := 2) rfl
               have p3 := HY6.out.cell (k := 3) rfl
               have p4 := HY6.out.cell (k := 4) rfl
               have s0 := HA6.out.cell (k := 0) rfl
               have s1 := HA6.out.cell (k := 1) rfl
               clear hb)
            | (go_at_call 40
               refine (containsN_any a w6 HV6.out (fun b hb => hb.2)).mono ?_
               rintro e w7 ⟨rfl, hb⟩
               have HB7 : Hid (Below wA.heap.size wA w7) := (HB4.out.trans (HB6.out.mono HB4.out.size)).trans (hb.mono (Nat.le_trans HB4.out.size HB6.out.size))
               have HY7 := Lib.hid (HY6.out.of_eq (hb.block _ HY6.out.lt))
               have HA7 := Lib.hid (HA6.out.of_eq (hb.block _ HA6.out.lt))
               have t0 := HY7.out.cell (k := 0) rfl
               have t1 := HY7.out.cell (k := 1) rfl
               have t2 := HY7.out.cell (k := 2) rfl
               have t3 := HY7.out.cell (k := 3) rfl
               have t4 := HY7.out.cell (k := 4) rfl
               have r0 := HA7.out.cell (k := 0) rfl
               have r1 := HA7.out.cell (k := 1) rfl
               clear hb))
        all_goals
          go_wp2_with fail
          go_meet
          exact ⟨rfl, rfl, HB7.out⟩
      case rest =>
        obtain ⟨rfl, rfl, hbx⟩ := hcut
        have HBX := Lib.hid hbx
        clear hbx x0 x1 y0 y1 y2 y3 y4 z0 z1
        by_cases hm : a ∈ M
        · have HE := Lib.hid (HI2.out hm)
          have HBF := Lib.hid (HBA.out.trans (HBX.out.mono HBA.out.size))
          rw [decide_eq_true hm]
          clear hm
          go_wp2_with fail
          go_ret
          refine ⟨?_, HBF.out⟩
          rw [HE.out]; rfl
        · have HN3 := Lib.hid (HN2.out hm)
          rw [decide_eq_false hm]
          clear hm
          go_wp2_with fail
          go_roundg (L.length - (i + 1))
          case measure => omega
          case rel => exact ⟨i + 1, by omega, rfl, by go_num, HBX.out, HN3.out⟩
end Go.Proofs.Ytaacfjeddoekfaa
