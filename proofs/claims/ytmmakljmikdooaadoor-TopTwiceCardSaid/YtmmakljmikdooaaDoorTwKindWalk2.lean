import Derived.Test.YtmmakljmikdooaaDoorTw11
/- Chapter 4: the program's shortest. -/
namespace Go.Proofs.YtmmakljmikdooaaDoor
open Go.RowKit
set_option linter.unusedVariables false
set_option linter.unusedSimpArgs false

theorem short_hit {s u v : Pt} {n : Nat} (hn : 1 ≤ n) (h : fitF s u v n = true) : shortF s u v n = divP v n := by
  obtain ⟨k, rfl⟩ : ∃ k, n = k + 1 := ⟨n - 1, by omega⟩
  unfold shortF
  rw [if_pos h]
theorem short_miss {s u v : Pt} {n : Nat} (hn : 1 ≤ n) (h : fitF s u v n = false) : shortF s u v n = shortF s u v (n - 1) := by
  obtain ⟨k, rfl⟩ : ∃ k, n = k + 1 := ⟨n - 1, by omega⟩
  rw [Nat.add_sub_cancel]
  conv => lhs; unfold shortF
  rw [if_neg (by rw [h]; simp)]
set_option maxRecDepth 100000 in
set_option maxHeartbeats 4000000 in
theorem shortest_any {S : Nat → Prop} (s u a b : Pt) (A : Option Addr) (c : Nat) (w : World) (hr : Row w S 2 A 2 [.int .i64 a.x, .int .i64 a.y, .int .i64 b.x, .int .i64 b.y]) (hS : ∀ b, S b → b < w.heap.size)
    (ha : a.le 1000) (hb : b.le 1000) (hs : s.le 1000) (hu : u.le 1000) (hsx : 1 ≤ s.x) (huy : 1 ≤ u.y) (hv : isZ (lineF a b) = false) (hh : hasF s u (lineF a b) = true) :
    Calls Tryd.prog 64 #[.agg #[.int .i64 s.x, .int .i64 s.y, .int .i64 u.x, .int .i64 u.y], .slice A 2 c] w fun e w' => e = .returned (shortF s u (lineF a b) (lenF (lineF a b))).val ∧ Below w.heap.size w w' := by
  obtain ⟨R, hR⟩ : ∃ R, shortF s u (lineF a b) (lenF (lineF a b)) = R := ⟨_, rfl⟩
  rw [hR]
  have HRR := Lib.hid hR
  clear hR
  obtain ⟨g, o, rfl, hg, hc⟩ := hr.at_ (by omega)
  have HS := Lib.hid (hS g hg)
  have c0 : w.cell? ⟨g, o, none⟩ = some (.int .i64 a.x) := hc 0 _ rfl
  have c1 : w.cell? ⟨g, o + 1, none⟩ = some (.int .i64 a.y) := hc 1 _ rfl
  have c2 : w.cell? ⟨g, o + 2, none⟩ = some (.int .i64 b.x) := hc 2 _ rfl
  have c3 : w.cell? ⟨g, o + 3, none⟩ = some (.int .i64 b.y) := hc 3 _ rfl
  clear hc hr hS
  have HB0 := Lib.hid (al2 w (.cells #[.int .i64 s.x, .int .i64 s.y, .int .i64 u.x, .int .i64 u.y] 80) (.cells #[.int .i64 0, .int .i64 0] 78))
  have HX := Lib.hid ((Arr.new w #[.int .i64 s.x, .int .i64 s.y, .int .i64 u.x, .int .i64 u.y] 80).alloc (.cells #[.int .i64 0, .int .i64 0] 78))
  have HY := Lib.hid (arr_new2 w (.cells #[.int .i64 s.x, .int .i64 s.y, .int .i64 u.x, .int .i64 u.y] 80) #[.int .i64 0, .int .i64 0] 78)
  have hlt : g < w.heap.size := HS.out
  go_enter Tryd.func64, Tryd.ntmps64
  go_upto_region 1 with fail
  go_upto_region 2 with fail
  have HV0 := Lib.hid (arr_new3 w (.cells #[.int .i64 s.x, .int .i64 s.y, .int .i64 u.x, .int .i64 u.y] 80) (.cells #[.int .i64 0, .int .i64 0] 78) #[.int .i64 a.x, .int .i64 a.y] 78)
  have HX2 := Lib.hid (HX.out.alloc (.cells #[.int .i64 a.x, .int .i64 a.y] 78))
  have HY2 := Lib.hid (HY.out.alloc (.cells #[.int .i64 a.x, .int .i64 a.y] 78))
  have hB2 := al3 w (.cells #[.int .i64 s.x, .int .i64 s.y, .int .i64 u.x, .int .i64 u.y] 80) (.cells #[.int .i64 0, .int .i64 0] 78) (.cells #[.int .i64 a.x, .int .i64 a.y] 78)
  have HB2 := Lib.hid hB2
  have d2 := (hB2.cell (p := ⟨g, o + 2, none⟩) hlt).trans c2
  have d3 := (hB2.cell (p := ⟨g, o + 3, none⟩) hlt).trans c3
  generalize ((w.alloc (.cells #[.int .i64 s.x, .int .i64 s.y, .int .i64 u.x, .int .i64 u.y] 80)).alloc (.cells #[.int .i64 0, .int .i64 0] 78)).alloc (.cells #[.int .i64 a.x, .int .i64 a.y] 78) = w1 at *
  clear c0 c1 c2 c3 hB2
  have v0 := HV0.out.cell (k := 0) rfl
  have v1 := HV0.out.cell (k := 1) rfl
  have f0 := HV0.out.free 0
  have f1 := HV0.out.free 1
  have HLZ : Hid ((isZ a = true → lineF a b = b) ∧ (isZ a = false → lineF a b = a)) := ⟨fun h => if_pos h, fun h => if_neg (by rw [h]; simp)⟩
  have hv2 : (lineF a b).le 1000 := by
    unfold lineF
    split
    · exact hb
    · exact ha
  generalize hgv : lineF a b = v at *
  clear hgv
  have fin : ∀ (z : Pt), z.le 1000 → (z.x.natAbs : Int) + (z.y.natAbs : Int) = (lenF z : Int) ∧ lenF z ≤ 2000 := fun z hz => by unfold Pt.le at hz; unfold lenF; omega
  obtain ⟨hl1, hl2⟩ := fin v hv2
  clear fin
  by_cases hz : isZ a = true
  · have HL := Lib.hid (HLZ.out.1 hz)
    have ha0 : a.x = 0 ∧ a.y = 0 := of_decide_eq_true hz
    have h1 : (a.x == 0) = true := by simpa using ha0.1
    have h2 : (a.y == 0) = true := by simpa using ha0.2
    clear hz ha0
    go_upto_region 3 with fail
    go_upto_region 4 with fail
    have HV3 := Lib.hid ((HV0.out.set 0 (.int .i64 b.x)).set 1 (.int .i64 b.y))
    have HX3 := Lib.hid ((HX2.out.far (p := ⟨w.heap.size + 1 + 1, 0, none⟩) (by simp; omega) (.int .i64 b.x)).far (p := ⟨w.heap.size + 1 + 1, 1, none⟩) (by simp; omega) (.int .i64 b.y))
    have HY3 := Lib.hid ((HY2.out.far (p := ⟨w.heap.size + 1 + 1, 0, none⟩) (by simp) (.int .i64 b.x)).far (p := ⟨w.heap.size + 1 + 1, 1, none⟩) (by simp) (.int .i64 b.y))
    have HB3 := Lib.hid ((HB2.out.setCell (p := ⟨w.heap.size + 1 + 1, 0, none⟩) (by show w.heap.size ≤ w.heap.size + 1 + 1; omega) (.int .i64 b.x)).setCell (p := ⟨w.heap.size + 1 + 1, 1, none⟩) (by show w.heap.size ≤ w.heap.size + 1 + 1; omega) (.int .i64 b.y))
    generalize (w1.setCell ⟨w.heap.size + 1 + 1, 0, none⟩ (.int .i64 b.x)).setCell ⟨w.heap.size + 1 + 1, 1, none⟩ (.int .i64 b.y) = w3 at *
    have HV : Hid (Arr w3 (w.heap.size + 1 + 1) 78 [.int .i64 v.x, .int .i64 v.y]) := by rw [HL.out]; exact HV3.out
    clear v0 v1 f0 f1 d2 d3 h1 h2 HL HV3 HX2 HY2 HB2 HV0
    have v0 := HV.out.cell (k := 0) rfl
    have v1 := HV.out.cell (k := 1) rfl
    go_cut [6] from 17 to 29 (fun nv wx => nv = .int .i64 (lenF v : Int) ∧ wx = w3)
    case first =>
      go_wp2_with fail
      all_goals
        go_meet
        refine ⟨?_, rfl⟩
        rw [← hl1]
        congr 1
        omega
    case rest =>
      obtain ⟨rfl, rfl⟩ := hcut
      clear v0 v1
      have hlp := len_pos hv
      clear hl1
      generalize hN : lenF v = N at *
      clear hN
      have hvx : -1000 ≤ v.x ∧ v.x ≤ 1000 := ⟨hv2.1, hv2.2.1⟩
      have hvy : -1000 ≤ v.y ∧ v.y ≤ 1000 := ⟨hv2.2.2.1, hv2.2.2.2⟩
      have HF1 : Hid (fitF s u v 1 = true) := fit_one hh
      clear hh hv hv2
      rename World => w3
      go_upto_region 6 with fail
      go_loopg [6] N (fun gg nv wr => ∃ n : Nat, 1 ≤ n ∧ n ≤ N ∧ n = gg ∧ nv = .int .i64 (n : Int) ∧ Hid (shortF s u v N = shortF s u v n) ∧ Arr wr (w.heap.size + 1 + 1) 78 [.int .i64 v.x, .int .i64 v.y] ∧ Arr wr w.heap.size 80 [.int .i64 s.x, .int .i64 s.y, .int .i64 u.x, .int .i64 u.y] ∧ Arr wr (w.heap.size + 1) 78 [.int .i64 0, .int .i64 0] ∧ Below w.heap.size w wr)
      case atStart => exact ⟨N, hlp, Nat.le_refl _, rfl, rfl, rfl, HV.out, HX3.out, HY3.out, HB3.out⟩
      case round =>
        clear HV HX3 HY3 HB3
        obtain ⟨n, hn1, hnN, rfl, rfl, HSH, hv, hx, hy, hb⟩ := hrel
        have HV := Lib.hid hv
        have HX3 := Lib.hid hx
        have HY3 := Lib.hid hy
        have HB3 := Lib.hid hb
        have v0 := hv.cell (k := 0) rfl
        have v1 := hv.cell (k := 1) rfl
        have hlo := hv.lt
        clear hv hx hy hb
        have hn0 : ¬ (n : Int) = 0 := by omega
        have hn0' : ¬ n = 0 := by omega
        have HFT : Hid (fitF s u v n = (decide (v.x.tmod n = 0) && decide (v.y.tmod n = 0) && hasF s u ⟨v.x.tdiv n, v.y.tdiv n⟩)) := rfl
        have HDV : Hid (divP v n = ⟨v.x.tdiv n, v.y.tdiv n⟩) := rfl
        have hq1 := tdiv_le v.x n hvx
        have hq2 := tdiv_le v.y n hvy
        have HAS : Hid (∀ w, _) := fun w => has_any s u ⟨v.x.tdiv n, v.y.tdiv n⟩ w (by unfold Pt.le; dsimp only; omega) (by unfold Pt.le at *; omega) (by unfold Pt.le at *; omega) hsx huy
        have HIT := Lib.hid (short_hit (s := s) (u := u) (v := v) hn1)
        have HMS := Lib.hid (short_miss (s := s) (u := u) (v := v) hn1)
        have HN1 : Hid (fitF s u v n = false → 2 ≤ n) := fun h => by
          rcases Nat.lt_or_ge n 2 with k | k
          · obtain rfl : n = 1 := by omega
            rw [HF1.out] at h
            cases h
          · exact k
        unfold Pt.val at HAS
        generalize he1 : v.x.tdiv n = q1 at *
        generalize he2 : v.y.tdiv n = q2 at *
        generalize he3 : v.x.tmod n = r1 at *
        generalize he4 : v.y.tmod n = r2 at *
        have hw1 : wrap64 q1 = q1 := IntWalk.wrap64_in _ (by omega)
        have hw2 : wrap64 q2 = q2 := IntWalk.wrap64_in _ (by omega)
        go_upto_region 6 with fail
        go_region
        clear hw1 hw2
        rename World => w4
        go_upto_region 7 with fail
        have hd : Below w4.heap.size w4 (w4.alloc (Obj.cells #[Value.int IntKind.i64 q1, Value.int IntKind.i64 q2] 78)).drew := below_dN (n := 1) (al1 w4 _)
        have HZ := Lib.hid ((Arr.new w4 #[Value.int IntKind.i64 q1, Value.int IntKind.i64 q2] 78).dN 1)
        generalize hw5 : (w4.alloc (Obj.cells #[Value.int IntKind.i64 q1, Value.int IntKind.i64 q2] 78)).drew = w5 at *
        have HZ5 : Hid (Arr w5 w4.heap.size 78 [.int .i64 q1, .int .i64 q2]) := by rw [← hw5]; exact HZ.out
        clear HZ hw5 v0 v1
        have HV5 := Lib.hid (HV.out.of_eq (hd.block _ HV.out.lt))
        have HX5 := Lib.hid (HX3.out.of_eq (hd.block _ HX3.out.lt))
        have HY5 := Lib.hid (HY3.out.of_eq (hd.block _ HY3.out.lt))
        have HB5 := Lib.hid (HB3.out.trans (hd.mono HB3.out.size))
        clear hd HV HX3 HY3 HB3
        have v0 := HV5.out.cell (k := 0) rfl
        have v1 := HV5.out.cell (k := 1) rfl
        by_cases h1 : r1 = 0
        · have h1b : (r1 == 0) = true := by simpa using h1
          by_cases h2 : r2 = 0
          · have h2b : (r2 == 0) = true := by simpa using h2
            have HFH : Hid (fitF s u v n = hasF s u ⟨q1, q2⟩) := by show _ = _; rw [HFT.out, decide_eq_true h1, decide_eq_true h2]; simp
            clear h1 h2 HFT
            have z0 := HZ5.out.cell (k := 0) rfl
            have z1 := HZ5.out.cell (k := 1) rfl
            have x0 := HX5.out.cell (k := 0) rfl
            have x1 := HX5.out.cell (k := 1) rfl
            have x2 := HX5.out.cell (k := 2) rfl
            have x3 := HX5.out.cell (k := 3) rfl
            go_wp2_with fail
            refine (HAS.out _).mono ?_
            rintro e w6 ⟨rfl, hb6⟩
            have HB6 := Lib.hid (HB5.out.trans (hb6.mono HB5.out.size))
            have HV6 := Lib.hid (HV5.out.of_eq (hb6.block _ HV5.out.lt))
            have HX6 := Lib.hid (HX5.out.of_eq (hb6.block _ HX5.out.lt))
            have HY6 := Lib.hid (HY5.out.of_eq (hb6.block _ HY5.out.lt))
            have HZ6 := Lib.hid (HZ5.out.of_eq (hb6.block _ HZ5.out.lt))
            clear hb6 z0 z1 x0 x1 x2 x3 v0 v1 HV5 HX5 HY5 HZ5
            generalize hasF s u ⟨q1, q2⟩ = r at *
            rcases r with _ | _
            · have hn2 := HN1.out HFH.out
              have HS2 : Hid (shortF s u v N = shortF s u v (n - 1)) := by show _ = _; rw [HSH.out]; exact HMS.out HFH.out
              go_wp2_with fail
              go_roundg (n - 1)
              case measure => omega
              case rel => exact ⟨n - 1, by omega, by omega, rfl, by first | rfl | (congr 1; omega), HS2, HV6.out, HX6.out, HY6.out, HB6.out⟩
            · have HR : Hid (shortF s u v N = ⟨q1, q2⟩) := by show _ = _; rw [HSH.out, HIT.out HFH.out]; exact HDV.out
              have z0 := HZ6.out.cell (k := 0) rfl
              have z1 := HZ6.out.cell (k := 1) rfl
              have y0 := HY6.out.cell (k := 0) rfl
              have y1 := HY6.out.cell (k := 1) rfl
              have e0 := HY6.out.free 0
              have e1 := HY6.out.free 1
              go_wp2_with fail
              have HBZ : Hid (Below w.heap.size w ((w6.setCell ⟨w.heap.size + 1, 0, none⟩ (.int .i64 q1)).setCell ⟨w.heap.size + 1, 1, none⟩ (.int .i64 q2))) := (HB6.out.setCell (Nat.le_succ _) _).setCell (Nat.le_succ _) _
              refine bodyPost_ret (v := .agg #[.int .i64 q1, .int .i64 q2]) (by simp [results, Tryd.results64, go_sem, y0, y1]) rfl ⟨?_, HBZ.out⟩
              rw [← HRR.out, HR.out]
              rfl
          · have h2b : (r2 == 0) = false := by simpa using h2
            have HFH : Hid (fitF s u v n = false) := by show _ = _; rw [HFT.out, decide_eq_false h2]; simp
            have hn2 := HN1.out HFH.out
            have HS2 : Hid (shortF s u v N = shortF s u v (n - 1)) := by show _ = _; rw [HSH.out]; exact HMS.out HFH.out
            clear h1 h2 HFT
            go_wp2_with fail
            go_roundg (n - 1)
            case measure => omega
            case rel => exact ⟨n - 1, by omega, by omega, rfl, by first | rfl | (congr 1; omega), HS2, HV5.out, HX5.out, HY5.out, HB5.out⟩
        · have h1b : (r1 == 0) = false := by simpa using h1
          have HFH : Hid (fitF s u v n = false) := by show _ = _; rw [HFT.out, decide_eq_false h1]; simp
          have hn2 := HN1.out HFH.out
          have HS2 : Hid (shortF s u v N = shortF s u v (n - 1)) := by show _ = _; rw [HSH.out]; exact HMS.out HFH.out
          clear h1 HFT
          go_wp2_with fail
          go_roundg (n - 1)
          case measure => omega
          case rel => exact ⟨n - 1, by omega, by omega, rfl, by first | rfl | (congr 1; omega), HS2, HV5.out, HX5.out, HY5.out, HB5.out⟩
  · have HL := Lib.hid (HLZ.out.2 (by simpa using hz))
    have HV : Hid (Arr w1 (w.heap.size + 1 + 1) 78 [.int .i64 v.x, .int .i64 v.y]) := by rw [HL.out]; exact HV0.out
    have HX3 := HX2
    have HY3 := HY2
    have HB3 := HB2
    have ha0 : ¬ (a.x = 0 ∧ a.y = 0) := fun h => hz (decide_eq_true h)
    clear HL HX2 HY2 HB2 HV0 hz d2 d3
    by_cases h0 : a.x = 0
    · have h1 : (a.x == 0) = true := by simpa using h0
      have h2 : (a.y == 0) = false := by simpa using fun h => ha0 ⟨h0, h⟩
      clear h0 ha0
      go_upto_region 4 with fail
      clear h1 h2 v0 v1 f0 f1
      rename World => w3
      have v0 := HV.out.cell (k := 0) rfl
      have v1 := HV.out.cell (k := 1) rfl
      go_cut [6] from 17 to 29 (fun nv wx => nv = .int .i64 (lenF v : Int) ∧ wx = w3)
      case first =>
        go_wp2_with fail
        all_goals
          go_meet
          refine ⟨?_, rfl⟩
          rw [← hl1]
          congr 1
          omega
      case rest =>
        obtain ⟨rfl, rfl⟩ := hcut
        clear v0 v1
        have hlp := len_pos hv
        clear hl1
        generalize hN : lenF v = N at *
        clear hN
        have hvx : -1000 ≤ v.x ∧ v.x ≤ 1000 := ⟨hv2.1, hv2.2.1⟩
        have hvy : -1000 ≤ v.y ∧ v.y ≤ 1000 := ⟨hv2.2.2.1, hv2.2.2.2⟩
        have HF1 : Hid (fitF s u v 1 = true) := fit_one hh
        clear hh hv hv2
        rename World => w3
        go_upto_region 6 with fail
        go_loopg [6] N (fun gg nv wr => ∃ n : Nat, 1 ≤ n ∧ n ≤ N ∧ n = gg ∧ nv = .int .i64 (n : Int) ∧ Hid (shortF s u v N = shortF s u v n) ∧ Arr wr (w.heap.size + 1 + 1) 78 [.int .i64 v.x, .int .i64 v.y] ∧ Arr wr w.heap.size 80 [.int .i64 s.x, .int .i64 s.y, .int .i64 u.x, .int .i64 u.y] ∧ Arr wr (w.heap.size + 1) 78 [.int .i64 0, .int .i64 0] ∧ Below w.heap.size w wr)
        case atStart => exact ⟨N, hlp, Nat.le_refl _, rfl, rfl, rfl, HV.out, HX3.out, HY3.out, HB3.out⟩
        case round =>
          clear HV HX3 HY3 HB3
          obtain ⟨n, hn1, hnN, rfl, rfl, HSH, hv, hx, hy, hb⟩ := hrel
          have HV := Lib.hid hv
          have HX3 := Lib.hid hx
          have HY3 := Lib.hid hy
          have HB3 := Lib.hid hb
          have v0 := hv.cell (k := 0) rfl
          have v1 := hv.cell (k := 1) rfl
          have hlo := hv.lt
          clear hv hx hy hb
          have hn0 : ¬ (n : Int) = 0 := by omega
          have hn0' : ¬ n = 0 := by omega
          have HFT : Hid (fitF s u v n = (decide (v.x.tmod n = 0) && decide (v.y.tmod n = 0) && hasF s u ⟨v.x.tdiv n, v.y.tdiv n⟩)) := rfl
          have HDV : Hid (divP v n = ⟨v.x.tdiv n, v.y.tdiv n⟩) := rfl
          have hq1 := tdiv_le v.x n hvx
          have hq2 := tdiv_le v.y n hvy
          have HAS : Hid (∀ w, _) := fun w => has_any s u ⟨v.x.tdiv n, v.y.tdiv n⟩ w (by unfold Pt.le; dsimp only; omega) (by unfold Pt.le at *; omega) (by unfold Pt.le at *; omega) hsx huy
          have HIT := Lib.hid (short_hit (s := s) (u := u) (v := v) hn1)
          have HMS := Lib.hid (short_miss (s := s) (u := u) (v := v) hn1)
          have HN1 : Hid (fitF s u v n = false → 2 ≤ n) := fun h => by
            rcases Nat.lt_or_ge n 2 with k | k
            · obtain rfl : n = 1 := by omega
              rw [HF1.out] at h
              cases h
            · exact k
          unfold Pt.val at HAS
          generalize he1 : v.x.tdiv n = q1 at *
          generalize he2 : v.y.tdiv n = q2 at *
          generalize he3 : v.x.tmod n = r1 at *
          generalize he4 : v.y.tmod n = r2 at *
          have hw1 : wrap64 q1 = q1 := IntWalk.wrap64_in _ (by omega)
          have hw2 : wrap64 q2 = q2 := IntWalk.wrap64_in _ (by omega)
          go_upto_region 6 with fail
          go_region
          clear hw1 hw2
          rename World => w4
          go_upto_region 7 with fail
          have hd : Below w4.heap.size w4 (w4.alloc (Obj.cells #[Value.int IntKind.i64 q1, Value.int IntKind.i64 q2] 78)).drew := below_dN (n := 1) (al1 w4 _)
          have HZ := Lib.hid ((Arr.new w4 #[Value.int IntKind.i64 q1, Value.int IntKind.i64 q2] 78).dN 1)
          generalize hw5 : (w4.alloc (Obj.cells #[Value.int IntKind.i64 q1, Value.int IntKind.i64 q2] 78)).drew = w5 at *
          have HZ5 : Hid (Arr w5 w4.heap.size 78 [.int .i64 q1, .int .i64 q2]) := by rw [← hw5]; exact HZ.out
          clear HZ hw5 v0 v1
          have HV5 := Lib.hid (HV.out.of_eq (hd.block _ HV.out.lt))
          have HX5 := Lib.hid (HX3.out.of_eq (hd.block _ HX3.out.lt))
          have HY5 := Lib.hid (HY3.out.of_eq (hd.block _ HY3.out.lt))
          have HB5 := Lib.hid (HB3.out.trans (hd.mono HB3.out.size))
          clear hd HV HX3 HY3 HB3
          have v0 := HV5.out.cell (k := 0) rfl
          have v1 := HV5.out.cell (k := 1) rfl
          by_cases h1 : r1 = 0
          · have h1b : (r1 == 0) = true := by simpa using h1
            by_cases h2 : r2 = 0
            · have h2b : (r2 == 0) = true := by simpa using h2
              have HFH : Hid (fitF s u v n = hasF s u ⟨q1, q2⟩) := by show _ = _; rw [HFT.out, decide_eq_true h1, decide_eq_true h2]; simp
              clear h1 h2 HFT
              have z0 := HZ5.out.cell (k := 0) rfl
              have z1 := HZ5.out.cell (k := 1) rfl
              have x0 := HX5.out.cell (k := 0) rfl
              have x1 := HX5.out.cell (k := 1) rfl
              have x2 := HX5.out.cell (k := 2) rfl
              have x3 := HX5.out.cell (k := 3) rfl
              go_wp2_with fail
              refine (HAS.out _).mono ?_
              rintro e w6 ⟨rfl, hb6⟩
              have HB6 := Lib.hid (HB5.out.trans (hb6.mono HB5.out.size))
              have HV6 := Lib.hid (HV5.out.of_eq (hb6.block _ HV5.out.lt))
              have HX6 := Lib.hid (HX5.out.of_eq (hb6.block _ HX5.out.lt))
              have HY6 := Lib.hid (HY5.out.of_eq (hb6.block _ HY5.out.lt))
              have HZ6 := Lib.hid (HZ5.out.of_eq (hb6.block _ HZ5.out.lt))
              clear hb6 z0 z1 x0 x1 x2 x3 v0 v1 HV5 HX5 HY5 HZ5
              generalize hasF s u ⟨q1, q2⟩ = r at *
              rcases r with _ | _
              · have hn2 := HN1.out HFH.out
                have HS2 : Hid (shortF s u v N = shortF s u v (n - 1)) := by show _ = _; rw [HSH.out]; exact HMS.out HFH.out
                go_wp2_with fail
                go_roundg (n - 1)
                case measure => omega
                case rel => exact ⟨n - 1, by omega, by omega, rfl, by first | rfl | (congr 1; omega), HS2, HV6.out, HX6.out, HY6.out, HB6.out⟩
              · have HR : Hid (shortF s u v N = ⟨q1, q2⟩) := by show _ = _; rw [HSH.out, HIT.out HFH.out]; exact HDV.out
                have z0 := HZ6.out.cell (k := 0) rfl
                have z1 := HZ6.out.cell (k := 1) rfl
                have y0 := HY6.out.cell (k := 0) rfl
                have y1 := HY6.out.cell (k := 1) rfl
                have e0 := HY6.out.free 0
                have e1 := HY6.out.free 1
                go_wp2_with fail
                have HBZ : Hid (Below w.heap.size w ((w6.setCell ⟨w.heap.size + 1, 0, none⟩ (.int .i64 q1)).setCell ⟨w.heap.size + 1, 1, none⟩ (.int .i64 q2))) := (HB6.out.setCell (Nat.le_succ _) _).setCell (Nat.le_succ _) _
                refine bodyPost_ret (v := .agg #[.int .i64 q1, .int .i64 q2]) (by simp [results, Tryd.results64, go_sem, y0, y1]) rfl ⟨?_, HBZ.out⟩
                rw [← HRR.out, HR.out]
                rfl
            · have h2b : (r2 == 0) = false := by simpa using h2
              have HFH : Hid (fitF s u v n = false) := by show _ = _; rw [HFT.out, decide_eq_false h2]; simp
              have hn2 := HN1.out HFH.out
              have HS2 : Hid (shortF s u v N = shortF s u v (n - 1)) := by show _ = _; rw [HSH.out]; exact HMS.out HFH.out
              clear h1 h2 HFT
              go_wp2_with fail
              go_roundg (n - 1)
              case measure => omega
              case rel => exact ⟨n - 1, by omega, by omega, rfl, by first | rfl | (congr 1; omega), HS2, HV5.out, HX5.out, HY5.out, HB5.out⟩
          · have h1b : (r1 == 0) = false := by simpa using h1
            have HFH : Hid (fitF s u v n = false) := by show _ = _; rw [HFT.out, decide_eq_false h1]; simp
            have hn2 := HN1.out HFH.out
            have HS2 : Hid (shortF s u v N = shortF s u v (n - 1)) := by show _ = _; rw [HSH.out]; exact HMS.out HFH.out
            clear h1 HFT
            go_wp2_with fail
            go_roundg (n - 1)
            case measure => omega
            case rel => exact ⟨n - 1, by omega, by omega, rfl, by first | rfl | (congr 1; omega), HS2, HV5.out, HX5.out, HY5.out, HB5.out⟩
    · have h1 : (a.x == 0) = false := by simpa using h0
      clear h0 ha0
      go_upto_region 4 with fail
      clear h1 v0 v1 f0 f1
      rename World => w3
      have v0 := HV.out.cell (k := 0) rfl
      have v1 := HV.out.cell (k := 1) rfl
      go_cut [6] from 17 to 29 (fun nv wx => nv = .int .i64 (lenF v : Int) ∧ wx = w3)
      case first =>
        go_wp2_with fail
        all_goals
          go_meet
          refine ⟨?_, rfl⟩
          rw [← hl1]
          congr 1
          omega
      case rest =>
        obtain ⟨rfl, rfl⟩ := hcut
        clear v0 v1
        have hlp := len_pos hv
        clear hl1
        generalize hN : lenF v = N at *
        clear hN
        have hvx : -1000 ≤ v.x ∧ v.x ≤ 1000 := ⟨hv2.1, hv2.2.1⟩
        have hvy : -1000 ≤ v.y ∧ v.y ≤ 1000 := ⟨hv2.2.2.1, hv2.2.2.2⟩
        have HF1 : Hid (fitF s u v 1 = true) := fit_one hh
        clear hh hv hv2
        rename World => w3
        go_upto_region 6 with fail
        go_loopg [6] N (fun gg nv wr => ∃ n : Nat, 1 ≤ n ∧ n ≤ N ∧ n = gg ∧ nv = .int .i64 (n : Int) ∧ Hid (shortF s u v N = shortF s u v n) ∧ Arr wr (w.heap.size + 1 + 1) 78 [.int .i64 v.x, .int .i64 v.y] ∧ Arr wr w.heap.size 80 [.int .i64 s.x, .int .i64 s.y, .int .i64 u.x, .int .i64 u.y] ∧ Arr wr (w.heap.size + 1) 78 [.int .i64 0, .int .i64 0] ∧ Below w.heap.size w wr)
        case atStart => exact ⟨N, hlp, Nat.le_refl _, rfl, rfl, rfl, HV.out, HX3.out, HY3.out, HB3.out⟩
        case round =>
          clear HV HX3 HY3 HB3
          obtain ⟨n, hn1, hnN, rfl, rfl, HSH, hv, hx, hy, hb⟩ := hrel
          have HV := Lib.hid hv
          have HX3 := Lib.hid hx
          have HY3 := Lib.hid hy
          have HB3 := Lib.hid hb
          have v0 := hv.cell (k := 0) rfl
          have v1 := hv.cell (k := 1) rfl
          have hlo := hv.lt
          clear hv hx hy hb
          have hn0 : ¬ (n : Int) = 0 := by omega
          have hn0' : ¬ n = 0 := by omega
          have HFT : Hid (fitF s u v n = (decide (v.x.tmod n = 0) && decide (v.y.tmod n = 0) && hasF s u ⟨v.x.tdiv n, v.y.tdiv n⟩)) := rfl
          have HDV : Hid (divP v n = ⟨v.x.tdiv n, v.y.tdiv n⟩) := rfl
          have hq1 := tdiv_le v.x n hvx
          have hq2 := tdiv_le v.y n hvy
          have HAS : Hid (∀ w, _) := fun w => has_any s u ⟨v.x.tdiv n, v.y.tdiv n⟩ w (by unfold Pt.le; dsimp only; omega) (by unfold Pt.le at *; omega) (by unfold Pt.le at *; omega) hsx huy
          have HIT := Lib.hid (short_hit (s := s) (u := u) (v := v) hn1)
          have HMS := Lib.hid (short_miss (s := s) (u := u) (v := v) hn1)
          have HN1 : Hid (fitF s u v n = false → 2 ≤ n) := fun h => by
            rcases Nat.lt_or_ge n 2 with k | k
            · obtain rfl : n = 1 := by omega
              rw [HF1.out] at h
              cases h
            · exact k
          unfold Pt.val at HAS
          generalize he1 : v.x.tdiv n = q1 at *
          generalize he2 : v.y.tdiv n = q2 at *
          generalize he3 : v.x.tmod n = r1 at *
          generalize he4 : v.y.tmod n = r2 at *
          have hw1 : wrap64 q1 = q1 := IntWalk.wrap64_in _ (by omega)
          have hw2 : wrap64 q2 = q2 := IntWalk.wrap64_in _ (by omega)
          go_upto_region 6 with fail
          go_region
          clear hw1 hw2
          rename World => w4
          go_upto_region 7 with fail
          have hd : Below w4.heap.size w4 (w4.alloc (Obj.cells #[Value.int IntKind.i64 q1, Value.int IntKind.i64 q2] 78)).drew := below_dN (n := 1) (al1 w4 _)
          have HZ := Lib.hid ((Arr.new w4 #[Value.int IntKind.i64 q1, Value.int IntKind.i64 q2] 78).dN 1)
          generalize hw5 : (w4.alloc (Obj.cells #[Value.int IntKind.i64 q1, Value.int IntKind.i64 q2] 78)).drew = w5 at *
          have HZ5 : Hid (Arr w5 w4.heap.size 78 [.int .i64 q1, .int .i64 q2]) := by rw [← hw5]; exact HZ.out
          clear HZ hw5 v0 v1
          have HV5 := Lib.hid (HV.out.of_eq (hd.block _ HV.out.lt))
          have HX5 := Lib.hid (HX3.out.of_eq (hd.block _ HX3.out.lt))
          have HY5 := Lib.hid (HY3.out.of_eq (hd.block _ HY3.out.lt))
          have HB5 := Lib.hid (HB3.out.trans (hd.mono HB3.out.size))
          clear hd HV HX3 HY3 HB3
          have v0 := HV5.out.cell (k := 0) rfl
          have v1 := HV5.out.cell (k := 1) rfl
          by_cases h1 : r1 = 0
          · have h1b : (r1 == 0) = true := by simpa using h1
            by_cases h2 : r2 = 0
            · have h2b : (r2 == 0) = true := by simpa using h2
              have HFH : Hid (fitF s u v n = hasF s u ⟨q1, q2⟩) := by show _ = _; rw [HFT.out, decide_eq_true h1, decide_eq_true h2]; simp
              clear h1 h2 HFT
              have z0 := HZ5.out.cell (k := 0) rfl
              have z1 := HZ5.out.cell (k := 1) rfl
              have x0 := HX5.out.cell (k := 0) rfl
              have x1 := HX5.out.cell (k := 1) rfl
              have x2 := HX5.out.cell (k := 2) rfl
              have x3 := HX5.out.cell (k := 3) rfl
              go_wp2_with fail
              refine (HAS.out _).mono ?_
              rintro e w6 ⟨rfl, hb6⟩
              have HB6 := Lib.hid (HB5.out.trans (hb6.mono HB5.out.size))
              have HV6 := Lib.hid (HV5.out.of_eq (hb6.block _ HV5.out.lt))
              have HX6 := Lib.hid (HX5.out.of_eq (hb6.block _ HX5.out.lt))
              have HY6 := Lib.hid (HY5.out.of_eq (hb6.block _ HY5.out.lt))
              have HZ6 := Lib.hid (HZ5.out.of_eq (hb6.block _ HZ5.out.lt))
              clear hb6 z0 z1 x0 x1 x2 x3 v0 v1 HV5 HX5 HY5 HZ5
              generalize hasF s u ⟨q1, q2⟩ = r at *
              rcases r with _ | _
              · have hn2 := HN1.out HFH.out
                have HS2 : Hid (shortF s u v N = shortF s u v (n - 1)) := by show _ = _; rw [HSH.out]; exact HMS.out HFH.out
                go_wp2_with fail
                go_roundg (n - 1)
                case measure => omega
                case rel => exact ⟨n - 1, by omega, by omega, rfl, by first | rfl | (congr 1; omega), HS2, HV6.out, HX6.out, HY6.out, HB6.out⟩
              · have HR : Hid (shortF s u v N = ⟨q1, q2⟩) := by show _ = _; rw [HSH.out, HIT.out HFH.out]; exact HDV.out
                have z0 := HZ6.out.cell (k := 0) rfl
                have z1 := HZ6.out.cell (k := 1) rfl
                have y0 := HY6.out.cell (k := 0) rfl
                have y1 := HY6.out.cell (k := 1) rfl
                have e0 := HY6.out.free 0
                have e1 := HY6.out.free 1
                go_wp2_with fail
                have HBZ : Hid (Below w.heap.size w ((w6.setCell ⟨w.heap.size + 1, 0, none⟩ (.int .i64 q1)).setCell ⟨w.heap.size + 1, 1, none⟩ (.int .i64 q2))) := (HB6.out.setCell (Nat.le_succ _) _).setCell (Nat.le_succ _) _
                refine bodyPost_ret (v := .agg #[.int .i64 q1, .int .i64 q2]) (by simp [results, Tryd.results64, go_sem, y0, y1]) rfl ⟨?_, HBZ.out⟩
                rw [← HRR.out, HR.out]
                rfl
            · have h2b : (r2 == 0) = false := by simpa using h2
              have HFH : Hid (fitF s u v n = false) := by show _ = _; rw [HFT.out, decide_eq_false h2]; simp
              have hn2 := HN1.out HFH.out
              have HS2 : Hid (shortF s u v N = shortF s u v (n - 1)) := by show _ = _; rw [HSH.out]; exact HMS.out HFH.out
              clear h1 h2 HFT
              go_wp2_with fail
              go_roundg (n - 1)
              case measure => omega
              case rel => exact ⟨n - 1, by omega, by omega, rfl, by first | rfl | (congr 1; omega), HS2, HV5.out, HX5.out, HY5.out, HB5.out⟩
          · have h1b : (r1 == 0) = false := by simpa using h1
            have HFH : Hid (fitF s u v n = false) := by show _ = _; rw [HFT.out, decide_eq_false h1]; simp
            have hn2 := HN1.out HFH.out
            have HS2 : Hid (shortF s u v N = shortF s u v (n - 1)) := by show _ = _; rw [HSH.out]; exact HMS.out HFH.out
            clear h1 HFT
            go_wp2_with fail
            go_roundg (n - 1)
            case measure => omega
            case rel => exact ⟨n - 1, by omega, by omega, rfl, by first | rfl | (congr 1; omega), HS2, HV5.out, HX5.out, HY5.out, HB5.out⟩
end Go.Proofs.YtmmakljmikdooaaDoor
