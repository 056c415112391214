import Derived.Test.YtmmakljmikdooaaDoorTwKindWalk4
/- Chapter 4: the program's look. -/
namespace Go.Proofs.YtmmakljmikdooaaDoor
open Go.RowKit Go.Maps
set_option linter.unusedVariables false
set_option linter.unusedSimpArgs false

/-- a flip's line is there -/
def LineOk (g : Int) (s u : Pt) (t : Nat) : Prop := isZ (lineF (alongF g t s) (alongF g t u)) = false ∧ hasF s u (lineF (alongF g t s) (alongF g t u)) = true
/-- a sight's value -/
def sightV (T : Nat) (b : Nat) (X x Y : Int) : Value := .agg #[.int .i64 (T : Int), .map (some b), .int .i64 X, .int .i64 0, .int .i64 x, .int .i64 Y]
set_option maxRecDepth 100000 in
set_option maxHeartbeats 4000000 in
theorem look_any {S : Nat → Prop} {v : Value} {c : Ch} {W H : Nat} (w : World) (hv : ChR w S v c) (hS : ∀ b, S b → b < w.heap.size) (hc : OkC c W H)
    (HW : Hid (∀ X x Y, FinP (stepC c W H) X x Y → ∀ m ∈ movesC c W H, m.f = true → LineOk c.g ⟨X, 0⟩ ⟨x, Y⟩ m.t)) :
    Calls Tryd.prog 25 #[v] w fun e w' => Below w.heap.size w w' ∧ ((24 < tor W H ∧ e = .returned (.tuple #[.agg #[.int .i64 0, .map none, .int .i64 0, .int .i64 0, .int .i64 0, .int .i64 0], .int .i64 4])) ∨
      (tor W H ≤ 24 ∧ ∃ X x Y b n D, FinP (stepC c W H) X x Y ∧ X ≤ 24 ∧ Y ≤ 24 ∧ e = .returned (.tuple #[sightV (turnsF (movesC c W H)).length b X x Y, .int .i64 0]) ∧ w.heap.size ≤ b ∧ w'.ownsMap Tryd.prog 3 wayElem b n D ∧ MapL wayD D (waysF c.g ⟨X, 0⟩ ⟨x, Y⟩ (movesC c W H)))) := by
  have HV := Lib.hid hv
  have HSS := Lib.hid hS
  have HOK := Lib.hid hc
  obtain ⟨A, k, rfl⟩ := hv.form
  clear hS hc hv
  have HX := Lib.hid ((Arr.new w #[.int .i64 c.g, .int .i64 c.w, .int .i64 c.h, .slice A c.cs.length k] 24).alloc (.cells #[.int .i64 0, .map none, .int .i64 0, .int .i64 0, .int .i64 0, .int .i64 0] 82))
  have HR := Lib.hid (arr_new2 w (.cells #[.int .i64 c.g, .int .i64 c.w, .int .i64 c.h, .slice A c.cs.length k] 24) #[.int .i64 0, .map none, .int .i64 0, .int .i64 0, .int .i64 0, .int .i64 0] 82)
  have HB0 := Lib.hid (al2 w (.cells #[.int .i64 c.g, .int .i64 c.w, .int .i64 c.h, .slice A c.cs.length k] 24) (.cells #[.int .i64 0, .map none, .int .i64 0, .int .i64 0, .int .i64 0, .int .i64 0] 82))
  go_enter Tryd.func25, Tryd.ntmps25
  go_upto_region 1 with fail
  generalize (w.alloc (.cells #[.int .i64 c.g, .int .i64 c.w, .int .i64 c.h, .slice A c.cs.length k] 24)).alloc (.cells #[.int .i64 0, .map none, .int .i64 0, .int .i64 0, .int .i64 0, .int .i64 0] 82) = w0 at *
  have x0 := HX.out.cell (k := 0) rfl
  have x1 := HX.out.cell (k := 1) rfl
  have x2 := HX.out.cell (k := 2) rfl
  have x3 := HX.out.cell (k := 3) rfl
  go_wp2_with fail
  refine (Moves_any w0 (HV.out.same fun b hb => HB0.out.block b (HSS.out b hb)) (fun b hb => Nat.lt_of_lt_of_le (HSS.out b hb) HB0.out.size) HOK.out).mono ?_
  rintro e w1 ⟨hb1, (⟨hT, rfl⟩ | ⟨hT, u, rfl, hu⟩)⟩
  · have HB1 := Lib.hid (HB0.out.trans (hb1.mono HB0.out.size))
    have HR1 := Lib.hid (HR.out.of_eq (hb1.block _ HR.out.lt))
    clear hb1 x0 x1 x2 x3
    have r0 := HR1.out.cell (k := 0) rfl
    have r1 := HR1.out.cell (k := 1) rfl
    have r2 := HR1.out.cell (k := 2) rfl
    have r3 := HR1.out.cell (k := 3) rfl
    have r4 := HR1.out.cell (k := 4) rfl
    have r5 := HR1.out.cell (k := 5) rfl
    have f0 := HR1.out.free 0
    have f1 := HR1.out.free 1
    have f2 := HR1.out.free 2
    have f3 := HR1.out.free 3
    have f4 := HR1.out.free 4
    have f5 := HR1.out.free 5
    go_wp2_with fail
    refine bodyPost_ret (v := .tuple #[.agg #[.int .i64 0, .map none, .int .i64 0, .int .i64 0, .int .i64 0, .int .i64 0], .int .i64 4]) (by simp [results, Tryd.results25, go_sem, r0, r1, r2, r3, r4, r5]) rfl ⟨?_, .inl ⟨hT, rfl⟩⟩
    exact (((((HB1.out.setCell (Nat.le_succ _) _).setCell (Nat.le_succ _) _).setCell (Nat.le_succ _) _).setCell (Nat.le_succ _) _).setCell (Nat.le_succ _) _).setCell (Nat.le_succ _) _
  · have HB1 := Lib.hid (HB0.out.trans (hb1.mono HB0.out.size))
    have HX1 := Lib.hid (HX.out.of_eq (hb1.block _ HX.out.lt))
    have HR1 := Lib.hid (HR.out.of_eq (hb1.block _ HR.out.lt))
    have HL1 := Lib.hid hb1.size
    have HL0 := Lib.hid HB0.out.size
    obtain ⟨Au, cu, rfl, hu1, hu2⟩ := own_form hu
    have HROW := Lib.hid (Row.of_own hu)
    have HMV : Hid (∀ m ∈ movesC c W H, m.t < c.g.toNat ∧ m.b.le 24) := fun m hm => by
      obtain ⟨h1, p, h2, h3, _⟩ := allL_mem hm
      exact ⟨h1, by rw [h3]; exact pt_le hT h2⟩
    clear hb1 x0 x1 x2 x3 hu
    have hmm := @run_makeMap Tryd.prog
    go_upto_region 5 with fail
    clear hmm
    have HMO : Hid ((w1.alloc (.map #[] 0)).ownsMap Tryd.prog 3 wayElem w1.heap.size 0 (DataW.map [] : DU)) := World.ownsMap_made w1 _ _ _
    have HMO2 := Lib.hid (HMO.out.alloc (.cells #[.int .i64 0, .map (some w1.heap.size), .int .i64 0, .int .i64 0, .int .i64 0, .int .i64 0] 82))
    have HSI := Lib.hid (arr_new2 w1 (.map #[] 0) #[.int .i64 0, .map (some w1.heap.size), .int .i64 0, .int .i64 0, .int .i64 0, .int .i64 0] 82)
    have HB2 := Lib.hid (al2 w1 (.map #[] 0) (.cells #[.int .i64 0, .map (some w1.heap.size), .int .i64 0, .int .i64 0, .int .i64 0, .int .i64 0] 82))
    have HZ2 : Hid (((w1.alloc (.map #[] 0)).alloc (.cells #[.int .i64 0, .map (some w1.heap.size), .int .i64 0, .int .i64 0, .int .i64 0, .int .i64 0] 82)).heap.size = w1.heap.size + 2) := by show _ = _; simp
    generalize (w1.alloc (.map #[] 0)).alloc (.cells #[.int .i64 0, .map (some w1.heap.size), .int .i64 0, .int .i64 0, .int .i64 0, .int .i64 0] 82) = w2 at *
    clear HMO
    have hx2 := HX1.out.of_eq (HB2.out.block _ HX1.out.lt)
    have x0 := hx2.cell (k := 0) rfl
    have x1 := hx2.cell (k := 1) rfl
    have x2 := hx2.cell (k := 2) rfl
    have x3 := hx2.cell (k := 3) rfl
    clear hx2
    have HBW2 := Lib.hid (HB1.out.trans (HB2.out.mono HB1.out.size))
    go_wp2_with fail
    refine (Finest_any w2 (HV.out.same fun b hb => HBW2.out.block b (HSS.out b hb)) (fun b hb => Nat.lt_of_lt_of_le (HSS.out b hb) HBW2.out.size) HOK.out hT).mono ?_
    rintro e w3 ⟨hb3, X, x, Y, hfin, hX24, hY24, rfl⟩
    unfold Pt.val
    dsimp only
    have HFIN := Lib.hid hfin
    have HB3 := Lib.hid (HB2.out.trans (hb3.mono HB2.out.size))
    have HSI3 := Lib.hid (HSI.out.of_eq (hb3.block _ HSI.out.lt))
    have HMO3 := Lib.hid (HMO2.out.kept (grown_none hb3) (by simp))
    have HZ3 : Hid (w1.heap.size + 2 ≤ w3.heap.size) := by rw [← HZ2.out]; exact hb3.size
    clear hb3 x0 x1 x2 x3 hfin


    have s2 := HSI3.out.cell (k := 2) rfl
    have s3 := HSI3.out.cell (k := 3) rfl
    have s4 := HSI3.out.cell (k := 4) rfl
    have s5 := HSI3.out.cell (k := 5) rfl
    have f2 := HSI3.out.free 2
    have f3 := HSI3.out.free 3
    have f4 := HSI3.out.free 4
    have f5 := HSI3.out.free 5
    go_upto_region 6 with fail
    have HSI4 := Lib.hid ((((HSI3.out.set 2 (.int .i64 X)).set 3 (.int .i64 0)).set 4 (.int .i64 x)).set 5 (.int .i64 Y))
    have HMO4 : Hid (((((w3.setCell ⟨w1.heap.size + 1, 2, none⟩ (.int .i64 X)).setCell ⟨w1.heap.size + 1, 3, none⟩ (.int .i64 0)).setCell ⟨w1.heap.size + 1, 4, none⟩ (.int .i64 x)).setCell ⟨w1.heap.size + 1, 5, none⟩ (.int .i64 Y)).ownsMap Tryd.prog 3 wayElem w1.heap.size 0 (DataW.map [] : DU)) :=
      (((HMO3.out.setCell (by show w1.heap.size ≠ w1.heap.size + 1; omega) _).setCell (by show w1.heap.size ≠ w1.heap.size + 1; omega) _).setCell (by show w1.heap.size ≠ w1.heap.size + 1; omega) _).setCell (by show w1.heap.size ≠ w1.heap.size + 1; omega) _
    have HB4 : Hid (Below w1.heap.size w1 ((((w3.setCell ⟨w1.heap.size + 1, 2, none⟩ (.int .i64 X)).setCell ⟨w1.heap.size + 1, 3, none⟩ (.int .i64 0)).setCell ⟨w1.heap.size + 1, 4, none⟩ (.int .i64 x)).setCell ⟨w1.heap.size + 1, 5, none⟩ (.int .i64 Y))) :=
      (((HB3.out.setCell (Nat.le_succ _) _).setCell (Nat.le_succ _) _).setCell (Nat.le_succ _) _).setCell (Nat.le_succ _) _
    generalize ((((w3.setCell ⟨w1.heap.size + 1, 2, none⟩ (.int .i64 X)).setCell ⟨w1.heap.size + 1, 3, none⟩ (.int .i64 0)).setCell ⟨w1.heap.size + 1, 4, none⟩ (.int .i64 x)).setCell ⟨w1.heap.size + 1, 5, none⟩ (.int .i64 Y)) = w4 at *
    clear s2 s3 s4 s5 f2 f3 f4 f5
    have hmm := @run_makeMap Tryd.prog
    go_upto_region 7 with fail
    clear hmm
    have HTM : Hid ((w4.alloc (.map #[] 0)).ownsMap Tryd.prog 3 (plainElem Tryd.prog 4) w4.heap.size 0 (DataW.map [] : DU)) := World.ownsMap_made w4 _ _ _
    have HMO5 := Lib.hid (HMO4.out.alloc (.map #[] 0))
    have HSI5 := Lib.hid (HSI4.out.alloc (.map #[] 0))
    have HB5 := Lib.hid (below_al HB4.out (Nat.le_refl _) (.map #[] 0))
    have HBT : Hid (w1.heap.size + 1 < w4.heap.size) := HSI4.out.lt
    generalize w4.alloc (.map #[] 0) = w5 at *
    have HLS : Hid (LookS w1 w5 w1.heap.size (w1.heap.size + 1) w4.heap.size 0 X x Y (waysF c.g ⟨X, 0⟩ ⟨x, Y⟩ ((movesC c W H).take 0)) (turnsF ((movesC c W H).take 0))) := ⟨HSI5.out, ⟨_, HMO5.out, MapL.nil⟩, ⟨_, HTM.out, MapL.nil⟩, HB5.out⟩
    clear HSI HSI3 HSI4 HSI5 HMO2 HMO3 HMO4 HMO5 HTM
    have HWL := Lib.hid (HW.out X x Y HFIN.out)
    generalize hL : movesC c W H = L at *
    have HLE := Lib.hid hL
    clear hL
    unfold maxLen at hu2
    go_wp2_with fail
    go_loopg [36] L.length (fun gg ctr wr => ∃ j : Nat, j ≤ L.length ∧ gg = L.length - j ∧ ctr = .int .i64 j ∧ LookS w1 wr w1.heap.size (w1.heap.size + 1) w4.heap.size j X x Y (waysF c.g ⟨X, 0⟩ ⟨x, Y⟩ (L.take j)) (turnsF (L.take j)))
    case atStart => exact ⟨0, Nat.zero_le _, rfl, rfl, HLS.out⟩
    case round =>
      clear HLS
      obtain ⟨j, hj, rfl, rfl, hls⟩ := hrel
      have HLS := Lib.hid hls
      clear hls
      by_cases hlj : j < L.length
      · rename World => wr
        have hbw := HLS.out.old
        have hrr := HROW.out.same (w' := wr) fun b hb => hbw.block b hb.2
        obtain ⟨bm, om, rfl, _, hcm⟩ := els_at (f := Mv.cells) (fun _ => rfl) hrr (by decide) hlj
        have m0 : wr.cell? ⟨bm, om + j * 4, none⟩ = some (.int .i64 (L[j].t : Int)) := hcm 0 _ rfl
        have m1 : wr.cell? ⟨bm, om + j * 4 + 1, none⟩ = some (.bool L[j].f) := hcm 1 _ rfl
        have m2 : wr.cell? ⟨bm, om + j * 4 + 2, none⟩ = some (.int .i64 L[j].b.x) := hcm 2 _ rfl
        have m3 : wr.cell? ⟨bm, om + j * 4 + 3, none⟩ = some (.int .i64 L[j].b.y) := hcm 3 _ rfl
        have HTT := Lib.hid (turnsF_take hlj)
        have HWT := Lib.hid (waysF_take (g := c.g) (s := ⟨X, 0⟩) (u := ⟨x, Y⟩) hlj)
        obtain ⟨mt, mb⟩ := HMV.out L[j] (List.getElem_mem _)
        have HLO := Lib.hid (HWL.out L[j] (List.getElem_mem _))
        have HGG : Hid (c.g = 4 ∨ c.g = 6) := HOK.out.g
        have hmt : L[j].t ≤ 5 := by have := HGG.out; omega
        have HMT : Hid ((L[j].t : Int) < c.g) := by show _ < _; have := HGG.out; omega
        have HMB := Lib.hid mb
        clear hcm hrr hbw mt mb
        generalize L[j] = mo at *
        generalize hT0 : turnsF (L.take j) = T0 at *
        generalize hW0 : waysF c.g ⟨X, 0⟩ ⟨x, Y⟩ (L.take j) = W0 at *
        clear hT0 hW0
        obtain ⟨t, f, ⟨bx, by'⟩⟩ := mo
        dsimp only at m0 m1 m2 m3 hmt HLO HMT HMB
        go_upto_region 10 with fail
        have HMB2 := Lib.hid (Arr.new wr #[.int .i64 (t : Int), .bool f, .int .i64 bx, .int .i64 by'] 98)
        have hd := al1 wr (.cells #[.int .i64 (t : Int), .bool f, .int .i64 bx, .int .i64 by'] 98)
        generalize wr.alloc (.cells #[.int .i64 (t : Int), .bool f, .int .i64 bx, .int .i64 by'] 98) = w6 at *
        have HL6 := Lib.hid (HLS.out.call hd)
        have HLW := Lib.hid HLS.out.old.size
        clear hd m0 m1 m2 m3 HLS
        have m0 := HMB2.out.cell (k := 0) rfl
        have m1 := HMB2.out.cell (k := 1) rfl
        have m2 := HMB2.out.cell (k := 2) rfl
        have m3 := HMB2.out.cell (k := 3) rfl
        rcases f with _ | _
        · obtain ⟨E, hE, hTE⟩ := HL6.out.turns
          have HE := Lib.hid hE
          clear hE
          have ht6 : t ≤ 6 := by omega
          go_wp2_with (at_mapUpdate
                       refine wp_put_turn rfl _ _ _ rfl w4.heap.size j E t ht6 rfl HE.out (by unfold maxLen; omega) rfl rfl ?_
                       intro w7 hown7 hg7)
          have HOWN7 := Lib.hid hown7
          have HG7 := Lib.hid hg7
          clear hown7 hg7 m0 m1 m2 m3
          have HNW : Hid (waysF c.g ⟨X, 0⟩ ⟨x, Y⟩ (L.take (j + 1)) = W0) := by show _ = _; rw [HWT.out]; simp [stepW]
          have HNT : Hid (∃ T', turnsF (L.take (j + 1)) = T' ∧ MapL oneD (E.put (kt t) (oneD ())) T') := by
            rw [HTT.out]
            refine ⟨_, rfl, ?_⟩
            unfold stepT
            dsimp only
            rcases hany : T0.any (fun e => e.1 == t) with _ | _
            · simpa using hTE.new () hany
            · simpa using hTE.again (fun e _ _ => rfl) hany
          go_roundg (L.length - (j + 1))
          case measure => omega
          case rel =>
            obtain ⟨T', e1, e2⟩ := HNT.out
            exact ⟨j + 1, by omega, rfl, by go_num, by
              rw [HNW.out, e1]
              exact HL6.out.turn HG7.out (by have := HBT.out; omega) (by have := HBT.out; omega) (by have := HBT.out; omega) HOWN7.out e2⟩
        · obtain ⟨D, hD, hWD⟩ := HL6.out.ways
          have HD := Lib.hid hD
          have hhas := hWD.has_iff t
          clear hD
          have ht6 : t ≤ 6 := by omega
          have hsi := HL6.out.sight
          have s1 := hsi.cell (k := 1) rfl
          clear hsi
          have HNT : Hid (turnsF (L.take (j + 1)) = T0) := by show _ = _; rw [HTT.out]; simp [stepT]
          go_upto_region 12 with fail
          go_upto_region 13 with (at_lookup
                                  refine wp_look_way rfl _ _ rfl w1.heap.size j D t ht6 rfl HD.out rfl ?_
                                  rintro ⟨p1, p2⟩
                                  dsimp only)
          have hd := al1 w6 (.cells #[.bool p1, .bool p2] 87)
          generalize w6.alloc (.cells #[.bool p1, .bool p2] 87) = w7 at *
          have HL7 := Lib.hid (HL6.out.call hd)
          have HMB7 := Lib.hid (HMB2.out.of_eq (hd.block _ HMB2.out.lt))
          clear hd hhas HD hWD s1 m0 m1 m2 m3
          rcases hany : W0.any (fun e => e.1 == t) with _ | _
          · have HAN := Lib.hid hany
            clear hany
            have hsi := HL7.out.sight
            have s1 := hsi.cell (k := 1) rfl
            have s2 := hsi.cell (k := 2) rfl
            have s3 := hsi.cell (k := 3) rfl
            have s4 := hsi.cell (k := 4) rfl
            have s5 := hsi.cell (k := 5) rfl
            have m0 := HMB7.out.cell (k := 0) rfl
            have m1 := HMB7.out.cell (k := 1) rfl
            have m2 := HMB7.out.cell (k := 2) rfl
            have m3 := HMB7.out.cell (k := 3) rfl
            have hx7 := HX1.out.of_eq (HL7.out.old.block _ HX1.out.lt)
            have x0 := hx7.cell (k := 0) rfl
            clear hsi hx7
            go_upto_region 14 with fail
            refine wp_region_plan [(true, 0), (true, 1), (true, 2), (true, 3), (true, 4), (true, 5), (true, 6), (true, 7), (true, 8), (false, 9), (false, 10)] 10
              (fun w' => w'.cell? ⟨w1.heap.size + 1, 1, none⟩ = some (.map (some w1.heap.size)) ∧ w'.cell? ⟨w1.heap.size + 1, 2, none⟩ = some (.int .i64 X) ∧ w'.cell? ⟨w1.heap.size + 1, 3, none⟩ = some (.int .i64 0) ∧ w'.cell? ⟨w1.heap.size + 1, 4, none⟩ = some (.int .i64 x) ∧ w'.cell? ⟨w1.heap.size + 1, 5, none⟩ = some (.int .i64 Y) ∧ w'.cell? ⟨wr.heap.size, 0, none⟩ = some (.int .i64 (t : Int)) ∧ w'.cell? ⟨wr.heap.size, 1, none⟩ = some (.bool true) ∧ w'.cell? ⟨wr.heap.size, 2, none⟩ = some (.int .i64 bx) ∧ w'.cell? ⟨wr.heap.size, 3, none⟩ = some (.int .i64 by') ∧ w'.cell? ⟨w.heap.size, 0, none⟩ = some (.int .i64 c.g))
              (by kernel_rfl) (by kernel_rfl) (by kernel_rfl) rfl ⟨s1, s2, s3, s4, s5, m0, m1, m2, m3, x0⟩ ?_
            repeat (first
              | (refine plan_val _ ?_ (by rfl) (by rfl) ?_ ?_
                 rotate_left 1
                 · rintro w9 ⟨k1, k2, k3, k4, k5, l0, l1, l2, l3, l4⟩; go_simp; first | done | with_reducible rfl
                 (try simp only [Act.put, List.setIfInBounds_toArray, List.set_cons_zero, List.set_cons_succ])))
            refine plan_call _ ?_ ?_ (by rfl) (by rfl) ?_ ?_
            rotate_left 2
            · go_simp; (refine And.intro ?_ ?_ <;> rfl)
            have HFI := HFIN.out
            have hX1 := HFI.X1
            have hY1 := HFI.Y1
            have hx0 := HFI.x0
            have hxX := HFI.xX
            refine (way_any c.g HGG.out ⟨X, 0⟩ ⟨x, Y⟩ ⟨t, true, ⟨bx, by'⟩⟩ _ HMT.out (by unfold Pt.le; dsimp only; omega) (by unfold Pt.le; dsimp only; omega) HMB.out hX1 hY1 (HLO.out rfl).1 (HLO.out rfl).2).mono ?_
            rintro e w8 ⟨rfl, hb8⟩
            have hb8' := below_of_drew hb8
            have HL8 := Lib.hid (HL7.out.call hb8')
            refine ⟨_, rfl, .inr ⟨(hb8'.cell (p := ⟨w1.heap.size + 1, 1, none⟩) (World.block_lt_of_cell? _ _ s1)).trans s1, (hb8'.cell (p := ⟨w1.heap.size + 1, 2, none⟩) (World.block_lt_of_cell? _ _ s2)).trans s2, (hb8'.cell (p := ⟨w1.heap.size + 1, 3, none⟩) (World.block_lt_of_cell? _ _ s3)).trans s3, (hb8'.cell (p := ⟨w1.heap.size + 1, 4, none⟩) (World.block_lt_of_cell? _ _ s4)).trans s4, (hb8'.cell (p := ⟨w1.heap.size + 1, 5, none⟩) (World.block_lt_of_cell? _ _ s5)).trans s5, (hb8'.cell (p := ⟨wr.heap.size, 0, none⟩) (World.block_lt_of_cell? _ _ m0)).trans m0, (hb8'.cell (p := ⟨wr.heap.size, 1, none⟩) (World.block_lt_of_cell? _ _ m1)).trans m1, (hb8'.cell (p := ⟨wr.heap.size, 2, none⟩) (World.block_lt_of_cell? _ _ m2)).trans m2, (hb8'.cell (p := ⟨wr.heap.size, 3, none⟩) (World.block_lt_of_cell? _ _ m3)).trans m3, (hb8'.cell (p := ⟨w.heap.size, 0, none⟩) (World.block_lt_of_cell? _ _ x0)).trans x0⟩, ?_⟩
            clear hb8 hb8' s1 s2 s3 s4 s5 m0 m1 m2 m3 x0
            (try simp only [Act.put, List.setIfInBounds_toArray, List.set_cons_zero, List.set_cons_succ])
            obtain ⟨D8, hD8, hWD8⟩ := HL8.out.ways
            have HNW : Hid (waysF c.g ⟨X, 0⟩ ⟨x, Y⟩ (L.take (j + 1)) = W0 ++ [(t, wayF c.g ⟨X, 0⟩ ⟨x, Y⟩ ⟨t, true, ⟨bx, by'⟩⟩)]) := by
              show _ = _
              rw [HWT.out]
              unfold stepW
              dsimp only
              rw [HAN.out]
              simp
            have HWN := Lib.hid (hWD8.new (wayF c.g ⟨X, 0⟩ ⟨x, Y⟩ ⟨t, true, ⟨bx, by'⟩⟩) HAN.out)
            generalize wayF c.g ⟨X, 0⟩ ⟨x, Y⟩ ⟨t, true, ⟨bx, by'⟩⟩ = wy at *
            obtain ⟨w9, hrun, hown9, hg9⟩ := run_put_way ht6 wy hD8 (by unfold maxLen; omega)
            refine plan_store _ w9 (by rfl) (by rfl) ?_ (.inl rfl) ?_
            · go_simp
            refine plan_end ?_
            (try simp only [Act.put, List.setIfInBounds_toArray, List.set_cons_zero, List.set_cons_succ])
            have HL9 := Lib.hid (HL8.out.way hg9 (by have := HBT.out; omega) (by omega) (Nat.le_refl _) hown9 HWN.out)
            clear hrun hown9 hg9 hD8
            go_wp2_with fail
            go_roundg (L.length - (j + 1))
            case measure => omega
            case rel => exact ⟨j + 1, by omega, rfl, by go_num, by rw [HNW.out, HNT.out]; exact HL9.out⟩
          · have HAN := Lib.hid hany
            clear hany
            have HNW : Hid (waysF c.g ⟨X, 0⟩ ⟨x, Y⟩ (L.take (j + 1)) = W0) := by
              show _ = _
              rw [HWT.out]
              unfold stepW
              dsimp only
              rw [HAN.out]
              simp
            have HL8 := Lib.hid HL7.out.next
            go_wp2_with fail
            go_roundg (L.length - (j + 1))
            case measure => omega
            case rel => exact ⟨j + 1, by omega, rfl, by go_num, by rw [HNW.out, HNT.out]; exact HL8.out⟩
      · obtain rfl : j = L.length := by omega
        rw [List.take_length] at HLS
        obtain ⟨E, hE, hTE⟩ := HLS.out.turns
        have hsz := hTE.size
        have HE := Lib.hid hE
        have hsi := HLS.out.sight
        have HSI := Lib.hid hsi
        have s0 := hsi.cell (k := 0) rfl
        have s1 := hsi.cell (k := 1) rfl
        have s2 := hsi.cell (k := 2) rfl
        have s3 := hsi.cell (k := 3) rfl
        have s4 := hsi.cell (k := 4) rfl
        have s5 := hsi.cell (k := 5) rfl
        have g0 := hsi.free 0
        clear hE hTE hsi
        rename World => wr
        go_upto_region 17 with (at_len
                                refine wpList_len_own _ rfl _ 119 rfl 3 4 Tryd.underlying119 _ w4.heap.size _ E rfl HE.out ?_)
        clear hsz s0 s1 s2 s3 s4 s5 g0
        have HSI2 := Lib.hid (HSI.out.set 0 (.int .i64 ((turnsF L).length : Int)))
        obtain ⟨D, hD, hWD⟩ := HLS.out.ways
        have HD := Lib.hid (hD.setCell (a := ⟨w1.heap.size + 1, 0, none⟩) (by show w1.heap.size ≠ w1.heap.size + 1; omega) (.int .i64 ((turnsF L).length : Int)))
        have HWD := Lib.hid hWD
        have HB7 : Hid (Below w1.heap.size w1 (wr.setCell ⟨w1.heap.size + 1, 0, none⟩ (.int .i64 ((turnsF L).length : Int)))) := HLS.out.old.setCell (Nat.le_succ _) _
        clear hD hWD HLS HSI
        generalize wr.setCell ⟨w1.heap.size + 1, 0, none⟩ (.int .i64 ((turnsF L).length : Int)) = w7 at *
        have s0 := HSI2.out.cell (k := 0) rfl
        have s1 := HSI2.out.cell (k := 1) rfl
        have s2 := HSI2.out.cell (k := 2) rfl
        have s3 := HSI2.out.cell (k := 3) rfl
        have s4 := HSI2.out.cell (k := 4) rfl
        have s5 := HSI2.out.cell (k := 5) rfl
        have HR7 := Lib.hid (HR1.out.of_eq (HB7.out.block _ HR1.out.lt))
        have r0 := HR7.out.cell (k := 0) rfl
        have r1 := HR7.out.cell (k := 1) rfl
        have r2 := HR7.out.cell (k := 2) rfl
        have r3 := HR7.out.cell (k := 3) rfl
        have r4 := HR7.out.cell (k := 4) rfl
        have r5 := HR7.out.cell (k := 5) rfl
        have f0 := HR7.out.free 0
        have f1 := HR7.out.free 1
        have f2 := HR7.out.free 2
        have f3 := HR7.out.free 3
        have f4 := HR7.out.free 4
        have f5 := HR7.out.free 5
        have HWW := Lib.hid (HB1.out.trans (HB7.out.mono HB1.out.size))
        have HBB : Hid (w1.heap.size ≠ w.heap.size + 1 ∧ w.heap.size ≤ w1.heap.size) := by have := HR1.out.lt; exact ⟨by omega, by omega⟩
        go_wp2_with fail
        refine bodyPost_ret (v := .tuple #[.agg #[.int .i64 ((turnsF L).length : Int), .map (some w1.heap.size), .int .i64 X, .int .i64 0, .int .i64 x, .int .i64 Y], .int .i64 0]) (by simp [results, Tryd.results25, go_sem, r0, r1, r2, r3, r4, r5]) rfl ⟨?_, .inr ⟨hT, X, x, Y, w1.heap.size, L.length, D, HFIN.out, hX24, hY24, ?_, HBB.out.2, ?_, ?_⟩⟩
        · exact (((((HWW.out.setCell (Nat.le_succ _) _).setCell (Nat.le_succ _) _).setCell (Nat.le_succ _) _).setCell (Nat.le_succ _) _).setCell (Nat.le_succ _) _).setCell (Nat.le_succ _) _
        · rw [HLE.out]; rfl
        · exact (((((HD.out.setCell HBB.out.1 _).setCell HBB.out.1 _).setCell HBB.out.1 _).setCell HBB.out.1 _).setCell HBB.out.1 _).setCell HBB.out.1 _
        · rw [HLE.out]; exact HWD.out
end Go.Proofs.YtmmakljmikdooaaDoor
