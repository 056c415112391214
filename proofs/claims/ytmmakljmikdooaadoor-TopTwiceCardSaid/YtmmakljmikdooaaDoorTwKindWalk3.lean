import Derived.Test.YtmmakljmikdooaaDoorTwKindWalk2
/- Chapter 4: the program's way. -/
namespace Go.Proofs.YtmmakljmikdooaaDoor
open Go.RowKit
set_option linter.unusedVariables false
set_option linter.unusedSimpArgs false

def Pt.cells (p : Pt) : List Value := [.int .i64 p.x, .int .i64 p.y]
theorem le_mono {z : Pt} {B C : Int} (h : z.le B) (k : B ≤ C) : z.le C := by
  unfold Pt.le at *
  omega
theorem lin_le {g : Int} {t : Nat} {fl : Bool} {z : Pt} {B : Int} (h : z.le B) : (lin g t fl z).le (2 * B) := (Bnd.lin t fl (Bnd.of (g := g) h)).1
theorem along_le {g : Int} {t : Nat} {z : Pt} {B : Int} (h : z.le B) : (alongF g t z).le (3 * B) := by
  have := lin_le (g := g) (t := t) (fl := true) h
  unfold alongF addP
  unfold Pt.le at *
  dsimp only
  omega
set_option maxRecDepth 100000 in
set_option maxHeartbeats 4000000 in
theorem way_any (g : Int) (hg : g = 4 ∨ g = 6) (s u : Pt) (m : Mv) (w : World) (ht : (m.t : Int) < g) (hs : s.le 24) (hu : u.le 24) (hm : m.b.le 24) (hsx : 1 ≤ s.x) (huy : 1 ≤ u.y)
    (hv : isZ (lineF (alongF g m.t s) (alongF g m.t u)) = false) (hh : hasF s u (lineF (alongF g m.t s) (alongF g m.t u)) = true) :
    Calls Tryd.prog 43 #[.agg #[.int .i64 s.x, .int .i64 s.y, .int .i64 u.x, .int .i64 u.y], .int .i64 g, m.val] w fun e w' => e = .returned (.agg #[.bool (wayF g s u m).1, .bool (wayF g s u m).2]) ∧ Below w.heap.size w w' := by
  obtain ⟨R, hR⟩ : ∃ R, wayF g s u m = R := ⟨_, rfl⟩
  rw [hR]
  have HRR := Lib.hid hR
  clear hR
  obtain ⟨t, f, ⟨bx, by'⟩⟩ := m
  unfold Mv.val
  dsimp only at *
  have HX := Lib.hid (((Arr.new w #[.int .i64 s.x, .int .i64 s.y, .int .i64 u.x, .int .i64 u.y] 80).alloc (.cells #[.int .i64 (t : Int), .bool f, .int .i64 bx, .int .i64 by'] 98)).alloc (.cells #[.bool false, .bool false] 87))
  have HM := Lib.hid ((arr_new2 w (.cells #[.int .i64 s.x, .int .i64 s.y, .int .i64 u.x, .int .i64 u.y] 80) #[.int .i64 (t : Int), .bool f, .int .i64 bx, .int .i64 by'] 98).alloc (.cells #[.bool false, .bool false] 87))
  have HR := Lib.hid (arr_new3 w (.cells #[.int .i64 s.x, .int .i64 s.y, .int .i64 u.x, .int .i64 u.y] 80) (.cells #[.int .i64 (t : Int), .bool f, .int .i64 bx, .int .i64 by'] 98) #[.bool false, .bool false] 87)
  have HB0 := Lib.hid (al3 w (.cells #[.int .i64 s.x, .int .i64 s.y, .int .i64 u.x, .int .i64 u.y] 80) (.cells #[.int .i64 (t : Int), .bool f, .int .i64 bx, .int .i64 by'] 98) (.cells #[.bool false, .bool false] 87))
  go_enter Tryd.func43, Tryd.ntmps43
  go_upto_region 1 with fail
  generalize ((w.alloc (.cells #[.int .i64 s.x, .int .i64 s.y, .int .i64 u.x, .int .i64 u.y] 80)).alloc (.cells #[.int .i64 (t : Int), .bool f, .int .i64 bx, .int .i64 by'] 98)).alloc (.cells #[.bool false, .bool false] 87) = w0 at *
  have x0 := HX.out.cell (k := 0) rfl
  have x1 := HX.out.cell (k := 1) rfl
  have x2 := HX.out.cell (k := 2) rfl
  have x3 := HX.out.cell (k := 3) rfl
  go_upto_region 3 with fail
  have HL := Lib.hid (Arr.new w0 #[.int .i64 s.x, .int .i64 s.y, .int .i64 u.x, .int .i64 u.y] 78)
  have HB1 := Lib.hid (al1 w0 (.cells #[.int .i64 s.x, .int .i64 s.y, .int .i64 u.x, .int .i64 u.y] 78))
  generalize w0.alloc (.cells #[.int .i64 s.x, .int .i64 s.y, .int .i64 u.x, .int .i64 u.y] 78) = w1 at *
  have HX1 := Lib.hid (HX.out.of_eq (HB1.out.block _ HX.out.lt))
  have HM1 := Lib.hid (HM.out.of_eq (HB1.out.block _ HM.out.lt))
  have HR1 := Lib.hid (HR.out.of_eq (HB1.out.block _ HR.out.lt))
  have HBW := Lib.hid (HB0.out.trans (HB1.out.mono HB0.out.size))
  have hgt : (0 : Int) ≤ 5 := by omega
  clear x0 x1 x2 x3 hgt
  have HA1 := Lib.hid (along_le (g := g) (t := t) hs)
  have HA2 := Lib.hid (along_le (g := g) (t := t) hu)
  go_loopg [7, 22] 2 (fun gg ov ctr wr => ∃ i : Nat, i ≤ 2 ∧ gg = 2 - i ∧ ctr = .int .i64 i ∧ Below w1.heap.size w1 wr ∧ ∃ xs : List Pt, xs = ([s, u].take i).map (alongF g t) ∧ wr.ownsRow w1.heap.size 78 2 ov xs.length (xs.flatMap Pt.cells))
  case atStart => exact ⟨0, by omega, rfl, rfl, Below.refl _ _, [], rfl, World.ownsRow_nil _ _ _ _⟩
  case round =>
    obtain ⟨i, hi, rfl, rfl, hb, xs, hxs, ho⟩ := hrel
    have HB := Lib.hid hb
    have HO := Lib.hid ho
    clear hb ho
    have hl := (HL.out.of_eq (HB.out.block _ HL.out.lt))
    have HM2 := Lib.hid (HM1.out.of_eq (HB.out.block _ HM1.out.lt))
    by_cases hlt : i < 2
    · obtain ⟨z, hz, htk, z0, z1⟩ : ∃ z : Pt, z.le 24 ∧ [s, u].take (i + 1) = [s, u].take i ++ [z] ∧ wr.cell? ⟨w0.heap.size, i * 2, none⟩ = some (.int .i64 z.x) ∧ wr.cell? ⟨w0.heap.size, i * 2 + 1, none⟩ = some (.int .i64 z.y) := by
        have hj2 : i = 0 ∨ i = 1 := by omega
        rcases hj2 with rfl | rfl
        · exact ⟨s, hs, rfl, hl.cell (k := 0) rfl, hl.cell (k := 1) rfl⟩
        · exact ⟨u, hu, rfl, hl.cell (k := 2) rfl, hl.cell (k := 3) rfl⟩
      have HLX : Hid (xs ++ [alongF g t z] = ([s, u].take (i + 1)).map (alongF g t)) := by
        show _ = _
        rw [htk, List.map_append, ← hxs, List.map_cons, List.map_nil]
      have hxl : xs.length ≤ 2 := by rw [hxs]; simp; omega
      have HAL := Lib.hid (lin_le (g := g) (t := t) (fl := true) hz)
      have HAP : Hid (∀ w, Calls Tryd.prog 31 #[.int .i64 g, .agg #[.int .i64 (t : Int), .bool true, .int .i64 0, .int .i64 0], .agg #[.int .i64 z.x, .int .i64 z.y]] w fun e w' => e = .returned (.tuple #[.agg #[.int .i64 (lin g t true z).x, .int .i64 (lin g t true z).y], .int .i64 0]) ∧ Below w.heap.size w w') := fun w => by
        have he : app g ⟨t, true, ⟨0, 0⟩⟩ z = lin g t true z := by unfold app; dsimp only; rw [Int.add_zero, Int.add_zero]
        refine (Apply_any g hg ⟨t, true, ⟨0, 0⟩⟩ z w (by unfold Pt.le; dsimp only; omega) ht (by unfold Pt.le at *; omega) (by rw [he]; have := HAL.out; unfold Pt.le at *; omega)).mono ?_
        rintro e w' ⟨rfl, hb'⟩
        rw [he]
        exact ⟨rfl, hb'⟩
      have HAE : Hid (alongF g t z = ⟨z.x + (lin g t true z).x, z.y + (lin g t true z).y⟩) := rfl
      generalize alongF g t z = az at *
      generalize lin g t true z = q at *
      clear hl hxs htk
      have hii : (i : Int) < 2 := by omega
      have hql := HAL.out
      unfold Pt.le at hz hql
      go_upto_region 5 with fail
      have HZB := Lib.hid (Arr.new wr #[.int .i64 z.x, .int .i64 z.y] 78)
      have hd := al1 wr (.cells #[.int .i64 z.x, .int .i64 z.y] 78)
      generalize wr.alloc (.cells #[.int .i64 z.x, .int .i64 z.y] 78) = w4 at *
      have HB4 := Lib.hid (HB.out.trans (hd.mono HB.out.size))
      have HO4 := Lib.hid (own_below HO.out hd (Nat.le_refl _))
      have hm4 := HM2.out.of_eq (hd.block _ HM2.out.lt)
      have m0 := hm4.cell (k := 0) rfl
      clear hd z0 z1 hm4
      have z0 := HZB.out.cell (k := 0) rfl
      have z1 := HZB.out.cell (k := 1) rfl
      go_wp2_with fail
      refine (HAP.out _).mono ?_
      rintro e w5 ⟨rfl, hb5⟩
      have HB5 := Lib.hid (HB4.out.trans (hb5.mono HB4.out.size))
      have HO5 := Lib.hid (own_below HO4.out hb5 (Nat.le_refl _))
      have HZ5 := Lib.hid (HZB.out.of_eq (hb5.block _ HZB.out.lt))
      clear hb5 z0 z1 m0
      go_upto_region 6 with fail
      have HQB := Lib.hid (Arr.new w5 #[.int .i64 q.x, .int .i64 q.y] 78)
      have hd := al1 w5 (.cells #[.int .i64 q.x, .int .i64 q.y] 78)
      generalize w5.alloc (.cells #[.int .i64 q.x, .int .i64 q.y] 78) = w6 at *
      have HB6 := Lib.hid (HB5.out.trans (hd.mono HB5.out.size))
      have HO6 := Lib.hid (own_below HO5.out hd (Nat.le_refl _))
      have hz6 := HZ5.out.of_eq (hd.block _ HZ5.out.lt)
      have z0 := hz6.cell (k := 0) rfl
      have z1 := hz6.cell (k := 1) rfl
      have q0 := HQB.out.cell (k := 0) rfl
      have q1 := HQB.out.cell (k := 1) rfl
      clear hd hz6
      go_wp2_with (at_builtin
                   refine app_el T59p [.int .i64 (z.x + q.x), .int .i64 (z.y + q.y)] HO6.out HB6.out (Nat.le_refl _) rfl rfl rfl rfl rfl (by simp [Value.oneCell']) (by omega) ?_
                   intro v1 w7 hown1 hb1 hg1 ho1)
      have HO7 := Lib.hid hown1
      have HB7 := Lib.hid hb1
      clear hown1 hb1 hg1 ho1 z0 z1 q0 q1
      go_roundg (2 - (i + 1))
      case measure => omega
      case rel => exact ⟨i + 1, by omega, rfl, by go_num, HB7.out, xs ++ [az], HLX.out, by rw [HAE.out]; simpa [Pt.cells] using HO7.out⟩
    · obtain rfl : i = 2 := by omega
      have e2 : xs = [alongF g t s, alongF g t u] := hxs
      subst e2
      clear hxs hl
      obtain ⟨Aa, ca, rfl, _, _⟩ := own_form HO.out
      have hrow := Row.of_own HO.out
      have HA1e := HA1.out
      have HA2e := HA2.out
      have HPL : Hid ((stepF g s u t).le 72) := short_le (B := 72) (by omega) (by unfold lineF; split; exact le_mono HA2e (by omega); exact le_mono HA1e (by omega)) _
      have HPN : Hid (isZ (stepF g s u t) = false) := short_ne hv hh _ (len_pos hv)
      have HSC : Hid (∀ w : World, Row w (fun b => w1.heap.size ≤ b ∧ b < wr.heap.size) 2 Aa 2 [.int .i64 (alongF g t s).x, .int .i64 (alongF g t s).y, .int .i64 (alongF g t u).x, .int .i64 (alongF g t u).y] → (∀ b, (w1.heap.size ≤ b ∧ b < wr.heap.size) → b < w.heap.size) → Calls Tryd.prog 64 #[.agg #[.int .i64 s.x, .int .i64 s.y, .int .i64 u.x, .int .i64 u.y], .slice Aa 2 ca] w fun e w' => e = .returned (.agg #[.int .i64 (stepF g s u t).x, .int .i64 (stepF g s u t).y]) ∧ Below w.heap.size w w') := fun w h1 h2 =>
        shortest_any s u (alongF g t s) (alongF g t u) Aa ca w h1 h2 (by unfold Pt.le at *; omega) (by unfold Pt.le at *; omega) (by unfold Pt.le at *; omega) (by unfold Pt.le at *; omega) hsx huy hv hh
      have HRW : Hid (R = if (oddF (alongF g t s) (stepF g s u t) || oddF (alongF g t u) (stepF g s u t)) = true then (true, true) else (!oddF (both g ⟨t, f, ⟨bx, by'⟩⟩ ⟨t, f, ⟨bx, by'⟩⟩).b (stepF g s u t), oddF (both g ⟨t, f, ⟨bx, by'⟩⟩ ⟨t, f, ⟨bx, by'⟩⟩).b (stepF g s u t))) := HRR.out.symm
      clear HRR hv hh
      generalize stepF g s u t = p at *
      generalize alongF g t s = a0 at *
      generalize alongF g t u = a1 at *
      have HXr := Lib.hid (HX1.out.of_eq (HB.out.block _ HX1.out.lt))
      have HRr := Lib.hid (HR1.out.of_eq (HB.out.block _ HR1.out.lt))
      have x0 := HXr.out.cell (k := 0) rfl
      have x1 := HXr.out.cell (k := 1) rfl
      have x2 := HXr.out.cell (k := 2) rfl
      have x3 := HXr.out.cell (k := 3) rfl
      have HROW := Lib.hid hrow
      clear hrow
      go_wp2_with fail
      refine (HSC.out _ HROW.out (fun b hb => hb.2)).mono ?_
      rintro e w3 ⟨rfl, hb3⟩
      have HRO3 := Lib.hid (HROW.out.same (w' := w3) fun b hb => hb3.block b hb.2)
      have HM3 := Lib.hid (HM2.out.of_eq (hb3.block _ HM2.out.lt))
      have HR3 := Lib.hid (HRr.out.of_eq (hb3.block _ HRr.out.lt))
      have HB3 := Lib.hid (HB.out.trans (hb3.mono HB.out.size))
      have HLT := Lib.hid hb3.size
      clear x0 x1 x2 x3 hb3
      have HPB := Lib.hid (Arr.new w3 #[.int .i64 p.x, .int .i64 p.y] 78)
      have hd := al1 w3 (.cells #[.int .i64 p.x, .int .i64 p.y] 78)
      go_upto_region 9 with fail
      generalize w3.alloc (.cells #[.int .i64 p.x, .int .i64 p.y] 78) = w4 at *
      have HRO4 := Lib.hid (HRO3.out.same (w' := w4) fun b hb => hd.block b (Nat.lt_of_lt_of_le hb.2 HLT.out))
      have HM4 := Lib.hid (HM3.out.of_eq (hd.block _ HM3.out.lt))
      have HR4 := Lib.hid (HR3.out.of_eq (hd.block _ HR3.out.lt))
      have HB4 := Lib.hid (HB3.out.trans (hd.mono HB3.out.size))
      have HLS := Lib.hid (Nat.le_trans HLT.out hd.size)
      clear hd
      obtain ⟨bg, og, rfl, hbg, hcg⟩ := HRO4.out.at_ (by first | omega | simp)
      have g0 : w4.cell? ⟨bg, og, none⟩ = some (.int .i64 a0.x) := hcg 0 _ rfl
      have g1 : w4.cell? ⟨bg, og + 1, none⟩ = some (.int .i64 a0.y) := hcg 1 _ rfl
      have g2 : w4.cell? ⟨bg, og + 2, none⟩ = some (.int .i64 a1.x) := hcg 2 _ rfl
      have g3 : w4.cell? ⟨bg, og + 3, none⟩ = some (.int .i64 a1.y) := hcg 3 _ rfl
      have p0 := HPB.out.cell (k := 0) rfl
      have p1 := HPB.out.cell (k := 1) rfl
      have HBG : Hid (bg < w4.heap.size ∧ w3.heap.size < w4.heap.size) := ⟨Nat.lt_of_lt_of_le hbg.2 HLS.out, HPB.out.lt⟩
      clear hcg hbg
      have HC0 : Hid (∀ w, _) := fun w => times2_any a0 p w (le_mono HA1.out (by omega)) HPN.out
      have HC1 : Hid (∀ w, _) := fun w => times2_any a1 p w (le_mono HA2.out (by omega)) HPN.out
      unfold Pt.val at HC0 HC1
      have HS : Hid (∀ w', Below w4.heap.size w4 w' → Below w4.heap.size w4 w' ∧ w'.cell? ⟨bg, og, none⟩ = some (.int .i64 a0.x) ∧ w'.cell? ⟨bg, og + 1, none⟩ = some (.int .i64 a0.y) ∧ w'.cell? ⟨bg, og + 2, none⟩ = some (.int .i64 a1.x) ∧ w'.cell? ⟨bg, og + 3, none⟩ = some (.int .i64 a1.y) ∧ w'.cell? ⟨w3.heap.size, 0, none⟩ = some (.int .i64 p.x) ∧ w'.cell? ⟨w3.heap.size, 1, none⟩ = some (.int .i64 p.y)) := fun w' hb =>
        ⟨hb, (hb.cell (p := ⟨bg, og, none⟩) (by exact HBG.out.1)).trans g0, (hb.cell (p := ⟨bg, og + 1, none⟩) (by exact HBG.out.1)).trans g1, (hb.cell (p := ⟨bg, og + 2, none⟩) (by exact HBG.out.1)).trans g2, (hb.cell (p := ⟨bg, og + 3, none⟩) (by exact HBG.out.1)).trans g3, (hb.cell (p := ⟨w3.heap.size, 0, none⟩) (by exact HBG.out.2)).trans p0, (hb.cell (p := ⟨w3.heap.size, 1, none⟩) (by exact HBG.out.2)).trans p1⟩
      have HS0 := Lib.hid (HS.out _ (below_dN (n := 1) (Below.refl _ _)))
      clear g0 g1 g2 g3 p0 p1
      rcases hod : oddF a0 p with _ | _
      · have ho0 : ((timesF a0 p).tmod 2 != 0) = false := by
          unfold oddF at hod
          simpa using hod
        rw [hod, Bool.false_or] at HRW
        clear hod
        rcases hod : oddF a1 p with _ | _
        · have ho1 : ((timesF a1 p).tmod 2 != 0) = false := by
            unfold oddF at hod
            simpa using hod
          rw [hod] at HRW
          clear hod
          refine wp_region_seq (fun w' => Below w4.heap.size w4 w' ∧ w'.cell? ⟨bg, og, none⟩ = some (.int .i64 a0.x) ∧ w'.cell? ⟨bg, og + 1, none⟩ = some (.int .i64 a0.y) ∧ w'.cell? ⟨bg, og + 2, none⟩ = some (.int .i64 a1.x) ∧ w'.cell? ⟨bg, og + 3, none⟩ = some (.int .i64 a1.y) ∧ w'.cell? ⟨w3.heap.size, 0, none⟩ = some (.int .i64 p.x) ∧ w'.cell? ⟨w3.heap.size, 1, none⟩ = some (.int .i64 p.y))
            (by kernel_rfl) (by kernel_rfl) HS0.out ?_
          show Seq _ _ _ _ [_, _, _, _, _, _, _, _, _, _, _, _, _, _, _, _] _
          repeat (first
            | (refine seq_skip (by rfl) ?_; (try simp only [Act.put, List.setIfInBounds_toArray, List.set_cons_zero, List.set_cons_succ]))
            | (refine seq_val ?_ (by rfl) ?_ ?_
               rotate_left 1
               · intro w6 hS6; go_simp; first | done | with_reducible rfl
               (try simp only [Act.put, List.setIfInBounds_toArray, List.set_cons_zero, List.set_cons_succ]))
            | (refine seq_call ?_ ?_ ?_ (by rfl) ?_ ?_ ?_
               rotate_left 3
               · intro w6 hS6; go_simp; (refine And.intro ?_ ?_ <;> rfl)
               · intro w6 hS6
                 first | (with_reducible refine (HC0.out _).mono ?_) | (with_reducible refine (HC1.out _).mono ?_)
                 rintro e w7 ⟨rfl, hb7⟩
                 refine And.intro ?_ (HS.out _ (hS6.1.trans (hb7.mono hS6.1.size)))
                 rfl
               (try simp only [Act.put, List.setIfInBounds_toArray, List.set_cons_zero, List.set_cons_succ])))
          refine seq_end ?_
          intro w6 hS6
          have HB6 := Lib.hid (HB4.out.trans (hS6.1.mono HB4.out.size))
          have HM6 := Lib.hid (HM4.out.of_eq (hS6.1.block _ HM4.out.lt))
          have HR6 := Lib.hid (HR4.out.of_eq (hS6.1.block _ HR4.out.lt))
          have HP6 := Lib.hid (HPB.out.of_eq (hS6.1.block _ HPB.out.lt))
          clear hS6
          rw [if_neg (by simp)] at HRW
          have m0 := HM6.out.cell (k := 0) rfl
          have m1 := HM6.out.cell (k := 1) rfl
          have m2 := HM6.out.cell (k := 2) rfl
          have m3 := HM6.out.cell (k := 3) rfl
          have hbb : (both g ⟨t, f, ⟨bx, by'⟩⟩ ⟨t, f, ⟨bx, by'⟩⟩).b.le 72 := by
            have h1 := lin_le (g := g) (t := t) (fl := f) hm
            unfold both app
            unfold Pt.le at *
            dsimp only at *
            omega
          have HBB := Lib.hid hbb
          have HCO : Hid (∀ w, _) := fun w => Compose_any g hg ⟨t, f, ⟨bx, by'⟩⟩ ⟨t, f, ⟨bx, by'⟩⟩ w (le_mono hm (by omega)) ht (le_mono hm (by omega)) ht (le_mono HBB.out (by omega))
          have HC2 : Hid (∀ w, _) := fun w => times2_any (both g ⟨t, f, ⟨bx, by'⟩⟩ ⟨t, f, ⟨bx, by'⟩⟩).b p w (le_mono HBB.out (by omega)) HPN.out
          unfold Mv.val at HCO
          unfold Pt.val at HC2
          clear hbb
          generalize both g ⟨t, f, ⟨bx, by'⟩⟩ ⟨t, f, ⟨bx, by'⟩⟩ = tw at *
          go_wp2_with fail
          refine (HCO.out _).mono ?_
          rintro e w7 ⟨rfl, hb7⟩
          have HB7 := Lib.hid (HB6.out.trans (hb7.mono HB6.out.size))
          have HR7 := Lib.hid (HR6.out.of_eq (hb7.block _ HR6.out.lt))
          have HP7 := Lib.hid (HP6.out.of_eq (hb7.block _ HP6.out.lt))
          clear hb7 m0 m1 m2 m3
          obtain ⟨tt, tf, ⟨tx, ty⟩⟩ := tw
          dsimp only at HC2 HRW
          have HTB := Lib.hid (Arr.new w7 #[.int .i64 (tt : Int), .bool tf, .int .i64 tx, .int .i64 ty] 98)
          have hd := al1 w7 (.cells #[.int .i64 (tt : Int), .bool tf, .int .i64 tx, .int .i64 ty] 98)
          go_upto_region 12 with fail
          generalize w7.alloc (.cells #[.int .i64 (tt : Int), .bool tf, .int .i64 tx, .int .i64 ty] 98) = w8 at *
          have HB8 := Lib.hid (HB7.out.trans (hd.mono HB7.out.size))
          have HR8 := Lib.hid (HR7.out.of_eq (hd.block _ HR7.out.lt))
          have HP8 := Lib.hid (HP7.out.of_eq (hd.block _ HP7.out.lt))
          have t2 := HTB.out.cell (k := 2) rfl
          have t3 := HTB.out.cell (k := 3) rfl
          have p0 := HP8.out.cell (k := 0) rfl
          have p1 := HP8.out.cell (k := 1) rfl
          clear hd
          go_wp2_with fail
          refine (HC2.out _).mono ?_
          rintro e w9 ⟨rfl, hb9⟩
          have HB9 := Lib.hid (HB8.out.trans (hb9.mono HB8.out.size))
          have HR9 := Lib.hid (HR8.out.of_eq (hb9.block _ HR8.out.lt))
          clear hb9 t2 t3 p0 p1
          have r0 := HR9.out.cell (k := 0) rfl
          have r1 := HR9.out.cell (k := 1) rfl
          have f0 := HR9.out.free 0
          have f1 := HR9.out.free 1
          rcases hod : oddF ⟨tx, ty⟩ p with _ | _
          · have ho2 : ((timesF ⟨tx, ty⟩ p).tmod 2 == 0) = true := by
              unfold oddF at hod
              simpa using hod
            rw [hod] at HRW
            clear hod
            generalize timesF ⟨tx, ty⟩ p = tq at *
            have HBZ : Hid (Below w.heap.size w ((w9.setCell ⟨w.heap.size + 1 + 1, 0, none⟩ (.bool true)).setCell ⟨w.heap.size + 1 + 1, 1, none⟩ (.bool false))) := ((HBW.out.trans (HB9.out.mono HBW.out.size)).setCell (by show w.heap.size ≤ w.heap.size + 1 + 1; omega) _).setCell (by show w.heap.size ≤ w.heap.size + 1 + 1; omega) _
            go_wp2_with fail
            refine bodyPost_ret (v := .agg #[.bool true, .bool false]) (by simp [results, Tryd.results43, go_sem, r0, r1]) rfl ⟨?_, HBZ.out⟩
            rw [HRW.out]; rfl
          · have ho2 : ((timesF ⟨tx, ty⟩ p).tmod 2 == 0) = false := by
              unfold oddF at hod
              simpa using hod
            rw [hod] at HRW
            clear hod
            generalize timesF ⟨tx, ty⟩ p = tq at *
            have HBZ : Hid (Below w.heap.size w ((w9.setCell ⟨w.heap.size + 1 + 1, 0, none⟩ (.bool false)).setCell ⟨w.heap.size + 1 + 1, 1, none⟩ (.bool true))) := ((HBW.out.trans (HB9.out.mono HBW.out.size)).setCell (by show w.heap.size ≤ w.heap.size + 1 + 1; omega) _).setCell (by show w.heap.size ≤ w.heap.size + 1 + 1; omega) _
            go_wp2_with fail
            refine bodyPost_ret (v := .agg #[.bool false, .bool true]) (by simp [results, Tryd.results43, go_sem, r0, r1]) rfl ⟨?_, HBZ.out⟩
            rw [HRW.out]; rfl
        · have ho1 : ((timesF a1 p).tmod 2 != 0) = true := by
            unfold oddF at hod
            simpa using hod
          rw [hod, if_pos rfl] at HRW
          clear hod
          refine wp_region_seq (fun w' => Below w4.heap.size w4 w' ∧ w'.cell? ⟨bg, og, none⟩ = some (.int .i64 a0.x) ∧ w'.cell? ⟨bg, og + 1, none⟩ = some (.int .i64 a0.y) ∧ w'.cell? ⟨bg, og + 2, none⟩ = some (.int .i64 a1.x) ∧ w'.cell? ⟨bg, og + 3, none⟩ = some (.int .i64 a1.y) ∧ w'.cell? ⟨w3.heap.size, 0, none⟩ = some (.int .i64 p.x) ∧ w'.cell? ⟨w3.heap.size, 1, none⟩ = some (.int .i64 p.y))
            (by kernel_rfl) (by kernel_rfl) HS0.out ?_
          show Seq _ _ _ _ [_, _, _, _, _, _, _, _, _, _, _, _, _, _, _, _] _
          repeat (first
            | (refine seq_skip (by rfl) ?_; (try simp only [Act.put, List.setIfInBounds_toArray, List.set_cons_zero, List.set_cons_succ]))
            | (refine seq_val ?_ (by rfl) ?_ ?_
               rotate_left 1
               · intro w6 hS6; go_simp; first | done | with_reducible rfl
               (try simp only [Act.put, List.setIfInBounds_toArray, List.set_cons_zero, List.set_cons_succ]))
            | (refine seq_call ?_ ?_ ?_ (by rfl) ?_ ?_ ?_
               rotate_left 3
               · intro w6 hS6; go_simp; (refine And.intro ?_ ?_ <;> rfl)
               · intro w6 hS6
                 first | (with_reducible refine (HC0.out _).mono ?_) | (with_reducible refine (HC1.out _).mono ?_)
                 rintro e w7 ⟨rfl, hb7⟩
                 refine And.intro ?_ (HS.out _ (hS6.1.trans (hb7.mono hS6.1.size)))
                 rfl
               (try simp only [Act.put, List.setIfInBounds_toArray, List.set_cons_zero, List.set_cons_succ])))
          refine seq_end ?_
          intro w6 hS6
          have HB6 := Lib.hid (HB4.out.trans (hS6.1.mono HB4.out.size))
          have HR6 := Lib.hid (HR4.out.of_eq (hS6.1.block _ HR4.out.lt))
          clear hS6
          have r0 := HR6.out.cell (k := 0) rfl
          have r1 := HR6.out.cell (k := 1) rfl
          have f0 := HR6.out.free 0
          have f1 := HR6.out.free 1
          have HBZ : Hid (Below w.heap.size w ((w6.setCell ⟨w.heap.size + 1 + 1, 0, none⟩ (.bool true)).setCell ⟨w.heap.size + 1 + 1, 1, none⟩ (.bool true))) := ((HBW.out.trans (HB6.out.mono HBW.out.size)).setCell (by show w.heap.size ≤ w.heap.size + 1 + 1; omega) _).setCell (by show w.heap.size ≤ w.heap.size + 1 + 1; omega) _
          go_wp2_with fail
          refine bodyPost_ret (v := .agg #[.bool true, .bool true]) (by simp [results, Tryd.results43, go_sem, r0, r1]) rfl ⟨?_, HBZ.out⟩
          rw [HRW.out]
      · have ho0 : ((timesF a0 p).tmod 2 != 0) = true := by
          unfold oddF at hod
          simpa using hod
        rw [hod, Bool.true_or, if_pos rfl] at HRW
        clear hod
        refine wp_region_seq (fun w' => Below w4.heap.size w4 w' ∧ w'.cell? ⟨bg, og, none⟩ = some (.int .i64 a0.x) ∧ w'.cell? ⟨bg, og + 1, none⟩ = some (.int .i64 a0.y) ∧ w'.cell? ⟨bg, og + 2, none⟩ = some (.int .i64 a1.x) ∧ w'.cell? ⟨bg, og + 3, none⟩ = some (.int .i64 a1.y) ∧ w'.cell? ⟨w3.heap.size, 0, none⟩ = some (.int .i64 p.x) ∧ w'.cell? ⟨w3.heap.size, 1, none⟩ = some (.int .i64 p.y))
          (by kernel_rfl) (by kernel_rfl) HS0.out ?_
        show Seq _ _ _ _ [_, _, _, _, _, _, _, _, _, _, _, _, _, _, _, _] _
        repeat (first
          | (refine seq_skip (by rfl) ?_; (try simp only [Act.put, List.setIfInBounds_toArray, List.set_cons_zero, List.set_cons_succ]))
          | (refine seq_val ?_ (by rfl) ?_ ?_
             rotate_left 1
             · intro w6 hS6; go_simp; first | done | with_reducible rfl
             (try simp only [Act.put, List.setIfInBounds_toArray, List.set_cons_zero, List.set_cons_succ]))
          | (refine seq_call ?_ ?_ ?_ (by rfl) ?_ ?_ ?_
             rotate_left 3
             · intro w6 hS6; go_simp; (refine And.intro ?_ ?_ <;> rfl)
             · intro w6 hS6
               first | (with_reducible refine (HC0.out _).mono ?_) | (with_reducible refine (HC1.out _).mono ?_)
               rintro e w7 ⟨rfl, hb7⟩
               refine And.intro ?_ (HS.out _ (hS6.1.trans (hb7.mono hS6.1.size)))
               rfl
             (try simp only [Act.put, List.setIfInBounds_toArray, List.set_cons_zero, List.set_cons_succ])))
        refine seq_end ?_
        intro w6 hS6
        have HB6 := Lib.hid (HB4.out.trans (hS6.1.mono HB4.out.size))
        have HR6 := Lib.hid (HR4.out.of_eq (hS6.1.block _ HR4.out.lt))
        clear hS6
        have r0 := HR6.out.cell (k := 0) rfl
        have r1 := HR6.out.cell (k := 1) rfl
        have f0 := HR6.out.free 0
        have f1 := HR6.out.free 1
        have HBZ : Hid (Below w.heap.size w ((w6.setCell ⟨w.heap.size + 1 + 1, 0, none⟩ (.bool true)).setCell ⟨w.heap.size + 1 + 1, 1, none⟩ (.bool true))) := ((HBW.out.trans (HB6.out.mono HBW.out.size)).setCell (by show w.heap.size ≤ w.heap.size + 1 + 1; omega) _).setCell (by show w.heap.size ≤ w.heap.size + 1 + 1; omega) _
        go_wp2_with fail
        refine bodyPost_ret (v := .agg #[.bool true, .bool true]) (by simp [results, Tryd.results43, go_sem, r0, r1]) rfl ⟨?_, HBZ.out⟩
        rw [HRW.out]
end Go.Proofs.YtmmakljmikdooaaDoor
