import Derived.Test.YtaacfjeddoekfaaTl7
import Derived.Test.YtaacfjeddoekfaaTl9
import Derived.Test.YtaacfjeddoekfaaTl12
/- Chapter 12, the document's answer: Cloth. -/
namespace Go.Proofs.Ytaacfjeddoekfaa
open Go.RowKit
set_option linter.unusedVariables false
set_option linter.unusedSimpArgs false

theorem refRunA_any (n : Int) {v : Value} {l : List Sti} (w : World) (hv : Stitches w (fun b => b < w.heap.size) v l) (hl : l.length ≤ 4000000000000) :
    Calls Try.prog 12 #[.int .i64 n, v] w fun e w' => ∃ kv, e = .returned (.tuple #[kv, .agg #[.int .i64 (runAF n l).1, .int .i64 (runAF n l).2]]) ∧ KnR w' (fun b => b < w'.heap.size) kv (runAK n l) ∧ Below w.heap.size w w' := by
  by_cases h : 1 ≤ n ∧ n ≤ 128
  · obtain ⟨N, rfl⟩ : ∃ N : Nat, n = (N : Int) := ⟨n.toNat, by omega⟩
    unfold runAF runAK
    rw [if_pos h, if_pos h, Int.toNat_natCast]
    refine (refRun_ok N (by omega) (by omega) w hv hl).mono ?_
    rintro e w' ⟨kv, rfl, hk, hb⟩
    exact ⟨_, rfl, hk.mono fun b hb => hb.2, hb⟩
  · unfold runAF runAK
    rw [if_neg h, if_neg h]
    refine (refRun_bad n (by omega) w hv).mono ?_
    rintro e w' ⟨rfl, hb⟩
    exact ⟨_, rfl, noKn_R _ _, hb⟩

set_option maxRecDepth 100000 in
set_option maxHeartbeats 16000000 in
theorem ClothR_any (n : Int) {v : Value} {l : List Sti} (w : World) (hv : Stitches w (fun b => b < w.heap.size) v l) (hl : l.length ≤ 4000000000000) :
    Calls Try.prog 22 #[.int .i64 n, v] w fun e w' => ∃ kv, e = .returned (.tuple #[kv, .agg #[.int .i64 (runAF n l).1, .int .i64 (runAF n l).2]]) ∧ KnR w' (fun b => w.heap.size ≤ b ∧ b < w'.heap.size) kv (clothA n l) ∧ Below w.heap.size w w' := by
  have HV := Lib.hid hv
  have HRUN : Hid (∀ w v, Stitches w (fun b => b < w.heap.size) v l → Calls Try.prog 12 #[.int .i64 n, v] w fun e w' => ∃ kv, e = .returned (.tuple #[kv, .agg #[.int .i64 (runAF n l).1, .int .i64 (runAF n l).2]]) ∧ KnR w' (fun b => b < w'.heap.size) kv (runAK n l) ∧ Below w.heap.size w w') := fun w v hv => refRunA_any n w hv hl
  have HOKK : Hid ((runAF n l).1 = 0 → ∃ N, Ok N (runAK n l) ∧ clothA n l = cloth (runAK n l)) := fun h => by
    obtain ⟨N, rfl, h1, h2, _, e, _⟩ := runA_ok h
    refine ⟨N, by rw [e]; exact ok_after h1 h2 l, ?_⟩
    unfold clothA
    rw [if_pos h]
  have HBADK : Hid ((runAF n l).1 ≠ 0 → clothA n l = noKn) := fun h => by unfold clothA; rw [if_neg h]
  have HA := Lib.hid ((Arr.new w #[nils, nils, nils, nils, .int .i64 0] 27).alloc (.cells #[.int .i64 0, .int .i64 0] 30))
  have HA2 := Lib.hid (arr_new2 w (.cells #[nils, nils, nils, nils, .int .i64 0] 27) #[.int .i64 0, .int .i64 0] 30)
  have HB : Hid (Below w.heap.size w ((w.alloc (.cells #[nils, nils, nils, nils, .int .i64 0] 27)).alloc (.cells #[.int .i64 0, .int .i64 0] 30))) := ((Below.refl _ _).alloc (Nat.le_refl _) _).alloc (by simp) _
  have hsA : ((w.alloc (.cells #[nils, nils, nils, nils, .int .i64 0] 27)).alloc (.cells #[.int .i64 0, .int .i64 0] 30)).heap.size = w.heap.size + 2 := by simp
  obtain ⟨A, c, rfl, h1, h2, hr⟩ := hv
  clear hr
  unfold maxLen at h2
  generalize (runAF n l).1 = f1 at *
  generalize (runAF n l).2 = fi at *
  generalize runAK n l = kn at *
  generalize clothA n l = ck at *
  go_enter Try.func22, Try.ntmps22
  go_wp2_with fail
  generalize (w.alloc (.cells #[nils, nils, nils, nils, .int .i64 0] 27)).alloc (.cells #[.int .i64 0, .int .i64 0] 30) = wA at *
  have HSA := Lib.hid hsA
  clear hsA
  refine (HRUN.out _ _ (stis_grown HV.out HB.out)).mono ?_
  rintro e w1 ⟨kv, rfl, hk, hb1⟩
  have HK := Lib.hid hk
  obtain ⟨vl, vf, vb, vo, rfl, hl', hf', hb', ho'⟩ := hk
  obtain ⟨Aq, cq, tq, rfl, _⟩ := hl'
  obtain ⟨Af, cf, tf, rfl, _⟩ := hf'
  obtain ⟨Ab, cb, tb, rfl, _⟩ := hb'
  obtain ⟨Ap, cp, rfl, _⟩ := ho'
  have HB1 := Lib.hid (HB.out.trans (hb1.mono (by rw [HSA.out]; omega)))
  have HX := Lib.hid ((Arr.new w1 #[.slice Aq kn.loops.length cq, .slice Af kn.front.length cf, .slice Ab kn.back.length cb, .slice Ap kn.loose.length cp, .int .i64 kn.rack] 27).alloc (.cells #[.int .i64 f1, .int .i64 fi] 30))
  have HX2 := Lib.hid (arr_new2 w1 (.cells #[.slice Aq kn.loops.length cq, .slice Af kn.front.length cf, .slice Ab kn.back.length cb, .slice Ap kn.loose.length cp, .int .i64 kn.rack] 27) #[.int .i64 f1, .int .i64 fi] 30)
  have HS12 : Hid (Below w1.heap.size w1 ((w1.alloc (.cells #[.slice Aq kn.loops.length cq, .slice Af kn.front.length cf, .slice Ab kn.back.length cb, .slice Ap kn.loose.length cp, .int .i64 kn.rack] 27)).alloc (.cells #[.int .i64 f1, .int .i64 fi] 30))) := ((Below.refl _ _).alloc (Nat.le_refl _) _).alloc (by simp) _
  have hsz1 := hb1.size
  rw [HSA.out] at hsz1
  have HAA := Lib.hid ((HA.out.of_eq (hb1.block _ (by rw [HSA.out]; omega))).of_eq (HS12.out.block _ (by omega)))
  have HAA2 := Lib.hid ((HA2.out.of_eq (hb1.block _ (by rw [HSA.out]; omega))).of_eq (HS12.out.block _ (by omega)))
  clear hb1 HA HA2 HB
  go_upto_region 2 with fail
  generalize (w1.alloc (.cells #[.slice Aq kn.loops.length cq, .slice Af kn.front.length cf, .slice Ab kn.back.length cb, .slice Ap kn.loose.length cp, .int .i64 kn.rack] 27)).alloc (.cells #[.int .i64 f1, .int .i64 fi] 30) = w2 at *
  have hs12 := HS12.out.size
  have HBW2 := Lib.hid (HB1.out.trans (HS12.out.mono HB1.out.size))
  have hp6 := HX2.out.lt
  have e0 := HX2.out.cell (k := 0) rfl
  have e1 := HX2.out.cell (k := 1) rfl
  by_cases hz : f1 = 0
  case neg =>
    have HBD := Lib.hid (HBADK.out hz)
    have hzb : (f1 != 0) = true := by simpa using hz
    clear hz
    have r0 := HAA.out.cell (k := 0) rfl
    have r1 := HAA.out.cell (k := 1) rfl
    have r2 := HAA.out.cell (k := 2) rfl
    have r3 := HAA.out.cell (k := 3) rfl
    have r4 := HAA.out.cell (k := 4) rfl
    have z0 := HAA.out.free 0
    have z1 := HAA.out.free 1
    have z2 := HAA.out.free 2
    have z3 := HAA.out.free 3
    have z4 := HAA.out.free 4
    have s0 := HAA2.out.cell (k := 0) rfl
    have s1 := HAA2.out.cell (k := 1) rfl
    have g0 := HAA2.out.free 0
    have g1 := HAA2.out.free 1
    go_upto_region 3 with fail
    refine wp_region_plan [(true, 0), (true, 1), (false, 2), (false, 3)] 3
      (fun w' => w'.cell? ⟨w1.heap.size + 1, 0, none⟩ = some (.int .i64 f1) ∧ w'.cell? ⟨w1.heap.size + 1, 1, none⟩ = some (.int .i64 fi))
      (by kernel_rfl) (by kernel_rfl) (by kernel_rfl) rfl ⟨e0, e1⟩ ?_
    repeat (first
      | (refine plan_val _ ?_ (by rfl) (by rfl) ?_ ?_
         rotate_left 1
         · rintro w9 ⟨s0, s1⟩; go_simp; first | done | with_reducible rfl
         (try simp only [Act.put, List.setIfInBounds_toArray, List.set_cons_zero, List.set_cons_succ])))
    refine plan_store _ ?_ (by rfl) (by rfl) ?_ (.inr ?_) ?_
    rotate_left 1
    · go_simp; first | rfl | (refine And.intro ?_ ?_ <;> rfl)
    · exact ⟨(five_drew _ _ _ _ _ _ _ _ _ (by omega)).trans e0, (five_drew _ _ _ _ _ _ _ _ _ (by omega)).trans e1⟩
    (try simp only [Act.put, List.setIfInBounds_toArray, List.set_cons_zero, List.set_cons_succ])
    refine plan_store _ ?_ (by rfl) (by rfl) ?_ (.inl rfl) ?_
    rotate_left 1
    · go_simp; first | rfl | (refine And.intro ?_ ?_ <;> rfl)
    refine plan_end ?_
    (try simp only [Act.put, List.setIfInBounds_toArray, List.set_cons_zero, List.set_cons_succ])
    obtain ⟨ha, hb⟩ := set52_arr (p := w.heap.size) (q := w.heap.size + 1) (by omega) HAA.out HAA2.out nils nils nils nils (.int .i64 0) (.int .i64 f1) (.int .i64 fi)
    have q0 := ha.cell (k := 0) rfl
    have q1 := ha.cell (k := 1) rfl
    have q2 := ha.cell (k := 2) rfl
    have q3 := ha.cell (k := 3) rfl
    have q4 := ha.cell (k := 4) rfl
    have q5 := hb.cell (k := 0) rfl
    have q6 := hb.cell (k := 1) rfl
    unfold set52 nils at q0 q1 q2 q3 q4 q5 q6
    clear ha hb
    have HBQ : Hid (Below w.heap.size w (set52 w2 w.heap.size (w.heap.size + 1) nils nils nils nils (.int .i64 0) (.int .i64 f1) (.int .i64 fi)).drew) := below_dN (n := 1) (set52_below HBW2.out (Nat.le_refl _) (by omega) _ _ _ _ _ _ _)
    unfold set52 nils at HBQ
    go_wp2_with fail
    refine bodyPost_ret (v := .tuple #[.agg #[.slice none 0 0, .slice none 0 0, .slice none 0 0, .slice none 0 0, .int .i64 0], .agg #[.int .i64 f1, .int .i64 fi]]) (by simp [results, Try.results22, go_sem, q0, q1, q2, q3, q4, q5, q6]) rfl ⟨_, rfl, ?_, HBQ.out⟩
    rw [HBD.out]
    exact noKn_R _ _
  have hok := HOKK.out hz
  subst hz
  obtain ⟨N, hok, hck⟩ := hok
  have HOK := Lib.hid hok
  have HCK := Lib.hid hck
  clear hok hck HOKK HBADK HRUN e0
  have e0 : w2.cell? ⟨w1.heap.size + 1, 0, none⟩ = some (.int .i64 0) := HX2.out.cell (k := 0) rfl
  have hN := HOK.out.N2
  have HFL := Lib.hid HOK.out.front
  have hll := HOK.out.loops
  have hlo := HOK.out.loose
  have x0 := HX.out.cell (k := 0) rfl
  have x1 := HX.out.cell (k := 1) rfl
  have x2 := HX.out.cell (k := 2) rfl
  have x3 := HX.out.cell (k := 3) rfl
  have x4 := HX.out.cell (k := 4) rfl
  have HK2 : Hid (KnR w2 (fun b => b < w1.heap.size) (.agg #[.slice Aq kn.loops.length cq, .slice Af kn.front.length cf, .slice Ab kn.back.length cb, .slice Ap kn.loose.length cp, .int .i64 kn.rack]) kn) := HK.out.same fun b hb => HS12.out.block b hb
  have HX4 : Hid (Arr w2 w1.heap.size 27 [.slice Aq kn.loops.length cq, .slice Af kn.front.length cf, .slice Ab kn.back.length cb, .slice Ap kn.loose.length cp, .int .i64 kn.rack]) := HX
  have HXX4 : Hid (Arr w2 (w1.heap.size + 1) 30 [.int .i64 0, .int .i64 fi]) := HX2
  have HREN : Hid (∀ (w' : World) (lv : Value) (xs : List Int), Below w2.heap.size w2 w' → Ints w2 (fun b => b < w1.heap.size) lv xs → (∀ x ∈ xs, 0 ≤ x ∧ x < (kn.loops.length : Int)) → xs.length ≤ 1000000 →
      Calls Try.prog 42 #[.agg #[.slice Aq kn.loops.length cq, .slice Af kn.front.length cf, .slice Ab kn.back.length cb, .slice Ap kn.loose.length cp, .int .i64 kn.rack], lv] w' fun e w'' => ∃ u, e = .returned u ∧ w''.ownsRow w'.heap.size 3 1 u xs.length (ints (xs.map (nm (cars kn.loops)))) ∧ Below w'.heap.size w' w'') := fun w' lv xs hb hl hlow hn => by
    have hsz := hb.size
    exact renamedR_any w' (HK2.out.same fun b hb' => hb.block b (by have : b < w1.heap.size := hb'; omega)) (hl.same fun b hb' => hb.block b (by have : b < w1.heap.size := hb'; omega)) (fun b hb' => by have : b < w1.heap.size := hb'; omega) (fun b hb' => by have : b < w1.heap.size := hb'; omega) hll hlow hn
  have HNUM : Hid (∀ (w' : World) (x : Nat), Below w2.heap.size w2 w' → x < kn.loops.length →
      Calls Try.prog 43 #[.agg #[.slice Aq kn.loops.length cq, .slice Af kn.front.length cf, .slice Ab kn.back.length cb, .slice Ap kn.loose.length cp, .int .i64 kn.rack], .int .i64 (x : Int)] w' fun e w'' => e = .returned (.int .i64 (num (cars kn.loops) x : Int)) ∧ Below w'.heap.size w' w'') := fun w' x hb hx => by
    have hsz := hb.size
    exact Number_any x w' (HK2.out.same fun b hb' => hb.block b (by have : b < w1.heap.size := hb'; omega)) (fun b hb' => by have : b < w1.heap.size := hb'; omega) hx hll
  have HLO : Hid (Ints w2 (fun b => b < w1.heap.size) (.slice Ap kn.loose.length cp) kn.loose) := by
    obtain ⟨_, _, _, _, e, _, _, _, h⟩ := HK2.out
    simp only [Value.agg.injEq, Array.mk.injEq, List.cons.injEq, and_true] at e
    obtain ⟨rfl, rfl, rfl, rfl⟩ := e
    exact h
  have hml : (kn.loose.map (nm (cars kn.loops))).length = kn.loose.length := List.length_map ..
  have hle : kn.loops.length ≤ maxLen := by unfold maxLen; omega
  have HRS0 := Lib.hid (RSB.zero w2 kn.loops.length (kn.loose.map (nm (cars kn.loops))))
  have mk1 := fun w => run_mk T23 kn.loops.length kn.loops.length (Nat.le_refl _) (by omega) w
  have hnx : w2.heap.size ≠ w1.heap.size := by omega
  have hp5 : w1.heap.size < w2.heap.size := by omega
  generalize hxs : kn.loose.map (nm (cars kn.loops)) = xs at *
  have hx6 : xs.length ≤ 1000000 := by omega
  have hx7 : kn.loose.length ≤ 1000000 := by omega
  have HML := Lib.hid hml
  clear hml
  go_upto_region 4 with fail
  go_cut [8] from 23 to 35 (fun gp wx => ∃ g gm vo, gp = .pointer (some ⟨g, 0, none⟩) ∧ RE w2 wx kn.loops.length xs kn.rack g gm vo)
  case first =>
    go_region_held3 (fun w' => w'.cell? ⟨w1.heap.size, 0, none⟩ = some (.slice Aq kn.loops.length cq) ∧ w'.cell? ⟨w1.heap.size, 1, none⟩ = some (.slice Af kn.front.length cf) ∧ w'.cell? ⟨w1.heap.size, 2, none⟩ = some (.slice Ab kn.back.length cb) ∧ w'.cell? ⟨w1.heap.size, 3, none⟩ = some (.slice Ap kn.loose.length cp) ∧ w'.cell? ⟨w1.heap.size, 4, none⟩ = some (.int .i64 kn.rack)) (first | (with_reducible exact ⟨(five_far _ _ _ _ _ _ _ _ _ (by omega)).trans d0, (five_far _ _ _ _ _ _ _ _ _ (by omega)).trans d1, (five_far _ _ _ _ _ _ _ _ _ (by omega)).trans d2, (five_far _ _ _ _ _ _ _ _ _ (by omega)).trans d3, (five_far _ _ _ _ _ _ _ _ _ (by omega)).trans d4⟩) | (with_reducible exact ⟨(five_alloc _ _ _ _ _ _ _ _ _ _ (by omega) (by omega)).trans d0, (five_alloc _ _ _ _ _ _ _ _ _ _ (by omega) (by omega)).trans d1, (five_alloc _ _ _ _ _ _ _ _ _ _ (by omega) (by omega)).trans d2, (five_alloc _ _ _ _ _ _ _ _ _ _ (by omega) (by omega)).trans d3, (five_alloc _ _ _ _ _ _ _ _ _ _ (by omega) (by omega)).trans d4⟩) | go_keep)
      (first
        | (go_at_call 42
           first
             | (with_reducible refine (HREN.out _ _ _ HRS0.out.drew.below HLO.out HOK.out.told.loose hx7).mono ?_)
             | (with_reducible refine (HREN.out _ _ _ HRS0.out.aA.drew.below HLO.out HOK.out.told.loose hx7).mono ?_)
             | (with_reducible refine (HREN.out _ _ _ (HRS0.out.aM hle).drew.below HLO.out HOK.out.told.loose hx7).mono ?_)
             | (with_reducible refine (HREN.out _ _ _ (HRS0.out.aM hle).aA.drew.below HLO.out HOK.out.told.loose hx7).mono ?_)
             | (with_reducible refine (HREN.out _ _ _ (HRS0.out.aA.aM hle).drew.below HLO.out HOK.out.told.loose hx7).mono ?_)
           rintro e w5 ⟨u, rfl, hu, hb⟩
           rw [hxs, ← HML.out] at hu
           first
             | (with_reducible have HR5 := Lib.hid (RSB.callC HRS0.out.drew hb hu))
             | (with_reducible have HR5 := Lib.hid (RSB.callC HRS0.out.aA.drew hb hu))
             | (with_reducible have HR5 := Lib.hid (RSB.callC (HRS0.out.aM hle).drew hb hu))
             | (with_reducible have HR5 := Lib.hid (RSB.callC (HRS0.out.aM hle).aA.drew hb hu))
             | (with_reducible have HR5 := Lib.hid (RSB.callC (HRS0.out.aA.aM hle).drew hb hu))
           (try simp only [World.size_alloc] at HR5)
           have c0 := (HR5.out.below.cell (p := ⟨w1.heap.size, 0, none⟩) hp5).trans x0
           have c1 := (HR5.out.below.cell (p := ⟨w1.heap.size, 1, none⟩) hp5).trans x1
           have c2 := (HR5.out.below.cell (p := ⟨w1.heap.size, 2, none⟩) hp5).trans x2
           have c3 := (HR5.out.below.cell (p := ⟨w1.heap.size, 3, none⟩) hp5).trans x3
           have c4 := (HR5.out.below.cell (p := ⟨w1.heap.size, 4, none⟩) hp5).trans x4
           have hl5 : w1.heap.size < w5.heap.size := by have := HR5.out.below.size; omega
           have hn5 : w5.heap.size ≠ w1.heap.size := by have := HR5.out.below.size; omega
           obtain ⟨A5, c5, rfl, _, _⟩ := own_form hu
           clear hb hu)
        | (go_at_call 41
           first
             | (with_reducible refine (rising_any _ (HR5.out.hc _ rfl) hx6).mono ?_)
             | (with_reducible refine (rising_any _ (HR5.out.aA.hc _ rfl) hx6).mono ?_)
             | (with_reducible refine (rising_any _ ((HR5.out.aM hle).hc _ rfl) hx6).mono ?_)
             | (with_reducible refine (rising_any _ ((HR5.out.aM hle).aA.hc _ rfl) hx6).mono ?_)
             | (with_reducible refine (rising_any _ ((HR5.out.aA.aM hle).hc _ rfl) hx6).mono ?_)
           rintro e w6 ⟨u2, rfl, hu, hb⟩
           first
             | (with_reducible have HR6 := Lib.hid (RSB.callD HR5.out hb hu))
             | (with_reducible have HR6 := Lib.hid (RSB.callD HR5.out.aA hb hu))
             | (with_reducible have HR6 := Lib.hid (RSB.callD (HR5.out.aM hle) hb hu))
             | (with_reducible have HR6 := Lib.hid (RSB.callD (HR5.out.aM hle).aA hb hu))
             | (with_reducible have HR6 := Lib.hid (RSB.callD (HR5.out.aA.aM hle) hb hu))
           (try simp only [World.size_alloc] at HR6)
           have d0 := (HR6.out.below.cell (p := ⟨w1.heap.size, 0, none⟩) hp5).trans x0
           have d1 := (HR6.out.below.cell (p := ⟨w1.heap.size, 1, none⟩) hp5).trans x1
           have d2 := (HR6.out.below.cell (p := ⟨w1.heap.size, 2, none⟩) hp5).trans x2
           have d3 := (HR6.out.below.cell (p := ⟨w1.heap.size, 3, none⟩) hp5).trans x3
           have d4 := (HR6.out.below.cell (p := ⟨w1.heap.size, 4, none⟩) hp5).trans x4
           have hl6 : w1.heap.size < w6.heap.size := by have := HR6.out.below.size; omega
           have hn6 : w6.heap.size ≠ w1.heap.size := by have := HR6.out.below.size; omega
           try (have hz := (HR6.out.ha _ rfl).2.1
                have hz1 := hz.lt
                have hz2 := Nat.ne_of_lt hz.lt
                have hz3 := Nat.ne_of_gt hz.lt
                have r0 := hz.cell (k := 0) rfl
                have f0 := hz.free 0
                have r1 := hz.cell (k := 1) rfl
                have f1 := hz.free 1
                have r2 := hz.cell (k := 2) rfl
                have f2 := hz.free 2
                have r3 := hz.cell (k := 3) rfl
                have f3 := hz.free 3
                have r4 := hz.cell (k := 4) rfl
                have f4 := hz.free 4
                clear hz)
           obtain ⟨A6, c6, rfl, _, _⟩ := own_form hu
           clear hb hu))
    all_goals
      go_wp2_with fail
      go_meet
      have HR7 := HR6.out
      first
        | (with_reducible exact RSB.end1 HR7 kn.rack)
        | (with_reducible exact RSB.end2 HR7 kn.rack)
        | (with_reducible exact RSB.end3 HR7 hle kn.rack)
        | (with_reducible exact RSB.end4 HR7 hle kn.rack)
        | (with_reducible exact RSB.end5 HR7 hle kn.rack)
  case rest =>
    obtain ⟨g, gm, vo, rfl, hre⟩ := hcut
    have HRE := Lib.hid hre
    have hg : w2.heap.size ≤ g := hre.gB
    clear hre x0 x1 x2 x3 x4 hnx mk1 HRS0
    have HK0 : Hid ((clothS kn).loops.length = kn.loops.length ∧ (clothS kn).rack = kn.rack ∧ (clothS kn).loose = (cloth kn).loose ∧ told N (clothS kn) = cloth kn) := ⟨cloth_loops_len kn, rfl, rfl, told_cloth HFL.out HOK.out.back⟩
    have HKL : Hid (∀ i, i < kn.loops.length → (clothS kn).loops.getD i noLop = ⟨(kn.loops.getD (inv (cars kn.loops) i) noLop).car, (kn.loops.getD (inv (cars kn.loops) i) noLop).thr.map (nm (cars kn.loops))⟩) := fun i hi => cloth_loop hi
    have HKF : Hid (∀ i, i < N → (clothS kn).on 0 (i : Int) = (kn.front.getD i []).map (nm (cars kn.loops))) := fun i hi => by
      have h1 : i < kn.front.length := by rw [HFL.out]; exact hi
      show (cloth kn).front.getD (i : Int).toNat [] = _
      unfold cloth
      simp [h1]
    have HKB : Hid (∀ i, i < N → (clothS kn).on 1 (i : Int) = (kn.back.getD i []).map (nm (cars kn.loops))) := fun i hi => by
      have h1 : i < kn.back.length := by rw [HOK.out.back]; exact hi
      show (cloth kn).back.getD (i : Int).toNat [] = _
      unfold cloth
      simp [h1]
    have HLP : Hid (∀ (w' : World) (i : Nat), Below w2.heap.size w2 w' → i < kn.loops.length → ∃ b o At' ct', Aq = some ⟨b, o, none⟩ ∧ w'.cell? ⟨b, o + i * 2, none⟩ = some (.int .i64 (kn.loops.getD i noLop).car) ∧ w'.cell? ⟨b, o + i * 2 + 1, none⟩ = some (.slice At' (kn.loops.getD i noLop).thr.length ct') ∧
        b < w1.heap.size ∧ Ints w2 (fun b => b < w1.heap.size) (.slice At' (kn.loops.getD i noLop).thr.length ct') (kn.loops.getD i noLop).thr) := fun w' i hb hi => by
      obtain ⟨vl, vf, vb, vo, e, hl, hf, hbk, ho⟩ := HK2.out
      simp only [Value.agg.injEq, Array.mk.injEq, List.cons.injEq, and_true] at e
      obtain ⟨rfl, rfl, rfl, rfl⟩ := e
      obtain ⟨A', c', tv', e, _, _, hr, hth⟩ := hl
      cases e
      obtain ⟨b, o, e, hbl, u0, u1⟩ := loop_cells (hr.same (w' := w') fun b hb' => hb.block b (by have : b < w1.heap.size := hb'; omega)) hi
      have h := hth i hi
      obtain ⟨At', ct', e2, p1, p2, p3⟩ := h
      refine ⟨b, o, At', ct', e, u0, by rw [u1, e2], hbl, At', ct', rfl, p1, p2, p3⟩
    have HFR : Hid (∀ (w' : World) (i : Nat), Below w2.heap.size w2 w' → i < N → ∃ b o At' ct', Af = some ⟨b, o, none⟩ ∧ w'.cell? ⟨b, o + i, none⟩ = some (.slice At' (kn.front.getD i []).length ct') ∧
        b < w1.heap.size ∧ Ints w2 (fun b => b < w1.heap.size) (.slice At' (kn.front.getD i []).length ct') (kn.front.getD i [])) := fun w' i hb hi => by
      obtain ⟨vl, vf, vb, vo, e, hl, hf, hbk, ho⟩ := HK2.out
      simp only [Value.agg.injEq, Array.mk.injEq, List.cons.injEq, and_true] at e
      obtain ⟨rfl, rfl, rfl, rfl⟩ := e
      obtain ⟨A', c', tv', e, _, _, hr, hth⟩ := hf
      cases e
      obtain ⟨b, o, e, hbl, u0⟩ := list_cell (hr.same (w' := w') fun b hb' => hb.block b (by have : b < w1.heap.size := hb'; omega)) (i := i) (by rw [HFL.out]; exact hi)
      have h := hth i (by rw [HFL.out]; exact hi)
      obtain ⟨At', ct', e2, p1, p2, p3⟩ := h
      refine ⟨b, o, At', ct', e, by rw [u0, e2], hbl, At', ct', rfl, p1, p2, p3⟩
    have HBR : Hid (∀ (w' : World) (i : Nat), Below w2.heap.size w2 w' → i < N → ∃ b o At' ct', Ab = some ⟨b, o, none⟩ ∧ w'.cell? ⟨b, o + i, none⟩ = some (.slice At' (kn.back.getD i []).length ct') ∧
        b < w1.heap.size ∧ Ints w2 (fun b => b < w1.heap.size) (.slice At' (kn.back.getD i []).length ct') (kn.back.getD i [])) := fun w' i hb hi => by
      obtain ⟨vl, vf, vb, vo, e, hl, hf, hbk, ho⟩ := HK2.out
      simp only [Value.agg.injEq, Array.mk.injEq, List.cons.injEq, and_true] at e
      obtain ⟨rfl, rfl, rfl, rfl⟩ := e
      obtain ⟨A', c', tv', e, _, _, hr, hth⟩ := hbk
      cases e
      obtain ⟨b, o, e, hbl, u0⟩ := list_cell (hr.same (w' := w') fun b hb' => hb.block b (by have : b < w1.heap.size := hb'; omega)) (i := i) (by rw [HOK.out.back]; exact hi)
      have h := hth i (by rw [HOK.out.back]; exact hi)
      obtain ⟨At', ct', e2, p1, p2, p3⟩ := h
      refine ⟨b, o, At', ct', e, by rw [u0, e2], hbl, At', ct', rfl, p1, p2, p3⟩
    have HTL : Hid (∀ i, i < kn.loops.length → (kn.loops.getD i noLop).thr.length ≤ 8 ∧ ∀ x ∈ (kn.loops.getD i noLop).thr, 0 ≤ x ∧ x < (kn.loops.length : Int)) := fun i hi => ⟨HOK.out.thr i hi, HOK.out.told.thr i hi⟩
    have HTF : Hid (∀ i, i < N → (kn.front.getD i []).length ≤ 8 ∧ ∀ x ∈ kn.front.getD i [], 0 ≤ x ∧ x < (kn.loops.length : Int)) := fun i hi => ⟨HOK.out.fl i, fun x hx => HOK.out.told.front _ (by
      have h1 : i < kn.front.length := by rw [HFL.out]; exact hi
      rw [List.getD_eq_getElem?_getD, List.getElem?_eq_getElem h1]
      exact List.getElem_mem h1) x hx⟩
    have HTB : Hid (∀ i, i < N → (kn.back.getD i []).length ≤ 8 ∧ ∀ x ∈ kn.back.getD i [], 0 ≤ x ∧ x < (kn.loops.length : Int)) := fun i hi => ⟨HOK.out.bl i, fun x hx => HOK.out.told.back _ (by
      have h1 : i < kn.back.length := by rw [HOK.out.back]; exact hi
      rw [List.getD_eq_getElem?_getD, List.getElem?_eq_getElem h1]
      exact List.getElem_mem h1) x hx⟩
    have hcl : (cars kn.loops).length = kn.loops.length := cars_len _
    have HB2 : Hid (kn.back.length = N) := HOK.out.back
    have HNI : Hid (∀ i, i < kn.loops.length → num (cars kn.loops) i < kn.loops.length ∧ inv (cars kn.loops) (num (cars kn.loops) i) = i ∧ ∀ s, s < kn.loops.length → (inv (cars kn.loops) s < i + 1 ↔ inv (cars kn.loops) s < i ∨ s = num (cars kn.loops) i)) := fun i hi => by
      have hi' : i < (cars kn.loops).length := by rw [hcl]; exact hi
      refine ⟨by have := num_lt hi'; rwa [hcl] at this, inv_num hi', fun s hs => ?_⟩
      have hs' : s < (cars kn.loops).length := by rw [hcl]; exact hs
      have e := inv_spec hs'
      constructor
      · intro h
        rcases Nat.lt_or_eq_of_le (Nat.le_of_lt_succ h) with h1 | h1
        · exact .inl h1
        · exact .inr (by rw [← h1]; exact e.2.symm)
      · rintro (h | h)
        · omega
        · rw [h, inv_num hi']; omega
    have HINV : Hid (∀ s, s < kn.loops.length → inv (cars kn.loops) s < kn.loops.length) := fun s hs => by
      have := (inv_spec (cs := cars kn.loops) (t := s) (by rw [hcl]; exact hs)).1
      rwa [hcl] at this
    have HLS : Hid ((clothS kn).loose = xs.mergeSort fun x y => decide (x ≤ y)) := by show _ = _; rw [← hxs]; rfl
    have HR1 : Hid (R1 w2 wc g (clothS kn) (inv (cars kn.loops)) 0) := by
      have h := HRE.out
      rw [← HK0.out.1] at h
      exact RE.start (k := clothS kn) h HLS.out _
    have HCL := Lib.hid hcl
    clear HRE hcl hxs hle hx6 HML HLS
    generalize clothS kn = kc at *
    have n0 := (HR1.out.below.cell (p := ⟨w1.heap.size, 0, none⟩) hp5).trans (HX4.out.cell (k := 0) rfl)
    go_wp2_with fail
    clear n0
    go_loopg [38] kn.loops.length (fun gg ctr wr => ∃ i : Nat, i ≤ kn.loops.length ∧ gg = kn.loops.length - i ∧ ctr = .int .i64 i ∧ R1 w2 wr g kc (inv (cars kn.loops)) i)
    case atStart => exact ⟨0, by omega, rfl, rfl, HR1.out⟩
    case round =>
      clear HR1
      obtain ⟨i, hi, rfl, rfl, hs1⟩ := hrel
      by_cases hlt : i < kn.loops.length
      case pos =>
        have HBW := Lib.hid hs1.below
        obtain ⟨own, v, n', cs, vo', cl, c2, gm', hsb, q0, q1, q2, q3, q4, q5⟩ := hs1
        obtain ⟨b, o, Ax, cx, e, u0, u1, hbl, hth⟩ := HLP.out wr i HBW.out hlt
        cases e
        have HTH := Lib.hid hth
        obtain ⟨hthl, hlow⟩ := HTL.out i hlt
        have HLOW := Lib.hid hlow
        obtain ⟨hnl, hni, hns⟩ := HNI.out i hlt
        have HNS := Lib.hid hns
        have HKI := Lib.hid (HKL.out _ hnl)
        rw [hni] at HKI
        have hsw := HBW.out.size
        have hwr1 : w1.heap.size < wr.heap.size := by omega
        have hblw : b < wr.heap.size := by omega
        generalize hcar : (kn.loops.getD i noLop).car = car at *
        generalize hthr : (kn.loops.getD i noLop).thr = thr at *
        clear hcar hthr hth hlow hns hni
        have HNUMI := Lib.hid (fun w' hb => HNUM.out w' i hb hlt)
        generalize hti : num (cars kn.loops) i = t at *
        clear hti
        have HSB0 := Lib.hid (hsb.keep (w1 := wr.alloc (.cells #[.int .i64 car, .slice Ax thr.length cx] 41)) ((Below.refl _ _).alloc (Nat.le_refl _) _))
        have HBY : Hid (Below wr.heap.size wr (wr.alloc (.cells #[.int .i64 car, .slice Ax thr.length cx] 41))) := (Below.refl _ _).alloc (Nat.le_refl _) _
        have HY := Lib.hid (Arr.new wr #[.int .i64 car, .slice Ax thr.length cx] 41)
        have hyb : wr.heap.size < (wr.alloc (.cells #[.int .i64 car, .slice Ax thr.length cx] 41)).heap.size := by simp
        have HM2 := Lib.hid (And.intro q0 (And.intro q1 (And.intro q2 (And.intro q3 (And.intro q4 q5)))))
        clear hsb q0 q1 q2 q3 q4 q5
        have m0 := (HBW.out.cell (p := ⟨w1.heap.size, 0, none⟩) hp5).trans (HX4.out.cell (k := 0) rfl)
        go_upto_region 8 with fail
        generalize wr.alloc (.cells #[.int .i64 car, .slice Ax thr.length cx] 41) = wy at *
        clear m0 u0 u1
        have HBWY := Lib.hid HSB0.out.below
        have z0 := HSB0.out.cell (j := 0) rfl
        rw [HM2.out.2.2.1, HK0.out.1] at z0
        have k0 := (HBWY.out.cell (p := ⟨w1.heap.size, 0, none⟩) hp5).trans (HX4.out.cell (k := 0) rfl)
        have k1 := (HBWY.out.cell (p := ⟨w1.heap.size, 1, none⟩) hp5).trans (HX4.out.cell (k := 1) rfl)
        have k2 := (HBWY.out.cell (p := ⟨w1.heap.size, 2, none⟩) hp5).trans (HX4.out.cell (k := 2) rfl)
        have k3 := (HBWY.out.cell (p := ⟨w1.heap.size, 3, none⟩) hp5).trans (HX4.out.cell (k := 3) rfl)
        have k4 := (HBWY.out.cell (p := ⟨w1.heap.size, 4, none⟩) hp5).trans (HX4.out.cell (k := 4) rfl)
        have y0 := HY.out.cell (k := 0) rfl
        have y1 := HY.out.cell (k := 1) rfl
        have it0 : (0 : Int) ≤ (t : Int) := by omega
        have it1 : (t : Int) < (kn.loops.length : Int) := by omega
        have hgy := HSB0.out.arr.lt
        have hwy : w1.heap.size < wy.heap.size := by omega
        refine wp_region_plan [(true, 0), (true, 1), (true, 2), (true, 3), (true, 5), (true, 6), (true, 7), (true, 8), (true, 9), (false, 4), (false, 10), (true, 11), (true, 12), (false, 13)] 13
          (fun w' => w'.cell? ⟨g, 0, none⟩ = some (.slice (some ⟨gm', 0, none⟩) kn.loops.length kn.loops.length) ∧ w'.cell? ⟨w1.heap.size, 0, none⟩ = some (.slice (some ⟨b, o, none⟩) kn.loops.length cq) ∧ w'.cell? ⟨w1.heap.size, 1, none⟩ = some (.slice Af kn.front.length cf) ∧ w'.cell? ⟨w1.heap.size, 2, none⟩ = some (.slice Ab kn.back.length cb) ∧ w'.cell? ⟨w1.heap.size, 3, none⟩ = some (.slice Ap kn.loose.length cp) ∧ w'.cell? ⟨w1.heap.size, 4, none⟩ = some (.int .i64 kn.rack) ∧ w'.cell? ⟨wr.heap.size, 0, none⟩ = some (.int .i64 car) ∧ w'.cell? ⟨wr.heap.size, 1, none⟩ = some (.slice Ax thr.length cx))
          (by kernel_rfl) (by kernel_rfl) (by kernel_rfl) rfl ⟨z0, k0, k1, k2, k3, k4, y0, y1⟩ ?_
        repeat (first
          | (refine plan_val _ ?_ (by rfl) (by rfl) ?_ ?_
             rotate_left 1
             · rintro w9 ⟨s0, s1, s2, s3, s4, s5, s6, s7⟩; go_simp; first | done | with_reducible rfl
             (try simp only [Act.put, List.setIfInBounds_toArray, List.set_cons_zero, List.set_cons_succ])))
        refine plan_call _ ?_ ?_ (by rfl) (by rfl) ?_ ?_
        rotate_left 2
        · go_simp; (refine And.intro ?_ ?_ <;> rfl)
        refine (HNUMI.out _ HBWY.out.drew).mono ?_
        rintro e w7 ⟨rfl, hb7⟩
        have hs7 : wy.heap.size ≤ w7.heap.size := hb7.size
        have HSB7 := Lib.hid (HSB0.out.drew.keep hb7)
        have a0 : w7.cell? ⟨g, 0, none⟩ = some (.slice (some ⟨gm', 0, none⟩) kn.loops.length kn.loops.length) := (World.cell?_of_block (a := ⟨g, 0, none⟩) (hb7.block _ (by show g < wy.heap.size; omega))).trans z0
        have a1 : w7.cell? ⟨w1.heap.size, 0, none⟩ = some (.slice (some ⟨b, o, none⟩) kn.loops.length cq) := (World.cell?_of_block (a := ⟨w1.heap.size, 0, none⟩) (hb7.block _ (by show w1.heap.size < wy.heap.size; omega))).trans k0
        have a2 : w7.cell? ⟨w1.heap.size, 1, none⟩ = some (.slice Af kn.front.length cf) := (World.cell?_of_block (a := ⟨w1.heap.size, 1, none⟩) (hb7.block _ (by show w1.heap.size < wy.heap.size; omega))).trans k1
        have a3 : w7.cell? ⟨w1.heap.size, 2, none⟩ = some (.slice Ab kn.back.length cb) := (World.cell?_of_block (a := ⟨w1.heap.size, 2, none⟩) (hb7.block _ (by show w1.heap.size < wy.heap.size; omega))).trans k2
        have a4 : w7.cell? ⟨w1.heap.size, 3, none⟩ = some (.slice Ap kn.loose.length cp) := (World.cell?_of_block (a := ⟨w1.heap.size, 3, none⟩) (hb7.block _ (by show w1.heap.size < wy.heap.size; omega))).trans k3
        have a5 : w7.cell? ⟨w1.heap.size, 4, none⟩ = some (.int .i64 kn.rack) := (World.cell?_of_block (a := ⟨w1.heap.size, 4, none⟩) (hb7.block _ (by show w1.heap.size < wy.heap.size; omega))).trans k4
        have a6 : w7.cell? ⟨wr.heap.size, 0, none⟩ = some (.int .i64 car) := (World.cell?_of_block (a := ⟨wr.heap.size, 0, none⟩) (hb7.block _ (by show wr.heap.size < wy.heap.size; omega))).trans y0
        have a7 : w7.cell? ⟨wr.heap.size, 1, none⟩ = some (.slice Ax thr.length cx) := (World.cell?_of_block (a := ⟨wr.heap.size, 1, none⟩) (hb7.block _ (by show wr.heap.size < wy.heap.size; omega))).trans y1
        clear hb7
        refine ⟨_, rfl, .inr ⟨a0, a1, a2, a3, a4, a5, a6, a7⟩, ?_⟩
        (try simp only [Act.put, List.setIfInBounds_toArray, List.set_cons_zero, List.set_cons_succ])
        refine plan_call _ ?_ ?_ (by rfl) (by rfl) ?_ ?_
        rotate_left 2
        · go_simp; (refine And.intro ?_ ?_ <;> rfl)
        refine (HREN.out _ _ _ HSB7.out.below HTH.out HLOW.out (by omega)).mono ?_
        rintro e w8 ⟨u, rfl, hu, hb8⟩
        have hs8 : w7.heap.size ≤ w8.heap.size := hb8.size
        have HSB8 := Lib.hid (HSB7.out.more hb8 (Ints.of_own hu))
        obtain ⟨Au, cu, rfl, _, _⟩ := own_form hu
        have b0 : w8.cell? ⟨g, 0, none⟩ = some (.slice (some ⟨gm', 0, none⟩) kn.loops.length kn.loops.length) := (World.cell?_of_block (a := ⟨g, 0, none⟩) (hb8.block _ (by show g < w7.heap.size; omega))).trans a0
        have b1 : w8.cell? ⟨w1.heap.size, 0, none⟩ = some (.slice (some ⟨b, o, none⟩) kn.loops.length cq) := (World.cell?_of_block (a := ⟨w1.heap.size, 0, none⟩) (hb8.block _ (by show w1.heap.size < w7.heap.size; omega))).trans a1
        have b2 : w8.cell? ⟨w1.heap.size, 1, none⟩ = some (.slice Af kn.front.length cf) := (World.cell?_of_block (a := ⟨w1.heap.size, 1, none⟩) (hb8.block _ (by show w1.heap.size < w7.heap.size; omega))).trans a2
        have b3 : w8.cell? ⟨w1.heap.size, 2, none⟩ = some (.slice Ab kn.back.length cb) := (World.cell?_of_block (a := ⟨w1.heap.size, 2, none⟩) (hb8.block _ (by show w1.heap.size < w7.heap.size; omega))).trans a3
        have b4 : w8.cell? ⟨w1.heap.size, 3, none⟩ = some (.slice Ap kn.loose.length cp) := (World.cell?_of_block (a := ⟨w1.heap.size, 3, none⟩) (hb8.block _ (by show w1.heap.size < w7.heap.size; omega))).trans a4
        have b5 : w8.cell? ⟨w1.heap.size, 4, none⟩ = some (.int .i64 kn.rack) := (World.cell?_of_block (a := ⟨w1.heap.size, 4, none⟩) (hb8.block _ (by show w1.heap.size < w7.heap.size; omega))).trans a5
        have b6 : w8.cell? ⟨wr.heap.size, 0, none⟩ = some (.int .i64 car) := (World.cell?_of_block (a := ⟨wr.heap.size, 0, none⟩) (hb8.block _ (by show wr.heap.size < w7.heap.size; omega))).trans a6
        have b7 : w8.cell? ⟨wr.heap.size, 1, none⟩ = some (.slice Ax thr.length cx) := (World.cell?_of_block (a := ⟨wr.heap.size, 1, none⟩) (hb8.block _ (by show wr.heap.size < w7.heap.size; omega))).trans a7
        have hrow0 : w8.ownsRow w2.heap.size 41 2 (.slice (some ⟨gm', 0, none⟩) kn.loops.length kn.loops.length) kn.loops.length (cs 0) := by
          have := (HSB8.out.row 0 (by simp)).1
          rw [HM2.out.2.2.1, HM2.out.1, HK0.out.1] at this
          exact this
        have f0 := hrow0.frozenAt (t * 2)
        have f1 := hrow0.frozenAt (t * 2 + 1)
        have hc0 := hrow0.cellAt (t * 2) (by omega)
        have hc1 := hrow0.cellAt (t * 2 + 1) (by omega)
        rw [HM2.out.2.1, HK0.out.1, (prow_get c2 hnl).1] at hc0
        rw [HM2.out.2.1, HK0.out.1, (prow_get c2 hnl).2] at hc1
        clear hb8 hu hrow0
        refine ⟨_, rfl, .inr ⟨b0, b1, b2, b3, b4, b5, b6, b7⟩, ?_⟩
        (try simp only [Act.put, List.setIfInBounds_toArray, List.set_cons_zero, List.set_cons_succ])
        repeat (first
          | (refine plan_val _ ?_ (by rfl) (by rfl) ?_ ?_
             rotate_left 1
             · rintro w9 ⟨s0, s1, s2, s3, s4, s5, s6, s7⟩; go_simp; first | done | with_reducible rfl
             (try simp only [Act.put, List.setIfInBounds_toArray, List.set_cons_zero, List.set_cons_succ])))
        have HF : Hid (R1 w2 ((w8.setCell ⟨gm', t * 2, none⟩ (.int .i64 car)).setCell ⟨gm', t * 2 + 1, none⟩ (.slice Au thr.length cu)) g kc (inv (cars kn.loops)) (i + 1)) := by
          have h := R1.put (u := .slice Au thr.length cu) (nv := inv (cars kn.loops)) (i := i) (t := t) HSB8.out (by rw [HK0.out.1]; exact hnl) HM2.out.1 HM2.out.2.1 HM2.out.2.2.1 (fun t h1 h2 => ⟨(HM2.out.2.2.2.1 t h1 h2).1, List.mem_cons_of_mem _ (HM2.out.2.2.2.1 t h1 h2).2⟩) (List.mem_cons_of_mem _ HM2.out.2.2.2.2.1) HM2.out.2.2.2.2.2
            (fun s hs => HNS.out s (by rw [← HK0.out.1]; exact hs)) (by rw [HKI.out]; exact List.mem_cons_self)
          rw [HKI.out] at h
          exact h
        refine plan_store _ ?_ (by rfl) (by rfl) ?_ (.inl rfl) ?_
        rotate_left 1
        · go_simp; first | rfl | (refine And.intro ?_ ?_ <;> rfl)
        refine plan_end ?_
        (try simp only [Act.put, List.setIfInBounds_toArray, List.set_cons_zero, List.set_cons_succ])
        clear f0 f1 hc0 hc1 a0 a1 a2 a3 a4 a5 a6 a7 b0 b1 b2 b3 b4 b5 b6 b7 z0 k0 k1 k2 k3 k4 y0 y1
        go_wp2_with fail
        go_roundg (kn.loops.length - (i + 1))
        case measure => omega
        case rel => exact ⟨i + 1, by omega, rfl, by go_num, HF.out⟩
      obtain rfl : i = kn.loops.length := by omega
      have HS2 : Hid (S2 w2 wr g kc 0 0) := hs1.all fun t ht => HINV.out t (by rw [← HK0.out.1]; exact ht)
      have q1 := (HS2.out.below.cell (p := ⟨w1.heap.size, 1, none⟩) hp5).trans (HX4.out.cell (k := 1) rfl)
      rw [HFL.out] at q1
      clear hs1 hi hlt HLP HKL HTL HINV HNI HNUM
      go_wp2_with fail
      go_loopg [60] N (fun gg ctr wr => ∃ i : Nat, i ≤ N ∧ gg = N - i ∧ ctr = .int .i64 i ∧ S2 w2 wr g kc i i)
      case atStart => exact ⟨0, by omega, rfl, rfl, HS2.out⟩
      case round =>
        clear HS2 q1
        obtain ⟨i, hi, rfl, rfl, hs2⟩ := hrel
        by_cases hlt : i < N
        case neg =>
          have HBW := Lib.hid hs2.below
          have hsw := HBW.out.size
          obtain rfl : i = N := by omega
          obtain ⟨v0, v1, v2, vo, harr, hkr⟩ := hs2.end_
          obtain ⟨rk, hrk⟩ : ∃ rk : Int, rk = kc.rack := ⟨_, rfl⟩
          rw [← hrk] at harr hkr
          clear hrk
          have HKR := Lib.hid hkr
          obtain ⟨_, _, _, _, e, hl', hf', hb', ho'⟩ := hkr
          simp only [Value.agg.injEq, Array.mk.injEq, List.cons.injEq, and_true] at e
          obtain ⟨rfl, rfl, rfl, rfl, -⟩ := e
          obtain ⟨Aq2, cq2, tq2, rfl, _⟩ := hl'
          obtain ⟨Af2, cf2, tf2, rfl, _⟩ := hf'
          obtain ⟨Ab2, cb2, tb2, rfl, _⟩ := hb'
          obtain ⟨Ap2, cp2, rfl, _⟩ := ho'
          have HZA := Lib.hid (HAA.out.of_eq (HBW.out.block _ HAA.out.lt))
          have HZA2 := Lib.hid (HAA2.out.of_eq (HBW.out.block _ HAA2.out.lt))
          have HZX := Lib.hid (HXX4.out.of_eq (HBW.out.block _ HXX4.out.lt))
          have HBWW : Hid (Below w.heap.size w wr) := HBW2.out.trans (HBW.out.mono HBW2.out.size)
          have hgl := harr.lt
          generalize (told i kc).loops.length = n0 at *
          generalize (told i kc).front.length = n1 at *
          generalize (told i kc).back.length = n2 at *
          generalize (told i kc).loose.length = n3 at *
          have c0 := harr.cell (k := 0) rfl
          have c1 := harr.cell (k := 1) rfl
          have c2 := harr.cell (k := 2) rfl
          have c3 := harr.cell (k := 3) rfl
          have c4 := harr.cell (k := 4) rfl
          have d0 := HZX.out.cell (k := 0) rfl
          have d1 := HZX.out.cell (k := 1) rfl
          have r0 := HZA.out.cell (k := 0) rfl
          have r1 := HZA.out.cell (k := 1) rfl
          have r2 := HZA.out.cell (k := 2) rfl
          have r3 := HZA.out.cell (k := 3) rfl
          have r4 := HZA.out.cell (k := 4) rfl
          have z0 := HZA.out.free 0
          have z1 := HZA.out.free 1
          have z2 := HZA.out.free 2
          have z3 := HZA.out.free 3
          have z4 := HZA.out.free 4
          have s0 := HZA2.out.cell (k := 0) rfl
          have s1 := HZA2.out.cell (k := 1) rfl
          have g0 := HZA2.out.free 0
          have g1 := HZA2.out.free 1
          go_upto_region 16 with fail
          refine wp_region_plan [(true, 0), (true, 1), (false, 2), (false, 3)] 3
            (fun w' => (w'.cell? ⟨g, 0, none⟩ = some (.slice Aq2 n0 cq2) ∧ w'.cell? ⟨g, 1, none⟩ = some (.slice Af2 n1 cf2) ∧ w'.cell? ⟨g, 2, none⟩ = some (.slice Ab2 n2 cb2) ∧ w'.cell? ⟨g, 3, none⟩ = some (.slice Ap2 n3 cp2) ∧ w'.cell? ⟨g, 4, none⟩ = some (.int .i64 rk)) ∧
              w'.cell? ⟨w1.heap.size + 1, 0, none⟩ = some (.int .i64 0) ∧ w'.cell? ⟨w1.heap.size + 1, 1, none⟩ = some (.int .i64 fi))
            (by kernel_rfl) (by kernel_rfl) (by kernel_rfl) rfl ⟨⟨c0, c1, c2, c3, c4⟩, d0, d1⟩ ?_
          repeat (first
            | (refine plan_val _ ?_ (by rfl) (by rfl) ?_ ?_
               rotate_left 1
               · rintro w9 ⟨⟨s0, s1, s2, s3, s4⟩, s5, s6⟩; go_simp; first | done | with_reducible rfl
               (try simp only [Act.put, List.setIfInBounds_toArray, List.set_cons_zero, List.set_cons_succ])))
          refine plan_store _ ?_ (by rfl) (by rfl) ?_ (.inr ?_) ?_
          rotate_left 1
          · go_simp; first | rfl | (refine And.intro ?_ ?_ <;> rfl)
          · exact ⟨⟨(five_drew _ _ _ _ _ _ _ _ _ (by omega)).trans c0, (five_drew _ _ _ _ _ _ _ _ _ (by omega)).trans c1, (five_drew _ _ _ _ _ _ _ _ _ (by omega)).trans c2, (five_drew _ _ _ _ _ _ _ _ _ (by omega)).trans c3, (five_drew _ _ _ _ _ _ _ _ _ (by omega)).trans c4⟩, (five_drew _ _ _ _ _ _ _ _ _ (by omega)).trans d0, (five_drew _ _ _ _ _ _ _ _ _ (by omega)).trans d1⟩
          (try simp only [Act.put, List.setIfInBounds_toArray, List.set_cons_zero, List.set_cons_succ])
          refine plan_store _ ?_ (by rfl) (by rfl) ?_ (.inl rfl) ?_
          rotate_left 1
          · go_simp; first | rfl | (refine And.intro ?_ ?_ <;> rfl)
          refine plan_end ?_
          (try simp only [Act.put, List.setIfInBounds_toArray, List.set_cons_zero, List.set_cons_succ])
          obtain ⟨ha, hb⟩ := set52_arr (p := w.heap.size) (q := w.heap.size + 1) (by omega) HZA.out HZA2.out (.slice Aq2 n0 cq2) (.slice Af2 n1 cf2) (.slice Ab2 n2 cb2) (.slice Ap2 n3 cp2) (.int .i64 rk) (.int .i64 0) (.int .i64 fi)
          have q0 := ha.cell (k := 0) rfl
          have q1 := ha.cell (k := 1) rfl
          have q2 := ha.cell (k := 2) rfl
          have q3 := ha.cell (k := 3) rfl
          have q4 := ha.cell (k := 4) rfl
          have q5 := hb.cell (k := 0) rfl
          have q6 := hb.cell (k := 1) rfl
          have HFAR : Hid (∀ x, x ≠ w.heap.size → x ≠ w.heap.size + 1 → (set52 wr w.heap.size (w.heap.size + 1) (.slice Aq2 n0 cq2) (.slice Af2 n1 cf2) (.slice Ab2 n2 cb2) (.slice Ap2 n3 cp2) (.int .i64 rk) (.int .i64 0) (.int .i64 fi)).drew.heap[x]? = wr.heap[x]?) := fun x h1 h2 => by rw [drew_heap]; exact set52_far _ _ _ _ _ _ _ _ _ _ x h1 h2
          have HSIZ : Hid ((set52 wr w.heap.size (w.heap.size + 1) (.slice Aq2 n0 cq2) (.slice Af2 n1 cf2) (.slice Ab2 n2 cb2) (.slice Ap2 n3 cp2) (.int .i64 rk) (.int .i64 0) (.int .i64 fi)).drew.heap.size = wr.heap.size) := by show _ = _; rw [drew_heap]; exact set52_size _ _ _ _ _ _ _ _ _ _
          have HBQ : Hid (Below w.heap.size w (set52 wr w.heap.size (w.heap.size + 1) (.slice Aq2 n0 cq2) (.slice Af2 n1 cf2) (.slice Ab2 n2 cb2) (.slice Ap2 n3 cp2) (.int .i64 rk) (.int .i64 0) (.int .i64 fi)).drew) := below_dN (n := 1) (set52_below HBWW.out (Nat.le_refl _) (by omega) _ _ _ _ _ _ _)
          have HKQ : Hid (KnR (set52 wr w.heap.size (w.heap.size + 1) (.slice Aq2 n0 cq2) (.slice Af2 n1 cf2) (.slice Ab2 n2 cb2) (.slice Ap2 n3 cp2) (.int .i64 rk) (.int .i64 0) (.int .i64 fi)).drew (fun b => w.heap.size ≤ b ∧ b < (set52 wr w.heap.size (w.heap.size + 1) (.slice Aq2 n0 cq2) (.slice Af2 n1 cf2) (.slice Ab2 n2 cb2) (.slice Ap2 n3 cp2) (.int .i64 rk) (.int .i64 0) (.int .i64 fi)).drew.heap.size) (.agg #[.slice Aq2 n0 cq2, .slice Af2 n1 cf2, .slice Ab2 n2 cb2, .slice Ap2 n3 cp2, .int .i64 rk]) ck) := by
            have := HKR.out
            rw [HK0.out.2.2.2, ← HCK.out] at this
            exact (this.same fun b hb => HFAR.out b (by have := hb.1; omega) (by have := hb.1; omega)).mono fun b hb => ⟨by have := hb.1; omega, by rw [HSIZ.out]; exact hb.2⟩
          unfold set52 at q0 q1 q2 q3 q4 q5 q6 HBQ HKQ
          clear ha hb HFAR HSIZ
          go_wp2_with fail
          exact bodyPost_ret (v := .tuple #[.agg #[.slice Aq2 n0 cq2, .slice Af2 n1 cf2, .slice Ab2 n2 cb2, .slice Ap2 n3 cp2, .int .i64 rk], .agg #[.int .i64 0, .int .i64 fi]]) (by simp [results, Try.results22, go_sem, q0, q1, q2, q3, q4, q5, q6]) rfl ⟨_, rfl, HKQ.out, HBQ.out⟩
        obtain ⟨own, v, n', cs, vo', cl, tl, tf', tb', hsb, h0, h1, h2⟩ := hs2
        have HBW := Lib.hid hsb.below
        have hsw := HBW.out.size
        obtain ⟨A1, ca1, hv1, hc1, hc2⟩ := own_form (hsb.row 1 (by simp)).1
        have en : n' 1 = i := h1.1
        rw [en] at hc1
        unfold maxLen at hc2
        obtain ⟨bf, of, Axf, cxf, e, z6, hbf, hth⟩ := HFR.out wr i HBW.out hlt
        have HEF := Lib.hid e
        obtain ⟨hlf, hlow⟩ := HTF.out i hlt
        have HTH := Lib.hid hth
        have HLOW := Lib.hid hlow
        have HKF1 := Lib.hid (HKF.out i hlt)
        clear e hth hlow
        generalize kn.front.getD i [] = lf at *
        have z0 := hsb.cell (j := 1) rfl
        rw [hv1, en] at z0
        have z1 := (HBW.out.cell (p := ⟨w1.heap.size, 0, none⟩) hp5).trans (HX4.out.cell (k := 0) rfl)
        have z2 := (HBW.out.cell (p := ⟨w1.heap.size, 1, none⟩) hp5).trans (HX4.out.cell (k := 1) rfl)
        have z3 := (HBW.out.cell (p := ⟨w1.heap.size, 2, none⟩) hp5).trans (HX4.out.cell (k := 2) rfl)
        have z4 := (HBW.out.cell (p := ⟨w1.heap.size, 3, none⟩) hp5).trans (HX4.out.cell (k := 3) rfl)
        have z5 := (HBW.out.cell (p := ⟨w1.heap.size, 4, none⟩) hp5).trans (HX4.out.cell (k := 4) rfl)
        rw [HFL.out, HEF.out] at z2
        have HSBX := Lib.hid hsb
        have HM2 := Lib.hid (And.intro h0 (And.intro h1 h2))
        have HV1 := Lib.hid hv1
        have HEN := Lib.hid en
        have hgw := hsb.arr.lt
        have hwr1 : w1.heap.size < wr.heap.size := by omega
        have hbw : bf < wr.heap.size := by omega
        clear hsb h0 h1 h2 hv1 en
        have HRW : Hid (∀ (w' : World), Below w2.heap.size w2 w' → Calls Try.prog 42 #[.agg #[(.slice Aq kn.loops.length cq), (.slice (some ⟨bf, of, none⟩) N cf), (.slice Ab kn.back.length cb), (.slice Ap kn.loose.length cp), (.int .i64 kn.rack)], .slice Axf lf.length cxf] w' fun e w'' => ∃ u, e = .returned u ∧ w''.ownsRow w'.heap.size 3 1 u lf.length (ints (lf.map (nm (cars kn.loops)))) ∧ Below w'.heap.size w' w'') := fun w' hb => by
          have := HREN.out w' _ _ hb HTH.out HLOW.out (by omega)
          rw [HFL.out, HEF.out] at this
          exact this
        go_upto_region 13 with fail
        refine wp_region_plan [(true, 0), (true, 1), (true, 2), (true, 3), (true, 4), (true, 5), (true, 6), (true, 7), (false, 8), (false, 9), (false, 10), (true, 11), (false, 12)] 12
          (fun w' => w'.cell? ⟨g, 1, none⟩ = some (.slice A1 i ca1) ∧ w'.cell? ⟨w1.heap.size, 0, none⟩ = some (.slice Aq kn.loops.length cq) ∧ w'.cell? ⟨w1.heap.size, 1, none⟩ = some (.slice (some ⟨bf, of, none⟩) N cf) ∧ w'.cell? ⟨w1.heap.size, 2, none⟩ = some (.slice Ab kn.back.length cb) ∧ w'.cell? ⟨w1.heap.size, 3, none⟩ = some (.slice Ap kn.loose.length cp) ∧ w'.cell? ⟨w1.heap.size, 4, none⟩ = some (.int .i64 kn.rack) ∧ w'.cell? ⟨bf, of + i, none⟩ = some (.slice Axf lf.length cxf))
          (by kernel_rfl) (by kernel_rfl) (by kernel_rfl) rfl ⟨z0, z1, z2, z3, z4, z5, z6⟩ ?_
        repeat (first
          | (refine plan_val _ ?_ (by rfl) (by rfl) ?_ ?_
             rotate_left 1
             · rintro w9 ⟨s0, s1, s2, s3, s4, s5, s6⟩; go_simp; first | done | with_reducible rfl
             (try simp only [Act.put, List.setIfInBounds_toArray, List.set_cons_zero, List.set_cons_succ])))
        refine plan_call _ ?_ ?_ (by rfl) (by rfl) ?_ ?_
        rotate_left 2
        · go_simp; (refine And.intro ?_ ?_ <;> rfl)
        refine (HRW.out _ (below_dN (n := 1) HBW.out)).mono ?_
        rintro e w7 ⟨u, rfl, hu, hb7⟩
        have HS3 := Lib.hid (HSBX.out.drew.more hb7 (Ints.of_own hu))
        obtain ⟨Au, cu, rfl, _, _⟩ := own_form hu
        have hs7 : wr.heap.size ≤ w7.heap.size := hb7.size
        have a0 : w7.cell? ⟨g, 1, none⟩ = some (.slice A1 i ca1) := (World.cell?_of_block (a := ⟨g, 1, none⟩) (hb7.block _ (by show g < wr.heap.size; omega))).trans z0
        have a1 : w7.cell? ⟨w1.heap.size, 0, none⟩ = some (.slice Aq kn.loops.length cq) := (World.cell?_of_block (a := ⟨w1.heap.size, 0, none⟩) (hb7.block _ (by show w1.heap.size < wr.heap.size; omega))).trans z1
        have a2 : w7.cell? ⟨w1.heap.size, 1, none⟩ = some (.slice (some ⟨bf, of, none⟩) N cf) := (World.cell?_of_block (a := ⟨w1.heap.size, 1, none⟩) (hb7.block _ (by show w1.heap.size < wr.heap.size; omega))).trans z2
        have a3 : w7.cell? ⟨w1.heap.size, 2, none⟩ = some (.slice Ab kn.back.length cb) := (World.cell?_of_block (a := ⟨w1.heap.size, 2, none⟩) (hb7.block _ (by show w1.heap.size < wr.heap.size; omega))).trans z3
        have a4 : w7.cell? ⟨w1.heap.size, 3, none⟩ = some (.slice Ap kn.loose.length cp) := (World.cell?_of_block (a := ⟨w1.heap.size, 3, none⟩) (hb7.block _ (by show w1.heap.size < wr.heap.size; omega))).trans z4
        have a5 : w7.cell? ⟨w1.heap.size, 4, none⟩ = some (.int .i64 kn.rack) := (World.cell?_of_block (a := ⟨w1.heap.size, 4, none⟩) (hb7.block _ (by show w1.heap.size < wr.heap.size; omega))).trans z5
        have a6 : w7.cell? ⟨bf, of + i, none⟩ = some (.slice Axf lf.length cxf) := (World.cell?_of_block (a := ⟨bf, of + i, none⟩) (hb7.block _ (by show bf < wr.heap.size; omega))).trans z6
        have hg7 : g < w7.heap.size := by omega
        have hx7 : w1.heap.size < w7.heap.size := by omega
        have hf7 : bf < w7.heap.size := by omega
        clear hb7 hu
        refine ⟨_, rfl, .inr ⟨a0, a1, a2, a3, a4, a5, a6⟩, ?_⟩
        (try simp only [Act.put, List.setIfInBounds_toArray, List.set_cons_zero, List.set_cons_succ])
        refine plan_do _ ?_ ?_ (by rfl) (by rfl) ?_ (.inr ?_) ?_
        rotate_left 2
        · go_simp; first | rfl | (refine And.intro ?_ ?_ <;> rfl)
        · exact ⟨by rw [World.cell?_alloc_lt _ _ _ (by exact hg7)]; exact a0, by rw [World.cell?_alloc_lt _ _ _ (by exact hx7)]; exact a1, by rw [World.cell?_alloc_lt _ _ _ (by exact hx7)]; exact a2, by rw [World.cell?_alloc_lt _ _ _ (by exact hx7)]; exact a3, by rw [World.cell?_alloc_lt _ _ _ (by exact hx7)]; exact a4, by rw [World.cell?_alloc_lt _ _ _ (by exact hx7)]; exact a5, by rw [World.cell?_alloc_lt _ _ _ (by exact hf7)]; exact a6⟩
        (try simp only [Act.put, List.setIfInBounds_toArray, List.set_cons_zero, List.set_cons_succ])
        have hon : (w7.alloc (.cells #[.slice Au lf.length cu] 25)).ownsRow w2.heap.size 25 1 (.slice A1 i ca1) i (cs 1) := by
          have := own_al (HS3.out.row 1 (by simp)).1 (.cells #[.slice Au lf.length cu] 25)
          rw [HV1.out, HEN.out] at this
          exact this
        have hby : (i + 1) * 24 ≤ 140737488355328 := by omega
        refine plan_app _ T24 (w0 := w2) [.slice Au lf.length cu] hon (HS3.out.below.alloc HS3.out.below.size _) (Nat.le_refl _) (by rfl) (by rfl) rfl rfl rfl rfl
          (fun j u hu => by have := (Arr.new w7 #[.slice Au lf.length cu] 25).cell (k := j) hu; rwa [Nat.zero_add]) (by simp [Value.oneCell']) hby ?_
        intro v1 w8 hown1 hb1 hg1 ho1
        obtain ⟨A1', c1', rfl, r1, r2⟩ := own_form hown1
        have hgw8 : w7.grownBy w8 (v 1).ownBlock := by rw [HV1.out, HEN.out]; exact grownBy_alloc_first hg1
        have HF := Lib.hid (S2.front (k := kc) (z := w7.heap.size + 1) HS3.out ⟨HM2.out.1.1, HM2.out.1.2.1, fun j hj => List.mem_cons_of_mem _ (HM2.out.1.2.2.1 j hj), List.mem_cons_of_mem _ HM2.out.1.2.2.2⟩ ⟨HM2.out.2.1.1, HM2.out.2.1.2.1, fun j hj => List.mem_cons_of_mem _ (HM2.out.2.1.2.2 j hj)⟩ ⟨HM2.out.2.2.1, HM2.out.2.2.2.1, fun j hj => List.mem_cons_of_mem _ (HM2.out.2.2.2.2 j hj)⟩
          (by rw [HKF1.out]; exact List.mem_cons_self) hgw8 (Nat.le_succ _) hb1 hown1 (by rw [HV1.out, HEN.out]; rw [World.size_alloc] at ho1; exact ho1))
        have hgg : w8.heap[g]? = w7.heap[g]? := hgw8.block _ hg7 fun e => absurd (HS3.out.og.symm.trans ((HS3.out.row 1 (by simp)).2 g e.symm)) (by simp)
        have hold : ∀ x, x < w2.heap.size → w8.heap[x]? = w7.heap[x]? := fun x hx => hgw8.block _ (by omega) fun e => by have := ((HS3.out.row 1 (by simp)).1.lt x e.symm).1; omega
        have t0 : w8.cell? ⟨g, 1, none⟩ = some (.slice A1 i ca1) := (World.cell?_of_block (a := ⟨g, 1, none⟩) hgg).trans a0
        have tf0 : w8.frozen? ⟨g, 1, none⟩ = false := (World.frozen?_of_block (a := ⟨g, 1, none⟩) hgg).trans (HS3.out.arr.free 1)
        have t1 : w8.cell? ⟨w1.heap.size, 0, none⟩ = some (.slice Aq kn.loops.length cq) := (World.cell?_of_block (a := ⟨w1.heap.size, 0, none⟩) (hold w1.heap.size (by omega))).trans a1
        have t2 : w8.cell? ⟨w1.heap.size, 1, none⟩ = some (.slice (some ⟨bf, of, none⟩) N cf) := (World.cell?_of_block (a := ⟨w1.heap.size, 1, none⟩) (hold w1.heap.size (by omega))).trans a2
        have t3 : w8.cell? ⟨w1.heap.size, 2, none⟩ = some (.slice Ab kn.back.length cb) := (World.cell?_of_block (a := ⟨w1.heap.size, 2, none⟩) (hold w1.heap.size (by omega))).trans a3
        have t4 : w8.cell? ⟨w1.heap.size, 3, none⟩ = some (.slice Ap kn.loose.length cp) := (World.cell?_of_block (a := ⟨w1.heap.size, 3, none⟩) (hold w1.heap.size (by omega))).trans a4
        have t5 : w8.cell? ⟨w1.heap.size, 4, none⟩ = some (.int .i64 kn.rack) := (World.cell?_of_block (a := ⟨w1.heap.size, 4, none⟩) (hold w1.heap.size (by omega))).trans a5
        have t6 : w8.cell? ⟨bf, of + i, none⟩ = some (.slice Axf lf.length cxf) := (World.cell?_of_block (a := ⟨bf, of + i, none⟩) (hold bf (by omega))).trans a6
        refine ⟨.inr ⟨t0, t1, t2, t3, t4, t5, t6⟩, ?_⟩
        clear hown1 hb1 hg1 ho1 hgw8 hgg hold hon a0 a1 a2 a3 a4 a5 a6 z0 z1 z2 z3 z4 z5 z6
        (try simp only [Act.put, List.setIfInBounds_toArray, List.set_cons_zero, List.set_cons_succ])
        repeat (first
          | (refine plan_val _ ?_ (by rfl) (by rfl) ?_ ?_
             rotate_left 1
             · rintro w9 ⟨s0, s1, s2, s3, s4, s5, s6⟩; go_simp; first | done | with_reducible rfl
             (try simp only [Act.put, List.setIfInBounds_toArray, List.set_cons_zero, List.set_cons_succ])))
        refine plan_store _ ?_ (by rfl) (by rfl) ?_ (.inl rfl) ?_
        rotate_left 1
        · go_simp; first | rfl | (refine And.intro ?_ ?_ <;> rfl)
        refine plan_end ?_
        (try simp only [Act.put, List.setIfInBounds_toArray, List.set_cons_zero, List.set_cons_succ])
        have hs2 := HF.out
        generalize w8.setCell ⟨g, 1, none⟩ (.slice A1' (i + 1) c1') = w9 at *
        clear HF t0 tf0 t1 t2 t3 t4 t5 t6 HS3 HM2 HV1 HEN HSBX HBW HTH HLOW HKF1 HRW HEF hgw hwr1 hbw hg7 hx7 hf7 hs7 hsw hlf hbf
        clear hc1 hc2 r1 r2
        generalize hwz : w9 = wz at *
        clear hwz
        obtain ⟨own, v, n', cs, vo', cl, tl, tf', tb', hsb, h0, h1, h2⟩ := hs2
        have HBW := Lib.hid hsb.below
        have hsw := HBW.out.size
        obtain ⟨A1, ca1, hv1, hc1, hc2⟩ := own_form (hsb.row 2 (by simp)).1
        have en : n' 2 = i := h2.1
        rw [en] at hc1
        unfold maxLen at hc2
        obtain ⟨bf, of, Axf, cxf, e, z6, hbf, hth⟩ := HBR.out wz i HBW.out hlt
        have HEF := Lib.hid e
        obtain ⟨hlf, hlow⟩ := HTB.out i hlt
        have HTH := Lib.hid hth
        have HLOW := Lib.hid hlow
        have HKF1 := Lib.hid (HKB.out i hlt)
        clear e hth hlow
        generalize kn.back.getD i [] = lf at *
        have z0 := hsb.cell (j := 2) rfl
        rw [hv1, en] at z0
        have z1 := (HBW.out.cell (p := ⟨w1.heap.size, 0, none⟩) hp5).trans (HX4.out.cell (k := 0) rfl)
        have z2 := (HBW.out.cell (p := ⟨w1.heap.size, 1, none⟩) hp5).trans (HX4.out.cell (k := 1) rfl)
        have z3 := (HBW.out.cell (p := ⟨w1.heap.size, 2, none⟩) hp5).trans (HX4.out.cell (k := 2) rfl)
        have z4 := (HBW.out.cell (p := ⟨w1.heap.size, 3, none⟩) hp5).trans (HX4.out.cell (k := 3) rfl)
        have z5 := (HBW.out.cell (p := ⟨w1.heap.size, 4, none⟩) hp5).trans (HX4.out.cell (k := 4) rfl)
        rw [HB2.out, HEF.out] at z3
        have HSBX := Lib.hid hsb
        have HM2 := Lib.hid (And.intro h0 (And.intro h1 h2))
        have HV1 := Lib.hid hv1
        have HEN := Lib.hid en
        have hgw := hsb.arr.lt
        have hwr1 : w1.heap.size < wz.heap.size := by omega
        have hbw : bf < wz.heap.size := by omega
        clear hsb h0 h1 h2 hv1 en
        have HRW : Hid (∀ (w' : World), Below w2.heap.size w2 w' → Calls Try.prog 42 #[.agg #[(.slice Aq kn.loops.length cq), (.slice Af kn.front.length cf), (.slice (some ⟨bf, of, none⟩) N cb), (.slice Ap kn.loose.length cp), (.int .i64 kn.rack)], .slice Axf lf.length cxf] w' fun e w'' => ∃ u, e = .returned u ∧ w''.ownsRow w'.heap.size 3 1 u lf.length (ints (lf.map (nm (cars kn.loops)))) ∧ Below w'.heap.size w' w'') := fun w' hb => by
          have := HREN.out w' _ _ hb HTH.out HLOW.out (by omega)
          rw [HB2.out, HEF.out] at this
          exact this
        go_upto_region 14 with fail
        refine wp_region_plan [(true, 0), (true, 1), (true, 2), (true, 3), (true, 4), (true, 5), (true, 6), (true, 7), (false, 8), (false, 9), (false, 10), (true, 11), (false, 12)] 12
          (fun w' => w'.cell? ⟨g, 2, none⟩ = some (.slice A1 i ca1) ∧ w'.cell? ⟨w1.heap.size, 0, none⟩ = some (.slice Aq kn.loops.length cq) ∧ w'.cell? ⟨w1.heap.size, 1, none⟩ = some (.slice Af kn.front.length cf) ∧ w'.cell? ⟨w1.heap.size, 2, none⟩ = some (.slice (some ⟨bf, of, none⟩) N cb) ∧ w'.cell? ⟨w1.heap.size, 3, none⟩ = some (.slice Ap kn.loose.length cp) ∧ w'.cell? ⟨w1.heap.size, 4, none⟩ = some (.int .i64 kn.rack) ∧ w'.cell? ⟨bf, of + i, none⟩ = some (.slice Axf lf.length cxf))
          (by kernel_rfl) (by kernel_rfl) (by kernel_rfl) rfl ⟨z0, z1, z2, z3, z4, z5, z6⟩ ?_
        repeat (first
          | (refine plan_val _ ?_ (by rfl) (by rfl) ?_ ?_
             rotate_left 1
             · rintro w9 ⟨s0, s1, s2, s3, s4, s5, s6⟩; go_simp; first | done | with_reducible rfl
             (try simp only [Act.put, List.setIfInBounds_toArray, List.set_cons_zero, List.set_cons_succ])))
        refine plan_call _ ?_ ?_ (by rfl) (by rfl) ?_ ?_
        rotate_left 2
        · go_simp; (refine And.intro ?_ ?_ <;> rfl)
        refine (HRW.out _ (below_dN (n := 1) HBW.out)).mono ?_
        rintro e w7 ⟨u, rfl, hu, hb7⟩
        have HS3 := Lib.hid (HSBX.out.drew.more hb7 (Ints.of_own hu))
        obtain ⟨Au, cu, rfl, _, _⟩ := own_form hu
        have hs7 : wz.heap.size ≤ w7.heap.size := hb7.size
        have a0 : w7.cell? ⟨g, 2, none⟩ = some (.slice A1 i ca1) := (World.cell?_of_block (a := ⟨g, 2, none⟩) (hb7.block _ (by show g < wz.heap.size; omega))).trans z0
        have a1 : w7.cell? ⟨w1.heap.size, 0, none⟩ = some (.slice Aq kn.loops.length cq) := (World.cell?_of_block (a := ⟨w1.heap.size, 0, none⟩) (hb7.block _ (by show w1.heap.size < wz.heap.size; omega))).trans z1
        have a2 : w7.cell? ⟨w1.heap.size, 1, none⟩ = some (.slice Af kn.front.length cf) := (World.cell?_of_block (a := ⟨w1.heap.size, 1, none⟩) (hb7.block _ (by show w1.heap.size < wz.heap.size; omega))).trans z2
        have a3 : w7.cell? ⟨w1.heap.size, 2, none⟩ = some (.slice (some ⟨bf, of, none⟩) N cb) := (World.cell?_of_block (a := ⟨w1.heap.size, 2, none⟩) (hb7.block _ (by show w1.heap.size < wz.heap.size; omega))).trans z3
        have a4 : w7.cell? ⟨w1.heap.size, 3, none⟩ = some (.slice Ap kn.loose.length cp) := (World.cell?_of_block (a := ⟨w1.heap.size, 3, none⟩) (hb7.block _ (by show w1.heap.size < wz.heap.size; omega))).trans z4
        have a5 : w7.cell? ⟨w1.heap.size, 4, none⟩ = some (.int .i64 kn.rack) := (World.cell?_of_block (a := ⟨w1.heap.size, 4, none⟩) (hb7.block _ (by show w1.heap.size < wz.heap.size; omega))).trans z5
        have a6 : w7.cell? ⟨bf, of + i, none⟩ = some (.slice Axf lf.length cxf) := (World.cell?_of_block (a := ⟨bf, of + i, none⟩) (hb7.block _ (by show bf < wz.heap.size; omega))).trans z6
        have hg7 : g < w7.heap.size := by omega
        have hx7 : w1.heap.size < w7.heap.size := by omega
        have hf7 : bf < w7.heap.size := by omega
        clear hb7 hu
        refine ⟨_, rfl, .inr ⟨a0, a1, a2, a3, a4, a5, a6⟩, ?_⟩
        (try simp only [Act.put, List.setIfInBounds_toArray, List.set_cons_zero, List.set_cons_succ])
        refine plan_do _ ?_ ?_ (by rfl) (by rfl) ?_ (.inr ?_) ?_
        rotate_left 2
        · go_simp; first | rfl | (refine And.intro ?_ ?_ <;> rfl)
        · exact ⟨by rw [World.cell?_alloc_lt _ _ _ (by exact hg7)]; exact a0, by rw [World.cell?_alloc_lt _ _ _ (by exact hx7)]; exact a1, by rw [World.cell?_alloc_lt _ _ _ (by exact hx7)]; exact a2, by rw [World.cell?_alloc_lt _ _ _ (by exact hx7)]; exact a3, by rw [World.cell?_alloc_lt _ _ _ (by exact hx7)]; exact a4, by rw [World.cell?_alloc_lt _ _ _ (by exact hx7)]; exact a5, by rw [World.cell?_alloc_lt _ _ _ (by exact hf7)]; exact a6⟩
        (try simp only [Act.put, List.setIfInBounds_toArray, List.set_cons_zero, List.set_cons_succ])
        have hon : (w7.alloc (.cells #[.slice Au lf.length cu] 25)).ownsRow w2.heap.size 25 1 (.slice A1 i ca1) i (cs 2) := by
          have := own_al (HS3.out.row 2 (by simp)).1 (.cells #[.slice Au lf.length cu] 25)
          rw [HV1.out, HEN.out] at this
          exact this
        have hby : (i + 1) * 24 ≤ 140737488355328 := by omega
        refine plan_app _ T24 (w0 := w2) [.slice Au lf.length cu] hon (HS3.out.below.alloc HS3.out.below.size _) (Nat.le_refl _) (by rfl) (by rfl) rfl rfl rfl rfl
          (fun j u hu => by have := (Arr.new w7 #[.slice Au lf.length cu] 25).cell (k := j) hu; rwa [Nat.zero_add]) (by simp [Value.oneCell']) hby ?_
        intro v1 w8 hown1 hb1 hg1 ho1
        obtain ⟨A1', c1', rfl, r1, r2⟩ := own_form hown1
        have hgw8 : w7.grownBy w8 (v 2).ownBlock := by rw [HV1.out, HEN.out]; exact grownBy_alloc_first hg1
        have HF := Lib.hid (S2.back (k := kc) (z := w7.heap.size + 1) HS3.out ⟨HM2.out.1.1, HM2.out.1.2.1, fun j hj => List.mem_cons_of_mem _ (HM2.out.1.2.2.1 j hj), List.mem_cons_of_mem _ HM2.out.1.2.2.2⟩ ⟨HM2.out.2.1.1, HM2.out.2.1.2.1, fun j hj => List.mem_cons_of_mem _ (HM2.out.2.1.2.2 j hj)⟩ ⟨HM2.out.2.2.1, HM2.out.2.2.2.1, fun j hj => List.mem_cons_of_mem _ (HM2.out.2.2.2.2 j hj)⟩
          (by rw [HKF1.out]; exact List.mem_cons_self) hgw8 (Nat.le_succ _) hb1 hown1 (by rw [HV1.out, HEN.out]; rw [World.size_alloc] at ho1; exact ho1))
        have hgg : w8.heap[g]? = w7.heap[g]? := hgw8.block _ hg7 fun e => absurd (HS3.out.og.symm.trans ((HS3.out.row 2 (by simp)).2 g e.symm)) (by simp)
        have hold : ∀ x, x < w2.heap.size → w8.heap[x]? = w7.heap[x]? := fun x hx => hgw8.block _ (by omega) fun e => by have := ((HS3.out.row 2 (by simp)).1.lt x e.symm).1; omega
        have t0 : w8.cell? ⟨g, 2, none⟩ = some (.slice A1 i ca1) := (World.cell?_of_block (a := ⟨g, 2, none⟩) hgg).trans a0
        have tf0 : w8.frozen? ⟨g, 2, none⟩ = false := (World.frozen?_of_block (a := ⟨g, 2, none⟩) hgg).trans (HS3.out.arr.free 2)
        have t1 : w8.cell? ⟨w1.heap.size, 0, none⟩ = some (.slice Aq kn.loops.length cq) := (World.cell?_of_block (a := ⟨w1.heap.size, 0, none⟩) (hold w1.heap.size (by omega))).trans a1
        have t2 : w8.cell? ⟨w1.heap.size, 1, none⟩ = some (.slice Af kn.front.length cf) := (World.cell?_of_block (a := ⟨w1.heap.size, 1, none⟩) (hold w1.heap.size (by omega))).trans a2
        have t3 : w8.cell? ⟨w1.heap.size, 2, none⟩ = some (.slice (some ⟨bf, of, none⟩) N cb) := (World.cell?_of_block (a := ⟨w1.heap.size, 2, none⟩) (hold w1.heap.size (by omega))).trans a3
        have t4 : w8.cell? ⟨w1.heap.size, 3, none⟩ = some (.slice Ap kn.loose.length cp) := (World.cell?_of_block (a := ⟨w1.heap.size, 3, none⟩) (hold w1.heap.size (by omega))).trans a4
        have t5 : w8.cell? ⟨w1.heap.size, 4, none⟩ = some (.int .i64 kn.rack) := (World.cell?_of_block (a := ⟨w1.heap.size, 4, none⟩) (hold w1.heap.size (by omega))).trans a5
        have t6 : w8.cell? ⟨bf, of + i, none⟩ = some (.slice Axf lf.length cxf) := (World.cell?_of_block (a := ⟨bf, of + i, none⟩) (hold bf (by omega))).trans a6
        refine ⟨.inr ⟨t0, t1, t2, t3, t4, t5, t6⟩, ?_⟩
        clear hown1 hb1 hg1 ho1 hgw8 hgg hold hon a0 a1 a2 a3 a4 a5 a6 z0 z1 z2 z3 z4 z5 z6
        (try simp only [Act.put, List.setIfInBounds_toArray, List.set_cons_zero, List.set_cons_succ])
        repeat (first
          | (refine plan_val _ ?_ (by rfl) (by rfl) ?_ ?_
             rotate_left 1
             · rintro w9 ⟨s0, s1, s2, s3, s4, s5, s6⟩; go_simp; first | done | with_reducible rfl
             (try simp only [Act.put, List.setIfInBounds_toArray, List.set_cons_zero, List.set_cons_succ])))
        refine plan_store _ ?_ (by rfl) (by rfl) ?_ (.inl rfl) ?_
        rotate_left 1
        · go_simp; first | rfl | (refine And.intro ?_ ?_ <;> rfl)
        refine plan_end ?_
        (try simp only [Act.put, List.setIfInBounds_toArray, List.set_cons_zero, List.set_cons_succ])
        have hs2 := HF.out
        generalize w8.setCell ⟨g, 2, none⟩ (.slice A1' (i + 1) c1') = w9 at *
        clear HF t0 tf0 t1 t2 t3 t4 t5 t6 HS3 HM2 HV1 HEN HSBX HBW HTH HLOW HKF1 HRW HEF hgw hwr1 hbw hg7 hx7 hf7 hs7 hsw hlf hbf
        clear hc1 hc2 r1 r2
        go_wp2_with fail
        go_roundg (N - (i + 1))
        case measure => omega
        case rel => exact ⟨i + 1, by omega, rfl, by go_num, hs2⟩
end Go.Proofs.Ytaacfjeddoekfaa
