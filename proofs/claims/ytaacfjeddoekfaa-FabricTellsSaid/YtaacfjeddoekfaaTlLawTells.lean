import Derived.Test.YtaacfjeddoekfaaTlFabRef3
import Derived.Test.YtaacfjeddoekfaaTl13
import Derived.Test.YtaacfjeddoekfaaTl7
import Derived.Test.YtaacfjeddoekfaaTl5
/- Chapter 12: the walk of FabricTells. -/
namespace Go.Proofs.Ytaacfjeddoekfaa
open Go.RowKit
set_option linter.unusedVariables false
set_option linter.unusedSimpArgs false

set_option maxRecDepth 100000 in
set_option maxHeartbeats 8000000 in
theorem tells_walk (n : Int) {v : Value} {l : List Sti} (x y : Sti) (r : Int) {w : World} (hv : Stis w v l) (hb : l.length * 40 ≤ 140737488351232) :
    Calls Try.prog 10 #[.int .i64 n, v, .agg #[.int .i64 x.d, .int .i64 x.b, .int .i64 x.n, .int .i64 x.c, .int .i64 x.t], .agg #[.int .i64 y.d, .int .i64 y.b, .int .i64 y.n, .int .i64 y.c, .int .i64 y.t], .int .i64 r] w fun e w' => e = .returned (.bool true) ∧ Below w.heap.size w w' := by
  have HV := Lib.hid hv.2
  have hv2 := hv.2
  have HCL : Hid (∀ w v, Stitches w (fun b => b < w.heap.size) v l → Calls Try.prog 19 #[.int .i64 n, v] w fun e w' => ∃ kv, e = .returned (.tuple #[kv, .agg #[.int .i64 (runAF n l).1, .int .i64 (runAF n l).2]]) ∧ KnR w' (fun b => w.heap.size ≤ b ∧ b < w'.heap.size) kv (clothA n l) ∧ Below w.heap.size w w') := fun w v hv => Cloth_any n w hv
  have HCR : Hid (∀ w v, Stitches w (fun b => b < w.heap.size) v l → Calls Try.prog 22 #[.int .i64 n, v] w fun e w' => ∃ kv, e = .returned (.tuple #[kv, .agg #[.int .i64 (runAF n l).1, .int .i64 (runAF n l).2]]) ∧ KnR w' (fun b => w.heap.size ≤ b ∧ b < w'.heap.size) kv (clothA n l) ∧ Below w.heap.size w w') := fun w v hv => ClothR_any n w hv (by omega)
  have hle := tidy_len l 0
  have HTI : Hid (∀ w v, Stitches w (fun b => b < w.heap.size) v l → Calls Try.prog 20 #[v] w fun e w' => ∃ u, e = .returned u ∧ w'.ownsRow w.heap.size 44 5 u (tidyK 0 l).length ((tidyK 0 l).flatMap Sti.cells) ∧ Below w.heap.size w w') := fun w v hv => Tidy_any w hv hb
  have HTR : Hid (∀ w v, Stitches w (fun b => b < w.heap.size) v l → Calls Try.prog 24 #[v] w fun e w' => ∃ u, e = .returned u ∧ w'.ownsRow w.heap.size 44 5 u (tidyK 0 l).length ((tidyK 0 l).flatMap Sti.cells) ∧ Below w.heap.size w w') := fun w v hv => TidyR_any w hv hb
  have HMA : Hid (∀ w, _) := fun w => May_any x y r w
  have HMR : Hid (∀ w, _) := fun w => MayR_any x y r w
  generalize tidyK 0 l = t at *
  generalize mayW x y r = mb at *
  obtain ⟨A, cc, rfl, h1, h2, hr⟩ := hv2
  clear hr hv
  unfold maxLen at h2
  generalize (runAF n l).1 = f1 at *
  generalize (runAF n l).2 = fi at *
  generalize clothA n l = kn at *
  have HX := Lib.hid ((Arr.new w #[.int .i64 x.d, .int .i64 x.b, .int .i64 x.n, .int .i64 x.c, .int .i64 x.t] 44).alloc (.cells #[.int .i64 y.d, .int .i64 y.b, .int .i64 y.n, .int .i64 y.c, .int .i64 y.t] 44))
  have HY := Lib.hid (arr_new2 w (.cells #[.int .i64 x.d, .int .i64 x.b, .int .i64 x.n, .int .i64 x.c, .int .i64 x.t] 44) #[.int .i64 y.d, .int .i64 y.b, .int .i64 y.n, .int .i64 y.c, .int .i64 y.t] 44)
  have HB0 : Hid (Below w.heap.size w ((w.alloc (.cells #[.int .i64 x.d, .int .i64 x.b, .int .i64 x.n, .int .i64 x.c, .int .i64 x.t] 44)).alloc (.cells #[.int .i64 y.d, .int .i64 y.b, .int .i64 y.n, .int .i64 y.c, .int .i64 y.t] 44))) := ((Below.refl _ _).alloc (Nat.le_refl _) _).alloc (by simp) _
  have HZ0 : Hid (((w.alloc (.cells #[.int .i64 x.d, .int .i64 x.b, .int .i64 x.n, .int .i64 x.c, .int .i64 x.t] 44)).alloc (.cells #[.int .i64 y.d, .int .i64 y.b, .int .i64 y.n, .int .i64 y.c, .int .i64 y.t] 44)).heap.size = w.heap.size + 2) := by show _ = _; simp
  go_enter Try.func10, Try.ntmps10
  go_upto_region 1 with fail
  generalize (w.alloc (.cells #[.int .i64 x.d, .int .i64 x.b, .int .i64 x.n, .int .i64 x.c, .int .i64 x.t] 44)).alloc (.cells #[.int .i64 y.d, .int .i64 y.b, .int .i64 y.n, .int .i64 y.c, .int .i64 y.t] 44) = w0 at *
  go_wp2_with fail
  refine (HCL.out _ _ (stis_grown HV.out HB0.out)).mono ?_
  rintro e w1 ⟨kv, rfl, hk, hb1⟩
  have HK := Lib.hid hk
  have HB1 := Lib.hid hb1
  have hz1 := hb1.size
  rw [HZ0.out] at hz1
  obtain ⟨vl, vf, vb, vo, rfl, hl', hf', hb', ho'⟩ := hk
  obtain ⟨Aq, cq, tq, rfl, _⟩ := hl'
  obtain ⟨Af, cf, tf, rfl, _⟩ := hf'
  obtain ⟨Ab, cb, tb, rfl, _⟩ := hb'
  obtain ⟨Ap, cp, rfl, _⟩ := ho'
  clear hb1 HCL
  have HA := Lib.hid ((Arr.new w1 #[.slice Aq kn.loops.length cq, .slice Af kn.front.length cf, .slice Ab kn.back.length cb, .slice Ap kn.loose.length cp, .int .i64 kn.rack] 27).alloc (.cells #[.int .i64 f1, .int .i64 fi] 30))
  have HF := Lib.hid (arr_new2 w1 (.cells #[.slice Aq kn.loops.length cq, .slice Af kn.front.length cf, .slice Ab kn.back.length cb, .slice Ap kn.loose.length cp, .int .i64 kn.rack] 27) #[.int .i64 f1, .int .i64 fi] 30)
  have HB12 : Hid (Below w1.heap.size w1 ((w1.alloc (.cells #[.slice Aq kn.loops.length cq, .slice Af kn.front.length cf, .slice Ab kn.back.length cb, .slice Ap kn.loose.length cp, .int .i64 kn.rack] 27)).alloc (.cells #[.int .i64 f1, .int .i64 fi] 30))) := ((Below.refl _ _).alloc (Nat.le_refl _) _).alloc (by simp) _
  have HZ2 : Hid (((w1.alloc (.cells #[.slice Aq kn.loops.length cq, .slice Af kn.front.length cf, .slice Ab kn.back.length cb, .slice Ap kn.loose.length cp, .int .i64 kn.rack] 27)).alloc (.cells #[.int .i64 f1, .int .i64 fi] 30)).heap.size = w1.heap.size + 2) := by show _ = _; simp
  go_upto_region 2 with fail
  generalize (w1.alloc (.cells #[.slice Aq kn.loops.length cq, .slice Af kn.front.length cf, .slice Ab kn.back.length cb, .slice Ap kn.loose.length cp, .int .i64 kn.rack] 27)).alloc (.cells #[.int .i64 f1, .int .i64 fi] 30) = w2 at *
  have HBW2 := Lib.hid ((HB0.out.trans (HB1.out.mono HB0.out.size)).trans (HB12.out.mono (Nat.le_trans HB0.out.size HB1.out.size)))
  go_wp2_with fail
  refine (HCR.out _ _ (stis_grown HV.out HBW2.out)).mono ?_
  rintro e w3 ⟨kv, rfl, hk, hb3⟩
  have HK2 := Lib.hid hk
  have HB3 := Lib.hid hb3
  have hz3 := hb3.size
  rw [HZ2.out] at hz3
  obtain ⟨vl, vf, vb, vo, rfl, hl', hf', hb', ho'⟩ := hk
  obtain ⟨Aq2, cq2, tq2, rfl, _⟩ := hl'
  obtain ⟨Af2, cf2, tf2, rfl, _⟩ := hf'
  obtain ⟨Ab2, cb2, tb2, rfl, _⟩ := hb'
  obtain ⟨Ap2, cp2, rfl, _⟩ := ho'
  clear hb3 HCR
  have HC5 := Lib.hid ((Arr.new w3 #[.slice Aq2 kn.loops.length cq2, .slice Af2 kn.front.length cf2, .slice Ab2 kn.back.length cb2, .slice Ap2 kn.loose.length cp2, .int .i64 kn.rack] 27).alloc (.cells #[.int .i64 f1, .int .i64 fi] 30))
  have HG5 := Lib.hid (arr_new2 w3 (.cells #[.slice Aq2 kn.loops.length cq2, .slice Af2 kn.front.length cf2, .slice Ab2 kn.back.length cb2, .slice Ap2 kn.loose.length cp2, .int .i64 kn.rack] 27) #[.int .i64 f1, .int .i64 fi] 30)
  have HB35 : Hid (Below w3.heap.size w3 ((w3.alloc (.cells #[.slice Aq2 kn.loops.length cq2, .slice Af2 kn.front.length cf2, .slice Ab2 kn.back.length cb2, .slice Ap2 kn.loose.length cp2, .int .i64 kn.rack] 27)).alloc (.cells #[.int .i64 f1, .int .i64 fi] 30))) := ((Below.refl _ _).alloc (Nat.le_refl _) _).alloc (by simp) _
  have HZ5 : Hid (((w3.alloc (.cells #[.slice Aq2 kn.loops.length cq2, .slice Af2 kn.front.length cf2, .slice Ab2 kn.back.length cb2, .slice Ap2 kn.loose.length cp2, .int .i64 kn.rack] 27)).alloc (.cells #[.int .i64 f1, .int .i64 fi] 30)).heap.size = w3.heap.size + 2) := by show _ = _; simp
  go_upto_region 3 with fail
  generalize (w3.alloc (.cells #[.slice Aq2 kn.loops.length cq2, .slice Af2 kn.front.length cf2, .slice Ab2 kn.back.length cb2, .slice Ap2 kn.loose.length cp2, .int .i64 kn.rack] 27)).alloc (.cells #[.int .i64 f1, .int .i64 fi] 30) = w5 at *
  have HBW5 := Lib.hid ((HBW2.out.trans (HB3.out.mono HBW2.out.size)).trans (HB35.out.mono (Nat.le_trans HBW2.out.size HB3.out.size)))
  have HXW := Lib.hid ((((HX.out.of_eq (HB1.out.block _ HX.out.lt)).of_eq (HB12.out.block _ (by omega))).of_eq (HB3.out.block _ (by rw [HZ2.out]; omega))).of_eq (HB35.out.block _ (by omega)))
  have HYW := Lib.hid ((((HY.out.of_eq (HB1.out.block _ HY.out.lt)).of_eq (HB12.out.block _ (by omega))).of_eq (HB3.out.block _ (by rw [HZ2.out]; omega))).of_eq (HB35.out.block _ (by omega)))
  have HA5 := Lib.hid ((HA.out.of_eq (HB3.out.block _ HA.out.lt)).of_eq (HB35.out.block _ (by omega)))
  have HF5 := Lib.hid ((HF.out.of_eq (HB3.out.block _ HF.out.lt)).of_eq (HB35.out.block _ (by omega)))
  have HK5 : Hid (KnR w5 (fun b => b < w5.heap.size) (.agg #[.slice Aq kn.loops.length cq, .slice Af kn.front.length cf, .slice Ab kn.back.length cb, .slice Ap kn.loose.length cp, .int .i64 kn.rack]) kn) := (((HK.out.same fun b hb => HB12.out.block b hb.2).same fun b hb => HB3.out.block b (by have := hb.2; rw [HZ2.out]; omega)).same fun b hb => HB35.out.block b (by have := hb.2; omega)).mono fun b hb => by have := hb.2; show b < w5.heap.size; rw [HZ5.out]; omega
  have HK25 : Hid (KnR w5 (fun b => b < w5.heap.size) (.agg #[.slice Aq2 kn.loops.length cq2, .slice Af2 kn.front.length cf2, .slice Ab2 kn.back.length cb2, .slice Ap2 kn.loose.length cp2, .int .i64 kn.rack]) kn) := (HK2.out.same fun b hb => HB35.out.block b hb.2).mono fun b hb => by have := hb.2; show b < w5.heap.size; rw [HZ5.out]; omega
  have HSA : Hid (∀ w', Below w5.heap.size w5 w' → Calls Try.prog 13 #[.agg #[.slice Aq kn.loops.length cq, .slice Af kn.front.length cf, .slice Ab kn.back.length cb, .slice Ap kn.loose.length cp, .int .i64 kn.rack], .agg #[.slice Aq2 kn.loops.length cq2, .slice Af2 kn.front.length cf2, .slice Ab2 kn.back.length cb2, .slice Ap2 kn.loose.length cp2, .int .i64 kn.rack]] w' fun e w'' => e = .returned (.bool true) ∧ Below w'.heap.size w' w'') := fun w' hb => Same_self w' (HK5.out.same fun b hb' => hb.block b hb') (HK25.out.same fun b hb' => hb.block b hb') (fun b hb' => Nat.lt_of_lt_of_le hb' hb.size) (fun b hb' => Nat.lt_of_lt_of_le hb' hb.size)
  have HS : Hid (∀ w', Below w5.heap.size w5 w' → Below w5.heap.size w5 w' ∧ w'.cell? ⟨w.heap.size, 0, none⟩ = some (.int .i64 x.d) ∧ w'.cell? ⟨w.heap.size, 1, none⟩ = some (.int .i64 x.b) ∧ w'.cell? ⟨w.heap.size, 2, none⟩ = some (.int .i64 x.n) ∧ w'.cell? ⟨w.heap.size, 3, none⟩ = some (.int .i64 x.c) ∧ w'.cell? ⟨w.heap.size, 4, none⟩ = some (.int .i64 x.t) ∧ w'.cell? ⟨w.heap.size + 1, 0, none⟩ = some (.int .i64 y.d) ∧ w'.cell? ⟨w.heap.size + 1, 1, none⟩ = some (.int .i64 y.b) ∧ w'.cell? ⟨w.heap.size + 1, 2, none⟩ = some (.int .i64 y.n) ∧ w'.cell? ⟨w.heap.size + 1, 3, none⟩ = some (.int .i64 y.c) ∧ w'.cell? ⟨w.heap.size + 1, 4, none⟩ = some (.int .i64 y.t) ∧ w'.cell? ⟨w1.heap.size, 0, none⟩ = some (.slice Aq kn.loops.length cq) ∧ w'.cell? ⟨w1.heap.size, 1, none⟩ = some (.slice Af kn.front.length cf) ∧ w'.cell? ⟨w1.heap.size, 2, none⟩ = some (.slice Ab kn.back.length cb) ∧ w'.cell? ⟨w1.heap.size, 3, none⟩ = some (.slice Ap kn.loose.length cp) ∧ w'.cell? ⟨w1.heap.size, 4, none⟩ = some (.int .i64 kn.rack) ∧ w'.cell? ⟨w1.heap.size + 1, 0, none⟩ = some (.int .i64 f1) ∧ w'.cell? ⟨w1.heap.size + 1, 1, none⟩ = some (.int .i64 fi) ∧ w'.cell? ⟨w3.heap.size, 0, none⟩ = some (.slice Aq2 kn.loops.length cq2) ∧ w'.cell? ⟨w3.heap.size, 1, none⟩ = some (.slice Af2 kn.front.length cf2) ∧ w'.cell? ⟨w3.heap.size, 2, none⟩ = some (.slice Ab2 kn.back.length cb2) ∧ w'.cell? ⟨w3.heap.size, 3, none⟩ = some (.slice Ap2 kn.loose.length cp2) ∧ w'.cell? ⟨w3.heap.size, 4, none⟩ = some (.int .i64 kn.rack) ∧ w'.cell? ⟨w3.heap.size + 1, 0, none⟩ = some (.int .i64 f1) ∧ w'.cell? ⟨w3.heap.size + 1, 1, none⟩ = some (.int .i64 fi)) := fun w' hb => ⟨hb, (hb.cell (p := ⟨w.heap.size, 0, none⟩) (by exact HXW.out.lt)).trans (HXW.out.cell (k := 0) rfl), (hb.cell (p := ⟨w.heap.size, 1, none⟩) (by exact HXW.out.lt)).trans (HXW.out.cell (k := 1) rfl), (hb.cell (p := ⟨w.heap.size, 2, none⟩) (by exact HXW.out.lt)).trans (HXW.out.cell (k := 2) rfl), (hb.cell (p := ⟨w.heap.size, 3, none⟩) (by exact HXW.out.lt)).trans (HXW.out.cell (k := 3) rfl), (hb.cell (p := ⟨w.heap.size, 4, none⟩) (by exact HXW.out.lt)).trans (HXW.out.cell (k := 4) rfl), (hb.cell (p := ⟨w.heap.size + 1, 0, none⟩) (by exact HYW.out.lt)).trans (HYW.out.cell (k := 0) rfl), (hb.cell (p := ⟨w.heap.size + 1, 1, none⟩) (by exact HYW.out.lt)).trans (HYW.out.cell (k := 1) rfl), (hb.cell (p := ⟨w.heap.size + 1, 2, none⟩) (by exact HYW.out.lt)).trans (HYW.out.cell (k := 2) rfl), (hb.cell (p := ⟨w.heap.size + 1, 3, none⟩) (by exact HYW.out.lt)).trans (HYW.out.cell (k := 3) rfl), (hb.cell (p := ⟨w.heap.size + 1, 4, none⟩) (by exact HYW.out.lt)).trans (HYW.out.cell (k := 4) rfl), (hb.cell (p := ⟨w1.heap.size, 0, none⟩) (by exact HA5.out.lt)).trans (HA5.out.cell (k := 0) rfl), (hb.cell (p := ⟨w1.heap.size, 1, none⟩) (by exact HA5.out.lt)).trans (HA5.out.cell (k := 1) rfl), (hb.cell (p := ⟨w1.heap.size, 2, none⟩) (by exact HA5.out.lt)).trans (HA5.out.cell (k := 2) rfl), (hb.cell (p := ⟨w1.heap.size, 3, none⟩) (by exact HA5.out.lt)).trans (HA5.out.cell (k := 3) rfl), (hb.cell (p := ⟨w1.heap.size, 4, none⟩) (by exact HA5.out.lt)).trans (HA5.out.cell (k := 4) rfl), (hb.cell (p := ⟨w1.heap.size + 1, 0, none⟩) (by exact HF5.out.lt)).trans (HF5.out.cell (k := 0) rfl), (hb.cell (p := ⟨w1.heap.size + 1, 1, none⟩) (by exact HF5.out.lt)).trans (HF5.out.cell (k := 1) rfl), (hb.cell (p := ⟨w3.heap.size, 0, none⟩) (by exact HC5.out.lt)).trans (HC5.out.cell (k := 0) rfl), (hb.cell (p := ⟨w3.heap.size, 1, none⟩) (by exact HC5.out.lt)).trans (HC5.out.cell (k := 1) rfl), (hb.cell (p := ⟨w3.heap.size, 2, none⟩) (by exact HC5.out.lt)).trans (HC5.out.cell (k := 2) rfl), (hb.cell (p := ⟨w3.heap.size, 3, none⟩) (by exact HC5.out.lt)).trans (HC5.out.cell (k := 3) rfl), (hb.cell (p := ⟨w3.heap.size, 4, none⟩) (by exact HC5.out.lt)).trans (HC5.out.cell (k := 4) rfl), (hb.cell (p := ⟨w3.heap.size + 1, 0, none⟩) (by exact HG5.out.lt)).trans (HG5.out.cell (k := 0) rfl), (hb.cell (p := ⟨w3.heap.size + 1, 1, none⟩) (by exact HG5.out.lt)).trans (HG5.out.cell (k := 1) rfl)⟩
  clear HX HY HA HF HB0 HB1 HB12 HB3 HB35 HK HK2
  refine wp_region_seq (fun w' => Below w5.heap.size w5 w' ∧ w'.cell? ⟨w.heap.size, 0, none⟩ = some (.int .i64 x.d) ∧ w'.cell? ⟨w.heap.size, 1, none⟩ = some (.int .i64 x.b) ∧ w'.cell? ⟨w.heap.size, 2, none⟩ = some (.int .i64 x.n) ∧ w'.cell? ⟨w.heap.size, 3, none⟩ = some (.int .i64 x.c) ∧ w'.cell? ⟨w.heap.size, 4, none⟩ = some (.int .i64 x.t) ∧ w'.cell? ⟨w.heap.size + 1, 0, none⟩ = some (.int .i64 y.d) ∧ w'.cell? ⟨w.heap.size + 1, 1, none⟩ = some (.int .i64 y.b) ∧ w'.cell? ⟨w.heap.size + 1, 2, none⟩ = some (.int .i64 y.n) ∧ w'.cell? ⟨w.heap.size + 1, 3, none⟩ = some (.int .i64 y.c) ∧ w'.cell? ⟨w.heap.size + 1, 4, none⟩ = some (.int .i64 y.t) ∧ w'.cell? ⟨w1.heap.size, 0, none⟩ = some (.slice Aq kn.loops.length cq) ∧ w'.cell? ⟨w1.heap.size, 1, none⟩ = some (.slice Af kn.front.length cf) ∧ w'.cell? ⟨w1.heap.size, 2, none⟩ = some (.slice Ab kn.back.length cb) ∧ w'.cell? ⟨w1.heap.size, 3, none⟩ = some (.slice Ap kn.loose.length cp) ∧ w'.cell? ⟨w1.heap.size, 4, none⟩ = some (.int .i64 kn.rack) ∧ w'.cell? ⟨w1.heap.size + 1, 0, none⟩ = some (.int .i64 f1) ∧ w'.cell? ⟨w1.heap.size + 1, 1, none⟩ = some (.int .i64 fi) ∧ w'.cell? ⟨w3.heap.size, 0, none⟩ = some (.slice Aq2 kn.loops.length cq2) ∧ w'.cell? ⟨w3.heap.size, 1, none⟩ = some (.slice Af2 kn.front.length cf2) ∧ w'.cell? ⟨w3.heap.size, 2, none⟩ = some (.slice Ab2 kn.back.length cb2) ∧ w'.cell? ⟨w3.heap.size, 3, none⟩ = some (.slice Ap2 kn.loose.length cp2) ∧ w'.cell? ⟨w3.heap.size, 4, none⟩ = some (.int .i64 kn.rack) ∧ w'.cell? ⟨w3.heap.size + 1, 0, none⟩ = some (.int .i64 f1) ∧ w'.cell? ⟨w3.heap.size + 1, 1, none⟩ = some (.int .i64 fi)) (by kernel_rfl) (by kernel_rfl) (HS.out _ (below_dN (n := 1) (Below.refl _ _))) ?_
  show Seq _ _ _ _ [_, _, _, _, _, _, _, _, _, _, _, _, _, _, _, _, _, _, _, _] _
  repeat (first
    | (refine seq_skip (by rfl) ?_; (try simp only [Act.put, List.setIfInBounds_toArray, List.set_cons_zero, List.set_cons_succ]))
    | (refine seq_val ?_ (by rfl) ?_ ?_
       rotate_left 1
       · intro w6 hS6; go_simp; first | done | with_reducible rfl
       (try simp only [Act.put, List.setIfInBounds_toArray, List.set_cons_zero, List.set_cons_succ]))
    | (refine seq_call ?_ ?_ ?_ (by rfl) ?_ ?_ ?_
       rotate_left 3
       · intro w6 hS6; go_simp; (refine And.intro ?_ ?_ <;> rfl)
       · intro w6 hS6
         first
           | ((with_reducible refine (HSA.out _ hS6.1).mono ?_); rintro e w7 ⟨rfl, hb7⟩; refine And.intro ?_ (HS.out _ (hS6.1.trans (hb7.mono hS6.1.size))); rfl)
           | ((with_reducible refine (HMA.out _).mono ?_); rintro e w7 ⟨rfl, hb7⟩; refine And.intro ?_ (HS.out _ (hS6.1.trans (hb7.mono hS6.1.size))); rfl)
           | ((with_reducible refine (HMR.out _).mono ?_); rintro e w7 ⟨rfl, hb7⟩; refine And.intro ?_ (HS.out _ (hS6.1.trans (hb7.mono hS6.1.size))); rfl)
       (try simp only [Act.put, List.setIfInBounds_toArray, List.set_cons_zero, List.set_cons_succ])))
  refine seq_end ?_
  intro w6 hS6
  have HB6 := Lib.hid (HBW5.out.trans (hS6.1.mono HBW5.out.size))
  clear hS6
  go_wp2_with fail
  refine (HTI.out _ _ (stis_grown HV.out HB6.out)).mono ?_
  rintro e w7 ⟨u, rfl, hu, hb7⟩
  have HU := Lib.hid (Stitches.of_own hu)
  have HB7 := Lib.hid (HB6.out.trans (hb7.mono HB6.out.size))
  obtain ⟨At, ct, rfl, ht1, ht2⟩ := own_form hu
  unfold maxLen at ht2
  clear hu hb7
  go_wp2_with fail
  refine (HTR.out _ _ (stis_grown HV.out HB7.out)).mono ?_
  rintro e w9 ⟨u2, rfl, hu2, hb9⟩
  have HBW9 := Lib.hid (HB7.out.trans (hb9.mono HB7.out.size))
  have HR1 := Lib.hid (srow_of (HU.out.same fun b hb => hb9.block b hb.2))
  have HU2 := Lib.hid (Stitches.of_own hu2)
  obtain ⟨At2, ct2, rfl, _, ht4⟩ := own_form hu2
  have HR2 := Lib.hid (srow_of HU2.out)
  clear hu2 hb9 HU2
  go_wp2_with fail
  go_loopg [61] t.length (fun gg ctr wr => ∃ i k : Nat, i ≤ t.length ∧ gg = t.length - i ∧ ctr = .int .i64 i ∧ wr = w9.drewN k)
  case atStart => exact ⟨0, 0, by omega, rfl, rfl, rfl⟩
  case round =>
    obtain ⟨i, k, hi, rfl, rfl, rfl⟩ := hrel
    by_cases hlt : i < t.length
    case neg =>
      obtain rfl : i = t.length := by omega
      go_wp2_with fail
      go_ret
      exact ⟨rfl, below_dN HBW9.out⟩
    obtain ⟨b, o, e, _, x0, x1, x2, x3, x4⟩ := sti_cells HR1.out hlt
    cases e
    obtain ⟨b', o', e, _, y0, y1, y2, y3, y4⟩ := sti_cells HR2.out hlt
    cases e
    generalize t[i] = z at *
    go_wp2_with (go_quiet (fail))
    go_roundg (t.length - (i + 1))
    case measure => omega
    case rel => exact ⟨i + 1, _, by omega, rfl, by go_num, rfl⟩
end Go.Proofs.Ytaacfjeddoekfaa
