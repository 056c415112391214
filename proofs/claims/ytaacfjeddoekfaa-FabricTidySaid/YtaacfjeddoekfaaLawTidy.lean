/- Chapter 12: the walk of FabricTidy. -/
import Derived.Test.YtaacfjeddoekfaaLawCounts
import Derived.Test.YtaacfjeddoekfaaFabWalk4
namespace Go.Proofs.Ytaacfjeddoekfaa
open Go.RowKit
set_option linter.unusedVariables false
set_option linter.unusedSimpArgs false

theorem tidy_facts {n : Int} {l : List Sti} (h : (runAF n l).1 = 0) : runAF n (tidyK 0 l) = (0, 0) ∧ (runAF n l).2 = 0 ∧ clothA n (tidyK 0 l) = clothA n l := by
  obtain ⟨N, rfl, h1, h2, hg, e, e2⟩ := runA_ok h
  obtain ⟨hg2, ht⟩ := tidy_good hg
  obtain ⟨ea, ec⟩ := runA_of_good h1 h2 hg2
  exact ⟨ea, e2, by rw [ec, (runA_of_good h1 h2 hg).2, ht]⟩
theorem set2_block (w : World) (q : Nat) (a b : Value) (x : Nat) (h : x ≠ q) : ((w.setCell ⟨q, 0, none⟩ a).setCell ⟨q, 1, none⟩ b).heap[x]? = w.heap[x]? :=
  (Below.heap_setCell _ _ _ _ h).trans (Below.heap_setCell _ _ _ _ h)
theorem set2_size (w : World) (q : Nat) (a b : Value) : ((w.setCell ⟨q, 0, none⟩ a).setCell ⟨q, 1, none⟩ b).heap.size = w.heap.size := by simp [World.setCell]

set_option maxRecDepth 100000 in
set_option maxHeartbeats 4000000 in
theorem tidy_walk (n : Int) {v : Value} {l : List Sti} {w : World} (hv : Stis w v l) (hb : l.length * 40 ≤ 140737488351232) :
    Calls Try.prog 8 #[.int .i64 n, v] w fun e w' => e = .returned (.bool true) ∧ Below w.heap.size w w' := by
  have HV := Lib.hid hv.2
  have hv2 := hv.2
  have HCL : Hid (∀ w v, Stitches w (fun b => b < w.heap.size) v l → Calls Try.prog 19 #[.int .i64 n, v] w fun e w' => ∃ kv, e = .returned (.tuple #[kv, .agg #[.int .i64 (runAF n l).1, .int .i64 (runAF n l).2]]) ∧ KnR w' (fun b => w.heap.size ≤ b ∧ b < w'.heap.size) kv (clothA n l) ∧ Below w.heap.size w w') := fun w v hv => Cloth_any n w hv
  have hle := tidy_len l 0
  have HTI : Hid (∀ w v, Stitches w (fun b => b < w.heap.size) v l → Calls Try.prog 20 #[v] w fun e w' => ∃ u, e = .returned u ∧ w'.ownsRow w.heap.size 44 5 u (tidyK 0 l).length ((tidyK 0 l).flatMap Sti.cells) ∧ Below w.heap.size w w') := fun w v hv => Tidy_any w hv hb
  have HTJ : Hid (∀ w v, Stitches w (fun b => b < w.heap.size) v (tidyK 0 l) → Calls Try.prog 20 #[v] w fun e w' => ∃ u, e = .returned u ∧ w'.ownsRow w.heap.size 44 5 u (tidyK 0 l).length ((tidyK 0 l).flatMap Sti.cells) ∧ Below w.heap.size w w') := fun w v hv => by
    have := Tidy_any w hv (by omega)
    rw [tidy_twice] at this
    exact this
  have HFA : Hid ((runAF n l).1 = 0 → (runAF n l).2 = 0 ∧ ∀ w v, Stitches w (fun b => b < w.heap.size) v (tidyK 0 l) → Calls Try.prog 19 #[.int .i64 n, v] w fun e w' => ∃ kv, e = .returned (.tuple #[kv, .agg #[.int .i64 0, .int .i64 0]]) ∧ KnR w' (fun b => w.heap.size ≤ b ∧ b < w'.heap.size) kv (clothA n l) ∧ Below w.heap.size w w') := fun h => by
    obtain ⟨f1, f2, f3⟩ := tidy_facts (n := n) (l := l) h
    refine ⟨f2, fun w v hv => ?_⟩
    have := Cloth_any n w hv
    rw [f1, f3] at this
    exact this
  generalize tidyK 0 l = t at *
  obtain ⟨A, cc, rfl, h1, h2, hr⟩ := hv2
  clear hr hv
  unfold maxLen at h2
  generalize (runAF n l).1 = f1 at *
  generalize (runAF n l).2 = fi at *
  generalize clothA n l = kn at *
  go_enter Try.func8, Try.ntmps8
  go_wp2_with fail
  refine (fabAlive w).mono ?_
  rintro e w1 ⟨rfl, hb1⟩
  have HB1 := Lib.hid hb1
  clear hb1
  go_wp2_with fail
  refine (HCL.out _ _ (stis_grown HV.out HB1.out)).mono ?_
  rintro e w2 ⟨kv, rfl, hk, hb2⟩
  have HK := Lib.hid hk
  have HB2 := Lib.hid (HB1.out.trans (hb2.mono HB1.out.size))
  clear hb2 HCL
  obtain ⟨vl, vf, vb, vo, rfl, hl', hf', hb', ho'⟩ := hk
  obtain ⟨Aq, cq, tq, rfl, _⟩ := hl'
  obtain ⟨Af, cf, tf, rfl, _⟩ := hf'
  obtain ⟨Ab, cb, tb, rfl, _⟩ := hb'
  obtain ⟨Ap, cp, rfl, _⟩ := ho'
  have HX := Lib.hid ((Arr.new w2 #[.slice Aq kn.loops.length cq, .slice Af kn.front.length cf, .slice Ab kn.back.length cb, .slice Ap kn.loose.length cp, .int .i64 kn.rack] 27).alloc (.cells #[.int .i64 f1, .int .i64 fi] 30))
  have HX2 := Lib.hid (arr_new2 w2 (.cells #[.slice Aq kn.loops.length cq, .slice Af kn.front.length cf, .slice Ab kn.back.length cb, .slice Ap kn.loose.length cp, .int .i64 kn.rack] 27) #[.int .i64 f1, .int .i64 fi] 30)
  have HS23 : Hid (Below w2.heap.size w2 ((w2.alloc (.cells #[.slice Aq kn.loops.length cq, .slice Af kn.front.length cf, .slice Ab kn.back.length cb, .slice Ap kn.loose.length cp, .int .i64 kn.rack] 27)).alloc (.cells #[.int .i64 f1, .int .i64 fi] 30))) := ((Below.refl _ _).alloc (Nat.le_refl _) _).alloc (by simp) _
  have HZ3 : Hid (((w2.alloc (.cells #[.slice Aq kn.loops.length cq, .slice Af kn.front.length cf, .slice Ab kn.back.length cb, .slice Ap kn.loose.length cp, .int .i64 kn.rack] 27)).alloc (.cells #[.int .i64 f1, .int .i64 fi] 30)).heap.size = w2.heap.size + 2) := by show _ = _; simp
  go_upto_region 4 with fail
  generalize (w2.alloc (.cells #[.slice Aq kn.loops.length cq, .slice Af kn.front.length cf, .slice Ab kn.back.length cb, .slice Ap kn.loose.length cp, .int .i64 kn.rack] 27)).alloc (.cells #[.int .i64 f1, .int .i64 fi] 30) = w3 at *
  have HB3 := Lib.hid (HB2.out.trans (HS23.out.mono HB2.out.size))
  have e0 := HX2.out.cell (k := 0) rfl
  by_cases hz : f1 = 0
  case neg =>
    have hzb : (f1 != 0) = true := by simpa using hz
    clear hz
    go_wp2_with fail
    go_ret
    exact ⟨rfl, HB3.out⟩
  obtain ⟨hfi, hcl⟩ := HFA.out hz
  subst hz
  subst hfi
  have HCL := Lib.hid hcl
  clear hcl HFA
  go_wp2_with fail
  clear e0
  refine (HTI.out _ _ (stis_grown HV.out HB3.out)).mono ?_
  rintro e w4 ⟨u, rfl, hu, hb4⟩
  have HU := Lib.hid (Stitches.of_own hu)
  have HB4 := Lib.hid hb4
  have HST : Hid (Stitches w4 (fun b => b < w4.heap.size) u t) := (Stitches.of_own hu).mono fun b hb => hb.2
  obtain ⟨At, ct, rfl, ht1, ht2⟩ := own_form hu
  clear hu hb4
  have hz34 : w2.heap.size + 2 ≤ w4.heap.size := by rw [← HZ3.out]; exact HB4.out.size
  go_wp2_with fail
  refine (HCL.out _ _ HST.out).mono ?_
  rintro e w5 ⟨kv2, rfl, hk2, hb5⟩
  have HB5 := Lib.hid hb5
  have HK2 := Lib.hid hk2
  have hz45 := hb5.size
  clear hb5 HCL
  obtain ⟨vl2, vf2, vb2, vo2, rfl, hl', hf', hb', ho'⟩ := hk2
  obtain ⟨Aq2, cq2, tq2, rfl, _⟩ := hl'
  obtain ⟨Af2, cf2, tf2, rfl, _⟩ := hf'
  obtain ⟨Ab2, cb2, tb2, rfl, _⟩ := hb'
  obtain ⟨Ap2, cp2, rfl, _⟩ := ho'
  have HX5 := Lib.hid ((HX.out.of_eq (HB4.out.block _ HX.out.lt)).of_eq (HB5.out.block _ (by omega)))
  have HY5 := Lib.hid ((HX2.out.of_eq (HB4.out.block _ HX2.out.lt)).of_eq (HB5.out.block _ (by omega)))
  have y0 := HY5.out.cell (k := 0) rfl
  have y1 := HY5.out.cell (k := 1) rfl
  have g0 := HY5.out.free 0
  have g1 := HY5.out.free 1
  have hgs : w2.heap.size + 1 < w5.heap.size := by omega
  go_upto_region 8 with fail
  have HZ7 : Hid ((((w5.setCell ⟨w2.heap.size + 1, 0, none⟩ (.int .i64 0)).setCell ⟨w2.heap.size + 1, 1, none⟩ (.int .i64 0)).alloc (.cells #[.slice Aq2 kn.loops.length cq2, .slice Af2 kn.front.length cf2, .slice Ab2 kn.back.length cb2, .slice Ap2 kn.loose.length cp2, .int .i64 kn.rack] 27)).heap.size = w5.heap.size + 1) := by show _ = _; simp [World.setCell]
  have HF7 : Hid (∀ x, x ≠ w2.heap.size + 1 → x < w5.heap.size → (((w5.setCell ⟨w2.heap.size + 1, 0, none⟩ (.int .i64 0)).setCell ⟨w2.heap.size + 1, 1, none⟩ (.int .i64 0)).alloc (.cells #[.slice Aq2 kn.loops.length cq2, .slice Af2 kn.front.length cf2, .slice Ab2 kn.back.length cb2, .slice Ap2 kn.loose.length cp2, .int .i64 kn.rack] 27)).heap[x]? = w5.heap[x]?) := fun x hx h2 =>
    (((Below.refl _ _).alloc (Nat.le_refl _) _).block x (by rw [set2_size]; exact h2)).trans (set2_block _ _ _ _ _ hx)
  have HY7 : Hid (Arr (((w5.setCell ⟨w2.heap.size + 1, 0, none⟩ (.int .i64 0)).setCell ⟨w2.heap.size + 1, 1, none⟩ (.int .i64 0)).alloc (.cells #[.slice Aq2 kn.loops.length cq2, .slice Af2 kn.front.length cf2, .slice Ab2 kn.back.length cb2, .slice Ap2 kn.loose.length cp2, .int .i64 kn.rack] 27)) (w2.heap.size + 1) 30 [.int .i64 0, .int .i64 0]) := ((HY5.out.set 0 (.int .i64 0)).set 1 (.int .i64 0)).alloc _
  have HN7 : Hid (Arr (((w5.setCell ⟨w2.heap.size + 1, 0, none⟩ (.int .i64 0)).setCell ⟨w2.heap.size + 1, 1, none⟩ (.int .i64 0)).alloc (.cells #[.slice Aq2 kn.loops.length cq2, .slice Af2 kn.front.length cf2, .slice Ab2 kn.back.length cb2, .slice Ap2 kn.loose.length cp2, .int .i64 kn.rack] 27)) w5.heap.size 27 [.slice Aq2 kn.loops.length cq2, .slice Af2 kn.front.length cf2, .slice Ab2 kn.back.length cb2, .slice Ap2 kn.loose.length cp2, .int .i64 kn.rack]) := by
    have := Arr.new ((w5.setCell ⟨w2.heap.size + 1, 0, none⟩ (.int .i64 0)).setCell ⟨w2.heap.size + 1, 1, none⟩ (.int .i64 0)) #[.slice Aq2 kn.loops.length cq2, .slice Af2 kn.front.length cf2, .slice Ab2 kn.back.length cb2, .slice Ap2 kn.loose.length cp2, .int .i64 kn.rack] 27
    rw [set2_size] at this
    exact this
  have HBW7 : Hid (Below w.heap.size w (((w5.setCell ⟨w2.heap.size + 1, 0, none⟩ (.int .i64 0)).setCell ⟨w2.heap.size + 1, 1, none⟩ (.int .i64 0)).alloc (.cells #[.slice Aq2 kn.loops.length cq2, .slice Af2 kn.front.length cf2, .slice Ab2 kn.back.length cb2, .slice Ap2 kn.loose.length cp2, .int .i64 kn.rack] 27))) := by
    have h1 := (HB3.out.trans (HB4.out.mono HB3.out.size)).trans (HB5.out.mono (Nat.le_trans HB3.out.size HB4.out.size))
    have h2 : w.heap.size ≤ w2.heap.size + 1 := by have := HB2.out.size; omega
    exact ((h1.setCell h2 _).setCell h2 _).alloc (by rw [set2_size]; exact h1.size) _
  clear y0 y1 g0 g1
  generalize (((w5.setCell ⟨w2.heap.size + 1, 0, none⟩ (.int .i64 0)).setCell ⟨w2.heap.size + 1, 1, none⟩ (.int .i64 0)).alloc (.cells #[.slice Aq2 kn.loops.length cq2, .slice Af2 kn.front.length cf2, .slice Ab2 kn.back.length cb2, .slice Ap2 kn.loose.length cp2, .int .i64 kn.rack] 27)) = w7 at *
  have HX7 := Lib.hid (HX5.out.of_eq (HF7.out w2.heap.size (by omega) (by omega)))
  have a0 := HX7.out.cell (k := 0) rfl
  have a1 := HX7.out.cell (k := 1) rfl
  have a2 := HX7.out.cell (k := 2) rfl
  have a3 := HX7.out.cell (k := 3) rfl
  have a4 := HX7.out.cell (k := 4) rfl
  have b0 := HY7.out.cell (k := 0) rfl
  have c0 := HN7.out.cell (k := 0) rfl
  have c1 := HN7.out.cell (k := 1) rfl
  have c2 := HN7.out.cell (k := 2) rfl
  have c3 := HN7.out.cell (k := 3) rfl
  have c4 := HN7.out.cell (k := 4) rfl
  have hgt : decide (t.length > l.length) = false := decide_eq_false (by omega)
  go_wp2_with fail
  refine (Same_self w7 (S := fun b => b < w2.heap.size) (T := fun b => b < w5.heap.size ∧ w4.heap.size ≤ b) ((HK.out.mono (T := fun b => b < w2.heap.size) fun b hb => hb.2).same fun b hb => ?_) ((HK2.out.mono (T := fun b => b < w5.heap.size ∧ w4.heap.size ≤ b) fun b hb => ⟨hb.2, hb.1⟩).same fun b hb => HF7.out b (by have := hb.2; omega) hb.1) (fun b hb => by have : b < w2.heap.size := hb; rw [HZ7.out]; omega) (fun b hb => by have := hb.1; rw [HZ7.out]; omega)).mono ?_
  · have hb : b < w2.heap.size := hb
    exact (((HF7.out b (by omega) (by omega)).trans (HB5.out.block b (by omega))).trans (HB4.out.block b (by rw [HZ3.out]; omega))).trans (HS23.out.block b hb)
  rintro e w8 ⟨rfl, hb8⟩
  have HB8 := Lib.hid hb8
  have hz8 := hb8.size
  rw [HZ7.out] at hz8
  clear hb8 a0 a1 a2 a3 a4 b0 c0 c1 c2 c3 c4
  have HF8 : Hid (∀ b, w3.heap.size ≤ b → b < w4.heap.size → w8.heap[b]? = w4.heap[b]?) := fun b h1 h2 => by
    have := HZ3.out
    exact ((HB8.out.block b (by rw [HZ7.out]; omega)).trans (HF7.out b (by omega) (by omega))).trans (HB5.out.block b h2)
  have HST8 : Hid (Stitches w8 (fun b => b < w8.heap.size) (.slice At t.length ct) t) := (HU.out.same fun b hb => HF8.out b hb.1 hb.2).mono fun b hb => by have := hb.2; show b < w8.heap.size; omega
  go_wp2_with fail
  refine (HTJ.out _ _ HST8.out).mono ?_
  rintro e w9 ⟨u2, rfl, hu2, hb9⟩
  have HBW9 : Hid (Below w.heap.size w w9) := (HBW7.out.trans (HB8.out.mono HBW7.out.size)).trans (hb9.mono (Nat.le_trans HBW7.out.size HB8.out.size))
  have HR1 := Lib.hid (srow_of (HST8.out.same fun b hb => hb9.block b hb))
  have HU2 := Lib.hid (Stitches.of_own hu2)
  obtain ⟨At2, ct2, rfl, _, ht4⟩ := own_form hu2
  have HR2 := Lib.hid (srow_of HU2.out)
  clear hu2 hb9 HU2
  go_wp2_with fail
  go_loopg [55] t.length (fun gg ctr wr => ∃ i k : Nat, i ≤ t.length ∧ gg = t.length - i ∧ ctr = .int .i64 i ∧ wr = w9.drewN k)
  case atStart => exact ⟨0, 0, by omega, rfl, rfl, rfl⟩
  case round =>
    obtain ⟨i, k, hi, rfl, rfl, rfl⟩ := hrel
    by_cases hlt : i < t.length
    case neg =>
      obtain rfl : i = t.length := by omega
      go_wp2_with fail
      go_ret
      exact ⟨rfl, below_dN HBW9.out⟩
    obtain ⟨b, o, e, _, x0, x1, x2, x3, x4⟩ := sti_cells HR1.out hlt
    cases e
    obtain ⟨b', o', e, _, y0, y1, y2, y3, y4⟩ := sti_cells HR2.out hlt
    cases e
    generalize t[i] = x at *
    go_wp2_with (go_quiet (fail))
    go_roundg (t.length - (i + 1))
    case measure => omega
    case rel => exact ⟨i + 1, _, by omega, rfl, by go_num, rfl⟩
end Go.Proofs.Ytaacfjeddoekfaa
