import Derived.Test.YtmmakljmikdooaaDoorTw4
import Derived.Test.YtmmakljmikdooaaDoorTw2
import Derived.Deep.RegionHeld3
/- Chapter 1: the program's Norm, Compose. -/
namespace Go.Proofs.YtmmakljmikdooaaDoor
open Go.RowKit
set_option linter.unusedVariables false
set_option linter.unusedSimpArgs false

theorem mul_bnd {a b A B : Int} (h1 : -A ≤ a) (h2 : a ≤ A) (h3 : -B ≤ b) (h4 : b ≤ B) : -(A * B) ≤ a * b ∧ a * b ≤ A * B := by
  have ha : a.natAbs ≤ A.natAbs := by omega
  have hb : b.natAbs ≤ B.natAbs := by omega
  have hm : (a * b).natAbs ≤ A.natAbs * B.natAbs := by rw [Int.natAbs_mul]; exact Nat.mul_le_mul ha hb
  have hAB : ((A.natAbs * B.natAbs : Nat) : Int) = A * B := by
    rw [Int.natCast_mul]
    rw [show (A.natAbs : Int) = A by omega, show (B.natAbs : Int) = B by omega]
  omega
set_option maxRecDepth 100000 in
set_option maxHeartbeats 1000000 in
theorem norm_any (g : Int) (z : Pt) (w : World) (hz : z.le 1048576) :
    Calls Tryd.prog 67 #[.int .i64 g, z.val] w fun e w' => e = .returned (.int .i64 (nrm g z)) ∧ Below w.heap.size w w' := by
  have hzz := hz
  have hmm := (Bnd.of (g := g) hz).mir.1
  unfold Pt.le at hzz hmm
  have HMI : Hid (∀ w, _) := fun w => mirrored_any g z w (by unfold Pt.le; omega)
  have HTM : Hid (∀ w, _) := fun w => times_any g z (mir g z) w (by have := mul_bnd hzz.1 hzz.2.1 hmm.1 hmm.2.1; omega) (by have := mul_bnd hzz.2.2.1 hzz.2.2.2 hmm.2.2.1 hmm.2.2.2; omega) (by have := mul_bnd hzz.1 hzz.2.1 hmm.2.2.1 hmm.2.2.2; omega) (by have := mul_bnd hzz.2.2.1 hzz.2.2.2 hmm.1 hmm.2.1; omega)
  have HNR : Hid (nrm g z = (tm g z (mir g z)).x) := rfl
  generalize tm g z (mir g z) = q at *
  generalize mir g z = m at *
  have HX := Lib.hid (Arr.new w #[.int .i64 z.x, .int .i64 z.y] 78)
  have HB0 := Lib.hid (al1 w (.cells #[.int .i64 z.x, .int .i64 z.y] 78))
  have hfd : ∀ w : World, (Instr.field 78 (.agg #[.int .i64 q.x, .int .i64 q.y]) 0).run Tryd.prog w = .ok (.int .i64 q.x) w := fun _ => by kernel_rfl
  unfold Pt.val at *
  go_enter Tryd.func67, Tryd.ntmps67
  go_upto_region 1 with fail
  generalize w.alloc (.cells #[.int .i64 z.x, .int .i64 z.y] 78) = w0 at *
  have x0 := HX.out.cell (k := 0) rfl
  have x1 := HX.out.cell (k := 1) rfl
  have HBd : Hid (Below w0.heap.size w0 w0.drew) := below_dN (n := 1) (Below.refl _ _)
  go_region_held3 (fun w' => w'.cell? ⟨w.heap.size, 0, none⟩ = some (.int .i64 z.x) ∧ w'.cell? ⟨w.heap.size, 1, none⟩ = some (.int .i64 z.y)) (go_keep)
    (first
      | (go_at_call 71
         refine (HMI.out _).mono ?_
         rintro e w2 ⟨rfl, hb2⟩
         have HB2 : Hid (Below w0.heap.size w0 w2) := HBd.out.trans (hb2.mono (Nat.le_refl _))
         have HX2 := Lib.hid (HX.out.of_eq (HB2.out.block _ HX.out.lt))
         have y0 := HX2.out.cell (k := 0) rfl
         have y1 := HX2.out.cell (k := 1) rfl
         clear hb2)
      | (go_at_call 80
         refine (HTM.out _).mono ?_
         rintro e w3 ⟨rfl, hb3⟩
         have HB3 : Hid (Below w0.heap.size w0 w3) := HB2.out.trans (hb3.mono HB2.out.size)
         have HX3 := Lib.hid (HX.out.of_eq (HB3.out.block _ HX.out.lt))
         have z0 := HX3.out.cell (k := 0) rfl
         have z1 := HX3.out.cell (k := 1) rfl
         clear hb3))
  all_goals
    go_wp2_with fail
    go_ret
    exact ⟨by rw [HNR.out]; rfl, HB0.out.trans (HB3.out.mono HB0.out.size)⟩
theorem Norm_any (g : Int) (hg : g = 4 ∨ g = 6) (z : Pt) (w : World) (hz : z.le 1048576) :
    Calls Tryd.prog 45 #[.int .i64 g, z.val] w fun e w' => e = .returned (.tuple #[.int .i64 (nrm g z), .int .i64 0]) ∧ Below w.heap.size w w' := by
  have HNM : Hid (∀ w, _) := fun w => norm_any g z w hz
  have HFA : Hid (∀ b o c w, _) := fun b o c w => fault_one g hg z b o (c + 1) (by omega) w hz
  have HX := Lib.hid (Arr.new w #[.int .i64 z.x, .int .i64 z.y] 78)
  have HB0 := Lib.hid (al1 w (.cells #[.int .i64 z.x, .int .i64 z.y] 78))
  unfold Pt.val at *
  go_enter Tryd.func45, Tryd.ntmps45
  go_upto_region 1 with fail
  generalize w.alloc (.cells #[.int .i64 z.x, .int .i64 z.y] 78) = w0 at *
  have x0 := HX.out.cell (k := 0) rfl
  have x1 := HX.out.cell (k := 1) rfl
  have HN := Lib.hid (sl_news w0 z)
  have HB1 : Hid (Below w0.heap.size w0 (w0.alloc (.cells #[.int .i64 z.x, .int .i64 z.y] 78))) := al1 w0 _
  go_wp2_with fail
  refine (HFA.out _ 0 0 _ HN.out.1 HN.out.2).mono ?_
  rintro e w3 ⟨rfl, hb3⟩
  have hb23 := HB1.out.trans (hb3.mono HB1.out.size)
  have HBB := Lib.hid (HB0.out.trans (hb23.mono HB0.out.size))
  have HXB := Lib.hid (HX.out.of_eq (hb23.block _ HX.out.lt))
  clear hb3 hb23 x0 x1 HN HB1
  have x0 := HXB.out.cell (k := 0) rfl
  have x1 := HXB.out.cell (k := 1) rfl
  go_wp2_with fail
  refine (HNM.out _).mono ?_
  rintro e w4 ⟨rfl, hb4⟩
  have HBC := Lib.hid (HBB.out.trans (hb4.mono HBB.out.size))
  clear hb4
  go_wp2_with fail
  refine bodyPost_ret (v := .tuple #[.int .i64 (nrm g z), .int .i64 0]) (by simp [results, Tryd.results45, go_sem]) rfl ⟨rfl, HBC.out⟩
/-- turns of one move behind another one -/
theorem tmod_turn {x g : Int} (hg : g = 4 ∨ g = 6) (h : -6 < x ∧ x < 12) : ((x.tmod g) + g).tmod g = x % g ∧ -6 < x.tmod g ∧ x.tmod g < 6 := by
  have h1 : x = -5 ∨ x = -4 ∨ x = -3 ∨ x = -2 ∨ x = -1 ∨ x = 0 ∨ x = 1 ∨ x = 2 ∨ x = 3 ∨ x = 4 ∨ x = 5 ∨ x = 6 ∨ x = 7 ∨ x = 8 ∨ x = 9 ∨ x = 10 ∨ x = 11 := by omega
  rcases hg with rfl | rfl <;> (rcases h1 with rfl | rfl | rfl | rfl | rfl | rfl | rfl | rfl | rfl | rfl | rfl | rfl | rfl | rfl | rfl | rfl | rfl) <;> decide

set_option maxRecDepth 100000 in
set_option maxHeartbeats 2000000 in
theorem both_any (g : Int) (hg : g = 4 ∨ g = 6) (m h : Mv) (w : World) (hm : m.b.le 1048576) (ht : (m.t : Int) < g) (hh : h.b.le 1048576) (ht2 : (h.t : Int) < g) :
    Calls Tryd.prog 79 #[.int .i64 g, m.val, h.val] w fun e w' => e = .returned (both g m h).val ∧ Below w.heap.size w w' := by
  have HAP : Hid (∀ w, _) := fun w => apply_any g m h.b w (by unfold Bnd; unfold Pt.le at *; exact ⟨by omega, fun _ => by omega⟩) (by unfold Pt.le at *; omega) (by omega)
  have HBO : Hid (both g m h = ⟨((if m.f = true then (m.t : Int) - h.t else (m.t : Int) + h.t) % g).toNat, m.f != h.f, app g m h.b⟩) := rfl
  generalize both g m h = r at *
  generalize app g m h.b = q at *
  obtain ⟨t, f, ⟨bx, by'⟩⟩ := m
  obtain ⟨s, k, ⟨cx, cy⟩⟩ := h
  obtain ⟨qx, qy⟩ := q
  unfold Mv.val Pt.val at HAP
  unfold Mv.val
  dsimp only at *
  have HX := Lib.hid (((Arr.new w #[.int .i64 (t : Int), .bool f, .int .i64 bx, .int .i64 by'] 98).alloc (.cells #[.int .i64 (s : Int), .bool k, .int .i64 cx, .int .i64 cy] 98)).alloc (.cells #[.int .i64 0, .bool false, .int .i64 0, .int .i64 0] 98))
  have HY := Lib.hid ((arr_new2 w (.cells #[.int .i64 (t : Int), .bool f, .int .i64 bx, .int .i64 by'] 98) #[.int .i64 (s : Int), .bool k, .int .i64 cx, .int .i64 cy] 98).alloc (.cells #[.int .i64 0, .bool false, .int .i64 0, .int .i64 0] 98))
  have HR := Lib.hid (arr_new3 w (.cells #[.int .i64 (t : Int), .bool f, .int .i64 bx, .int .i64 by'] 98) (.cells #[.int .i64 (s : Int), .bool k, .int .i64 cx, .int .i64 cy] 98) #[.int .i64 0, .bool false, .int .i64 0, .int .i64 0] 98)
  have HB0 := Lib.hid (al3 w (.cells #[.int .i64 (t : Int), .bool f, .int .i64 bx, .int .i64 by'] 98) (.cells #[.int .i64 (s : Int), .bool k, .int .i64 cx, .int .i64 cy] 98) (.cells #[.int .i64 0, .bool false, .int .i64 0, .int .i64 0] 98))
  go_enter Tryd.func79, Tryd.ntmps79
  go_upto_region 1 with fail
  generalize ((w.alloc (.cells #[.int .i64 (t : Int), .bool f, .int .i64 bx, .int .i64 by'] 98)).alloc (.cells #[.int .i64 (s : Int), .bool k, .int .i64 cx, .int .i64 cy] 98)).alloc (.cells #[.int .i64 0, .bool false, .int .i64 0, .int .i64 0] 98) = w0 at *
  have x0 := HX.out.cell (k := 0) rfl
  have x1 := HX.out.cell (k := 1) rfl
  have x2 := HX.out.cell (k := 2) rfl
  have x3 := HX.out.cell (k := 3) rfl
  have y0 := HY.out.cell (k := 0) rfl
  have y1 := HY.out.cell (k := 1) rfl
  have y2 := HY.out.cell (k := 2) rfl
  have y3 := HY.out.cell (k := 3) rfl
  cases f
  case false =>
    have HRT : Hid (r = ⟨(((t : Int) + s) % g).toNat, false != k, ⟨qx, qy⟩⟩) := by show _ = _; rw [HBO.out]; simp
    obtain ⟨m1, m2, m3⟩ := tmod_turn (x := ((t : Int) + s)) hg (by omega)
    have HM1 := Lib.hid m1
    clear m1
    have hg0 : ¬ g = 0 := by omega
    have hgb : 4 ≤ g ∧ g ≤ 6 := by omega
    have hwU : (((t : Int) + s)).tmod g = (((t : Int) + s)).tmod g := rfl
    go_upto_region 5 with fail
    generalize hu : (((t : Int) + s)).tmod g = U at *
    have HBd : Hid (Below w0.heap.size w0 w0.drew) := below_dN (n := 1) (Below.refl _ _)
    have HV : Hid ((U + g).tmod g = (((t : Int) + s) % g)) := HM1.out
    have hV0 : 0 ≤ (((t : Int) + s) % g) ∧ (((t : Int) + s) % g) < 6 := by
      have h1 := Int.emod_nonneg (((t : Int) + s)) hg0
      have h2 := Int.emod_lt_of_pos (((t : Int) + s)) (show 0 < g by omega)
      omega
    have hvv := HV.out
    generalize (((t : Int) + s) % g) = V at *
    obtain ⟨Vn, rfl⟩ : ∃ Vn : Nat, V = (Vn : Int) := ⟨V.toNat, by omega⟩
    have hwg : IntKind.i64.wrap (U + g) = U + g := IntWalk.i64_in _ (by omega)
    refine wp_region_plan [(true, 0), (true, 1), (true, 2), (true, 3), (true, 4), (true, 5), (true, 6), (true, 7), (true, 8), (true, 9), (true, 10), (true, 11), (true, 12), (true, 13), (true, 14), (true, 15), (false, 16), (true, 17), (false, 18)] 18
      (fun w' => w'.cell? ⟨w.heap.size, 0, none⟩ = some (.int .i64 t) ∧ w'.cell? ⟨w.heap.size, 1, none⟩ = some (.bool false) ∧ w'.cell? ⟨w.heap.size, 2, none⟩ = some (.int .i64 bx) ∧ w'.cell? ⟨w.heap.size, 3, none⟩ = some (.int .i64 by') ∧
        w'.cell? ⟨w.heap.size + 1, 0, none⟩ = some (.int .i64 s) ∧ w'.cell? ⟨w.heap.size + 1, 1, none⟩ = some (.bool k) ∧ w'.cell? ⟨w.heap.size + 1, 2, none⟩ = some (.int .i64 cx) ∧ w'.cell? ⟨w.heap.size + 1, 3, none⟩ = some (.int .i64 cy))
      (by kernel_rfl) (by kernel_rfl) (by kernel_rfl) rfl ⟨x0, x1, x2, x3, y0, y1, y2, y3⟩ ?_
    repeat (first
      | (refine plan_val _ ?_ (by rfl) (by rfl) ?_ ?_
         rotate_left 1
         · rintro w9 ⟨s0, s1, s2, s3, s4, s5, s6, s7⟩; go_simp; first | done | with_reducible rfl
         (try simp only [Act.put, List.setIfInBounds_toArray, List.set_cons_zero, List.set_cons_succ])))
    refine plan_call _ ?_ ?_ (by rfl) (by rfl) ?_ ?_
    rotate_left 2
    · go_simp; (refine And.intro ?_ ?_ <;> rfl)
    refine (HAP.out _).mono ?_
    rintro e w2 ⟨rfl, hb2⟩
    have hb2' := HBd.out.trans (hb2.mono (Nat.le_refl _))
    have HB2 := Lib.hid (HB0.out.trans (hb2'.mono HB0.out.size))
    have HX2 := Lib.hid (HX.out.of_eq (hb2'.block _ HX.out.lt))
    have HY2 := Lib.hid (HY.out.of_eq (hb2'.block _ HY.out.lt))
    have HR2 := Lib.hid (HR.out.of_eq (hb2'.block _ HR.out.lt))
    clear hb2 hb2'
    refine ⟨_, rfl, .inr ⟨HX2.out.cell (k := 0) rfl, HX2.out.cell (k := 1) rfl, HX2.out.cell (k := 2) rfl, HX2.out.cell (k := 3) rfl, HY2.out.cell (k := 0) rfl, HY2.out.cell (k := 1) rfl, HY2.out.cell (k := 2) rfl, HY2.out.cell (k := 3) rfl⟩, ?_⟩
    (try simp only [Act.put, List.setIfInBounds_toArray, List.set_cons_zero, List.set_cons_succ])
    repeat (first
      | (refine plan_val _ ?_ (by rfl) (by rfl) ?_ ?_
         rotate_left 1
         · rintro w9 ⟨s0, s1, s2, s3, s4, s5, s6, s7⟩; go_simp; first | done | with_reducible rfl
         (try simp only [Act.put, List.setIfInBounds_toArray, List.set_cons_zero, List.set_cons_succ])))
    clear x0 x1 x2 x3 y0 y1 y2 y3
    have r0 := HR2.out.cell (k := 0) rfl
    have r1 := HR2.out.cell (k := 1) rfl
    have r2 := HR2.out.cell (k := 2) rfl
    have r3 := HR2.out.cell (k := 3) rfl
    have e0 := HR2.out.free 0
    have e1 := HR2.out.free 1
    have e2 := HR2.out.free 2
    have e3 := HR2.out.free 3
    refine plan_store _ ?_ (by rfl) (by rfl) ?_ (.inl rfl) ?_
    rotate_left 1
    · go_simp; first | rfl | (refine And.intro ?_ ?_ <;> rfl)
    refine plan_end ?_
    (try simp only [Act.put, List.setIfInBounds_toArray, List.set_cons_zero, List.set_cons_succ])
    have hq := (((HR2.out.set 0 (.int .i64 Vn)).set 1 (.bool (k))).set 2 (.int .i64 qx)).set 3 (.int .i64 qy)
    have q0 := hq.cell (k := 0) rfl
    have q1 := hq.cell (k := 1) rfl
    have q2 := hq.cell (k := 2) rfl
    have q3 := hq.cell (k := 3) rfl
    have hw2 : w.heap.size ≤ w.heap.size + 1 + 1 := by omega
    have HBQ : Hid (Below w.heap.size w ((((w2.setCell ⟨w.heap.size + 1 + 1, 0, none⟩ (.int .i64 Vn)).setCell ⟨w.heap.size + 1 + 1, 1, none⟩ (.bool (k))).setCell ⟨w.heap.size + 1 + 1, 2, none⟩ (.int .i64 qx)).setCell ⟨w.heap.size + 1 + 1, 3, none⟩ (.int .i64 qy))) := (((HB2.out.setCell hw2 _).setCell hw2 _).setCell hw2 _).setCell hw2 _
    have HRE : Hid (r = ⟨Vn, k, ⟨qx, qy⟩⟩) := by show _ = _; rw [HRT.out, Int.toNat_natCast]; simp
    clear hq e0 e1 e2 e3 r0 r1 r2 r3
    go_wp2_with fail
    refine bodyPost_ret (v := .agg #[.int .i64 Vn, .bool (k), .int .i64 qx, .int .i64 qy]) (by simp [results, Tryd.results79, go_sem, q0, q1, q2, q3]) rfl ⟨?_, HBQ.out⟩
    rw [HRE.out]
  case true =>
    have HRT : Hid (r = ⟨(((t : Int) - s) % g).toNat, true != k, ⟨qx, qy⟩⟩) := by show _ = _; rw [HBO.out]; simp
    obtain ⟨m1, m2, m3⟩ := tmod_turn (x := ((t : Int) - s)) hg (by omega)
    have HM1 := Lib.hid m1
    clear m1
    have hg0 : ¬ g = 0 := by omega
    have hgb : 4 ≤ g ∧ g ≤ 6 := by omega
    have hwU : (((t : Int) - s)).tmod g = (((t : Int) - s)).tmod g := rfl
    go_upto_region 5 with fail
    generalize hu : (((t : Int) - s)).tmod g = U at *
    have HBd : Hid (Below w0.heap.size w0 w0.drew) := below_dN (n := 1) (Below.refl _ _)
    have HV : Hid ((U + g).tmod g = (((t : Int) - s) % g)) := HM1.out
    have hV0 : 0 ≤ (((t : Int) - s) % g) ∧ (((t : Int) - s) % g) < 6 := by
      have h1 := Int.emod_nonneg (((t : Int) - s)) hg0
      have h2 := Int.emod_lt_of_pos (((t : Int) - s)) (show 0 < g by omega)
      omega
    have hvv := HV.out
    generalize (((t : Int) - s) % g) = V at *
    obtain ⟨Vn, rfl⟩ : ∃ Vn : Nat, V = (Vn : Int) := ⟨V.toNat, by omega⟩
    have hwg : IntKind.i64.wrap (U + g) = U + g := IntWalk.i64_in _ (by omega)
    refine wp_region_plan [(true, 0), (true, 1), (true, 2), (true, 3), (true, 4), (true, 5), (true, 6), (true, 7), (true, 8), (true, 9), (true, 10), (true, 11), (true, 12), (true, 13), (true, 14), (true, 15), (false, 16), (true, 17), (false, 18)] 18
      (fun w' => w'.cell? ⟨w.heap.size, 0, none⟩ = some (.int .i64 t) ∧ w'.cell? ⟨w.heap.size, 1, none⟩ = some (.bool true) ∧ w'.cell? ⟨w.heap.size, 2, none⟩ = some (.int .i64 bx) ∧ w'.cell? ⟨w.heap.size, 3, none⟩ = some (.int .i64 by') ∧
        w'.cell? ⟨w.heap.size + 1, 0, none⟩ = some (.int .i64 s) ∧ w'.cell? ⟨w.heap.size + 1, 1, none⟩ = some (.bool k) ∧ w'.cell? ⟨w.heap.size + 1, 2, none⟩ = some (.int .i64 cx) ∧ w'.cell? ⟨w.heap.size + 1, 3, none⟩ = some (.int .i64 cy))
      (by kernel_rfl) (by kernel_rfl) (by kernel_rfl) rfl ⟨x0, x1, x2, x3, y0, y1, y2, y3⟩ ?_
    repeat (first
      | (refine plan_val _ ?_ (by rfl) (by rfl) ?_ ?_
         rotate_left 1
         · rintro w9 ⟨s0, s1, s2, s3, s4, s5, s6, s7⟩; go_simp; first | done | with_reducible rfl
         (try simp only [Act.put, List.setIfInBounds_toArray, List.set_cons_zero, List.set_cons_succ])))
    refine plan_call _ ?_ ?_ (by rfl) (by rfl) ?_ ?_
    rotate_left 2
    · go_simp; (refine And.intro ?_ ?_ <;> rfl)
    refine (HAP.out _).mono ?_
    rintro e w2 ⟨rfl, hb2⟩
    have hb2' := HBd.out.trans (hb2.mono (Nat.le_refl _))
    have HB2 := Lib.hid (HB0.out.trans (hb2'.mono HB0.out.size))
    have HX2 := Lib.hid (HX.out.of_eq (hb2'.block _ HX.out.lt))
    have HY2 := Lib.hid (HY.out.of_eq (hb2'.block _ HY.out.lt))
    have HR2 := Lib.hid (HR.out.of_eq (hb2'.block _ HR.out.lt))
    clear hb2 hb2'
    refine ⟨_, rfl, .inr ⟨HX2.out.cell (k := 0) rfl, HX2.out.cell (k := 1) rfl, HX2.out.cell (k := 2) rfl, HX2.out.cell (k := 3) rfl, HY2.out.cell (k := 0) rfl, HY2.out.cell (k := 1) rfl, HY2.out.cell (k := 2) rfl, HY2.out.cell (k := 3) rfl⟩, ?_⟩
    (try simp only [Act.put, List.setIfInBounds_toArray, List.set_cons_zero, List.set_cons_succ])
    repeat (first
      | (refine plan_val _ ?_ (by rfl) (by rfl) ?_ ?_
         rotate_left 1
         · rintro w9 ⟨s0, s1, s2, s3, s4, s5, s6, s7⟩; go_simp; first | done | with_reducible rfl
         (try simp only [Act.put, List.setIfInBounds_toArray, List.set_cons_zero, List.set_cons_succ])))
    clear x0 x1 x2 x3 y0 y1 y2 y3
    have r0 := HR2.out.cell (k := 0) rfl
    have r1 := HR2.out.cell (k := 1) rfl
    have r2 := HR2.out.cell (k := 2) rfl
    have r3 := HR2.out.cell (k := 3) rfl
    have e0 := HR2.out.free 0
    have e1 := HR2.out.free 1
    have e2 := HR2.out.free 2
    have e3 := HR2.out.free 3
    refine plan_store _ ?_ (by rfl) (by rfl) ?_ (.inl rfl) ?_
    rotate_left 1
    · go_simp; first | rfl | (refine And.intro ?_ ?_ <;> rfl)
    refine plan_end ?_
    (try simp only [Act.put, List.setIfInBounds_toArray, List.set_cons_zero, List.set_cons_succ])
    have hq := (((HR2.out.set 0 (.int .i64 Vn)).set 1 (.bool (!k))).set 2 (.int .i64 qx)).set 3 (.int .i64 qy)
    have q0 := hq.cell (k := 0) rfl
    have q1 := hq.cell (k := 1) rfl
    have q2 := hq.cell (k := 2) rfl
    have q3 := hq.cell (k := 3) rfl
    have hw2 : w.heap.size ≤ w.heap.size + 1 + 1 := by omega
    have HBQ : Hid (Below w.heap.size w ((((w2.setCell ⟨w.heap.size + 1 + 1, 0, none⟩ (.int .i64 Vn)).setCell ⟨w.heap.size + 1 + 1, 1, none⟩ (.bool (!k))).setCell ⟨w.heap.size + 1 + 1, 2, none⟩ (.int .i64 qx)).setCell ⟨w.heap.size + 1 + 1, 3, none⟩ (.int .i64 qy))) := (((HB2.out.setCell hw2 _).setCell hw2 _).setCell hw2 _).setCell hw2 _
    have HRE : Hid (r = ⟨Vn, !k, ⟨qx, qy⟩⟩) := by show _ = _; rw [HRT.out, Int.toNat_natCast]; simp
    clear hq e0 e1 e2 e3 r0 r1 r2 r3
    go_wp2_with fail
    refine bodyPost_ret (v := .agg #[.int .i64 Vn, .bool (!k), .int .i64 qx, .int .i64 qy]) (by simp [results, Tryd.results79, go_sem, q0, q1, q2, q3]) rfl ⟨?_, HBQ.out⟩
    rw [HRE.out]
end Go.Proofs.YtmmakljmikdooaaDoor
