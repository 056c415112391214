/- Texts of the seat, put together: PlaneWalk5, GroupWalk1, GroupWalk2. -/
import Derived.Test.YtmmakljmikdooaaDoorTwPlaneWalk4
import Derived.Test.YtmmakljmikdooaaDoorTw3
import Derived.Test.YtmmakljmikdooaaDoorTw1
/- Chapter 1: the program's Compose. -/
namespace Go.Proofs.YtmmakljmikdooaaDoor
open Go.RowKit
set_option linter.unusedVariables false
set_option linter.unusedSimpArgs false

abbrev mvc (m : Mv) : Array Value := #[.int .i64 (m.t : Int), .bool m.f, .int .i64 m.b.x, .int .i64 m.b.y]
set_option maxRecDepth 100000 in
set_option maxHeartbeats 2000000 in
theorem Compose_any (g : Int) (hg : g = 4 ∨ g = 6) (m h : Mv) (w : World) (hm : m.b.le 1048576) (ht : (m.t : Int) < g) (hh : h.b.le 1048576) (ht2 : (h.t : Int) < g) (hr : (both g m h).b.le 1048576) :
    Calls Tryd.prog 66 #[.int .i64 g, m.val, h.val] w fun e w' => e = .returned (.tuple #[(both g m h).val, .int .i64 0]) ∧ Below w.heap.size w w' := by
  have HBO : Hid (∀ w, _) := fun w => both_any g hg m h w hm ht hh ht2
  have HWM : Hid (∀ w, _) := fun w => mvWrong_any g hg m w hm ht
  have HWH : Hid (∀ w, _) := fun w => mvWrong_any g hg h w hh ht2
  have HSM : Hid (∀ b o c w, _) := fun b o c w => small_one (both g m h).b b o (c + 1) (by omega) w hr
  generalize both g m h = r at *
  have HX := Lib.hid (((Arr.new w (mvc m) 98).alloc (.cells (mvc h) 98)).alloc (.cells #[.int .i64 0, .bool false, .int .i64 0, .int .i64 0] 98))
  have HY := Lib.hid ((arr_new2 w (.cells (mvc m) 98) (mvc h) 98).alloc (.cells #[.int .i64 0, .bool false, .int .i64 0, .int .i64 0] 98))
  have HR := Lib.hid (arr_new3 w (.cells (mvc m) 98) (.cells (mvc h) 98) #[.int .i64 0, .bool false, .int .i64 0, .int .i64 0] 98)
  have HB0 := Lib.hid (al3 w (.cells (mvc m) 98) (.cells (mvc h) 98) (.cells #[.int .i64 0, .bool false, .int .i64 0, .int .i64 0] 98))
  unfold Mv.val at *
  unfold mvc at *
  obtain ⟨t, f, ⟨bx, by'⟩⟩ := m
  obtain ⟨s, k, ⟨cx, cy⟩⟩ := h
  dsimp only at *
  go_enter Tryd.func66, Tryd.ntmps66
  go_upto_region 1 with fail
  generalize ((w.alloc (.cells #[.int .i64 (t : Int), .bool f, .int .i64 bx, .int .i64 by'] 98)).alloc (.cells #[.int .i64 (s : Int), .bool k, .int .i64 cx, .int .i64 cy] 98)).alloc (.cells #[.int .i64 0, .bool false, .int .i64 0, .int .i64 0] 98) = w0 at *
  have x0 := HX.out.cell (k := 0) rfl
  have x1 := HX.out.cell (k := 1) rfl
  have x2 := HX.out.cell (k := 2) rfl
  have x3 := HX.out.cell (k := 3) rfl
  have y0 := HY.out.cell (k := 0) rfl
  have y1 := HY.out.cell (k := 1) rfl
  have y2 := HY.out.cell (k := 2) rfl
  have y3 := HY.out.cell (k := 3) rfl
  have HL := Lib.hid (Arr.new w0 #[.int .i64 (t : Int), .bool f, .int .i64 bx, .int .i64 by', .int .i64 (s : Int), .bool k, .int .i64 cx, .int .i64 cy] 98)
  have HB1 := Lib.hid (al1 w0 (.cells #[.int .i64 (t : Int), .bool f, .int .i64 bx, .int .i64 by', .int .i64 (s : Int), .bool k, .int .i64 cx, .int .i64 cy] 98))
  go_upto_region 2 with fail
  generalize w0.alloc (.cells #[.int .i64 (t : Int), .bool f, .int .i64 bx, .int .i64 by', .int .i64 (s : Int), .bool k, .int .i64 cx, .int .i64 cy] 98) = w1 at *
  have HBW1 := Lib.hid (HB0.out.trans (HB1.out.mono HB0.out.size))
  clear x0 x1 x2 x3 y0 y1 y2 y3
  have HX1 := Lib.hid (HX.out.of_eq (HB1.out.block _ HX.out.lt))
  have HY1 := Lib.hid (HY.out.of_eq (HB1.out.block _ HY.out.lt))
  have HR1 := Lib.hid (HR.out.of_eq (HB1.out.block _ HR.out.lt))
  go_loopg [16] 2 (fun gg ctr wr => ∃ i : Nat, i ≤ 2 ∧ gg = 2 - i ∧ ctr = .int .i64 i ∧ Below w1.heap.size w1 wr)
  case atStart => exact ⟨0, by omega, rfl, rfl, Below.refl _ _⟩
  case round =>
    obtain ⟨i, hi, rfl, rfl, hb⟩ := hrel
    have HB := Lib.hid hb
    clear hb
    have hl := (HL.out.of_eq (HB.out.block _ HL.out.lt))
    have HLW := Lib.hid hl
    have z0 := hl.cell (k := 0) rfl
    have z1 := hl.cell (k := 1) rfl
    have z2 := hl.cell (k := 2) rfl
    have z3 := hl.cell (k := 3) rfl
    have z4 := hl.cell (k := 4) rfl
    have z5 := hl.cell (k := 5) rfl
    have z6 := hl.cell (k := 6) rfl
    have z7 := hl.cell (k := 7) rfl
    clear hl
    have hi3 : i = 0 ∨ i = 1 ∨ i = 2 := by omega
    rcases hi3 with rfl | rfl | rfl
    · have HBN := Lib.hid (al1 wr (.cells #[.int .i64 (t : Int), .bool f, .int .i64 bx, .int .i64 by'] 98))
      go_wp2_with fail
      refine (HWM.out _).mono ?_
      rintro e w5 ⟨rfl, hb5⟩
      have HB5 := Lib.hid (HB.out.trans ((HBN.out.trans (hb5.mono HBN.out.size)).mono HB.out.size))
      clear hb5 z0 z1 z2 z3 z4 z5 z6 z7
      go_wp2_with fail
      go_roundg 1
      case measure => omega
      case rel => exact ⟨1, by omega, rfl, rfl, HB5.out⟩
    · have HBN := Lib.hid (al1 wr (.cells #[.int .i64 (s : Int), .bool k, .int .i64 cx, .int .i64 cy] 98))
      go_wp2_with fail
      refine (HWH.out _).mono ?_
      rintro e w5 ⟨rfl, hb5⟩
      have HB5 := Lib.hid (HB.out.trans ((HBN.out.trans (hb5.mono HBN.out.size)).mono HB.out.size))
      clear hb5 z0 z1 z2 z3 z4 z5 z6 z7
      go_wp2_with fail
      go_roundg 0
      case measure => omega
      case rel => exact ⟨2, by omega, rfl, rfl, HB5.out⟩
    have HXr := Lib.hid (HX1.out.of_eq (HB.out.block _ HX1.out.lt))
    have HYr := Lib.hid (HY1.out.of_eq (HB.out.block _ HY1.out.lt))
    have HRr := Lib.hid (HR1.out.of_eq (HB.out.block _ HR1.out.lt))
    have HBr := Lib.hid (HBW1.out.trans (HB.out.mono HBW1.out.size))
    clear z0 z1 z2 z3 z4 z5 z6 z7
    have x0 := HXr.out.cell (k := 0) rfl
    have x1 := HXr.out.cell (k := 1) rfl
    have x2 := HXr.out.cell (k := 2) rfl
    have x3 := HXr.out.cell (k := 3) rfl
    have y0 := HYr.out.cell (k := 0) rfl
    have y1 := HYr.out.cell (k := 1) rfl
    have y2 := HYr.out.cell (k := 2) rfl
    have y3 := HYr.out.cell (k := 3) rfl
    go_wp2_with fail
    refine (HBO.out _).mono ?_
    rintro e w5 ⟨rfl, hb5⟩
    have HR5 := Lib.hid (HRr.out.of_eq (hb5.block _ HRr.out.lt))
    have HB5 := Lib.hid (HBr.out.trans (hb5.mono HBr.out.size))
    clear hb5 x0 x1 x2 x3 y0 y1 y2 y3
    obtain ⟨rt', rf, ⟨rx, ry⟩⟩ := r
    dsimp only at *
    have HBN := Lib.hid (al1 w5 (.cells #[.int .i64 (rt' : Int), .bool rf, .int .i64 rx, .int .i64 ry] 98))
    have HV := Lib.hid (Arr.new w5 #[.int .i64 (rt' : Int), .bool rf, .int .i64 rx, .int .i64 ry] 98)
    have HR6 := Lib.hid (HR5.out.alloc (.cells #[.int .i64 (rt' : Int), .bool rf, .int .i64 rx, .int .i64 ry] 98))
    go_upto_region 9 with fail
    generalize w5.alloc (.cells #[.int .i64 (rt' : Int), .bool rf, .int .i64 rx, .int .i64 ry] 98) = w6 at *
    have v2 := HV.out.cell (k := 2) rfl
    have v3 := HV.out.cell (k := 3) rfl
    have HN := Lib.hid (sl_news w6 ⟨rx, ry⟩)
    have HB7 := Lib.hid (al1 w6 (.cells #[.int .i64 rx, .int .i64 ry] 78))
    go_wp2_with fail
    refine (HSM.out _ 0 0 _ HN.out.1 HN.out.2).mono ?_
    rintro e w8 ⟨rfl, hb8⟩
    have hb68 := HB7.out.trans (hb8.mono HB7.out.size)
    have HV8 := Lib.hid (HV.out.of_eq (hb68.block _ HV.out.lt))
    have HR8 := Lib.hid (HR6.out.of_eq (hb68.block _ HR6.out.lt))
    have HB8 := Lib.hid (HB5.out.trans ((HBN.out.trans (hb68.mono HBN.out.size)).mono HB5.out.size))
    clear hb8 hb68 v2 v3
    have v0 := HV8.out.cell (k := 0) rfl
    have v1 := HV8.out.cell (k := 1) rfl
    have v2 := HV8.out.cell (k := 2) rfl
    have v3 := HV8.out.cell (k := 3) rfl
    have r0 := HR8.out.cell (k := 0) rfl
    have r1 := HR8.out.cell (k := 1) rfl
    have r2 := HR8.out.cell (k := 2) rfl
    have r3 := HR8.out.cell (k := 3) rfl
    have e0 := HR8.out.free 0
    have e1 := HR8.out.free 1
    have e2 := HR8.out.free 2
    have e3 := HR8.out.free 3
    have hq := (((HR8.out.set 0 (.int .i64 rt')).set 1 (.bool rf)).set 2 (.int .i64 rx)).set 3 (.int .i64 ry)
    have q0 := hq.cell (k := 0) rfl
    have q1 := hq.cell (k := 1) rfl
    have q2 := hq.cell (k := 2) rfl
    have q3 := hq.cell (k := 3) rfl
    have hw2 : w.heap.size ≤ w.heap.size + 1 + 1 := by omega
    have HBQ : Hid (Below w.heap.size w ((((w8.setCell ⟨w.heap.size + 1 + 1, 0, none⟩ (.int .i64 rt')).setCell ⟨w.heap.size + 1 + 1, 1, none⟩ (.bool rf)).setCell ⟨w.heap.size + 1 + 1, 2, none⟩ (.int .i64 rx)).setCell ⟨w.heap.size + 1 + 1, 3, none⟩ (.int .i64 ry))) := (((HB8.out.setCell hw2 _).setCell hw2 _).setCell hw2 _).setCell hw2 _
    clear hq
    go_wp2_with fail
    exact bodyPost_ret (v := .tuple #[.agg #[.int .i64 rt', .bool rf, .int .i64 rx, .int .i64 ry], .int .i64 0]) (by simp [results, Tryd.results66, go_sem, q0, q1, q2, q3]) rfl ⟨rfl, HBQ.out⟩
end Go.Proofs.YtmmakljmikdooaaDoor
/- Chapter 3: the program's Torus, place. -/
namespace Go.Proofs.YtmmakljmikdooaaDoor
open Go.RowKit
set_option linter.unusedVariables false
set_option linter.unusedSimpArgs false

theorem gcd_any (a b : Nat) (w : World) (ha : a ≤ 1000000) (hb : b ≤ 1000000) : Calls Tryd.prog 68 #[.int .i64 (a : Int), .int .i64 (b : Int)] w fun e w' => e = .returned (.int .i64 (Nat.gcd a b : Nat)) ∧ ∃ k, w' = w.drewN k := by
  go_enter Tryd.func68, Tryd.ntmps68
  go_wp2_with fail
  go_loopg [0, 1] b (fun gg x y wr => ∃ p q k : Nat, x = .int .i64 p ∧ y = .int .i64 q ∧ q = gg ∧ p ≤ 1000000 ∧ q ≤ 1000000 ∧ Nat.gcd p q = Nat.gcd a b ∧ wr = w.drewN k)
  case atStart => exact ⟨a, b, 0, rfl, rfl, rfl, ha, hb, rfl, rfl⟩
  case round =>
    obtain ⟨p, q, k, rfl, rfl, rfl, hp, hq, hg, rfl⟩ := hrel
    by_cases h0 : q = 0
    · subst h0
      have HG : Hid (p = Nat.gcd a b) := by show _ = _; rw [← hg, Nat.gcd_zero_right]
      have hz : (((0 : Nat) : Int) != 0) = false := rfl
      clear hg
      go_wp2_with fail
      go_ret
      refine ⟨?_, k, rfl⟩
      rw [← HG.out]; rfl
    have HG : Hid (Nat.gcd q (p % q) = Nat.gcd a b) := by show _ = _; rw [← hg, Nat.gcd_comm p q, Nat.gcd_rec q p, Nat.gcd_comm]
    have hz : ((q : Int) != 0) = true := by simp; omega
    have hz2 : ¬ (q : Int) = 0 := by omega
    have hm : (p : Int).tmod (q : Int) = ((p % q : Nat) : Int) := by rw [Int.tmod_eq_emod_of_nonneg (by omega)]; simp
    have hlt : p % q < q := Nat.mod_lt _ (by omega)
    clear hg
    generalize p % q = m at *
    go_wp2_with (go_quiet (fail))
    go_roundg m
    case measure => omega
    case rel => exact ⟨q, m, _, rfl, rfl, rfl, hq, by omega, HG.out, World.drewN_drewN _ _ _⟩
/-- how far it is till a pattern comes again -/
def tor (W H : Nat) : Nat := W / Nat.gcd W H * H
theorem tor_lcm (W H : Nat) : tor W H = Nat.lcm W H := by
  unfold tor Nat.lcm
  have hd := Nat.gcd_dvd_left W H
  rcases Nat.eq_zero_or_pos (Nat.gcd W H) with h | h
  · have hw : W = 0 := Nat.eq_zero_of_gcd_eq_zero_left h
    rw [hw]; simp
  · obtain ⟨k, hk⟩ := hd
    have e1 : W / Nat.gcd W H = k := by conv => lhs; lhs; rw [hk]
                                        exact Nat.mul_div_cancel_left k h
    have e2 : W * H / Nat.gcd W H = k * H := by
      conv => lhs; lhs; rw [hk]
      rw [Nat.mul_assoc]; exact Nat.mul_div_cancel_left _ h
    rw [e1, e2]
set_option maxRecDepth 100000 in
set_option maxHeartbeats 1000000 in
theorem Torus_any {S : Nat → Prop} {v : Value} {c : Ch} {W H : Nat} (w : World) (hv : ChR w S v c) (hS : ∀ b, S b → b < w.heap.size) (hc : OkC c W H) :
    Calls Tryd.prog 46 #[v] w fun e w' => e = .returned (.tuple #[.int .i64 (if tor W H ≤ 24 then (tor W H : Int) else 0), .int .i64 (if tor W H ≤ 24 then 0 else 4)]) ∧ Below w.heap.size w w' := by
  have HV := Lib.hid hv
  have HSS := Lib.hid hS
  have HOK := Lib.hid hc
  obtain ⟨cv, rfl, hi⟩ := hv
  obtain ⟨A, cc, rfl, h1, h2, _⟩ := hi
  clear hS hc
  have e1 := HOK.out.w
  have e2 := HOK.out.h
  have HWR : Hid (wrongC c = 0) := wrongC_ok HOK.out
  have b1 := HOK.out.W1
  have b2 := HOK.out.W2
  have b3 := HOK.out.H1
  have b4 := HOK.out.H2
  obtain ⟨g, cw, ch, cs⟩ := c
  dsimp only at *
  subst e1
  subst e2
  unfold maxLen at h2
  have HX := Lib.hid (Arr.new w #[.int .i64 g, .int .i64 (W : Int), .int .i64 (H : Int), .slice A cs.length cc] 24)
  have HB0 := Lib.hid (al1 w (.cells #[.int .i64 g, .int .i64 (W : Int), .int .i64 (H : Int), .slice A cs.length cc] 24))
  have HGC : Hid (∀ w, _) := fun w => gcd_any W H w (by omega) (by omega)
  have hgp : 0 < Nat.gcd W H := Nat.gcd_pos_of_pos_left _ (by omega)
  have hdv : (W : Int).tdiv ((Nat.gcd W H : Nat) : Int) = ((W / Nat.gcd W H : Nat) : Int) := by rw [Int.tdiv_eq_ediv_of_nonneg (by omega)]; simp
  have hq1 : W / Nat.gcd W H ≤ W := Nat.div_le_self _ _
  have hq2 : W / Nat.gcd W H * H ≤ 64 * 64 := Nat.mul_le_mul (by omega) (by omega)
  have hww : IntKind.i64.wrap (((W / Nat.gcd W H : Nat) : Int) * (H : Int)) = ((tor W H : Nat) : Int) := by
    rw [← Int.natCast_mul]
    exact IntWalk.i64_in _ (by omega)
  have htn : tor W H ≤ 64 * 64 := hq2
  generalize Nat.gcd W H = G at *
  generalize W / G = Q at *
  generalize tor W H = T at *
  go_enter Tryd.func46, Tryd.ntmps46
  go_upto_region 1 with fail
  generalize w.alloc (.cells #[.int .i64 g, .int .i64 (W : Int), .int .i64 (H : Int), .slice A cs.length cc] 24) = w0 at *
  have x0 := HX.out.cell (k := 0) rfl
  have x1 := HX.out.cell (k := 1) rfl
  have x2 := HX.out.cell (k := 2) rfl
  have x3 := HX.out.cell (k := 3) rfl
  go_wp2_with fail
  refine (Wrong_any w0 (HV.out.same fun b hb => HB0.out.block b (HSS.out b hb)) fun b hb => Nat.lt_of_lt_of_le (HSS.out b hb) HB0.out.size).mono ?_
  rintro e w1 ⟨rfl, hb1⟩
  rw [HWR.out]
  have HB1 := Lib.hid (HB0.out.trans (hb1.mono HB0.out.size))
  have HX1 := Lib.hid (HX.out.of_eq (hb1.block _ HX.out.lt))
  clear hb1 x0 x1 x2 x3
  have x1 := HX1.out.cell (k := 1) rfl
  have x2 := HX1.out.cell (k := 2) rfl
  have hG0 : ¬ (G : Int) = 0 := by omega
  by_cases hT : T ≤ 24
  · have hTd : decide ((T : Int) > 24) = false := decide_eq_false (by omega)
    go_wp2_with (go_quiet ((go_at_call 68; exact Calls.quiet_of (HGC.out _))))
    refine bodyPost_ret (v := .tuple #[.int .i64 (T : Int), .int .i64 0]) (by simp [results, Tryd.results46, go_sem]) rfl ⟨?_, below_dN HB1.out⟩
    first | rfl | (rw [if_pos hT, if_pos hT])
  · have hTd : decide ((T : Int) > 24) = true := decide_eq_true (by omega)
    go_wp2_with (go_quiet ((go_at_call 68; exact Calls.quiet_of (HGC.out _))))
    refine bodyPost_ret (v := .tuple #[.int .i64 0, .int .i64 4]) (by simp [results, Tryd.results46, go_sem]) rfl ⟨?_, below_dN HB1.out⟩
    first | rfl | (rw [if_neg hT, if_neg hT])
end Go.Proofs.YtmmakljmikdooaaDoor
/- Chapter 3: the program's place, keeps. -/
namespace Go.Proofs.YtmmakljmikdooaaDoor
open Go.RowKit
set_option linter.unusedVariables false
set_option linter.unusedSimpArgs false

/-- v reads as a cloth -/
def ClR (w : World) (S : Nat → Prop) (v : Value) (g : Int) (n : Nat) (f : Nat → Int) : Prop := ∃ cv, v = .agg #[.int .i64 g, .int .i64 (n : Int), cv] ∧ Ints w S cv ((List.range (n * n)).map f)
theorem ClR.same {w w' : World} {S : Nat → Prop} {v : Value} {g : Int} {n : Nat} {f : Nat → Int} (h : ClR w S v g n f) (k : Same S w w') : ClR w' S v g n f := by
  obtain ⟨cv, e, hi⟩ := h; exact ⟨cv, e, hi.same k⟩
theorem ClR.mono {w : World} {S T : Nat → Prop} {v : Value} {g : Int} {n : Nat} {f : Nat → Int} (h : ClR w S v g n f) (k : ∀ i, S i → T i) : ClR w T v g n f := by
  obtain ⟨cv, e, hi⟩ := h; exact ⟨cv, e, hi.mono k⟩
theorem tmod_cases (x : Int) {n : Nat} (hn : 1 ≤ n) : -(n : Int) < x.tmod n ∧ x.tmod n < n ∧ (x.tmod n < 0 → x % n = x.tmod n + n) ∧ (¬ x.tmod n < 0 → x % n = x.tmod n) := by
  have hnz : (n : Int) ≠ 0 := by omega
  have h1 := Int.emod_nonneg x hnz
  have h2 := Int.emod_lt_of_pos x (show (0 : Int) < n by omega)
  have h3 := Int.emod_nonneg (-x) hnz
  have h4 := Int.emod_lt_of_pos (-x) (show (0 : Int) < n by omega)
  rcases Int.lt_or_le x 0 with h | h
  · have e : x.tmod n = -((-x) % n) := by
      have : (-x).tmod n = (-x) % n := Int.tmod_eq_emod_of_nonneg (by omega)
      rw [Int.neg_tmod] at this
      omega
    rw [e]
    have e2 : x % n = if (-x) % (n : Int) = 0 then 0 else n - (-x) % n := by
      have h5 := Int.mul_ediv_add_emod (-x) n
      split
      · next h6 =>
        rw [h6, Int.add_zero] at h5
        have : x = n * (-((-x) / n)) := by rw [Int.mul_neg, h5]; omega
        rw [this, Int.mul_emod_right]
      · next h6 =>
        have h7 : x = (n - (-x) % n) + n * (-((-x) / n) - 1) := by
          rw [Int.mul_sub, Int.mul_neg, Int.mul_one]; omega
        conv => lhs; rw [h7]
        rw [Int.add_mul_emod_self_left]
        exact Int.emod_eq_of_lt (by omega) (by omega)
    split at e2 <;> (refine ⟨by omega, by omega, fun k => by omega, fun k => by omega⟩)
  · have e : x.tmod n = x % n := Int.tmod_eq_emod_of_nonneg h
    rw [e]
    exact ⟨by omega, by omega, fun k => by omega, fun k => rfl⟩
set_option maxRecDepth 100000 in
set_option maxHeartbeats 2000000 in
theorem place_any (g : Int) (n : Nat) (A : Option Addr) (m c : Nat) (z : Pt) (w : World) (hn : 1 ≤ n) (hn2 : n ≤ 24) :
    Calls Tryd.prog 32 #[.agg #[.int .i64 g, .int .i64 (n : Int), .slice A m c], z.val] w fun e w' => e = .returned (.int .i64 (pl n z : Nat)) ∧ Below w.heap.size w w' := by
  obtain ⟨x, y⟩ := z
  have HB0 := Lib.hid (al2 w (.cells #[.int .i64 g, .int .i64 (n : Int), .slice A m c] 92) (.cells #[.int .i64 x, .int .i64 y] 78))
  have HX := Lib.hid ((Arr.new w #[.int .i64 g, .int .i64 (n : Int), .slice A m c] 92).alloc (.cells #[.int .i64 x, .int .i64 y] 78))
  have HY := Lib.hid (arr_new2 w (.cells #[.int .i64 g, .int .i64 (n : Int), .slice A m c] 92) #[.int .i64 x, .int .i64 y] 78)
  obtain ⟨x1, x2, x3, x4⟩ := tmod_cases x hn
  obtain ⟨y1, y2, y3, y4⟩ := tmod_cases y hn
  have hpx := Int.emod_nonneg x (show (n : Int) ≠ 0 by omega)
  have hpy := Int.emod_nonneg y (show (n : Int) ≠ 0 by omega)
  have hqx := Int.emod_lt_of_pos x (show (0 : Int) < n by omega)
  have hqy := Int.emod_lt_of_pos y (show (0 : Int) < n by omega)
  obtain ⟨i, hi⟩ : ∃ i : Nat, x % (n : Int) = (i : Int) := ⟨(x % (n : Int)).toNat, by omega⟩
  obtain ⟨j, hj⟩ : ∃ j : Nat, y % (n : Int) = (j : Int) := ⟨(y % (n : Int)).toNat, by omega⟩
  have HE : Hid ((pl n ⟨x, y⟩ : Nat) = j * n + i) := by
    show _ = _
    unfold pl
    dsimp only
    rw [hi, hj, Int.toNat_natCast, Int.toNat_natCast]
  rw [hi] at x3 x4 hpx hqx
  rw [hj] at y3 y4 hpy hqy
  clear hi hj
  have hjn : j * n ≤ 24 * 24 := Nat.mul_le_mul (by omega) hn2
  have hw1 : IntKind.i64.wrap ((j : Int) * (n : Int)) = ((j * n : Nat) : Int) := by rw [← Int.natCast_mul]; exact IntWalk.i64_in _ (by omega)
  have HRET : Hid (((j * n : Nat) : Int) + (i : Int) = ((pl n ⟨x, y⟩ : Nat) : Int)) := by show _ = _; rw [HE.out]; omega
  generalize j * n = P at *
  unfold Pt.val
  dsimp only
  have hn0 : ¬ (n : Int) = 0 := by omega
  go_enter Tryd.func32, Tryd.ntmps32
  go_upto_region 1 with fail
  generalize (w.alloc (.cells #[.int .i64 g, .int .i64 (n : Int), .slice A m c] 92)).alloc (.cells #[.int .i64 x, .int .i64 y] 78) = w0 at *
  have a1 := HX.out.cell (k := 1) rfl
  have b0 := HY.out.cell (k := 0) rfl
  have b1 := HY.out.cell (k := 1) rfl
  generalize htx : x.tmod n = tx at *
  generalize hty : y.tmod n = ty at *
  by_cases hx : tx < 0
  case pos =>
    by_cases hy : ty < 0
    case pos =>
      have ex := x3 hx
      have dx : decide (tx < 0) = true := decide_eq_true hx
      have ex' : tx = (i : Int) - n := by omega
      have ey := y3 hy
      have dy : decide (ty < 0) = true := decide_eq_true hy
      have ey' : ty = (j : Int) - n := by omega
      clear x3 x4 y3 y4
      clear ex
      subst ex'
      clear ey
      subst ey'
      go_wp2_with (go_quiet (fail))
      go_ret
      exact ⟨by rw [← HRET.out]; rfl, below_dN HB0.out⟩
    case neg =>
      have ex := x3 hx
      have dx : decide (tx < 0) = true := decide_eq_true hx
      have ex' : tx = (i : Int) - n := by omega
      have ey := y4 hy
      have dy : decide (ty < 0) = false := decide_eq_false hy
      clear x3 x4 y3 y4
      clear ex
      subst ex'
      subst ey
      go_wp2_with (go_quiet (fail))
      go_ret
      exact ⟨by rw [← HRET.out]; rfl, below_dN HB0.out⟩
  case neg =>
    by_cases hy : ty < 0
    case pos =>
      have ex := x4 hx
      have dx : decide (tx < 0) = false := decide_eq_false hx
      have ey := y3 hy
      have dy : decide (ty < 0) = true := decide_eq_true hy
      have ey' : ty = (j : Int) - n := by omega
      clear x3 x4 y3 y4
      clear ey
      subst ey'
      subst ex
      go_wp2_with (go_quiet (fail))
      go_ret
      exact ⟨by rw [← HRET.out]; rfl, below_dN HB0.out⟩
    case neg =>
      have ex := x4 hx
      have dx : decide (tx < 0) = false := decide_eq_false hx
      have ey := y4 hy
      have dy : decide (ty < 0) = false := decide_eq_false hy
      clear x3 x4 y3 y4
      subst ex
      subst ey
      go_wp2_with (go_quiet (fail))
      go_ret
      exact ⟨by rw [← HRET.out]; rfl, below_dN HB0.out⟩
end Go.Proofs.YtmmakljmikdooaaDoor
