/- Texts of the seat, put together: PlaneWalk2, PlaneWalk3. -/
import Derived.Test.YtmmakljmikdooaaDoorTw3
/- Chapter 1: the program's moves. -/
namespace Go.Proofs.YtmmakljmikdooaaDoor
open Go.RowKit
set_option linter.unusedVariables false
set_option linter.unusedSimpArgs false

set_option maxHeartbeats 1000000 in
theorem apply_any (g : Int) (m : Mv) (z : Pt) (w : World) (h : Bnd g z 10000000000000000) (hb : m.b.le 10000000000000000) (ht : m.t ≤ 6) :
    Calls Tryd.prog 52 #[.int .i64 g, m.val, z.val] w fun e w' => e = .returned (app g m z).val ∧ Below w.heap.size w w' := by
  have HE : Hid (app g m z = ⟨(lin g m.t m.f z).x + m.b.x, (lin g m.t m.f z).y + m.b.y⟩) := rfl
  obtain ⟨t, f, ⟨bx, by'⟩⟩ := m
  obtain ⟨zx, zy⟩ := z
  have HBN := Lib.hid (Bnd.lin t f h)
  have hzz := h.1
  unfold Pt.le at hb hzz
  dsimp only at hb ht hzz HE
  have HX := Lib.hid (((Arr.new w #[.int .i64 (t : Int), .bool f, .int .i64 bx, .int .i64 by'] 98).alloc (.cells #[.int .i64 zx, .int .i64 zy] 78)).alloc (.cells #[.int .i64 0, .int .i64 0] 78))
  have HY := Lib.hid ((arr_new2 w (.cells #[.int .i64 (t : Int), .bool f, .int .i64 bx, .int .i64 by'] 98) #[.int .i64 zx, .int .i64 zy] 78).alloc (.cells #[.int .i64 0, .int .i64 0] 78))
  have HR := Lib.hid (arr_new3 w (.cells #[.int .i64 (t : Int), .bool f, .int .i64 bx, .int .i64 by'] 98) (.cells #[.int .i64 zx, .int .i64 zy] 78) #[.int .i64 0, .int .i64 0] 78)
  have HB0 := Lib.hid (al3 w (.cells #[.int .i64 (t : Int), .bool f, .int .i64 bx, .int .i64 by'] 98) (.cells #[.int .i64 zx, .int .i64 zy] 78) (.cells #[.int .i64 0, .int .i64 0] 78))
  have HMI : Hid (∀ w, Calls Tryd.prog 71 #[.int .i64 g, .agg #[.int .i64 zx, .int .i64 zy]] w fun e w' => e = .returned (mir g ⟨zx, zy⟩).val ∧ Below w.heap.size w w') := fun w => mirrored_any g ⟨zx, zy⟩ w ⟨by dsimp only; omega, by dsimp only; omega, by dsimp only; omega, by dsimp only; omega⟩
  have HTU : Hid (∀ (p : Pt) w, Bnd g p 10000000000000000 → Calls Tryd.prog 72 #[.int .i64 g, .agg #[.int .i64 p.x, .int .i64 p.y], .int .i64 (t : Int)] w fun e w' => e = .returned (rot g t p).val ∧ Below w.heap.size w w') := fun p w hp => turned_any g p t w (by
    obtain ⟨⟨h1, h2, h3, h4⟩, h5⟩ := hp
    exact ⟨⟨by omega, by omega, by omega, by omega⟩, fun e => by have := h5 e; omega⟩) ht
  have HBZ := Lib.hid h
  unfold Mv.val Pt.val
  dsimp only
  unfold Pt.val at HMI HTU
  go_enter Tryd.func52, Tryd.ntmps52
  go_upto_region 1 with fail
  generalize ((w.alloc (.cells #[.int .i64 (t : Int), .bool f, .int .i64 bx, .int .i64 by'] 98)).alloc (.cells #[.int .i64 zx, .int .i64 zy] 78)).alloc (.cells #[.int .i64 0, .int .i64 0] 78) = w0 at *
  have x1 := HX.out.cell (k := 1) rfl
  cases f
  case false =>
    have x0 := HX.out.cell (k := 0) rfl
    have y0 := HY.out.cell (k := 0) rfl
    have y1 := HY.out.cell (k := 1) rfl
    go_wp2_with fail
    clear x0 x1
    refine (HTU.out ⟨zx, zy⟩ _ HBZ.out).mono ?_
    rintro e w3 ⟨rfl, hb3⟩
    have HB3 := Lib.hid (HB0.out.trans (hb3.mono HB0.out.size))
    have HX3 := Lib.hid (HX.out.of_eq (hb3.block _ HX.out.lt))
    have HY3 := Lib.hid (HY.out.of_eq (hb3.block _ HY.out.lt))
    have HR3 := Lib.hid (HR.out.of_eq (hb3.block _ HR.out.lt))
    have HL3 : Hid (lin g t false ⟨zx, zy⟩ = rot g t ⟨zx, zy⟩) := rfl
    clear hb3 y0 y1
    generalize rot g t ⟨zx, zy⟩ = q at *
    have x2 := HX3.out.cell (k := 2) rfl
    have x3 := HX3.out.cell (k := 3) rfl
    have y0 := HY3.out.cell (k := 0) rfl
    have y1 := HY3.out.cell (k := 1) rfl
    have f0 := HY3.out.free 0
    have f1 := HY3.out.free 1
    have r0 := HR3.out.cell (k := 0) rfl
    have r1 := HR3.out.cell (k := 1) rfl
    have e0 := HR3.out.free 0
    have e1 := HR3.out.free 1
    rw [HL3.out] at HBN HE
    obtain ⟨⟨n1, n2, n3, n4⟩, _⟩ := HBN.out
    have hx4 := (HX3.out.far (p := ⟨w.heap.size + 1, 0, none⟩) (by simp) (.int .i64 q.x)).far (p := ⟨w.heap.size + 1, 1, none⟩) (by simp) (.int .i64 q.y)
    have hy4 := (HY3.out.set 0 (.int .i64 q.x)).set 1 (.int .i64 q.y)
    have hr4 := (HR3.out.far (p := ⟨w.heap.size + 1, 0, none⟩) (by simp) (.int .i64 q.x)).far (p := ⟨w.heap.size + 1, 1, none⟩) (by simp) (.int .i64 q.y)
    have hb4 : Below w.heap.size w ((w3.setCell ⟨w.heap.size + 1, 0, none⟩ (.int .i64 q.x)).setCell ⟨w.heap.size + 1, 1, none⟩ (.int .i64 q.y)) := (HB3.out.setCell (Nat.le_succ _) _).setCell (Nat.le_succ _) _
    have HX4 := Lib.hid hx4
    have HY4 := Lib.hid hy4
    have HR4 := Lib.hid hr4
    have HB4 := Lib.hid hb4
    clear hx4 hy4 hr4 hb4
    go_upto_region 4 with fail
    generalize (w3.setCell ⟨w.heap.size + 1, 0, none⟩ (.int .i64 q.x)).setCell ⟨w.heap.size + 1, 1, none⟩ (.int .i64 q.y) = w4 at *
    clear y0 y1 f0 f1 r0 r1 e0 e1 x2 x3
    have x2 := HX4.out.cell (k := 2) rfl
    have x3 := HX4.out.cell (k := 3) rfl
    have y0 := HY4.out.cell (k := 0) rfl
    have y1 := HY4.out.cell (k := 1) rfl
    have r0 := HR4.out.cell (k := 0) rfl
    have r1 := HR4.out.cell (k := 1) rfl
    have e0 := HR4.out.free 0
    have e1 := HR4.out.free 1
    have hq := (HR4.out.set 0 (.int .i64 (q.x + bx))).set 1 (.int .i64 (q.y + by'))
    have q0 := hq.cell (k := 0) rfl
    have q1 := hq.cell (k := 1) rfl
    have HBQ : Hid (Below w.heap.size w ((w4.setCell ⟨w.heap.size + 1 + 1, 0, none⟩ (.int .i64 (q.x + bx))).setCell ⟨w.heap.size + 1 + 1, 1, none⟩ (.int .i64 (q.y + by')))) := (HB4.out.setCell (by show w.heap.size ≤ w.heap.size + 1 + 1; omega) _).setCell (by show w.heap.size ≤ w.heap.size + 1 + 1; omega) _
    clear hq
    go_wp2_with fail
    refine bodyPost_ret (v := .agg #[.int .i64 (q.x + bx), .int .i64 (q.y + by')]) (by simp [results, Tryd.results52, go_sem, q0, q1]) rfl ⟨?_, HBQ.out⟩
    rw [HE.out]
  case true =>
    have y0 := HY.out.cell (k := 0) rfl
    have y1 := HY.out.cell (k := 1) rfl
    go_wp2_with fail
    refine (HMI.out _).mono ?_
    rintro e w2 ⟨rfl, hb2⟩
    have HBa := Lib.hid (HB0.out.trans (hb2.mono HB0.out.size))
    have HXa := Lib.hid (HX.out.of_eq (hb2.block _ HX.out.lt))
    have HYa := Lib.hid (HY.out.of_eq (hb2.block _ HY.out.lt))
    have HRa := Lib.hid (HR.out.of_eq (hb2.block _ HR.out.lt))
    clear hb2 y0 y1 x1
    have HPM : Hid (∀ q, q = mir g ⟨zx, zy⟩ → Bnd g q 10000000000000000) := fun q e => by rw [e]; exact HBZ.out.mir
    have y0 := HYa.out.cell (k := 0) rfl
    have y1 := HYa.out.cell (k := 1) rfl
    have f0 := HYa.out.free 0
    have f1 := HYa.out.free 1
    have hxb := (HXa.out.far (p := ⟨w.heap.size + 1, 0, none⟩) (by simp) (.int .i64 (mir g ⟨zx, zy⟩).x)).far (p := ⟨w.heap.size + 1, 1, none⟩) (by simp) (.int .i64 (mir g ⟨zx, zy⟩).y)
    have hyb := (HYa.out.set 0 (.int .i64 (mir g ⟨zx, zy⟩).x)).set 1 (.int .i64 (mir g ⟨zx, zy⟩).y)
    have hrb := (HRa.out.far (p := ⟨w.heap.size + 1, 0, none⟩) (by simp) (.int .i64 (mir g ⟨zx, zy⟩).x)).far (p := ⟨w.heap.size + 1, 1, none⟩) (by simp) (.int .i64 (mir g ⟨zx, zy⟩).y)
    have hbb : Below w.heap.size w ((w2.setCell ⟨w.heap.size + 1, 0, none⟩ (.int .i64 (mir g ⟨zx, zy⟩).x)).setCell ⟨w.heap.size + 1, 1, none⟩ (.int .i64 (mir g ⟨zx, zy⟩).y)) := (HBa.out.setCell (Nat.le_succ _) _).setCell (Nat.le_succ _) _
    have HXb := Lib.hid hxb
    have HYb := Lib.hid hyb
    have HRb := Lib.hid hrb
    have HBb := Lib.hid hbb
    clear hxb hyb hrb hbb
    go_upto_region 3 with fail
    generalize (w2.setCell ⟨w.heap.size + 1, 0, none⟩ (.int .i64 (mir g ⟨zx, zy⟩).x)).setCell ⟨w.heap.size + 1, 1, none⟩ (.int .i64 (mir g ⟨zx, zy⟩).y) = wb at *
    clear y0 y1 f0 f1
    have x0 := HXb.out.cell (k := 0) rfl
    have y0 := HYb.out.cell (k := 0) rfl
    have y1 := HYb.out.cell (k := 1) rfl
    go_wp2_with fail
    clear x0
    refine (HTU.out (mir g ⟨zx, zy⟩) _ HBZ.out.mir).mono ?_
    rintro e w3 ⟨rfl, hb3⟩
    have HB3 := Lib.hid (HBb.out.trans (hb3.mono HBb.out.size))
    have HX3 := Lib.hid (HXb.out.of_eq (hb3.block _ HXb.out.lt))
    have HY3 := Lib.hid (HYb.out.of_eq (hb3.block _ HYb.out.lt))
    have HR3 := Lib.hid (HRb.out.of_eq (hb3.block _ HRb.out.lt))
    have HL3 : Hid (lin g t true ⟨zx, zy⟩ = rot g t (mir g ⟨zx, zy⟩)) := rfl
    clear hb3 y0 y1
    generalize rot g t (mir g ⟨zx, zy⟩) = q at *
    have x2 := HX3.out.cell (k := 2) rfl
    have x3 := HX3.out.cell (k := 3) rfl
    have y0 := HY3.out.cell (k := 0) rfl
    have y1 := HY3.out.cell (k := 1) rfl
    have f0 := HY3.out.free 0
    have f1 := HY3.out.free 1
    have r0 := HR3.out.cell (k := 0) rfl
    have r1 := HR3.out.cell (k := 1) rfl
    have e0 := HR3.out.free 0
    have e1 := HR3.out.free 1
    rw [HL3.out] at HBN HE
    obtain ⟨⟨n1, n2, n3, n4⟩, _⟩ := HBN.out
    have hx4 := (HX3.out.far (p := ⟨w.heap.size + 1, 0, none⟩) (by simp) (.int .i64 q.x)).far (p := ⟨w.heap.size + 1, 1, none⟩) (by simp) (.int .i64 q.y)
    have hy4 := (HY3.out.set 0 (.int .i64 q.x)).set 1 (.int .i64 q.y)
    have hr4 := (HR3.out.far (p := ⟨w.heap.size + 1, 0, none⟩) (by simp) (.int .i64 q.x)).far (p := ⟨w.heap.size + 1, 1, none⟩) (by simp) (.int .i64 q.y)
    have hb4 : Below w.heap.size w ((w3.setCell ⟨w.heap.size + 1, 0, none⟩ (.int .i64 q.x)).setCell ⟨w.heap.size + 1, 1, none⟩ (.int .i64 q.y)) := (HB3.out.setCell (Nat.le_succ _) _).setCell (Nat.le_succ _) _
    have HX4 := Lib.hid hx4
    have HY4 := Lib.hid hy4
    have HR4 := Lib.hid hr4
    have HB4 := Lib.hid hb4
    clear hx4 hy4 hr4 hb4
    go_upto_region 4 with fail
    generalize (w3.setCell ⟨w.heap.size + 1, 0, none⟩ (.int .i64 q.x)).setCell ⟨w.heap.size + 1, 1, none⟩ (.int .i64 q.y) = w4 at *
    clear y0 y1 f0 f1 r0 r1 e0 e1 x2 x3
    have x2 := HX4.out.cell (k := 2) rfl
    have x3 := HX4.out.cell (k := 3) rfl
    have y0 := HY4.out.cell (k := 0) rfl
    have y1 := HY4.out.cell (k := 1) rfl
    have r0 := HR4.out.cell (k := 0) rfl
    have r1 := HR4.out.cell (k := 1) rfl
    have e0 := HR4.out.free 0
    have e1 := HR4.out.free 1
    have hq := (HR4.out.set 0 (.int .i64 (q.x + bx))).set 1 (.int .i64 (q.y + by'))
    have q0 := hq.cell (k := 0) rfl
    have q1 := hq.cell (k := 1) rfl
    have HBQ : Hid (Below w.heap.size w ((w4.setCell ⟨w.heap.size + 1 + 1, 0, none⟩ (.int .i64 (q.x + bx))).setCell ⟨w.heap.size + 1 + 1, 1, none⟩ (.int .i64 (q.y + by')))) := (HB4.out.setCell (by show w.heap.size ≤ w.heap.size + 1 + 1; omega) _).setCell (by show w.heap.size ≤ w.heap.size + 1 + 1; omega) _
    clear hq
    go_wp2_with fail
    refine bodyPost_ret (v := .agg #[.int .i64 (q.x + bx), .int .i64 (q.y + by')]) (by simp [results, Tryd.results52, go_sem, q0, q1]) rfl ⟨?_, HBQ.out⟩
    rw [HE.out]

theorem known_any (g : Int) (hg : g = 4 ∨ g = 6) (w : World) : Calls Tryd.prog 69 #[.int .i64 g] w fun e w' => e = .returned (.bool true) ∧ w' = w := by
  rcases hg with rfl | rfl
  · go_enter Tryd.func69, Tryd.ntmps69
    go_wp2_with fail
    go_ret
    exact ⟨rfl, rfl⟩
  · go_enter Tryd.func69, Tryd.ntmps69
    go_wp2_with fail
    go_ret
    exact ⟨rfl, rfl⟩
theorem run_max4 (a b c d B : Int) (h1 : a ≤ B) (h2 : b ≤ B) (h3 : c ≤ B) (h4 : d ≤ B) : ∃ M, M ≤ B ∧ ∀ (ts : Array TypeId) (t : TypeId) (w : World), (Builtin.max_ ts t #[.int .i64 a, .int .i64 b, .int .i64 c, .int .i64 d]).run Tryd.prog w = .ok (.int .i64 M) w := by
  have e : ∀ x y, x ≤ B → y ≤ B → (if y > x then y else x) ≤ B := fun x y hx hy => by split <;> assumption
  exact ⟨_, e _ _ (e _ _ (e _ _ h1 h2) h3) h4, fun ts t w => by simp [Builtin.max_, Builtin.max2]⟩
theorem small_one (p : Pt) (b o : Nat) (c : Nat) (hc : 1 ≤ c) (w : World) (h : p.le 1048576) (h0 : w.cell? ⟨b, o, none⟩ = some (.int .i64 p.x)) (h1 : w.cell? ⟨b, o + 1, none⟩ = some (.int .i64 p.y)) :
    Calls Tryd.prog 70 #[.slice (some ⟨b, o, none⟩) 1 c] w fun e w' => e = .returned (.bool true) ∧ Below w.heap.size w w' := by
  obtain ⟨x, y⟩ := p
  unfold Pt.le at h
  dsimp only at h h0 h1
  go_enter Tryd.func70, Tryd.ntmps70
  go_wp2_with fail
  go_loopg [7] 1 (fun gg ctr wr => ∃ i : Nat, i ≤ 1 ∧ gg = 1 - i ∧ ctr = .int .i64 i ∧ Below w.heap.size w wr ∧ wr.cell? ⟨b, o, none⟩ = some (.int .i64 x) ∧ wr.cell? ⟨b, o + 1, none⟩ = some (.int .i64 y))
  case atStart => exact ⟨0, by omega, rfl, rfl, Below.refl _ _, h0, h1⟩
  case round =>
    clear h0 h1
    obtain ⟨i, hi, rfl, rfl, hb, h0, h1⟩ := hrel
    have HB := Lib.hid hb
    clear hb
    by_cases hlt : i < 1
    case neg =>
      obtain rfl : i = 1 := by omega
      go_wp2_with fail
      go_ret
      exact ⟨rfl, HB.out⟩
    obtain rfl : i = 0 := by omega
    have hbl := World.block_lt_of_cell? wr _ h0
    have HC0 := Lib.hid ((World.cell?_alloc_lt wr (.cells #[.int .i64 x, .int .i64 y] 78) ⟨b, o, none⟩ hbl).trans h0)
    have HC1 := Lib.hid ((World.cell?_alloc_lt wr (.cells #[.int .i64 x, .int .i64 y] 78) ⟨b, o + 1, none⟩ hbl).trans h1)
    have HBN : Hid (Below w.heap.size w (wr.alloc (.cells #[.int .i64 x, .int .i64 y] 78))) := HB.out.alloc HB.out.size _
    go_upto_region 4 with fail
    obtain ⟨M, hM, hmx⟩ := run_max4 x (-x) y (-y) 1048576 (by omega) (by omega) (by omega) (by omega)
    have q1 : decide (M > 1048576) = false := decide_eq_false (by omega)
    have q2 : decide ((if y < x then y else x) < -1048576) = false := decide_eq_false (by split <;> omega)
    go_wp2_with fail
    all_goals
      go_roundg 0
      case measure => omega
      case rel => exact ⟨1, by omega, rfl, by go_num, HBN.out, HC0.out, HC1.out⟩

theorem sl_news (w : World) (p : Pt) : (w.alloc (.cells #[.int .i64 p.x, .int .i64 p.y] 78)).cell? ⟨w.heap.size, 0, none⟩ = some (.int .i64 p.x) ∧ (w.alloc (.cells #[.int .i64 p.x, .int .i64 p.y] 78)).cell? ⟨w.heap.size, 0 + 1, none⟩ = some (.int .i64 p.y) :=
  ⟨(Arr.new w #[.int .i64 p.x, .int .i64 p.y] 78).cell (k := 0) rfl, (Arr.new w #[.int .i64 p.x, .int .i64 p.y] 78).cell (k := 1) rfl⟩
theorem fault_one (g : Int) (hg : g = 4 ∨ g = 6) (p : Pt) (b o c : Nat) (hc : 1 ≤ c) (w : World) (h : p.le 1048576) (h0 : w.cell? ⟨b, o, none⟩ = some (.int .i64 p.x)) (h1 : w.cell? ⟨b, o + 1, none⟩ = some (.int .i64 p.y)) :
    Calls Tryd.prog 50 #[.int .i64 g, .slice (some ⟨b, o, none⟩) 1 c] w fun e w' => e = .returned (.int .i64 0) ∧ Below w.heap.size w w' := by
  have HK : Hid (∀ w, _) := fun w => known_any g hg w
  have HS : Hid (_) := small_one p b o c hc w h h0 h1
  go_enter Tryd.func50, Tryd.ntmps50
  go_wp2_with fail
  refine (HK.out _).mono ?_
  rintro e w1 ⟨rfl, rfl⟩
  go_wp2_with fail
  refine Calls.mono HS.out ?_
  rintro e w2 ⟨rfl, hb⟩
  have HB := Lib.hid hb
  clear hb
  go_wp2_with fail
  go_ret
  exact ⟨rfl, HB.out⟩
theorem told_any (p : Pt) (w : World) (h : p.le 1048576) :
    Calls Tryd.prog 51 #[p.val] w fun e w' => e = .returned (.tuple #[p.val, .int .i64 0]) ∧ Below w.heap.size w w' := by
  have HX := Lib.hid ((Arr.new w #[.int .i64 p.x, .int .i64 p.y] 78).alloc (.cells #[.int .i64 0, .int .i64 0] 78))
  have HR := Lib.hid (arr_new2 w (.cells #[.int .i64 p.x, .int .i64 p.y] 78) #[.int .i64 0, .int .i64 0] 78)
  have HB0 := Lib.hid (al2 w (.cells #[.int .i64 p.x, .int .i64 p.y] 78) (.cells #[.int .i64 0, .int .i64 0] 78))
  unfold Pt.val
  go_enter Tryd.func51, Tryd.ntmps51
  go_upto_region 1 with fail
  generalize (w.alloc (.cells #[.int .i64 p.x, .int .i64 p.y] 78)).alloc (.cells #[.int .i64 0, .int .i64 0] 78) = w0 at *
  have x0 := HX.out.cell (k := 0) rfl
  have x1 := HX.out.cell (k := 1) rfl
  have HN := Lib.hid (sl_news w0 p)
  have HB1 : Hid (Below w0.heap.size w0 (w0.alloc (.cells #[.int .i64 p.x, .int .i64 p.y] 78))) := al1 w0 _
  go_wp2_with fail
  refine (small_one p _ 0 1 (Nat.le_refl _) _ h HN.out.1 HN.out.2).mono ?_
  rintro e w2 ⟨rfl, hb⟩
  have HBA := Lib.hid (HB0.out.trans ((HB1.out.trans (hb.mono HB1.out.size)).mono HB0.out.size))
  have HXA := Lib.hid ((HX.out.of_eq (HB1.out.block _ HX.out.lt)).of_eq (hb.block _ (Nat.lt_of_lt_of_le HX.out.lt HB1.out.size)))
  have HRA := Lib.hid ((HR.out.of_eq (HB1.out.block _ HR.out.lt)).of_eq (hb.block _ (Nat.lt_of_lt_of_le HR.out.lt HB1.out.size)))
  clear hb x0 x1
  have x0 := HXA.out.cell (k := 0) rfl
  have x1 := HXA.out.cell (k := 1) rfl
  have r0 := HRA.out.cell (k := 0) rfl
  have r1 := HRA.out.cell (k := 1) rfl
  have e0 := HRA.out.free 0
  have e1 := HRA.out.free 1
  have hq := (HRA.out.set 0 (.int .i64 p.x)).set 1 (.int .i64 p.y)
  have q0 := hq.cell (k := 0) rfl
  have q1 := hq.cell (k := 1) rfl
  have HBQ : Hid (Below w.heap.size w ((w2.setCell ⟨w.heap.size + 1, 0, none⟩ (.int .i64 p.x)).setCell ⟨w.heap.size + 1, 1, none⟩ (.int .i64 p.y))) := (HBA.out.setCell (Nat.le_succ _) _).setCell (Nat.le_succ _) _
  clear hq
  go_wp2_with fail
  exact bodyPost_ret (v := .tuple #[.agg #[.int .i64 p.x, .int .i64 p.y], .int .i64 0]) (by simp [results, Tryd.results51, go_sem, q0, q1]) rfl ⟨rfl, HBQ.out⟩
theorem mvWrong_any (g : Int) (hg : g = 4 ∨ g = 6) (m : Mv) (w : World) (h : m.b.le 1048576) (ht : (m.t : Int) < g) :
    Calls Tryd.prog 49 #[.int .i64 g, m.val] w fun e w' => e = .returned (.int .i64 0) ∧ Below w.heap.size w w' := by
  obtain ⟨t, f, p⟩ := m
  dsimp only at h ht
  have HX := Lib.hid (Arr.new w #[.int .i64 (t : Int), .bool f, .int .i64 p.x, .int .i64 p.y] 98)
  have HB0 := Lib.hid (al1 w (.cells #[.int .i64 (t : Int), .bool f, .int .i64 p.x, .int .i64 p.y] 98))
  unfold Mv.val
  dsimp only
  go_enter Tryd.func49, Tryd.ntmps49
  go_upto_region 1 with fail
  generalize w.alloc (.cells #[.int .i64 (t : Int), .bool f, .int .i64 p.x, .int .i64 p.y] 98) = w0 at *
  have x2 := HX.out.cell (k := 2) rfl
  have x3 := HX.out.cell (k := 3) rfl
  have HN := Lib.hid (sl_news w0 p)
  have HB1 : Hid (Below w0.heap.size w0 (w0.alloc (.cells #[.int .i64 p.x, .int .i64 p.y] 78))) := al1 w0 _
  go_wp2_with fail
  refine (fault_one g hg p _ 0 1 (Nat.le_refl _) _ h HN.out.1 HN.out.2).mono ?_
  rintro e w2 ⟨rfl, hb⟩
  have HBA := Lib.hid (HB0.out.trans ((HB1.out.trans (hb.mono HB1.out.size)).mono HB0.out.size))
  have HXA := Lib.hid ((HX.out.of_eq (HB1.out.block _ HX.out.lt)).of_eq (hb.block _ (Nat.lt_of_lt_of_le HX.out.lt HB1.out.size)))
  clear hb x2 x3
  have x0 := HXA.out.cell (k := 0) rfl
  have q1 : decide ((t : Int) < 0) = false := decide_eq_false (by omega)
  have q2 : decide ((t : Int) ≥ g) = false := decide_eq_false (by omega)
  go_wp2_with fail
  go_ret
  exact ⟨rfl, HBA.out⟩
end Go.Proofs.YtmmakljmikdooaaDoor
/- Chapter 1: the program's Apply, Norm, Compose. -/
namespace Go.Proofs.YtmmakljmikdooaaDoor
open Go.RowKit
set_option linter.unusedVariables false
set_option linter.unusedSimpArgs false

set_option maxHeartbeats 2000000 in
theorem Apply_any (g : Int) (hg : g = 4 ∨ g = 6) (m : Mv) (z : Pt) (w : World) (hm : m.b.le 1048576) (ht : (m.t : Int) < g) (hz : z.le 1048576) (hr : (app g m z).le 1048576) :
    Calls Tryd.prog 31 #[.int .i64 g, m.val, z.val] w fun e w' => e = .returned (.tuple #[(app g m z).val, .int .i64 0]) ∧ Below w.heap.size w w' := by
  have HWR : Hid (∀ w, _) := fun w => mvWrong_any g hg m w hm ht
  have HAP : Hid (∀ w, _) := fun w => apply_any g m z w (by
    unfold Bnd; unfold Pt.le at *; exact ⟨by omega, fun _ => by omega⟩) (by unfold Pt.le at *; omega) (by omega)
  have HTD : Hid (∀ w, _) := fun w => told_any (app g m z) w hr
  have HFA : Hid (∀ b o c w, _) := fun b o c w => fault_one g hg z b o (c + 1) (by omega) w hz
  generalize app g m z = q at *
  obtain ⟨t, f, ⟨bx, by'⟩⟩ := m
  obtain ⟨zx, zy⟩ := z
  obtain ⟨qx, qy⟩ := q
  have HX := Lib.hid (((Arr.new w #[.int .i64 (t : Int), .bool f, .int .i64 bx, .int .i64 by'] 98).alloc (.cells #[.int .i64 zx, .int .i64 zy] 78)).alloc (.cells #[.int .i64 0, .int .i64 0] 78))
  have HY := Lib.hid ((arr_new2 w (.cells #[.int .i64 (t : Int), .bool f, .int .i64 bx, .int .i64 by'] 98) #[.int .i64 zx, .int .i64 zy] 78).alloc (.cells #[.int .i64 0, .int .i64 0] 78))
  have HR := Lib.hid (arr_new3 w (.cells #[.int .i64 (t : Int), .bool f, .int .i64 bx, .int .i64 by'] 98) (.cells #[.int .i64 zx, .int .i64 zy] 78) #[.int .i64 0, .int .i64 0] 78)
  have HB0 := Lib.hid (al3 w (.cells #[.int .i64 (t : Int), .bool f, .int .i64 bx, .int .i64 by'] 98) (.cells #[.int .i64 zx, .int .i64 zy] 78) (.cells #[.int .i64 0, .int .i64 0] 78))
  unfold Mv.val Pt.val at *
  dsimp only at *
  go_enter Tryd.func31, Tryd.ntmps31
  go_upto_region 1 with fail
  generalize ((w.alloc (.cells #[.int .i64 (t : Int), .bool f, .int .i64 bx, .int .i64 by'] 98)).alloc (.cells #[.int .i64 zx, .int .i64 zy] 78)).alloc (.cells #[.int .i64 0, .int .i64 0] 78) = w0 at *
  have x0 := HX.out.cell (k := 0) rfl
  have x1 := HX.out.cell (k := 1) rfl
  have x2 := HX.out.cell (k := 2) rfl
  have x3 := HX.out.cell (k := 3) rfl
  go_wp2_with fail
  refine (HWR.out _).mono ?_
  rintro e w2 ⟨rfl, hb2⟩
  have HBA := Lib.hid (HB0.out.trans (hb2.mono HB0.out.size))
  have HXA := Lib.hid (HX.out.of_eq (hb2.block _ HX.out.lt))
  have HYA := Lib.hid (HY.out.of_eq (hb2.block _ HY.out.lt))
  have HRA := Lib.hid (HR.out.of_eq (hb2.block _ HR.out.lt))
  clear hb2 x0 x1 x2 x3
  have y0 := HYA.out.cell (k := 0) rfl
  have y1 := HYA.out.cell (k := 1) rfl
  have HN := Lib.hid (sl_news w2 ⟨zx, zy⟩)
  have HB1 : Hid (Below w2.heap.size w2 (w2.alloc (.cells #[.int .i64 zx, .int .i64 zy] 78))) := al1 w2 _
  go_wp2_with fail
  refine (HFA.out _ 0 0 _ HN.out.1 HN.out.2).mono ?_
  rintro e w3 ⟨rfl, hb3⟩
  have hb23 := HB1.out.trans (hb3.mono HB1.out.size)
  have HBB := Lib.hid (HBA.out.trans (hb23.mono HBA.out.size))
  have HXB := Lib.hid (HXA.out.of_eq (hb23.block _ HXA.out.lt))
  have HYB := Lib.hid (HYA.out.of_eq (hb23.block _ HYA.out.lt))
  have HRB := Lib.hid (HRA.out.of_eq (hb23.block _ HRA.out.lt))
  clear hb3 hb23 y0 y1 HN HB1
  have x0 := HXB.out.cell (k := 0) rfl
  have x1 := HXB.out.cell (k := 1) rfl
  have x2 := HXB.out.cell (k := 2) rfl
  have x3 := HXB.out.cell (k := 3) rfl
  have y0 := HYB.out.cell (k := 0) rfl
  have y1 := HYB.out.cell (k := 1) rfl
  go_wp2_with fail
  refine (HAP.out _).mono ?_
  rintro e w4 ⟨rfl, hb4⟩
  have HBC := Lib.hid (HBB.out.trans (hb4.mono HBB.out.size))
  have HRC := Lib.hid (HRB.out.of_eq (hb4.block _ HRB.out.lt))
  clear hb4 x0 x1 x2 x3 y0 y1
  go_wp2_with fail
  refine (HTD.out _).mono ?_
  rintro e w5 ⟨rfl, hb5⟩
  have HBD := Lib.hid (HBC.out.trans (hb5.mono HBC.out.size))
  have HRD := Lib.hid (HRC.out.of_eq (hb5.block _ HRC.out.lt))
  clear hb5
  have r0 := HRD.out.cell (k := 0) rfl
  have r1 := HRD.out.cell (k := 1) rfl
  have e0 := HRD.out.free 0
  have e1 := HRD.out.free 1
  have hq := (HRD.out.set 0 (.int .i64 qx)).set 1 (.int .i64 qy)
  have q0 := hq.cell (k := 0) rfl
  have q1 := hq.cell (k := 1) rfl
  have HBQ : Hid (Below w.heap.size w ((w5.setCell ⟨w.heap.size + 1 + 1, 0, none⟩ (.int .i64 qx)).setCell ⟨w.heap.size + 1 + 1, 1, none⟩ (.int .i64 qy))) := (HBD.out.setCell (by show w.heap.size ≤ w.heap.size + 1 + 1; omega) _).setCell (by show w.heap.size ≤ w.heap.size + 1 + 1; omega) _
  clear hq
  go_wp2_with fail
  exact bodyPost_ret (v := .tuple #[.agg #[.int .i64 qx, .int .i64 qy], .int .i64 0]) (by simp [results, Tryd.results31, go_sem, q0, q1]) rfl ⟨rfl, HBQ.out⟩
end Go.Proofs.YtmmakljmikdooaaDoor
