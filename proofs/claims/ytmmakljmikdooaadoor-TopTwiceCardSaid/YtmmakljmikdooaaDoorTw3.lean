/- Texts of the seat, put together: PlaneWalk1, ChartWalk1. -/
import Derived.Test.YtmmakljmikdooaaDoorTw1
import Derived.Deep.QuietTactic
import Derived.BigQuiet
import Derived.BigRegion
import Derived.RegionTactic
import Derived.Deep.LoopGhost
import Derived.Deep.DeepCutAuto
/- Chapter 1: the program's points. -/
namespace Go.Proofs.YtmmakljmikdooaaDoor
open Go.RowKit
set_option linter.unusedVariables false
set_option linter.unusedSimpArgs false

theorem al1 (w : World) (o1 : Obj) : Below w.heap.size w (w.alloc o1) := below_al (Below.refl _ _) (Nat.le_refl _) o1
theorem al2 (w : World) (o1 o2 : Obj) : Below w.heap.size w ((w.alloc o1).alloc o2) := below_al (al1 w o1) (Nat.le_refl _) o2
theorem al3 (w : World) (o1 o2 o3 : Obj) : Below w.heap.size w (((w.alloc o1).alloc o2).alloc o3) := below_al (al2 w o1 o2) (Nat.le_refl _) o3
theorem al4 (w : World) (o1 o2 o3 o4 : Obj) : Below w.heap.size w ((((w.alloc o1).alloc o2).alloc o3).alloc o4) := below_al (al3 w o1 o2 o3) (Nat.le_refl _) o4

theorem arr_new2 (w : World) (o : Obj) (cs : Array Value) (t : TypeId) : Arr ((w.alloc o).alloc (.cells cs t)) (w.heap.size + 1) t cs.toList := by
  have := Arr.new (w.alloc o) cs t
  rwa [World.size_alloc] at this
theorem arr_new3 (w : World) (o o2 : Obj) (cs : Array Value) (t : TypeId) : Arr (((w.alloc o).alloc o2).alloc (.cells cs t)) (w.heap.size + 1 + 1) t cs.toList := by
  have := Arr.new ((w.alloc o).alloc o2) cs t
  rwa [World.size_alloc, World.size_alloc] at this

theorem times_any (g : Int) (a b : Pt) (w : World) (h1 : -1000000000000000000 ≤ a.x * b.x ∧ a.x * b.x ≤ 1000000000000000000) (h2 : -1000000000000000000 ≤ a.y * b.y ∧ a.y * b.y ≤ 1000000000000000000) (h3 : -1000000000000000000 ≤ a.x * b.y ∧ a.x * b.y ≤ 1000000000000000000) (h4 : -1000000000000000000 ≤ a.y * b.x ∧ a.y * b.x ≤ 1000000000000000000) :
    Calls Tryd.prog 80 #[.int .i64 g, a.val, b.val] w fun e w' => e = .returned (tm g a b).val ∧ Below w.heap.size w w' := by
  have HB : Hid (∀ o1 o2 o3 o4, _) := fun o1 o2 o3 o4 => al4 w o1 o2 o3 o4
  obtain ⟨ax, ay⟩ := a
  obtain ⟨bx, by'⟩ := b
  unfold tm Pt.val
  dsimp only at *
  by_cases hg : g = 6
  · have q : (g == 6) = true := by simpa using hg
    rw [if_pos hg]
    clear hg
    go_enter Tryd.func80, Tryd.ntmps80
    go_wp2_with fail
    exact bodyPost_ret (v := .agg #[.int .i64 (ax * bx - ay * by'), .int .i64 (ax * by' + ay * bx + ay * by')]) (by simp [results, Tryd.results80, go_sem]) rfl ⟨rfl, HB.out _ _ _ _⟩
  · have q : (g == 6) = false := by simpa using hg
    rw [if_neg hg]
    clear hg
    go_enter Tryd.func80, Tryd.ntmps80
    go_wp2_with fail
    exact bodyPost_ret (v := .agg #[.int .i64 (ax * bx - ay * by'), .int .i64 (ax * by' + ay * bx)]) (by simp [results, Tryd.results80, go_sem]) rfl ⟨rfl, HB.out _ _ _ _⟩
theorem mirrored_any (g : Int) (a : Pt) (w : World) (h : a.le 1000000000000000000) :
    Calls Tryd.prog 71 #[.int .i64 g, a.val] w fun e w' => e = .returned (mir g a).val ∧ Below w.heap.size w w' := by
  have HB : Hid (∀ o1 o2, _) := fun o1 o2 => al2 w o1 o2
  obtain ⟨ax, ay⟩ := a
  unfold Pt.le at h
  unfold mir Pt.val
  dsimp only at *
  by_cases hg : g = 6
  · have q : (g == 6) = true := by simpa using hg
    rw [if_pos hg]
    clear hg
    go_enter Tryd.func71, Tryd.ntmps71
    go_wp2_with fail
    exact bodyPost_ret (v := .agg #[.int .i64 (ax + ay), .int .i64 (-ay)]) (by simp [results, Tryd.results71, go_sem]) rfl ⟨rfl, HB.out _ _⟩
  · have q : (g == 6) = false := by simpa using hg
    rw [if_neg hg]
    clear hg
    go_enter Tryd.func71, Tryd.ntmps71
    go_wp2_with fail
    exact bodyPost_ret (v := .agg #[.int .i64 ax, .int .i64 (-ay)]) (by simp [results, Tryd.results71, go_sem]) rfl ⟨rfl, HB.out _ _⟩
set_option maxHeartbeats 1000000 in
theorem turned_any (g : Int) (a : Pt) (n : Nat) (w : World) (h : Bnd g a 100000000000000000) (hn : n ≤ 6) :
    Calls Tryd.prog 72 #[.int .i64 g, a.val, .int .i64 (n : Int)] w fun e w' => e = .returned (rot g n a).val ∧ Below w.heap.size w w' := by
  have HB2 : Hid (∀ o1 o2, _) := fun o1 o2 => al2 w o1 o2
  have H := Lib.hid h
  have HX := Lib.hid ((Arr.new w #[.int .i64 a.x, .int .i64 a.y] 78).alloc (.cells #[.int .i64 0, .int .i64 0] 78))
  have HY := Lib.hid (arr_new2 w (.cells #[.int .i64 a.x, .int .i64 a.y] 78) #[.int .i64 0, .int .i64 0] 78)
  have HB0 := Lib.hid (HB2.out (.cells #[.int .i64 a.x, .int .i64 a.y] 78) (.cells #[.int .i64 0, .int .i64 0] 78))
  unfold Pt.val
  clear h HB2
  go_enter Tryd.func72, Tryd.ntmps72
  go_upto_region 1 with fail
  generalize (w.alloc (.cells #[.int .i64 a.x, .int .i64 a.y] 78)).alloc (.cells #[.int .i64 0, .int .i64 0] 78) = w0 at *
  go_wp2_with fail
  go_loopg [8] n (fun gg ctr wr => ∃ i : Nat, i ≤ n ∧ gg = n - i ∧ ctr = .int .i64 i ∧ Below w.heap.size w wr ∧ Arr wr w.heap.size 78 [.int .i64 (rot g i a).x, .int .i64 (rot g i a).y] ∧ Arr wr (w.heap.size + 1) 78 [.int .i64 0, .int .i64 0])
  case atStart => exact ⟨0, by omega, rfl, rfl, HB0.out, HX.out, HY.out⟩
  case round =>
    clear HX HY HB0
    obtain ⟨i, hi, rfl, rfl, hb, hx, hy⟩ := hrel
    have HB := Lib.hid hb
    have HX := Lib.hid hx
    have HY := Lib.hid hy
    clear hb hx hy
    have x0 := HX.out.cell (k := 0) rfl
    have x1 := HX.out.cell (k := 1) rfl
    have y0 := HY.out.cell (k := 0) rfl
    have y1 := HY.out.cell (k := 1) rfl
    have fx0 := HX.out.free 0
    have fx1 := HX.out.free 1
    have fy0 := HY.out.free 0
    have fy1 := HY.out.free 1
    by_cases hlt : i < n
    case neg =>
      obtain rfl : i = n := by omega
      generalize hpe : rot g i a = p at *
      have HPE := Lib.hid hpe
      clear hpe
      have hq := (HY.out.set 0 (.int .i64 p.x)).set 1 (.int .i64 p.y)
      have q0 := hq.cell (k := 0) rfl
      have q1 := hq.cell (k := 1) rfl
      have HBQ := Lib.hid ((HB.out.setCell (Nat.le_succ w.heap.size) (.int .i64 p.x) : Below w.heap.size w (wr.setCell ⟨w.heap.size + 1, 0, none⟩ _)).setCell (Nat.le_succ w.heap.size) (.int .i64 p.y) : Below w.heap.size w ((wr.setCell ⟨w.heap.size + 1, 0, none⟩ _).setCell ⟨w.heap.size + 1, 1, none⟩ _))
      clear hq
      go_wp2_with fail
      exact bodyPost_ret (v := .agg #[.int .i64 p.x, .int .i64 p.y]) (by simp [results, Tryd.results72, go_sem, q0, q1]) rfl ⟨by rw [HPE.out], HBQ.out⟩
    have HBN := Lib.hid (Bnd.rot i H.out)
    have HS : Hid (rot g (i + 1) a = rt g (rot g i a)) := rot_succ g i a
    generalize rot g i a = p at *
    obtain ⟨⟨b1, b2, b3, b4⟩, _⟩ := HBN.out
    have HT : Hid (∀ w, Calls Tryd.prog 80 #[.int .i64 g, .agg #[.int .i64 p.x, .int .i64 p.y], .agg #[.int .i64 0, .int .i64 1]] w fun e w' => e = .returned (.agg #[.int .i64 (rt g p).x, .int .i64 (rt g p).y]) ∧ Below w.heap.size w w') := fun w => by
      have := times_any g p ⟨0, 1⟩ w (by simp) (by dsimp only; omega) (by dsimp only; omega) (by simp)
      rw [tm_one] at this
      exact this
    go_wp2_with fail
    refine (HT.out _).mono ?_
    rintro e w2 ⟨rfl, hb2⟩
    have HB2 := Lib.hid (HB.out.trans (hb2.mono HB.out.size))
    have HX2 := Lib.hid (HX.out.of_eq (hb2.block _ HX.out.lt))
    have HY2 := Lib.hid (HY.out.of_eq (hb2.block _ HY.out.lt))
    clear hb2 x0 x1 y0 y1 fx0 fx1 fy0 fy1
    have x0 := HX2.out.cell (k := 0) rfl
    have x1 := HX2.out.cell (k := 1) rfl
    have fx0 := HX2.out.free 0
    have fx1 := HX2.out.free 1
    go_wp2_with fail
    go_roundg (n - (i + 1))
    case measure => omega
    case rel =>
      refine ⟨i + 1, by omega, rfl, by go_num, (HB2.out.setCell (Nat.le_refl _) _).setCell (Nat.le_refl _) _, ?_, (HY2.out.far (by simp) _).far (by simp) _⟩
      rw [HS.out]
      exact (HX2.out.set 0 _).set 1 _
end Go.Proofs.YtmmakljmikdooaaDoor
/- Chapter 2: the program's Wrong. -/
namespace Go.Proofs.YtmmakljmikdooaaDoor
open Go.RowKit
set_option linter.unusedVariables false
set_option linter.unusedSimpArgs false

/-- v reads as a chart -/
def ChR (w : World) (S : Nat → Prop) (v : Value) (c : Ch) : Prop := ∃ cv, v = .agg #[.int .i64 c.g, .int .i64 c.w, .int .i64 c.h, cv] ∧ Ints w S cv c.cs
theorem ChR.same {w w' : World} {S : Nat → Prop} {v : Value} {c : Ch} (h : ChR w S v c) (k : Same S w w') : ChR w' S v c := by
  obtain ⟨cv, e, hi⟩ := h; exact ⟨cv, e, hi.same k⟩
theorem ChR.mono {w : World} {S T : Nat → Prop} {v : Value} {c : Ch} (h : ChR w S v c) (k : ∀ i, S i → T i) : ChR w T v c := by
  obtain ⟨cv, e, hi⟩ := h; exact ⟨cv, e, hi.mono k⟩
theorem any_take {l : List Int} {i : Nat} (h : i < l.length) : (l.take (i + 1)).any badC = ((l.take i).any badC || badC l[i]) := by
  rw [List.take_succ_eq_append_getElem h, List.any_append]; simp
set_option maxRecDepth 100000 in
set_option maxHeartbeats 1000000 in
theorem Wrong_any {S : Nat → Prop} {v : Value} {c : Ch} (w : World) (hv : ChR w S v c) (hS : ∀ b, S b → b < w.heap.size) :
    Calls Tryd.prog 5 #[v] w fun e w' => e = .returned (.int .i64 (wrongC c)) ∧ Below w.heap.size w w' := by
  obtain ⟨cv, rfl, hi⟩ := hv
  obtain ⟨A, cc, rfl, h1, h2, hr⟩ := hi
  have HR := Lib.hid hr
  have HS := Lib.hid hS
  clear hr hS
  obtain ⟨g, W, H, cs⟩ := c
  dsimp only at *
  unfold maxLen at h2
  have HX := Lib.hid (Arr.new w #[.int .i64 g, .int .i64 W, .int .i64 H, .slice A cs.length cc] 24)
  have HB0 := Lib.hid (al1 w (.cells #[.int .i64 g, .int .i64 W, .int .i64 H, .slice A cs.length cc] 24))
  have HWR : Hid (wrongC ⟨g, W, H, cs⟩ = if g ≠ 4 ∧ g ≠ 6 then 1 else if W < 1 ∨ 64 < W ∨ H < 1 ∨ 64 < H then 3 else if (cs.length : Int) ≠ W * H then 8 else if cs.any badC = true then 3 else 0) := rfl
  generalize wrongC ⟨g, W, H, cs⟩ = r at *
  go_enter Tryd.func5, Tryd.ntmps5
  go_upto_region 1 with fail
  generalize w.alloc (.cells #[.int .i64 g, .int .i64 W, .int .i64 H, .slice A cs.length cc] 24) = w0 at *
  have x0 := HX.out.cell (k := 0) rfl
  have x1 := HX.out.cell (k := 1) rfl
  have x2 := HX.out.cell (k := 2) rfl
  have x3 := HX.out.cell (k := 3) rfl
  by_cases hg : g ≠ 4 ∧ g ≠ 6
  · have q1 : (g != 4) = true := by simpa using hg.1
    have q2 : (g != 6) = true := by simpa using hg.2
    have HE : Hid (r = 1) := by show _ = _; rw [HWR.out, if_pos hg]
    clear hg HWR
    go_wp2_with fail
    go_ret
    refine ⟨?_, HB0.out⟩
    rw [HE.out]; rfl
  rw [if_neg hg] at HWR
  by_cases hW : W < 1 ∨ 64 < W ∨ H < 1 ∨ 64 < H
  · have HE : Hid (r = 3) := by show _ = _; rw [HWR.out, if_pos hW]
    clear HWR
    by_cases g4 : g = 4
    · have q1 : (g != 4) = false := by simpa using g4
      clear hg g4
      by_cases c1 : W < 1
      · have p1 : decide (W < 1) = true := decide_eq_true c1
        clear hW c1
        go_wp2_with fail
        go_ret
        refine ⟨?_, HB0.out⟩
        rw [HE.out]; rfl
      have p1 : decide (W < 1) = false := decide_eq_false c1
      by_cases c2 : 64 < W
      · have p2 : decide (W > 64) = true := decide_eq_true c2
        clear hW c1 c2
        go_wp2_with fail
        go_ret
        refine ⟨?_, HB0.out⟩
        rw [HE.out]; rfl
      have p2 : decide (W > 64) = false := decide_eq_false c2
      by_cases c3 : H < 1
      · have p3 : decide (H < 1) = true := decide_eq_true c3
        clear hW c1 c2 c3
        go_wp2_with fail
        go_ret
        refine ⟨?_, HB0.out⟩
        rw [HE.out]; rfl
      have p3 : decide (H < 1) = false := decide_eq_false c3
      have p4 : decide (H > 64) = true := decide_eq_true (by omega)
      clear hW c1 c2 c3
      go_wp2_with fail
      go_ret
      refine ⟨?_, HB0.out⟩
      rw [HE.out]; rfl
    · have q1 : (g != 4) = true := by simpa using g4
      have q2 : (g != 6) = false := by simp; omega
      clear hg g4
      by_cases c1 : W < 1
      · have p1 : decide (W < 1) = true := decide_eq_true c1
        clear hW c1
        go_wp2_with fail
        go_ret
        refine ⟨?_, HB0.out⟩
        rw [HE.out]; rfl
      have p1 : decide (W < 1) = false := decide_eq_false c1
      by_cases c2 : 64 < W
      · have p2 : decide (W > 64) = true := decide_eq_true c2
        clear hW c1 c2
        go_wp2_with fail
        go_ret
        refine ⟨?_, HB0.out⟩
        rw [HE.out]; rfl
      have p2 : decide (W > 64) = false := decide_eq_false c2
      by_cases c3 : H < 1
      · have p3 : decide (H < 1) = true := decide_eq_true c3
        clear hW c1 c2 c3
        go_wp2_with fail
        go_ret
        refine ⟨?_, HB0.out⟩
        rw [HE.out]; rfl
      have p3 : decide (H < 1) = false := decide_eq_false c3
      have p4 : decide (H > 64) = true := decide_eq_true (by omega)
      clear hW c1 c2 c3
      go_wp2_with fail
      go_ret
      refine ⟨?_, HB0.out⟩
      rw [HE.out]; rfl
  rw [if_neg hW] at HWR
  have p1 : decide (W < 1) = false := decide_eq_false (by omega)
  have p2 : decide (W > 64) = false := decide_eq_false (by omega)
  have p3 : decide (H < 1) = false := decide_eq_false (by omega)
  have p4 : decide (H > 64) = false := decide_eq_false (by omega)
  obtain ⟨Wn, rfl⟩ : ∃ Wn : Nat, W = (Wn : Int) := ⟨W.toNat, by omega⟩
  obtain ⟨Hn, rfl⟩ : ∃ Hn : Nat, H = (Hn : Int) := ⟨H.toNat, by omega⟩
  have hmul : Wn * Hn ≤ 64 * 64 := Nat.mul_le_mul (by omega) (by omega)
  have hmul2 : ((Wn : Int) * (Hn : Int)) = ((Wn * Hn : Nat) : Int) := by rw [Int.natCast_mul]
  have hww : IntKind.i64.wrap ((Wn : Int) * (Hn : Int)) = ((Wn * Hn : Nat) : Int) := by rw [hmul2]; exact IntWalk.i64_in _ (by omega)
  rw [hmul2] at HWR
  generalize hP : Wn * Hn = P at *
  clear hmul2
  have hgq : g = 4 ∨ g = 6 := by omega
  clear hg hW
  rcases hgq with rfl | rfl
  · by_cases hl : (cs.length : Int) ≠ (P : Int)
    · have HE : Hid (r = 8) := by show _ = _; rw [HWR.out, if_pos hl]
      have p5 : ((cs.length : Int) != (P : Int)) = true := by simpa using hl
      clear hl HWR
      go_wp2_with fail
      go_ret
      refine ⟨?_, HB0.out⟩
      rw [HE.out]; rfl
    have p5 : ((cs.length : Int) != (P : Int)) = false := by simp; omega
    rw [if_neg hl] at HWR
    have hll : cs.length = P := by omega
    clear hl
    go_wp2_with fail
    clear x0 x1 x2 x3
    go_loopg [46] cs.length (fun gg ctr wr => ∃ i : Nat, i ≤ cs.length ∧ gg = cs.length - i ∧ ctr = .int .i64 i ∧ wr = w0 ∧ (cs.take i).any badC = false)
    case atStart => exact ⟨0, by omega, rfl, rfl, rfl, rfl⟩
    case round =>
      obtain ⟨i, hi, rfl, rfl, rfl, ha⟩ := hrel
      have HA := Lib.hid ha
      clear ha
      by_cases hlt : i < cs.length
      case neg =>
        obtain rfl : i = cs.length := by omega
        rw [List.take_length] at HA
        have HE : Hid (r = 0) := by show _ = _; rw [HWR.out, if_neg (by rw [HA.out]; simp)]
        go_wp2_with fail
        go_ret
        refine ⟨?_, HB0.out⟩
        rw [HE.out]; rfl
      obtain ⟨b, o, e, _, z0⟩ := ints_cell (HR.out.same fun b hb => HB0.out.block b (HS.out b hb)) hlt
      cases e
      have HT := Lib.hid (any_take hlt)
      have HME : Hid (∀ x, x = cs[i] → badC x = true → r = 3) := fun x e hx => by rw [HWR.out, if_pos (List.any_eq_true.2 ⟨x, by rw [e]; exact List.getElem_mem _, hx⟩)]
      generalize cs[i] = x at *
      have HME2 := Lib.hid (HME.out x rfl)
      by_cases b1 : x < 0
      · have HE : Hid (r = 3) := HME2.out (by unfold badC; exact decide_eq_true (.inl b1))
        have q1 : decide (x < 0) = true := decide_eq_true b1
        clear b1 HWR HME HME2
        go_wp2_with fail
        go_ret
        refine ⟨?_, HB0.out⟩
        rw [HE.out]; rfl
      have q1 : decide (x < 0) = false := decide_eq_false b1
      by_cases b2 : 62 ≤ x
      · have HE : Hid (r = 3) := HME2.out (by unfold badC; exact decide_eq_true (.inr b2))
        have q2 : decide (x ≥ 62) = true := decide_eq_true b2
        clear b1 b2 HWR HME HME2
        go_wp2_with fail
        go_ret
        refine ⟨?_, HB0.out⟩
        rw [HE.out]; rfl
      have q2 : decide (x ≥ 62) = false := decide_eq_false b2
      have HN : Hid ((cs.take (i + 1)).any badC = false) := by
        show _ = _
        rw [HT.out, HA.out, Bool.false_or]
        exact decide_eq_false (by omega)
      clear b1 b2 HME HME2
      go_wp2_with fail
      go_roundg (cs.length - (i + 1))
      case measure => omega
      case rel => exact ⟨i + 1, by omega, rfl, by go_num, rfl, HN.out⟩
  · by_cases hl : (cs.length : Int) ≠ (P : Int)
    · have HE : Hid (r = 8) := by show _ = _; rw [HWR.out, if_pos hl]
      have p5 : ((cs.length : Int) != (P : Int)) = true := by simpa using hl
      clear hl HWR
      go_wp2_with fail
      go_ret
      refine ⟨?_, HB0.out⟩
      rw [HE.out]; rfl
    have p5 : ((cs.length : Int) != (P : Int)) = false := by simp; omega
    rw [if_neg hl] at HWR
    have hll : cs.length = P := by omega
    clear hl
    go_wp2_with fail
    clear x0 x1 x2 x3
    go_loopg [46] cs.length (fun gg ctr wr => ∃ i : Nat, i ≤ cs.length ∧ gg = cs.length - i ∧ ctr = .int .i64 i ∧ wr = w0 ∧ (cs.take i).any badC = false)
    case atStart => exact ⟨0, by omega, rfl, rfl, rfl, rfl⟩
    case round =>
      obtain ⟨i, hi, rfl, rfl, rfl, ha⟩ := hrel
      have HA := Lib.hid ha
      clear ha
      by_cases hlt : i < cs.length
      case neg =>
        obtain rfl : i = cs.length := by omega
        rw [List.take_length] at HA
        have HE : Hid (r = 0) := by show _ = _; rw [HWR.out, if_neg (by rw [HA.out]; simp)]
        go_wp2_with fail
        go_ret
        refine ⟨?_, HB0.out⟩
        rw [HE.out]; rfl
      obtain ⟨b, o, e, _, z0⟩ := ints_cell (HR.out.same fun b hb => HB0.out.block b (HS.out b hb)) hlt
      cases e
      have HT := Lib.hid (any_take hlt)
      have HME : Hid (∀ x, x = cs[i] → badC x = true → r = 3) := fun x e hx => by rw [HWR.out, if_pos (List.any_eq_true.2 ⟨x, by rw [e]; exact List.getElem_mem _, hx⟩)]
      generalize cs[i] = x at *
      have HME2 := Lib.hid (HME.out x rfl)
      by_cases b1 : x < 0
      · have HE : Hid (r = 3) := HME2.out (by unfold badC; exact decide_eq_true (.inl b1))
        have q1 : decide (x < 0) = true := decide_eq_true b1
        clear b1 HWR HME HME2
        go_wp2_with fail
        go_ret
        refine ⟨?_, HB0.out⟩
        rw [HE.out]; rfl
      have q1 : decide (x < 0) = false := decide_eq_false b1
      by_cases b2 : 62 ≤ x
      · have HE : Hid (r = 3) := HME2.out (by unfold badC; exact decide_eq_true (.inr b2))
        have q2 : decide (x ≥ 62) = true := decide_eq_true b2
        clear b1 b2 HWR HME HME2
        go_wp2_with fail
        go_ret
        refine ⟨?_, HB0.out⟩
        rw [HE.out]; rfl
      have q2 : decide (x ≥ 62) = false := decide_eq_false b2
      have HN : Hid ((cs.take (i + 1)).any badC = false) := by
        show _ = _
        rw [HT.out, HA.out, Bool.false_or]
        exact decide_eq_false (by omega)
      clear b1 b2 HME HME2
      go_wp2_with fail
      go_roundg (cs.length - (i + 1))
      case measure => omega
      case rel => exact ⟨i + 1, by omega, rfl, by go_num, rfl, HN.out⟩
end Go.Proofs.YtmmakljmikdooaaDoor
