/- Texts of the seat, put together: ClothWalk1, ClothWalk2. -/
import Derived.Test.YtmmakljmikdooaaDoorTw1
import Derived.Test.YtmmakljmikdooaaDoorTw18
import Derived.Laws.EntriesVeiled
/- Chapter 7: the program's spun. -/
namespace Go.Proofs.YtmmakljmikdooaaDoor
open Go.RowKit
set_option linter.unusedVariables false
set_option linter.unusedSimpArgs false

theorem at_lt {q W H x L : Nat} (hq : q < H) (hx : x < W) (hW : W ≤ 64) (hH : H ≤ 64) (hL : L = W * H) : q * W + x < L ∧ q * W + x ≤ 100000 := by
  have h1 : (q + 1) * W ≤ H * W := Nat.mul_le_mul_right _ hq
  have h2 : H * W ≤ 64 * 64 := Nat.mul_le_mul hH hW
  rw [Nat.succ_mul] at h1
  rw [Nat.mul_comm W H] at hL
  omega
set_option maxRecDepth 100000 in
set_option maxHeartbeats 2000000 in
theorem above_any {S : Nat → Prop} {m : Tr} {A : Option Addr} {cc : Nat} (a b g : Nat) (w : World) (hm : OkT m) (hg : Arr w g 32 [.int .i64 (m.w : Int), .int .i64 (m.h : Int), .slice A m.bs.length cc]) (hb : Row w S 1 A m.bs.length (m.bs.map Value.bool))
    (ha : a < m.w + m.h) (hbb : b < m.w + m.h) : Calls Tryd.prog 77 #[.int .i64 (a : Int), .int .i64 (b : Int), .pointer (some ⟨g, 0, none⟩)] w fun e w' => e = .returned (.bool (aboveF m a b)) ∧ w' = w := by
  have b1 := hm.W1
  have b2 := hm.W2
  have b3 := hm.H1
  have b4 := hm.H2
  have HL := Lib.hid hm.len
  have HAB : Hid (aboveF m a b = if a < m.w ∧ m.w ≤ b then m.bs.getD ((b - m.w) * m.w + a) false else if m.w ≤ a ∧ b < m.w then !(m.bs.getD ((a - m.w) * m.w + b) false) else false) := rfl
  have HC : Hid (∀ k, k < m.bs.length → ∃ b0 o, A = some ⟨b0, o, none⟩ ∧ w.cell? ⟨b0, o + k, none⟩ = some (.bool (m.bs.getD k false))) := fun k hk => by
    obtain ⟨b0, o, e, _, h⟩ := bls_cell hb hk
    refine ⟨b0, o, e, ?_⟩
    rw [h]
    simp [List.getD, List.getElem?_eq_getElem hk]
  clear hb hm
  generalize aboveF m a b = r at *
  obtain ⟨W, H, bs⟩ := m
  dsimp only at *
  have x0 := hg.cell (k := 0) rfl
  have x2 := hg.cell (k := 2) rfl
  clear hg
  have hlb : bs.length ≤ 4096 := by have h1 := HL.out; have h2 : W * H ≤ 64 * 64 := Nat.mul_le_mul b2 b4; omega
  go_enter Tryd.func77, Tryd.ntmps77
  by_cases h1 : a < W
  · have q1 : decide ((a : Int) < (W : Int)) = true := decide_eq_true (by omega)
    by_cases h2 : W ≤ b
    · have q2 : decide ((b : Int) ≥ (W : Int)) = true := decide_eq_true (by omega)
      have HE : Hid (r = bs.getD ((b - W) * W + a) false) := by show _ = _; rw [HAB.out, if_pos ⟨h1, h2⟩]
      obtain ⟨d, hd⟩ : ∃ d, b - W = d := ⟨_, rfl⟩
      have hdi : (b : Int) - (W : Int) = (d : Int) := by omega
      have hdl : d < H := by omega
      rw [hd] at HE
      obtain ⟨hin, hin2⟩ := at_lt hdl h1 b2 b4 HL.out
      obtain ⟨hw1, hw2, hw3, hw4⟩ := place_wraps hin2
      obtain ⟨b0, o, rfl, c0⟩ := HC.out _ hin
      clear hd hdl hin2
      generalize d * W = dw at *
      generalize dw + a = q at *
      generalize bs.getD q false = v at *
      go_wp2_with fail
      go_ret
      rw [HE.out]
      exact ⟨rfl, rfl⟩
    · have q2 : decide ((b : Int) ≥ (W : Int)) = false := decide_eq_false (by omega)
      have q3 : decide ((a : Int) ≥ (W : Int)) = false := decide_eq_false (by omega)
      have HE : Hid (r = false) := by show _ = _; rw [HAB.out, if_neg (by omega), if_neg (by omega)]
      go_wp2_with fail
      go_ret
      rw [HE.out]
      exact ⟨rfl, rfl⟩
  · have q1 : decide ((a : Int) < (W : Int)) = false := decide_eq_false (by omega)
    have q3 : decide ((a : Int) ≥ (W : Int)) = true := decide_eq_true (by omega)
    by_cases h2 : b < W
    · have q2 : decide ((b : Int) < (W : Int)) = true := decide_eq_true (by omega)
      have HE : Hid (r = !(bs.getD ((a - W) * W + b) false)) := by show _ = _; rw [HAB.out, if_neg (by omega), if_pos ⟨by omega, h2⟩]
      obtain ⟨d, hd⟩ : ∃ d, a - W = d := ⟨_, rfl⟩
      have hdi : (a : Int) - (W : Int) = (d : Int) := by omega
      have hdl : d < H := by omega
      rw [hd] at HE
      obtain ⟨hin, hin2⟩ := at_lt hdl h2 b2 b4 HL.out
      obtain ⟨hw1, hw2, hw3, hw4⟩ := place_wraps hin2
      obtain ⟨b0, o, rfl, c0⟩ := HC.out _ hin
      clear hd hdl hin2
      generalize d * W = dw at *
      generalize dw + b = q at *
      generalize bs.getD q false = v at *
      go_wp2_with fail
      go_ret
      rw [HE.out]
      exact ⟨rfl, rfl⟩
    · have q2 : decide ((b : Int) < (W : Int)) = false := decide_eq_false (by omega)
      have HE : Hid (r = false) := by show _ = _; rw [HAB.out, if_neg (by omega), if_neg (by omega)]
      go_wp2_with fail
      go_ret
      rw [HE.out]
      exact ⟨rfl, rfl⟩
/-- a web's value -/
def webV (m : Tr) (g : Nat) : Value := .agg #[.int .i64 (m.w : Int), .int .i64 ((m.w : Int) + (m.h : Int)), .func (.func 77) #[] #[.pointer (some ⟨g, 0, none⟩)]]
set_option maxRecDepth 100000 in
set_option maxHeartbeats 2000000 in
theorem spun_any {S : Nat → Prop} {A : Option Addr} {c : Nat} {m : Tr} (w : World) (hv : TrR w S (.agg #[.int .i64 (m.w : Int), .int .i64 (m.h : Int), .slice A m.bs.length c]) m) (hS : ∀ b, S b → b < w.heap.size) (hm : OkT m) :
    Calls Tryd.prog 56 #[.agg #[.int .i64 (m.w : Int), .int .i64 (m.h : Int), .slice A m.bs.length c]] w fun e w' => ∃ g, e = .returned (.tuple #[webV m g, .int .i64 0]) ∧ w.heap.size ≤ g ∧
      Arr w' g 32 [.int .i64 (m.w : Int), .int .i64 (m.h : Int), .slice A m.bs.length c] ∧ Below w.heap.size w w' := by
  have HV := Lib.hid hv
  have HSS := Lib.hid hS
  have HOK := Lib.hid hm
  have b1 := hm.W1
  have b2 := hm.W2
  have b3 := hm.H1
  have b4 := hm.H2
  have hpos : 1 ≤ m.bs.length := by rw [hm.len]; exact Nat.mul_pos hm.W1 hm.H1
  clear hS hm hv
  have HX := Lib.hid ((Arr.new w #[.int .i64 (m.w : Int), .int .i64 (m.h : Int), .slice A m.bs.length c] 32).alloc (.cells #[.int .i64 0, .int .i64 0, .nilFunc] 136))
  have HY := Lib.hid (arr_new2 w (.cells #[.int .i64 (m.w : Int), .int .i64 (m.h : Int), .slice A m.bs.length c] 32) #[.int .i64 0, .int .i64 0, .nilFunc] 136)
  have HB0 := Lib.hid (al2 w (.cells #[.int .i64 (m.w : Int), .int .i64 (m.h : Int), .slice A m.bs.length c] 32) (.cells #[.int .i64 0, .int .i64 0, .nilFunc] 136))
  go_enter Tryd.func56, Tryd.ntmps56
  go_upto_region 1 with fail
  generalize (w.alloc (.cells #[.int .i64 (m.w : Int), .int .i64 (m.h : Int), .slice A m.bs.length c] 32)).alloc (.cells #[.int .i64 0, .int .i64 0, .nilFunc] 136) = w0 at *
  have x0 := HX.out.cell (k := 0) rfl
  have x1 := HX.out.cell (k := 1) rfl
  have x2 := HX.out.cell (k := 2) rfl
  go_wp2_with fail
  refine (tWrong_any w0 (HV.out.same fun b hb => HB0.out.block b (HSS.out b hb)) HOK.out).mono ?_
  rintro e w1 ⟨rfl, hb1⟩
  have HB1 := Lib.hid (HB0.out.trans (hb1.mono HB0.out.size))
  have HX1 := Lib.hid (HX.out.of_eq (hb1.block _ HX.out.lt))
  have HY1 := Lib.hid (HY.out.of_eq (hb1.block _ HY.out.lt))
  clear hb1 x0 x1 x2
  have x0 := HX1.out.cell (k := 0) rfl
  have x1 := HX1.out.cell (k := 1) rfl
  have x2 := HX1.out.cell (k := 2) rfl
  have y0 := HY1.out.cell (k := 0) rfl
  have y1 := HY1.out.cell (k := 1) rfl
  have y2 := HY1.out.cell (k := 2) rfl
  have f0 := HY1.out.free 0
  have f1 := HY1.out.free 1
  have f2 := HY1.out.free 2
  have hyl := HY1.out.lt
  have hnb : 1 ≤ m.bs.length := hpos
  have g0 : ((m.bs.length : Int) == 0) = false := by rw [beq_eq_false_iff_ne]; omega
  have g0' : (m.bs.length == 0) = false := by rw [beq_eq_false_iff_ne]; omega
  have HFX := Lib.hid ((((HX1.out.far (p := ⟨w.heap.size + 1, 0, none⟩) (by simp) (.int .i64 (m.w : Int))).far (p := ⟨w.heap.size + 1, 1, none⟩) (by simp) (.int .i64 ((m.w : Int) + (m.h : Int)))).far (p := ⟨w.heap.size + 1, 2, none⟩) (by simp) (.func (.func 77) #[] #[.pointer (some ⟨w.heap.size, 0, none⟩)])).alloc
    (.cells #[.int .i64 (m.w : Int), .int .i64 ((m.w : Int) + (m.h : Int)), .func (.func 77) #[] #[.pointer (some ⟨w.heap.size, 0, none⟩)]] 136))
  have HFY := Lib.hid ((((HY1.out.set 0 (.int .i64 (m.w : Int))).set 1 (.int .i64 ((m.w : Int) + (m.h : Int)))).set 2 (.func (.func 77) #[] #[.pointer (some ⟨w.heap.size, 0, none⟩)])).alloc
    (.cells #[.int .i64 (m.w : Int), .int .i64 ((m.w : Int) + (m.h : Int)), .func (.func 77) #[] #[.pointer (some ⟨w.heap.size, 0, none⟩)]] 136))
  have HFB := Lib.hid (below_al (((HB1.out.setCell (p := ⟨w.heap.size + 1, 0, none⟩) (Nat.le_succ _) (.int .i64 (m.w : Int))).setCell (p := ⟨w.heap.size + 1, 1, none⟩) (Nat.le_succ _) (.int .i64 ((m.w : Int) + (m.h : Int)))).setCell (p := ⟨w.heap.size + 1, 2, none⟩) (Nat.le_succ _) (.func (.func 77) #[] #[.pointer (some ⟨w.heap.size, 0, none⟩)])) (Nat.le_refl _)
    (.cells #[.int .i64 (m.w : Int), .int .i64 ((m.w : Int) + (m.h : Int)), .func (.func 77) #[] #[.pointer (some ⟨w.heap.size, 0, none⟩)]] 136))
  go_wp2_with fail
  clear x0 x1 x2 y0 y1 y2 f0 f1 f2
  generalize (((w1.setCell ⟨w.heap.size + 1, 0, none⟩ (.int .i64 (m.w : Int))).setCell ⟨w.heap.size + 1, 1, none⟩ (.int .i64 ((m.w : Int) + (m.h : Int)))).setCell ⟨w.heap.size + 1, 2, none⟩ (.func (.func 77) #[] #[.pointer (some ⟨w.heap.size, 0, none⟩)])).alloc
    (.cells #[.int .i64 (m.w : Int), .int .i64 ((m.w : Int) + (m.h : Int)), .func (.func 77) #[] #[.pointer (some ⟨w.heap.size, 0, none⟩)]] 136) = wf at *
  have q0 := HFY.out.cell (k := 0) rfl
  have q1 := HFY.out.cell (k := 1) rfl
  have q2 := HFY.out.cell (k := 2) rfl
  refine bodyPost_ret (v := .tuple #[webV m w.heap.size, .int .i64 0]) (by unfold webV; simp [results, Tryd.results56, go_sem, q0, q1, q2]) rfl ⟨w.heap.size, rfl, Nat.le_refl _, HFX.out, HFB.out⟩
end Go.Proofs.YtmmakljmikdooaaDoor
/- Chapter 7: the program's over. -/
namespace Go.Proofs.YtmmakljmikdooaaDoor
open Go.RowKit
set_option linter.unusedVariables false
set_option linter.unusedSimpArgs false

theorem own_pop {w : World} {base : Nat} {e : TypeId} {g n c : Nat} {xs : List Value} {x : Value} (h : w.ownsRow base e 1 (.slice (some ⟨g, 0, none⟩) (n + 1) c) (n + 1) (xs ++ [x])) : w.ownsRow base e 1 (.slice (some ⟨g, 0, none⟩) n c) n xs := by
  have hl : xs.length = n := by have := h.1; simpa using this
  rcases h.2 with ⟨e1, _⟩ | ⟨g', cap, cur, e1, h1, h2, h3, h4, h5, h6⟩
  · cases e1
  · injection e1 with e1 _ e2
    injection e1 with e1
    injection e1 with e1
    subst e1 e2
    refine ⟨by rw [hl, Nat.mul_one], .inr ⟨g, c, cur, rfl, h1, h2, by omega, h4, h5, ?_⟩⟩
    have : (cur.toList.take ((n + 1) * 1)).take n = (xs ++ [x]).take n := by rw [h6]
    rw [List.take_take, ← hl, List.take_left, Nat.min_eq_left (by omega)] at this
    rw [Nat.mul_one, ← hl]
    exact this
theorem own_built (w : World) (e : TypeId) (x : Value) : (w.alloc (.cells #[x] e)).ownsRow w.heap.size e 1 (.slice (some ⟨w.heap.size, 0, none⟩) 1 1) 1 [x] :=
  ⟨rfl, .inr ⟨w.heap.size, 1, #[x], rfl, Nat.le_refl _, heap_alloc_new w _, Nat.le_refl _, by simp [maxLen], rfl, rfl⟩⟩
/-- what over has in memory -/
structure OvW (w W : World) (m : Tr) (g : Nat) (ins : List Bool) (tv : Value) (todo : List Nat) : Prop where
  box : Arr W w.heap.size 136 [.int .i64 (m.w : Int), .int .i64 ((m.w + m.h : Nat) : Int), .func (.func 77) #[] #[.pointer (some ⟨g, 0, none⟩)]]
  arr : Arr W (w.heap.size + 1) 4 (ins.map Value.bool)
  own : W.ownsRow (w.heap.size + 2) 3 1 tv todo.length (todo.map fun k : Nat => Value.int .i64 (k : Int))
  below : Below w.heap.size w W
theorem OvW.set {w W : World} {m : Tr} {g i : Nat} {ins : List Bool} {tv : Value} {todo : List Nat} (h : OvW w W m g ins tv todo) : OvW w (W.setCell ⟨w.heap.size + 1, i, none⟩ (.bool true)) m g (ins.set i true) tv todo :=
  ⟨h.box.far (by simp) _, by rw [List.map_set]; exact h.arr.set i _, own_kept_lt h.own (grownBy_set W _ _ _) (by omega), h.below.setCell (Nat.le_succ _) _⟩
theorem OvW.app {w W W' : World} {m : Tr} {g i : Nat} {ins : List Bool} {tv v : Value} {todo : List Nat} (h : OvW w W m g ins tv todo) (hb : Below (w.heap.size + 2) W W')
    (ho : W'.ownsRow (w.heap.size + 2) 3 1 v (todo.length + 1) ((todo.map fun k : Nat => Value.int .i64 (k : Int)) ++ [.int .i64 (i : Int)])) : OvW w W' m g ins v (todo ++ [i]) :=
  ⟨h.box.of_eq (hb.block _ (by omega)), h.arr.of_eq (hb.block _ (by omega)), by simpa using ho, h.below.trans (hb.mono (by omega))⟩
theorem OvW.pop {w W : World} {m : Tr} {g b gt c : Nat} {ins : List Bool} {todo : List Nat} (h : OvW w W m g ins (.slice (some ⟨gt, 0, none⟩) (todo.length + 1) c) (todo ++ [b])) : OvW w W m g ins (.slice (some ⟨gt, 0, none⟩) todo.length c) todo :=
  ⟨h.box, h.arr, own_pop (x := .int .i64 (b : Int)) (by have := h.own; simpa using this), h.below⟩
set_option maxRecDepth 100000 in
set_option maxHeartbeats 4000000 in
theorem over_any {S : Nat → Prop} {m : Tr} {A : Option Addr} {cc : Nat} (s g : Nat) (w : World) (hm : OkT m) (hg : Arr w g 32 [.int .i64 (m.w : Int), .int .i64 (m.h : Int), .slice A m.bs.length cc]) (hb : Row w S 1 A m.bs.length (m.bs.map Value.bool))
    (hS : ∀ b, S b → b < w.heap.size) (hs : s < m.w + m.h) : Calls Tryd.prog 57 #[webV m g, .int .i64 (s : Int)] w fun e w' => ∃ ins : List Bool, e = .returned (.slice (some ⟨w.heap.size + 1, 0, none⟩) (m.w + m.h) (m.w + m.h)) ∧
      Arr w' (w.heap.size + 1) 4 (ins.map Value.bool) ∧ ins.length = m.w + m.h ∧ (∀ a, ins[a]? = some true ↔ Reach m s a) ∧ Below w.heap.size w w' := by
  have HOK := Lib.hid hm
  have b1 := hm.W1
  have b2 := hm.W2
  have b3 := hm.H1
  have b4 := hm.H2
  have HAB : Hid (∀ (a b : Nat) (W : World), Below w.heap.size w W → a < m.w + m.h → b < m.w + m.h → Calls Tryd.prog 77 #[.int .i64 (a : Int), .int .i64 (b : Int), .pointer (some ⟨g, 0, none⟩)] W fun e w' => e = .returned (.bool (aboveF m a b)) ∧ w' = W) := fun a b W k h1 h2 =>
    above_any a b g W hm (hg.of_eq (k.block g hg.lt)) (hb.same fun i hi => k.block i (hS i hi)) h1 h2
  have HS0 := Lib.hid (Ov.new (m := m) hs)
  clear hm hg hb hS
  have hNi : (m.w : Int) + (m.h : Int) = ((m.w + m.h : Nat) : Int) := by omega
  have hNl : m.w + m.h ≤ 128 := by omega
  have mk1 := fun w => run_mk T30b (m.w + m.h) (m.w + m.h) (Nat.le_refl _) (by omega) w
  have hmc : madeCells (Value.bool false).cells ((m.w + m.h) * 1) = madeCells #[.bool false] (m.w + m.h) := by rw [Nat.mul_one]; rfl
  unfold webV
  rw [hNi]
  generalize hN : m.w + m.h = N at *
  clear hNi
  have HX := Lib.hid ((Arr.new w #[.int .i64 (m.w : Int), .int .i64 (N : Int), .func (.func 77) #[] #[.pointer (some ⟨g, 0, none⟩)]] 136).alloc (.cells (madeCells #[.bool false] N) 4))
  have HY := Lib.hid (arr_new2 w (.cells #[.int .i64 (m.w : Int), .int .i64 (N : Int), .func (.func 77) #[] #[.pointer (some ⟨g, 0, none⟩)]] 136) (madeCells #[.bool false] N) 4)
  rw [toList_madeCells_one] at HY
  have HB := Lib.hid (al2 w (.cells #[.int .i64 (m.w : Int), .int .i64 (N : Int), .func (.func 77) #[] #[.pointer (some ⟨g, 0, none⟩)]] 136) (.cells (madeCells #[.bool false] N) 4))
  go_enter Tryd.func57, Tryd.ntmps57
  go_upto_region 2 with fail
  have HI0 : Hid (OvW w ((w.alloc (.cells #[.int .i64 (m.w : Int), .int .i64 (N : Int), .func (.func 77) #[] #[.pointer (some ⟨g, 0, none⟩)]] 136)).alloc (.cells (madeCells #[.bool false] N) 4)) m g (List.replicate N false) (.slice none 0 0) []) :=
    ⟨by rw [hN]; exact HX.out, by rw [List.map_replicate]; exact HY.out, World.ownsRow_nil _ _ _ _, HB.out⟩
  generalize (w.alloc (.cells #[.int .i64 (m.w : Int), .int .i64 (N : Int), .func (.func 77) #[] #[.pointer (some ⟨g, 0, none⟩)]] 136)).alloc (.cells (madeCells #[.bool false] N) 4) = w0 at *
  clear HX HY HB mk1 hmc
  have xs0 : w0.cell? ⟨w.heap.size + 1, s, none⟩ = some (.bool false) := HI0.out.arr.cell (k := s) (by simp [hs])
  have fs0 := HI0.out.arr.free s
  go_upto_region 3 with fail
  clear xs0 fs0
  have HI1 := Lib.hid (HI0.out.set (i := s))
  clear HI0
  generalize w0.setCell ⟨w.heap.size + 1, s, none⟩ (.bool true) = w1 at *
  go_wp2_with fail
  have hl1 : w.heap.size + 2 ≤ w1.heap.size := by have := HI1.out.arr.lt; omega
  have HI2 : Hid (OvW w (w1.alloc (.cells #[.int .i64 (s : Int)] 3)) m g ((List.replicate N false).set s true) (.slice (some ⟨w1.heap.size, 0, none⟩) 1 1) [s]) :=
    ⟨HI1.out.box.alloc _, HI1.out.arr.alloc _, own_base (own_built w1 3 (.int .i64 (s : Int))) hl1, below_al HI1.out.below (Nat.le_refl _) _⟩
  clear HI1
  generalize w1.alloc (.cells #[.int .i64 (s : Int)] 3) = w2 at *
  have hg4 : 2 * left ((List.replicate N false).set s true) + 1 ≤ 400 := by
    have h1 := left_set (ins := List.replicate N false) (i := s) (by simp [hs])
    have h2 : left (List.replicate N false) ≤ N := by unfold left; exact Nat.le_trans List.count_le_length (by simp)
    omega
  go_loopg [6] (2 * left ((List.replicate N false).set s true) + 1) (fun gg tv wr => ∃ (ins : List Bool) (todo : List Nat), gg = 2 * left ins + todo.length ∧ gg ≤ 400 ∧ Ov m s ins todo ∧ OvW w wr m g ins tv todo)
  case atStart => exact ⟨_, [s], rfl, hg4, HS0.out, HI2.out⟩
  case round =>
    clear HI2 HS0 hl1
    obtain ⟨ins, todo, rfl, hgg, ho, hi⟩ := hrel
    have HO := Lib.hid ho
    have HI := Lib.hid hi
    clear ho hi
    rename World => w3
    obtain ⟨At, ct, rfl, _, _⟩ := own_form HI.out.own
    clear hg4
    rcases List.eq_nil_or_concat todo with rfl | ⟨todo, b, rfl⟩
    · have HR := Lib.hid (HO.out.all)
      have HLN := Lib.hid HO.out.len
      have HIA := Lib.hid HI.out.arr
      have HIB := Lib.hid HI.out.below
      go_wp2_with fail
      go_ret
      exact ⟨ins, rfl, HIA.out, by rw [HLN.out, hN], HR.out, HIB.out⟩
    rw [List.concat_eq_append] at *
    obtain ⟨gt, rfl, hg1, hg2, hc⟩ := own_some HI.out.own (by simp)
    have c0 : w3.cell? ⟨gt, todo.length, none⟩ = some (.int .i64 (b : Int)) := hc todo.length _ (by simp)
    clear hc
    rw [List.length_append, List.length_singleton] at *
    have HP := Lib.hid HO.out.pop
    have HW := Lib.hid HI.out.pop
    have hbN : b < N := by have := (HP.out.sound b HP.out.here).lt; omega
    clear HO HI
    have x1 := HW.out.box.cell (k := 1) rfl
    rw [hN] at x1
    go_wp2_with fail
    clear x1 c0
    go_loopg [6, 33] N (fun gg2 tv ctr wr => ∃ (i : Nat) (ins2 : List Bool) (todo2 : List Nat), i ≤ N ∧ gg2 = N - i ∧ ctr = .int .i64 (i : Int) ∧ 2 * left ins2 + todo2.length + 1 ≤ 2 * left ins + (todo.length + 1) ∧ OvB m s b i ins2 todo2 ∧ OvW w wr m g ins2 tv todo2)
    case atStart => exact ⟨0, ins, todo, Nat.zero_le _, rfl, rfl, by omega, HP.out, HW.out⟩
    case round =>
      clear HP HW
      obtain ⟨i, ins2, todo2, hi, rfl, rfl, hm2, hp, hw⟩ := hrel
      have HP := Lib.hid hp
      have HW := Lib.hid hw
      clear hp hw
      rename World => w4
      by_cases hlt : i < N
      case neg =>
        obtain rfl : i = N := by omega
        have HF : Hid (Ov m s ins2 todo2) := by
          have h := HP.out
          rw [← hN] at h
          exact h.fin
        go_wp2_with fail
        go_roundg (2 * left ins2 + todo2.length)
        case measure => omega
        case rel => exact ⟨ins2, todo2, rfl, by omega, HF.out, HW.out⟩
      have hil : i < ins2.length := by rw [HP.out.len, hN]; exact hlt
      have x2 := HW.out.box.cell (k := 2) rfl
      have HLN := Lib.hid HP.out.len
      obtain ⟨At, ct2, rfl, _, _⟩ := own_form HW.out.own
      rcases Bool.eq_false_or_eq_true ins2[i] with hv | hv
      · have c1 : w4.cell? ⟨w.heap.size + 1, i, none⟩ = some (.bool true) := by
          rw [HW.out.arr.cell (k := i) (u := .bool ins2[i]) (by simp [hil]), hv]
        have HN := Lib.hid (HP.out.stay (.inl (by rw [List.getElem?_eq_getElem hil, hv])))
        clear hv
        go_wp2_with fail
        go_roundg (N - (i + 1))
        case measure => omega
        case rel => exact ⟨i + 1, ins2, todo2, by omega, rfl, by go_num, hm2, HN.out, HW.out⟩
      · have c1 : w4.cell? ⟨w.heap.size + 1, i, none⟩ = some (.bool false) := by
          rw [HW.out.arr.cell (k := i) (u := .bool ins2[i]) (by simp [hil]), hv]
        have HLS := Lib.hid (left_set (ins := ins2) (i := i) (by rw [List.getElem?_eq_getElem hil, hv]))
        clear hv
        rcases hab : aboveF m i b with _ | _
        · have HN := Lib.hid (HP.out.stay (.inr hab))
          have HCL := Lib.hid (HAB.out i b w4 HW.out.below hlt hbN)
          rw [hab] at HCL
          clear hab
          go_wp2_with fail
          refine HCL.out.mono ?_
          rintro e w5 ⟨rfl, rfl⟩
          go_wp2_with fail
          go_roundg (N - (i + 1))
          case measure => omega
          case rel => exact ⟨i + 1, ins2, todo2, by omega, rfl, by go_num, hm2, HN.out, HW.out⟩
        · have HN := Lib.hid (HP.out.push (by omega) hab)
          have HCL := Lib.hid (HAB.out i b w4 HW.out.below hlt hbN)
          rw [hab] at HCL
          clear hab
          have f1 := HW.out.arr.free i
          go_wp2_with fail
          refine HCL.out.mono ?_
          rintro e w5 ⟨rfl, rfl⟩
          go_upto_region 12 with fail
          have HW2 := Lib.hid (HW.out.set (i := i))
          clear HW c1 f1 x2
          generalize w5.setCell ⟨w.heap.size + 1, i, none⟩ (.bool true) = w6 at *
          have hbs : w.heap.size + 2 ≤ w6.heap.size := by have := HW2.out.arr.lt; omega
          have hls := HLS.out
          go_wp2_with (at_builtin
                       refine app_el T22d [.int .i64 (i : Int)] HW2.out.own (Below.refl _ _) hbs rfl rfl rfl rfl rfl (by simp [Value.oneCell']) (by omega) ?_
                       intro v1 w8 hown1 hb1 hg1 ho1)
          have HW8 := Lib.hid (HW2.out.app hb1 hown1)
          clear hown1 hb1 hg1 ho1
          go_roundg (N - (i + 1))
          case measure => omega
          case rel => exact ⟨i + 1, _, _, by omega, rfl, by go_num, by rw [List.length_append, List.length_singleton]; omega, HN.out, HW8.out⟩
end Go.Proofs.YtmmakljmikdooaaDoor
