import Derived.Test.YtmmakljmikdooaaDoorTw22
import Derived.Test.YtmmakljmikdooaaDoorTw2
import Derived.BigQuiet
/- The top: the law, its early ends. -/
namespace Go.Proofs.YtmmakljmikdooaaDoor
open Go.RowKit
set_option linter.unusedVariables false
set_option linter.unusedSimpArgs false

/-- the chart under way -/
structure DwI (w W : World) (nd : Nat) (box : List Value) (g a b : Int) (u : Value) (xs : List Int) : Prop where
  lt : w.heap.size < nd
  bx : Arr W w.heap.size 24 box
  rd : Arr W nd 24 [.int .i64 g, .int .i64 a, .int .i64 b, u]
  own : W.ownsRow (nd + 1) 3 1 u xs.length (xs.map (Value.int .i64))
  below : Below w.heap.size w W
theorem DwI.setU {w W W8 : World} {nd : Nat} {box : List Value} {g a b : Int} {u v : Value} {xs ys : List Int} (h : DwI w W nd box g a b u xs) (hb : Below (nd + 1) W W8) (ho : W8.ownsRow (nd + 1) 3 1 v ys.length (ys.map (Value.int .i64))) : DwI w (W8.setCell ⟨nd, 3, none⟩ v) nd box g a b v ys :=
  have hl := h.lt
  ⟨hl, (h.bx.of_eq (hb.block _ (by omega))).far (by show _ ≠ nd; omega) _, (h.rd.of_eq (hb.block _ (by omega))).set 3 v, own_kept_lt ho (grownBy_set W8 _ _ _) (by omega), (h.below.trans (hb.mono (by omega))).setCell (by show _ ≤ nd; omega) _⟩
theorem DwI.dN {w W : World} {nd : Nat} {box : List Value} {g a b : Int} {u : Value} {xs : List Int} (h : DwI w W nd box g a b u xs) (n : Nat) : DwI w (W.drewN n) nd box g a b u xs := ⟨h.lt, h.bx, h.rd, own_dN h.own, below_dN h.below⟩
/-- the rows of the chart that is drawn several times, as they come -/
structure Rows2 (c : Ch) (W H a b : Nat) (pr : Nat → Nat → List Int) (row : Nat → List Int) : Prop where
  start : pr 0 0 = []
  step : ∀ y i, pr y (i + 1) = pr y i ++ row y
  next : ∀ y, pr y a = pr (y + 1) 0
  len : ∀ y, (row y).length = W
  size : ∀ y i, y < b * H → i ≤ a → (pr y i).length ≤ 5000
  cell : ∀ y j u, ((row y).map (Value.int .i64))[j]? = some u → (c.cs.map (Value.int .i64))[y % H * W + j]? = some u
theorem rows2_of {c : Ch} {W H a b : Nat} (hc : OkC c W H) (hw : a * W ≤ 64) (hh : b * H ≤ 64) : Rows2 c W H a b (fun y i => rowsD c W H a y ++ repL i (rowC c W (y % H))) (fun y => rowC c W (y % H)) where
  start := by simp [rowsD, repL]
  step := fun y i => by rw [repL_snoc, List.append_assoc]
  next := fun y => by rw [rowsD_snoc]; simp [repL]
  len := fun y => hc.row_len (Nat.mod_lt _ hc.H1)
  size := fun y i hy hi => by
    rw [List.length_append, rowsD_len hc, repL_len, hc.row_len (Nat.mod_lt _ hc.H1)]
    have h1 : y * (a * W) ≤ 64 * 64 := Nat.mul_le_mul (by omega) hw
    have h2 : i * W ≤ a * W := Nat.mul_le_mul_right _ hi
    omega
  cell := fun y j u h => by
    have hm : y % H < H := Nat.mod_lt _ hc.H1
    have hl := hc.row_len hm
    rw [List.getElem?_map] at h ⊢
    have hj : j < W := by
      rcases Nat.lt_or_ge j W with k | k
      · exact k
      · rw [List.getElem?_eq_none (by omega)] at h; cases h
    rw [hc.row_get hm hj] at h
    exact h
theorem sum_wraps {a b : Nat} (h : a + b ≤ 100000) : wrap64 ((a : Int) + (b : Int)) = (a : Int) + (b : Int) ∧ IntKind.i64.wrap ((a : Int) + (b : Int)) = (a : Int) + (b : Int) :=
  ⟨IntWalk.wrap64_in _ (by omega), IntWalk.i64_in _ (by omega)⟩
theorem run_slice22 (b o L c yw W : Nat) (w : World) (h1 : yw + W ≤ L) (h2 : L ≤ c) (hW : 1 ≤ W) :
    (Instr.slice 22 (.slice (some ⟨b, o, none⟩) L c) (some (.int .i64 (yw : Int))) (some (.int .i64 ((yw : Int) + (W : Int)))) none).run Tryd.prog w = .ok (.slice (some ⟨b, o + yw, none⟩) W (c - yw)) w := by
  rw [run_slice_lh (P := Tryd.prog) w 22 (some ⟨b, o, none⟩) L c (by kernel_rfl) .i64 .i64 (yw : Int) ((yw : Int) + (W : Int)) (by omega) (by omega) (by omega)]
  have e2 : ((yw : Int) + (W : Int)).toNat = yw + W := by omega
  rw [e2, Int.toNat_natCast]
  have e3 : (sizeOf (Tryd.prog.elem 22)).run Tryd.prog w = .ok 1 w := by kernel_rfl
  rw [e3]
  simp only [Result.andThen, sliced]
  rw [if_neg (by omega), Nat.mul_one, show yw + W - yw = W by omega]
  simp [Addr.add_lit]
set_option maxRecDepth 100000 in
set_option maxHeartbeats 4000000 in
theorem law_any {S : Nat → Prop} {A : Option Addr} {cc : Nat} {c : Ch} (wide high : Int) (w : World) (ht : Tabs w) (hv : ChR w S (.agg #[.int .i64 c.g, .int .i64 c.w, .int .i64 c.h, .slice A c.cs.length cc]) c) (hS : ∀ b, S b → b < w.heap.size) :
    Calls Tryd.prog 3 #[.agg #[.int .i64 c.g, .int .i64 c.w, .int .i64 c.h, .slice A c.cs.length cc], .int .i64 wide, .int .i64 high] w fun e w' => e = .returned (.bool true) ∧ Below w.heap.size w w' := by
  have HT := Lib.hid ht
  have HV := Lib.hid hv
  have HSS := Lib.hid hS
  have hw2 := ht.lt
  clear ht hv hS
  have HX := Lib.hid (Arr.new w #[.int .i64 c.g, .int .i64 c.w, .int .i64 c.h, .slice A c.cs.length cc] 24)
  have HB0 := Lib.hid (al1 w (.cells #[.int .i64 c.g, .int .i64 c.w, .int .i64 c.h, .slice A c.cs.length cc] 24))
  have HWR := Lib.hid (fun W (hb : Below w.heap.size w W) => Wrong_any W (HV.out.same fun b k => hb.block b (HSS.out b k)) (fun b k => Nat.lt_of_lt_of_le (HSS.out b k) hb.size))
  go_enter Tryd.func3, Tryd.ntmps3
  go_upto_region 1 with fail
  generalize w.alloc (.cells #[.int .i64 c.g, .int .i64 c.w, .int .i64 c.h, .slice A c.cs.length cc] 24) = w0 at *
  have HAL := Lib.hid (alive_any w0 (HT.out.below HB0.out hw2))
  go_wp2_with fail
  refine HAL.out.mono ?_
  rintro e w1 ⟨rfl, k1⟩
  have HX1 := Lib.hid (HX.out.of_eq (k1.block _ HX.out.lt))
  have HB1 := Lib.hid (HB0.out.trans (k1.mono HB0.out.size))
  clear k1 HX HB0 HAL
  have x0 := HX1.out.cell (k := 0) rfl
  have x1 := HX1.out.cell (k := 1) rfl
  have x2 := HX1.out.cell (k := 2) rfl
  have x3 := HX1.out.cell (k := 3) rfl
  by_cases c1 : wide < 1
  · have p1 : decide (wide < 1) = true := decide_eq_true c1
    go_wp2_with fail
    go_ret
    exact ⟨rfl, HB1.out⟩
  have p1 : decide (wide < 1) = false := decide_eq_false c1
  by_cases c2 : wide > 4
  · have p2 : decide (wide > 4) = true := decide_eq_true c2
    go_wp2_with fail
    go_ret
    exact ⟨rfl, HB1.out⟩
  have p2 : decide (wide > 4) = false := decide_eq_false c2
  by_cases c3 : high < 1
  · have p3 : decide (high < 1) = true := decide_eq_true c3
    go_wp2_with fail
    go_ret
    exact ⟨rfl, HB1.out⟩
  have p3 : decide (high < 1) = false := decide_eq_false c3
  by_cases c4 : high > 4
  · have p4 : decide (high > 4) = true := decide_eq_true c4
    go_wp2_with fail
    go_ret
    exact ⟨rfl, HB1.out⟩
  have p4 : decide (high > 4) = false := decide_eq_false c4
  by_cases hwr : wrongC c = 0
  case neg =>
    go_wp2_with fail
    refine (HWR.out _ HB1.out).mono ?_
    rintro e w2 ⟨rfl, k2⟩
    have HB2 := Lib.hid (HB1.out.trans (k2.mono HB1.out.size))
    generalize wrongC c = r at *
    have q : (r != 0) = true := by simpa using hwr
    clear k2 HX1 x0 x1 x2 x3
    go_wp2_with fail
    go_ret
    exact ⟨rfl, HB2.out⟩
  obtain ⟨W, H, hc⟩ := okC_of hwr
  obtain ⟨a, rfl⟩ : ∃ a : Nat, wide = (a : Int) := ⟨wide.toNat, by omega⟩
  obtain ⟨b, rfl⟩ : ∃ b : Nat, high = (b : Int) := ⟨high.toNat, by omega⟩
  have ha1 : 1 ≤ a := by omega
  have ha4 : a ≤ 4 := by omega
  have hb1 : 1 ≤ b := by omega
  have hb4 : b ≤ 4 := by omega
  have b1 := hc.W1
  have b2 := hc.W2
  have b3 := hc.H1
  have b4 := hc.H2
  have HWR0 : Hid (∀ W, Below w.heap.size w W → Calls Tryd.prog 5 #[.agg #[.int .i64 c.g, .int .i64 c.w, .int .i64 c.h, .slice A c.cs.length cc]] W fun e w' => e = .returned (.int .i64 0) ∧ Below W.heap.size W w') := fun W hb => by
    have h := HWR.out W hb
    rw [hwr] at h
    exact h
  clear HWR hwr c1 c2 c3 c4
  have HOK := Lib.hid hc
  have e1 := hc.w
  have e2 := hc.h
  clear hc
  obtain ⟨g, cw, ch, cs⟩ := c
  dsimp only at *
  subst e1
  subst e2
  have haw : a * W ≤ 100000 := by
    have : a * W ≤ 4 * 64 := Nat.mul_le_mul ha4 b2
    omega
  have hbh : b * H ≤ 100000 := by
    have : b * H ≤ 4 * 64 := Nat.mul_le_mul hb4 b4
    omega
  have hm1 := w64_mul haw
  have hm2 := i64_mul haw
  have hm3 := w64_mul hbh
  have hm4 := i64_mul hbh
  have HM := Lib.hid (And.intro hm1 (And.intro hm2 (And.intro hm3 hm4)))
  clear hm1 hm2 hm3 hm4 haw hbh
  by_cases hW : 64 < a * W
  · have p5 : decide (((a * W : Nat) : Int) > 64) = true := decide_eq_true (by omega)
    have hm1 := HM.out.1
    have hm2 := HM.out.2.1
    generalize a * W = AW at *
    go_wp2_with fail
    refine (HWR0.out _ HB1.out).mono ?_
    rintro e w2 ⟨rfl, k2⟩
    have HB2 := Lib.hid (HB1.out.trans (k2.mono HB1.out.size))
    have HX2 := Lib.hid (HX1.out.of_eq (k2.block _ HX1.out.lt))
    clear k2 x0 x1 x2 x3
    have x1 := HX2.out.cell (k := 1) rfl
    go_wp2_with fail
    go_ret
    exact ⟨rfl, HB2.out⟩
  by_cases hH : 64 < b * H
  · have p5 : decide (((a * W : Nat) : Int) > 64) = false := decide_eq_false (by omega)
    have p6 : decide (((b * H : Nat) : Int) > 64) = true := decide_eq_true (by omega)
    have hm1 := HM.out.1
    have hm2 := HM.out.2.1
    have hm3 := HM.out.2.2.1
    have hm4 := HM.out.2.2.2
    generalize a * W = AW at *
    generalize b * H = BH at *
    go_wp2_with fail
    refine (HWR0.out _ HB1.out).mono ?_
    rintro e w2 ⟨rfl, k2⟩
    have HB2 := Lib.hid (HB1.out.trans (k2.mono HB1.out.size))
    have HX2 := Lib.hid (HX1.out.of_eq (k2.block _ HX1.out.lt))
    clear k2 x0 x1 x2 x3
    have x1 := HX2.out.cell (k := 1) rfl
    have x2 := HX2.out.cell (k := 2) rfl
    go_wp2_with fail
    go_ret
    exact ⟨rfl, HB2.out⟩
  have p5 : decide (((a * W : Nat) : Int) > 64) = false := decide_eq_false (by omega)
  have p6 : decide (((b * H : Nat) : Int) > 64) = false := decide_eq_false (by omega)
  have HRP : Hid (RepC ⟨g, (W : Int), (H : Int), cs⟩ (drawC ⟨g, (W : Int), (H : Int), cs⟩ W H a b) W H a b) := draw_rep HOK.out ha1 hb1 (by omega) (by omega)
  have HR2 := Lib.hid (rows2_of HOK.out (by omega) (by omega) : Rows2 ⟨g, (W : Int), (H : Int), cs⟩ W H a b _ _)
  have hm1 := HM.out.1
  have hm2 := HM.out.2.1
  have hm3 := HM.out.2.2.1
  have hm4 := HM.out.2.2.2
  have HD : Hid (drawC ⟨g, (W : Int), (H : Int), cs⟩ W H a b = ⟨g, ((a * W : Nat) : Int), ((b * H : Nat) : Int), rowsD ⟨g, (W : Int), (H : Int), cs⟩ W H a (b * H)⟩) := rfl
  have HPE : Hid (rowsD ⟨g, (W : Int), (H : Int), cs⟩ W H a (b * H) = rowsD ⟨g, (W : Int), (H : Int), cs⟩ W H a (b * H) ++ repL 0 (rowC ⟨g, (W : Int), (H : Int), cs⟩ W ((b * H) % H))) := by show _ = _; simp [repL]
  obtain ⟨pr, hpr⟩ : ∃ pr : Nat → Nat → List Int, ∀ y i, rowsD ⟨g, (W : Int), (H : Int), cs⟩ W H a y ++ repL i (rowC ⟨g, (W : Int), (H : Int), cs⟩ W (y % H)) = pr y i := ⟨_, fun _ _ => rfl⟩
  obtain ⟨row, hrow⟩ : ∃ row : Nat → List Int, ∀ y, rowC ⟨g, (W : Int), (H : Int), cs⟩ W (y % H) = row y := ⟨_, fun _ => rfl⟩
  simp only [hpr] at HR2 HPE
  simp only [hrow] at HR2
  rw [HPE.out] at HD
  clear hpr hrow HPE HM
  have hAW64 : a * W ≤ 64 := by omega
  have hBH64 : b * H ≤ 64 := by omega
  generalize hAW : a * W = AW at *
  generalize hBH : b * H = BH at *
  have HAW := Lib.hid hAW
  have HBH := Lib.hid hBH
  clear hAW hBH hW hH
  go_wp2_with fail
  refine (HWR0.out _ HB1.out).mono ?_
  rintro e w2 ⟨rfl, k2⟩
  have HB2 := Lib.hid (HB1.out.trans (k2.mono HB1.out.size))
  have HX2 := Lib.hid (HX1.out.of_eq (k2.block _ HX1.out.lt))
  clear k2 x0 x1 x2 x3
  have x0 := HX2.out.cell (k := 0) rfl
  have x1 := HX2.out.cell (k := 1) rfl
  have x2 := HX2.out.cell (k := 2) rfl
  have x3 := HX2.out.cell (k := 3) rfl
  have hxl := HX2.out.lt
  go_upto_region 6 with fail
  obtain ⟨hcl, hrow0⟩ : cs.length ≤ cc ∧ Row w S 1 A cs.length (cs.map (Value.int .i64)) := by
    obtain ⟨cv, ecv, A1, c1, e1, h1, _, h3⟩ := HV.out
    subst e1
    simp only [Value.agg.injEq, Array.mk.injEq, List.cons.injEq, Value.slice.injEq, true_and, and_true] at ecv
    obtain ⟨rfl, rfl⟩ := ecv
    exact ⟨h1, h3⟩
  have HRW0 := Lib.hid hrow0
  clear hrow0
  have hcs : cs.length ≤ 4096 := by have h1 := HOK.out.len; have h2 : W * H ≤ 64 * 64 := Nat.mul_le_mul b2 b4; dsimp only at h1; omega
  have HI0 : Hid (DwI w (w2.alloc (.cells #[.int .i64 g, .int .i64 (AW : Int), .int .i64 (BH : Int), .slice none 0 0] 24)) w2.heap.size [.int .i64 g, .int .i64 (W : Int), .int .i64 (H : Int), .slice A cs.length cc] g (AW : Int) (BH : Int) (.slice none 0 0) (pr 0 0)) :=
    ⟨hxl, HX2.out.alloc _, Arr.new w2 _ 24, by rw [HR2.out.start]; exact World.ownsRow_nil _ _ _ _, below_al HB2.out (Nat.le_refl _) _⟩
  clear x0 x1 x2 x3 hm1 hm2 hm3 hm4 p5 p6 HX2 HB2 HX1 HB1
  generalize w2.alloc (.cells #[.int .i64 g, .int .i64 (AW : Int), .int .i64 (BH : Int), .slice none 0 0] 24) = w3 at *
  generalize w2.heap.size = nd at *
  have HCE : Hid (∀ (y : Nat) (W' : World), Below w.heap.size w W' → ∃ b0 o, A = some ⟨b0, o, none⟩ ∧ y % H * W + W ≤ cs.length ∧ ∀ j u, ((row y).map (Value.int .i64))[j]? = some u → W'.cell? ⟨b0, o + (y % H * W + j), none⟩ = some u) := by
    intro y W' hb
    have hm : y % H < H := Nat.mod_lt _ b3
    have h1 := HOK.out.at_ hm
    dsimp only at h1
    rw [Nat.succ_mul] at h1
    obtain ⟨b0, o, e, hs, hc⟩ := HRW0.out.at_ (by omega)
    exact ⟨b0, o, e, h1, fun j u hu => (World.cell?_of_block (a := ⟨b0, o + (y % H * W + j), none⟩) (hb.block b0 (HSS.out b0 hs))).trans (hc _ u (HR2.out.cell y j u hu))⟩
  go_wp2_with fail
  go_loopg [8] BH (fun gg yv wr => ∃ (y : Nat) (u : Value), y ≤ BH ∧ gg = BH - y ∧ yv = .int .i64 (y : Int) ∧ DwI w wr nd [.int .i64 g, .int .i64 (W : Int), .int .i64 (H : Int), .slice A cs.length cc] g (AW : Int) (BH : Int) u (pr y 0))
  case atStart => exact ⟨0, _, Nat.zero_le _, rfl, rfl, HI0.out⟩
  case round =>
    clear HI0
    obtain ⟨y, u, hy, rfl, rfl, hi⟩ := hrel
    have HI := Lib.hid hi
    clear hi
    rename World => w4
    have d2 := HI.out.rd.cell (k := 2) rfl
    by_cases hlt : y < BH
    case neg =>
      obtain rfl : y = BH := by omega
      obtain ⟨Au, cu, rfl, _, _⟩ := own_form HI.out.own
      have HOKD : Hid (OkC ⟨g, (AW : Int), (y : Int), pr y 0⟩ AW y) := by
        have h := HRP.out.ok'
        rw [HAW.out, HBH.out, HD.out] at h
        exact h
      have x0 := HI.out.bx.cell (k := 0) rfl
      have x1 := HI.out.bx.cell (k := 1) rfl
      have x2 := HI.out.bx.cell (k := 2) rfl
      have x3 := HI.out.bx.cell (k := 3) rfl
      have HP1 := Lib.hid (Print_any w4 (HV.out.same fun b k => HI.out.below.block b (HSS.out b k)) (fun b k => Nat.lt_of_lt_of_le (HSS.out b k) HI.out.below.size) HOK.out)
      go_wp2_with fail
      refine HP1.out.mono ?_
      rintro e w5 ⟨rfl, k5⟩
      have HR5 := Lib.hid (HI.out.rd.of_eq (k5.block _ HI.out.rd.lt))
      have HO5 := Lib.hid (own_below HI.out.own k5 (Nat.le_refl _))
      have HB5 := Lib.hid (HI.out.below.trans (k5.mono HI.out.below.size))
      clear k5 x0 x1 x2 x3 HP1
      have d0 := HR5.out.cell (k := 0) rfl
      have d1 := HR5.out.cell (k := 1) rfl
      have d2 := HR5.out.cell (k := 2) rfl
      have d3 := HR5.out.cell (k := 3) rfl
      have HP2 := Lib.hid (Print_any (S := fun b => nd + 1 ≤ b ∧ b < w5.heap.size) (c := ⟨g, (AW : Int), (y : Int), pr y 0⟩) w5 ⟨_, rfl, Ints.of_own HO5.out⟩ (fun b k => k.2) HOKD.out)
      go_wp2_with fail
      refine HP2.out.mono ?_
      rintro e w6 ⟨rfl, k6⟩
      have HB6 := Lib.hid (HB5.out.trans (k6.mono HB5.out.size))
      clear k6 d0 d1 d2 d3 HP2 HI HR5 HO5
      have HM1 := Lib.hid (make_told w6 (HT.out.below HB6.out hw2) HOK.out)
      go_wp2_with fail
      refine HM1.out.mono ?_
      rintro e w7 ⟨k7, nm, p, a1, n1, k1, sh, td, a2, n2, k2, a3, n3, k3, hgg, a4, n4, k4, dn, al, ca, er, rfl, hmr⟩
      have HMR := Lib.hid hmr
      have HB7 := Lib.hid (HB6.out.trans (k7.mono HB6.out.size))
      clear hmr k7 HM1
      go_upto_region 19 with fail
      have HA := Lib.hid ((Arr.new w7 #[.string nm, .int .i64 p, .slice a1 n1 k1, .int .i64 sh, .int .i64 td, .slice a2 n2 k2, .slice a3 n3 k3, .bool hgg, .slice a4 n4 k4, .int .i64 dn, .int .i64 al, .string ca] 36).alloc (.cells #[.int .i64 er, .int .i64 0] 38))
      have HF := Lib.hid (arr_new2 w7 (.cells #[.string nm, .int .i64 p, .slice a1 n1 k1, .int .i64 sh, .int .i64 td, .slice a2 n2 k2, .slice a3 n3 k3, .bool hgg, .slice a4 n4 k4, .int .i64 dn, .int .i64 al, .string ca] 36) #[.int .i64 er, .int .i64 0] 38)
      have HB8 := Lib.hid (below_al (below_al HB7.out (Nat.le_refl _) (.cells #[.string nm, .int .i64 p, .slice a1 n1 k1, .int .i64 sh, .int .i64 td, .slice a2 n2 k2, .slice a3 n3 k3, .bool hgg, .slice a4 n4 k4, .int .i64 dn, .int .i64 al, .string ca] 36)) (Nat.le_refl _) (.cells #[.int .i64 er, .int .i64 0] 38))
      generalize (w7.alloc (.cells #[.string nm, .int .i64 p, .slice a1 n1 k1, .int .i64 sh, .int .i64 td, .slice a2 n2 k2, .slice a3 n3 k3, .bool hgg, .slice a4 n4 k4, .int .i64 dn, .int .i64 al, .string ca] 36)).alloc (.cells #[.int .i64 er, .int .i64 0] 38) = w8 at *
      generalize w7.heap.size = na at *
      have HM2 := Lib.hid (make_told w8 (HT.out.below HB8.out hw2) HOKD.out)
      go_wp2_with fail
      refine HM2.out.mono ?_
      rintro e w9 ⟨k9, nm', p', a1', n1', k1', sh', td', a2', n2', k2', a3', n3', k3', hgg', a4', n4', k4', dn', al', ca', er', rfl, hmr'⟩
      have HTW : Hid ((er' = 0 ∨ er' = 4) ∧ (er = 0 ∨ er' = 4) ∧ (er' = 0 → er = 0 ∧ nm = nm' ∧ sh = sh' ∧ td = td' ∧ hgg = hgg' ∧ dn = dn' ∧ al = al')) := by
        refine told_two HRP.out HMR.out ?_
        rw [HAW.out, HBH.out, HD.out]
        exact hmr'
      have HA9 := Lib.hid (HA.out.of_eq (k9.block _ HA.out.lt))
      have HF9 := Lib.hid (HF.out.of_eq (k9.block _ HF.out.lt))
      have HB9 := Lib.hid (HB8.out.trans (k9.mono HB8.out.size))
      clear hmr' k9 HM2 HA HF
      go_upto_region 20 with fail
      have HC := Lib.hid ((Arr.new w9 #[.string nm', .int .i64 p', .slice a1' n1' k1', .int .i64 sh', .int .i64 td', .slice a2' n2' k2', .slice a3' n3' k3', .bool hgg', .slice a4' n4' k4', .int .i64 dn', .int .i64 al', .string ca'] 36).alloc (.cells #[.int .i64 er', .int .i64 0] 38))
      have HG := Lib.hid (arr_new2 w9 (.cells #[.string nm', .int .i64 p', .slice a1' n1' k1', .int .i64 sh', .int .i64 td', .slice a2' n2' k2', .slice a3' n3' k3', .bool hgg', .slice a4' n4' k4', .int .i64 dn', .int .i64 al', .string ca'] 36) #[.int .i64 er', .int .i64 0] 38)
      have HAA := Lib.hid ((HA9.out.alloc (.cells #[.string nm', .int .i64 p', .slice a1' n1' k1', .int .i64 sh', .int .i64 td', .slice a2' n2' k2', .slice a3' n3' k3', .bool hgg', .slice a4' n4' k4', .int .i64 dn', .int .i64 al', .string ca'] 36)).alloc (.cells #[.int .i64 er', .int .i64 0] 38))
      have HFA := Lib.hid ((HF9.out.alloc (.cells #[.string nm', .int .i64 p', .slice a1' n1' k1', .int .i64 sh', .int .i64 td', .slice a2' n2' k2', .slice a3' n3' k3', .bool hgg', .slice a4' n4' k4', .int .i64 dn', .int .i64 al', .string ca'] 36)).alloc (.cells #[.int .i64 er', .int .i64 0] 38))
      have HBA := Lib.hid (below_al (below_al HB9.out (Nat.le_refl _) (.cells #[.string nm', .int .i64 p', .slice a1' n1' k1', .int .i64 sh', .int .i64 td', .slice a2' n2' k2', .slice a3' n3' k3', .bool hgg', .slice a4' n4' k4', .int .i64 dn', .int .i64 al', .string ca'] 36)) (Nat.le_refl _) (.cells #[.int .i64 er', .int .i64 0] 38))
      generalize (w9.alloc (.cells #[.string nm', .int .i64 p', .slice a1' n1' k1', .int .i64 sh', .int .i64 td', .slice a2' n2' k2', .slice a3' n3' k3', .bool hgg', .slice a4' n4' k4', .int .i64 dn', .int .i64 al', .string ca'] 36)).alloc (.cells #[.int .i64 er', .int .i64 0] 38) = wA at *
      generalize w9.heap.size = nb at *
      clear HA9 HF9 HB9 HB8 HB7 HB6 HB5
      have f0 := HFA.out.cell (k := 0) rfl
      have g0 := HG.out.cell (k := 0) rfl
      obtain ⟨t1, t2, t3⟩ := HTW.out
      rcases t1 with rfl | rfl
      · obtain ⟨rfl, rfl, rfl, rfl, rfl, rfl, rfl⟩ := t3 rfl
        clear t2 t3 HTW HMR
        have y0 := HAA.out.cell (k := 0) rfl
        have y3 := HAA.out.cell (k := 3) rfl
        have y4 := HAA.out.cell (k := 4) rfl
        have y7 := HAA.out.cell (k := 7) rfl
        have y9 := HAA.out.cell (k := 9) rfl
        have y10 := HAA.out.cell (k := 10) rfl
        have z0 := HC.out.cell (k := 0) rfl
        have z3 := HC.out.cell (k := 3) rfl
        have z4 := HC.out.cell (k := 4) rfl
        have z7 := HC.out.cell (k := 7) rfl
        have z9 := HC.out.cell (k := 9) rfl
        have z10 := HC.out.cell (k := 10) rfl
        go_wp2_with fail
        go_ret
        refine ⟨?_, HBA.out⟩
        rfl
      · by_cases he : er = 0
        · subst he
          clear t2 t3 HTW HMR
          go_wp2_with fail
          go_ret
          exact ⟨rfl, HBA.out⟩
        · have q : (er != 0) = true := by simpa using he
          clear t2 t3 HTW HMR
          go_wp2_with fail
          go_ret
          exact ⟨rfl, HBA.out⟩
    go_wp2_with fail
    clear d2
    go_loopg [9] a (fun gg iv wr => ∃ (i : Nat) (u : Value), i ≤ a ∧ gg = a - i ∧ iv = .int .i64 (i : Int) ∧ DwI w wr nd [.int .i64 g, .int .i64 (W : Int), .int .i64 (H : Int), .slice A cs.length cc] g (AW : Int) (BH : Int) u (pr y i))
    case atStart => exact ⟨0, u, Nat.zero_le _, rfl, rfl, HI.out⟩
    case round =>
      clear HI
      obtain ⟨i, u, hi, rfl, rfl, hI⟩ := hrel
      have HI := Lib.hid hI
      clear hI
      rename World => w5
      by_cases hli : i < a
      case neg =>
        obtain rfl : i = a := by omega
        go_wp2_with fail
        go_roundg (BH - (y + 1))
        case measure => omega
        case rel => exact ⟨y + 1, u, by omega, rfl, by go_num, by rw [← HR2.out.next]; exact HI.out⟩
      obtain ⟨b0, o, rfl, hat, hce⟩ := HCE.out y w5 HI.out.below
      have HCJ := Lib.hid hce
      have x1 := HI.out.bx.cell (k := 1) rfl
      have x2 := HI.out.bx.cell (k := 2) rfl
      have x3 := HI.out.bx.cell (k := 3) rfl
      obtain ⟨Au, cu, rfl, _, _⟩ := own_form HI.out.own
      have d3 := HI.out.rd.cell (k := 3) rfl
      have hmod : (y : Int).tmod (H : Int) = ((y % H : Nat) : Int) := by rw [Int.tmod_eq_emod_of_nonneg (by omega)]; simp
      have hHz : ¬ (H : Int) = 0 := by omega
      have hsz := HR2.out.size y i (by rw [HBH.out]; exact hlt) (by omega)
      clear hce
      generalize y % H = ym at *
      have hyw : ym * W ≤ 100000 := by omega
      have hw1 := w64_mul hyw
      have hw2 := i64_mul hyw
      generalize ym * W = yw at *
      go_upto_region 13 with (go_quiet (fail))
      clear hw1 hw2 hmod hHz hyw x2
      have hsl := fun wx => run_slice22 b0 o cs.length cc yw W wx hat hcl b1
      have HLT := Lib.hid HI.out.lt
      have HID := Lib.hid (HI.out.dN (nq + 1))
      have hnd : nd + 1 ≤ (w5.drewN (nq + 1)).heap.size := HID.out.rd.lt
      have HCK : Hid (∀ j u, ((row y).map (Value.int .i64))[j]? = some u → (w5.drewN (nq + 1)).cell? ⟨b0, o + yw + j, none⟩ = some u) := fun j u hu => by
        rw [Nat.add_assoc]
        exact HCJ.out j u hu
      have HRL := Lib.hid (HR2.out.len y)
      have HST := Lib.hid (HR2.out.step y i)
      have hsz5 : (pr y i).length ≤ 5000 := hsz
      have hyW : yw + W ≤ 100000 := by omega
      obtain ⟨hw3, hw4⟩ := sum_wraps hyW
      clear hyW
      refine wp_region_plan [(true, 0), (true, 1), (true, 2), (true, 3), (true, 4), (true, 5), (true, 6), (true, 7), (true, 8), (true, 9), (false, 10), (false, 11), (false, 12)] 12
        (fun w' => w'.cell? ⟨nd, 3, none⟩ = some (.slice Au (pr y i).length cu) ∧ w'.cell? ⟨w.heap.size, 3, none⟩ = some (.slice (some ⟨b0, o, none⟩) cs.length cc) ∧ w'.cell? ⟨w.heap.size, 1, none⟩ = some (.int .i64 (W : Int)))
        (by kernel_rfl) (by kernel_rfl) (by kernel_rfl) rfl ⟨d3, x3, x1⟩ ?_
      repeat (first
        | (refine plan_val _ ?_ (by rfl) (by rfl) ?_ ?_
           rotate_left 1
           · rintro w9 ⟨s0, s1, s2⟩; go_simp; first | done | with_reducible rfl
           (try simp only [Act.put, List.setIfInBounds_toArray, List.set_cons_zero, List.set_cons_succ])))
      clear hw3 hw4 hsl
      refine plan_app _ T22d (w0 := w5.drewN (nq + 1)) ((row y).map (Value.int .i64)) HID.out.own (Below.refl _ _) hnd (by rfl) (by rfl) rfl rfl rfl (by rw [List.length_map, HRL.out, Nat.mul_one]) HCK.out (by simp [Value.oneCell']) (by omega) ?_
      intro v1 w8 hown1 hb1 hg1 ho1
      obtain ⟨A2, c2, rfl, _, _⟩ := own_form hown1
      have HB8 := Lib.hid hb1
      have HR8 := Lib.hid (HID.out.rd.of_eq (hb1.block nd (by omega)))
      have HX8 := Lib.hid (HID.out.bx.of_eq (hb1.block w.heap.size (by have := HLT.out; omega)))
      have HOW8 : Hid (w8.ownsRow (nd + 1) 3 1 (.slice A2 ((pr y i).length + W) c2) (pr y (i + 1)).length ((pr y (i + 1)).map (Value.int .i64))) := by
        show World.ownsRow ..
        rw [HST.out, List.length_append, HRL.out, List.map_append]
        exact hown1
      clear hown1 hb1 hg1 ho1 d3 x1 x3
      have t0 := HR8.out.cell (k := 3) rfl
      have t1 := HX8.out.cell (k := 3) rfl
      have t2 := HX8.out.cell (k := 1) rfl
      have t3 := HR8.out.free 3
      refine ⟨.inr ⟨t0, t1, t2⟩, ?_⟩
      (try simp only [Act.put, List.setIfInBounds_toArray, List.set_cons_zero, List.set_cons_succ])
      refine plan_do _ ?_ ?_ (by rfl) (by rfl) ?_ (.inr ?_) ?_
      rotate_left 2
      · go_simp; first | rfl | (refine And.intro ?_ ?_ <;> rfl)
      · exact ⟨t0, t1, t2⟩
      (try simp only [Act.put, List.setIfInBounds_toArray, List.set_cons_zero, List.set_cons_succ])
      refine plan_store _ ?_ (by rfl) (by rfl) ?_ (.inl rfl) ?_
      rotate_left 1
      · go_simp; first | rfl | (refine And.intro ?_ ?_ <;> rfl)
      refine plan_end ?_
      (try simp only [Act.put, List.setIfInBounds_toArray, List.set_cons_zero, List.set_cons_succ])
      clear t0 t1 t2 t3
      go_wp2_with fail
      go_roundg (a - (i + 1))
      case measure => omega
      case rel => exact ⟨i + 1, _, by omega, rfl, by go_num, HID.out.setU HB8.out HOW8.out⟩
end Go.Proofs.YtmmakljmikdooaaDoor
