/- Texts of the seat, put together: HouseWalk2, Rep4. -/
import Derived.Test.YtmmakljmikdooaaDoorTw20
import Derived.Test.YtmmakljmikdooaaDoorTw15
/- Chapter 9: the program's weave. -/
namespace Go.Proofs.YtmmakljmikdooaaDoor
open Go.RowKit
set_option linter.unusedVariables false
set_option linter.unusedSimpArgs false

/-- the cells of what is made -/
def madeL (ks : ByteArray) (p : Int) (th bi tr : Value) (sh td : Int) (hg : Bool) (li : Value) (dn al : Int) (ca : ByteArray) : List Value :=
  [.string ks, .int .i64 p, th, .int .i64 sh, .int .i64 td, bi, tr, .bool hg, li, .int .i64 dn, .int .i64 al, .string ca]
def nilS : Value := .slice none 0 0
/-- the call's own memory, the out block apart -/
structure WvI (w W : World) (pb : Nat) (box cells : List Value) : Prop where
  lt : pb < w.heap.size
  bx : Arr W w.heap.size 32 box
  out : Arr W pb 36 cells
  gb : w.grownBy W (some pb)
theorem WvI.next {w W W' : World} {pb : Nat} {box cells : List Value} (h : WvI w W pb box cells) (hb : Below W.heap.size W W') : WvI w W' pb box cells :=
  ⟨h.lt, h.bx.of_eq (hb.block _ h.bx.lt), h.out.of_eq (hb.block _ h.out.lt), gb_below h.gb hb h.gb.size⟩
theorem WvI.set {w W : World} {pb k : Nat} {box cells : List Value} {v : Value} (h : WvI w W pb box cells) : WvI w (W.setCell ⟨pb, k, none⟩ v) pb box (cells.set k v) :=
  ⟨h.lt, h.bx.far (by have := h.lt; show _ ≠ pb; omega) _, h.out.set k v, gb_set h.gb⟩
theorem WvI.tr {w W : World} {pb : Nat} {box cells : List Value} {S : Nat → Prop} {v : Value} {m : Tr} (h : WvI w W pb box cells) (hv : TrR w S v m) (hS : ∀ b, S b → b < w.heap.size ∧ b ≠ pb) : TrR W S v m :=
  hv.same fun b hb => h.gb.block b (hS b hb).1 (by intro e; injection e with e; exact (hS b hb).2 e)
set_option maxRecDepth 100000 in
set_option maxHeartbeats 4000000 in
theorem weave_any {S : Nat → Prop} {v : Value} {m : Tr} (w : World) (pb : Nat) (ks : ByteArray) (p : Int) (hv : TrR w S v m) (hS : ∀ b, S b → b < w.heap.size ∧ b ≠ pb) (hm : OkT m)
    (ho : Arr w pb 36 (madeL ks p nilS nilS nilS 0 0 false nilS 0 0 ⟨#[]⟩)) :
    Calls Tryd.prog 17 #[v, .pointer (some ⟨pb, 0, none⟩)] w fun e w' => e = .returned (.int .i64 0) ∧ ∃ th bi tr hg li ca, (hg = true ↔ Hangs m) ∧ (∃ a n c, th = .slice a n c) ∧ (∃ a n c, bi = .slice a n c) ∧ (∃ a n c, tr = .slice a n c) ∧ (∃ a n c, li = .slice a n c) ∧
      Arr w' pb 36 (madeL ks p th bi tr (shaftsF m) (treadF m) hg li (longF m.turned true) (longF m false) ca) ∧ w.grownBy w' (some pb) := by
  obtain ⟨A, c, rfl, h1, h2, _⟩ := hv.form
  have HSS := Lib.hid hS
  have HOK := Lib.hid hm
  have HV := Lib.hid hv
  have hpl := ho.lt
  have HI0 : Hid (WvI w (w.alloc (.cells #[.int .i64 (m.w : Int), .int .i64 (m.h : Int), .slice A m.bs.length c] 32)) pb [.int .i64 (m.w : Int), .int .i64 (m.h : Int), .slice A m.bs.length c] (madeL ks p nilS nilS nilS 0 0 false nilS 0 0 ⟨#[]⟩)) :=
    ⟨hpl, Arr.new w _ 32, ho.alloc _, World.grownBy_alloc _ _ _⟩
  have HT : Hid (∀ W box cells, WvI w W pb box cells → TrR W S (.agg #[.int .i64 (m.w : Int), .int .i64 (m.h : Int), .slice A m.bs.length c]) m ∧ ∀ b, S b → b < W.heap.size) := fun W box cells h =>
    ⟨h.tr HV.out HSS.out, fun b hb => Nat.lt_of_lt_of_le (HSS.out b hb).1 h.gb.size⟩
  clear hS hm hv ho
  generalize hr1 : longF m.turned true = r1 at *
  generalize hr2 : longF m false = r2 at *
  generalize hr3 : shaftsF m = r3 at *
  generalize hr4 : treadF m = r4 at *
  have HR1 := Lib.hid hr1
  have HR2 := Lib.hid hr2
  have HR3 := Lib.hid hr3
  have HR4 := Lib.hid hr4
  clear hr1 hr2 hr3 hr4
  unfold nilS at HI0
  go_enter Tryd.func17, Tryd.ntmps17
  go_upto_region 1 with fail
  generalize w.alloc (.cells #[.int .i64 (m.w : Int), .int .i64 (m.h : Int), .slice A m.bs.length c] 32) = w0 at *
  have x0 := HI0.out.bx.cell (k := 0) rfl
  have x1 := HI0.out.bx.cell (k := 1) rfl
  have x2 := HI0.out.bx.cell (k := 2) rfl
  go_wp2_with fail
  refine (Fewest_any w0 (HT.out _ _ _ HI0.out).1 (HT.out _ _ _ HI0.out).2 HOK.out).mono ?_
  rintro e w1 ⟨a0, n0, c0, a3, n3, c3, a4, n4, c4, rfl, k1⟩
  have HI1 := Lib.hid (HI0.out.next k1)
  clear k1 x0 x1 x2 HI0
  rw [HR3.out, HR4.out]
  have y2 := HI1.out.out.cell (k := 2) rfl
  have y3 := HI1.out.out.cell (k := 3) rfl
  have y4 := HI1.out.out.cell (k := 4) rfl
  have y5 := HI1.out.out.cell (k := 5) rfl
  have y6 := HI1.out.out.cell (k := 6) rfl
  have f2 := HI1.out.out.free 2
  have f3 := HI1.out.out.free 3
  have f4 := HI1.out.out.free 4
  have f5 := HI1.out.out.free 5
  have f6 := HI1.out.out.free 6
  go_upto_region 4 with fail
  have HI2 : Hid (WvI w (((((w1.setCell ⟨pb, 2, none⟩ (.slice a0 n0 c0)).setCell ⟨pb, 3, none⟩ (.int .i64 (r3 : Int))).setCell ⟨pb, 4, none⟩ (.int .i64 (r4 : Int))).setCell ⟨pb, 5, none⟩ (.slice a3 n3 c3)).setCell ⟨pb, 6, none⟩ (.slice a4 n4 c4)) pb [.int .i64 (m.w : Int), .int .i64 (m.h : Int), .slice A m.bs.length c] (madeL ks p (.slice a0 n0 c0) (.slice a3 n3 c3) (.slice a4 n4 c4) (r3 : Int) (r4 : Int) false (.slice none 0 0) 0 0 ⟨#[]⟩)) := (((((HI1.out.set (k := 2) (v := .slice a0 n0 c0)).set (k := 3) (v := .int .i64 (r3 : Int))).set (k := 4) (v := .int .i64 (r4 : Int))).set (k := 5) (v := .slice a3 n3 c3)).set (k := 6) (v := .slice a4 n4 c4))
  clear y2 y3 y4 y5 y6 f2 f3 f4 f5 f6 HI1
  generalize ((((w1.setCell ⟨pb, 2, none⟩ (.slice a0 n0 c0)).setCell ⟨pb, 3, none⟩ (.int .i64 (r3 : Int))).setCell ⟨pb, 4, none⟩ (.int .i64 (r4 : Int))).setCell ⟨pb, 5, none⟩ (.slice a3 n3 c3)).setCell ⟨pb, 6, none⟩ (.slice a4 n4 c4) = w2 at *
  have x0 := HI2.out.bx.cell (k := 0) rfl
  have x1 := HI2.out.bx.cell (k := 1) rfl
  have x2 := HI2.out.bx.cell (k := 2) rfl
  go_wp2_with fail
  refine (Lift_any w2 (HT.out _ _ _ HI2.out).1 (HT.out _ _ _ HI2.out).2 HOK.out).mono ?_
  rintro e w3 ⟨a5, n5, c5, rfl, hhg, k1⟩
  have HHG := Lib.hid hhg
  have HI3 := Lib.hid (HI2.out.next k1)
  clear hhg k1 x0 x1 x2 HI2
  have y8 := HI3.out.out.cell (k := 8) rfl
  have f8 := HI3.out.out.free 8
  go_upto_region 7 with fail
  have HI4 : Hid (WvI w (w3.setCell ⟨pb, 8, none⟩ (.slice a5 n5 c5)) pb [.int .i64 (m.w : Int), .int .i64 (m.h : Int), .slice A m.bs.length c] (madeL ks p (.slice a0 n0 c0) (.slice a3 n3 c3) (.slice a4 n4 c4) (r3 : Int) (r4 : Int) false (.slice a5 n5 c5) 0 0 ⟨#[]⟩)) := HI3.out.set (k := 8) (v := .slice a5 n5 c5)
  clear y8 f8 HI3
  generalize w3.setCell ⟨pb, 8, none⟩ (.slice a5 n5 c5) = w4 at *
  have y8 := HI4.out.out.cell (k := 8) rfl
  have y7 := HI4.out.out.cell (k := 7) rfl
  have f7 := HI4.out.out.free 7
  go_upto_region 8 with fail
  have HI5 : Hid (WvI w (w4.setCell ⟨pb, 7, none⟩ (.bool ((n5 : Int) == 0))) pb [.int .i64 (m.w : Int), .int .i64 (m.h : Int), .slice A m.bs.length c] (madeL ks p (.slice a0 n0 c0) (.slice a3 n3 c3) (.slice a4 n4 c4) (r3 : Int) (r4 : Int) ((n5 : Int) == 0) (.slice a5 n5 c5) 0 0 ⟨#[]⟩)) := HI4.out.set (k := 7) (v := .bool ((n5 : Int) == 0))
  clear y8 y7 f7 HI4
  generalize w4.setCell ⟨pb, 7, none⟩ (.bool ((n5 : Int) == 0)) = w5 at *
  have HHB : Hid ((((n5 : Int) == 0) = true) ↔ Hangs m) := by
    show _ ↔ _
    rw [← HHG.out, beq_iff_eq]
    omega
  generalize ((n5 : Int) == 0) = hb at *
  have x0 := HI5.out.bx.cell (k := 0) rfl
  have x1 := HI5.out.bx.cell (k := 1) rfl
  have x2 := HI5.out.bx.cell (k := 2) rfl
  go_wp2_with fail
  refine (Floats_any w5 (HT.out _ _ _ HI5.out).1 (HT.out _ _ _ HI5.out).2 HOK.out).mono ?_
  rintro e w6 ⟨rfl, k1⟩
  rw [HR1.out, HR2.out]
  have HI6 := Lib.hid (HI5.out.next k1)
  clear k1 x0 x1 x2 HI5
  have y9 := HI6.out.out.cell (k := 9) rfl
  have y10 := HI6.out.out.cell (k := 10) rfl
  have f9 := HI6.out.out.free 9
  have f10 := HI6.out.out.free 10
  go_upto_region 11 with fail
  have HI7 : Hid (WvI w ((w6.setCell ⟨pb, 9, none⟩ (.int .i64 r1)).setCell ⟨pb, 10, none⟩ (.int .i64 r2)) pb [.int .i64 (m.w : Int), .int .i64 (m.h : Int), .slice A m.bs.length c] (madeL ks p (.slice a0 n0 c0) (.slice a3 n3 c3) (.slice a4 n4 c4) (r3 : Int) (r4 : Int) hb (.slice a5 n5 c5) r1 r2 ⟨#[]⟩)) := (HI6.out.set (k := 9) (v := .int .i64 r1)).set (k := 10) (v := .int .i64 r2)
  clear y9 y10 f9 f10 HI6
  generalize (w6.setCell ⟨pb, 9, none⟩ (.int .i64 r1)).setCell ⟨pb, 10, none⟩ (.int .i64 r2) = w7 at *
  have x0 := HI7.out.bx.cell (k := 0) rfl
  have x1 := HI7.out.bx.cell (k := 1) rfl
  have x2 := HI7.out.bx.cell (k := 2) rfl
  go_wp2_with fail
  refine (Pack_any w7 (HT.out _ _ _ HI7.out).1 (HT.out _ _ _ HI7.out).2 HOK.out).mono ?_
  rintro e w8 ⟨⟨cs8, rfl⟩, k1⟩
  have HI8 := Lib.hid (HI7.out.next k1)
  clear k1 x0 x1 x2 HI7
  have y11 := HI8.out.out.cell (k := 11) rfl
  have f11 := HI8.out.out.free 11
  go_wp2_with fail
  have HI9 : Hid (WvI w (w8.setCell ⟨pb, 11, none⟩ (.string cs8)) pb [.int .i64 (m.w : Int), .int .i64 (m.h : Int), .slice A m.bs.length c] (madeL ks p (.slice a0 n0 c0) (.slice a3 n3 c3) (.slice a4 n4 c4) (r3 : Int) (r4 : Int) hb (.slice a5 n5 c5) r1 r2 cs8)) := HI8.out.set (k := 11) (v := .string cs8)
  clear y11 f11 HI8
  go_ret
  exact ⟨rfl, _, _, _, hb, _, cs8, HHB.out, ⟨_, _, _, rfl⟩, ⟨_, _, _, rfl⟩, ⟨_, _, _, rfl⟩, ⟨_, _, _, rfl⟩, HI9.out.out, HI9.out.gb⟩
end Go.Proofs.YtmmakljmikdooaaDoor
/- Chapter 7, plain: a cloth drawn several times hangs together just so. -/
namespace Go.Proofs.YtmmakljmikdooaaDoor
set_option linter.unusedVariables false

theorem above_bit (m : Tr) (a b : Nat) : aboveF m a b = if a < m.w ∧ m.w ≤ b then m.bit a (b - m.w) else if m.w ≤ a ∧ b < m.w then !m.bit b (a - m.w) else false := rfl
/-- the strand that is drawn again -/
def projS (m m' : Tr) (e : Nat) : Nat := if e < m'.w then e % m.w else m.w + (e - m'.w) % m.h
section
variable {m m' : Tr} {a b : Nat}
theorem RepT.projLt (h : RepT m m' a b) (e : Nat) : projS m m' e < m.w + m.h := by
  have p1 : e % m.w < m.w := Nat.mod_lt _ h.ok.W1
  have p2 : (e - m'.w) % m.h < m.h := Nat.mod_lt _ h.ok.H1
  unfold projS
  split <;> omega
theorem RepT.above (h : RepT m m' a b) {x y : Nat} (hx : x < m'.w + m'.h) (hy : y < m'.w + m'.h) : aboveF m' x y = aboveF m (projS m m' x) (projS m m' y) := by
  have p1 := fun e => Nat.mod_lt e h.ok.W1
  rw [above_bit, above_bit]
  unfold projS
  rcases Nat.lt_or_ge x m'.w with k1 | k1
  · rw [if_pos k1]
    have q1 := p1 x
    rcases Nat.lt_or_ge y m'.w with k2 | k2
    · rw [if_pos k2]
      have q2 := p1 y
      rw [if_neg (by omega), if_neg (by omega), if_neg (by omega), if_neg (by omega)]
    · rw [if_neg (Nat.not_lt.2 k2), if_pos ⟨k1, k2⟩, if_pos ⟨q1, by omega⟩, h.bit x (y - m'.w) k1 (by omega)]
      congr 1
      omega
  · rw [if_neg (Nat.not_lt.2 k1)]
    rcases Nat.lt_or_ge y m'.w with k2 | k2
    · rw [if_pos k2]
      have q2 := p1 y
      rw [if_neg (by omega), if_pos ⟨k1, k2⟩, if_neg (by omega), if_pos ⟨by omega, q2⟩, h.bit y (x - m'.w) k2 (by omega)]
      congr 2
      omega
    · rw [if_neg (Nat.not_lt.2 k2), if_neg (by omega), if_neg (by omega), if_neg (by omega), if_neg (by omega)]
theorem RepT.down (h : RepT m m' a b) {s e : Nat} (hr : Reach m' s e) : Reach m (projS m m' s) (projS m m' e) := by
  induction hr with
  | refl hs => exact .refl (h.projLt _)
  | step hb ha hab ih => exact .step ih (h.projLt _) (by rw [← h.above ha hb.lt]; exact hab)
/-- by at least one step -/
inductive Reach1 (m : Tr) (s : Nat) : Nat → Prop
  | one {a : Nat} : s < m.w + m.h → a < m.w + m.h → aboveF m a s = true → Reach1 m s a
  | step {a b : Nat} : Reach1 m s b → a < m.w + m.h → aboveF m a b = true → Reach1 m s a
theorem reach_one {s e : Nat} (h : Reach m s e) (hne : s ≠ e) : Reach1 m s e := by
  induction h with
  | refl _ => exact absurd rfl hne
  | @step x y hb ha hab ih =>
    by_cases k : s = y
    · subst k; exact .one hb.lt ha hab
    · exact .step (ih k) ha hab
theorem reach1_trans {s t e : Nat} (h : Reach1 m s t) (k : Reach m t e) : Reach1 m s e := by
  induction k with
  | refl _ => exact h
  | step _ ha hab ih => exact .step ih ha hab
theorem Hangs.one (hm : OkT m) (h : Hangs m) {s e : Nat} (hs : s < m.w + m.h) (he : e < m.w + m.h) : Reach1 m s e := by
  have h1 := hm.W1
  have h2 := hm.H1
  obtain ⟨z, hz, hne⟩ : ∃ z, z < m.w + m.h ∧ s ≠ z := by
    rcases Nat.eq_zero_or_pos s with k | k
    · exact ⟨1, by omega, by omega⟩
    · exact ⟨0, by omega, by omega⟩
  exact reach1_trans (reach_one (h s z hs hz) hne) (h z e hz he)
theorem RepT.liftS (h : RepT m m' a b) {z : Nat} (hz : z < m.w + m.h) : ∃ e, e < m'.w + m'.h ∧ projS m m' e = z := by
  have hw : m.w ≤ m'.w := by rw [h.w]; exact Nat.le_mul_of_pos_left _ h.a1
  have hh : m.h ≤ m'.h := by rw [h.h]; exact Nat.le_mul_of_pos_left _ h.b1
  rcases Nat.lt_or_ge z m.w with k | k
  · refine ⟨z, by omega, ?_⟩
    unfold projS
    rw [if_pos (by omega), Nat.mod_eq_of_lt k]
  · refine ⟨m'.w + (z - m.w), by omega, ?_⟩
    unfold projS
    rw [if_neg (by omega), Nat.add_sub_cancel_left, Nat.mod_eq_of_lt (by omega)]
    omega
theorem RepT.up (h : RepT m m' a b) {s e : Nat} (hr : Reach1 m s e) : ∀ s' e', s' < m'.w + m'.h → e' < m'.w + m'.h → projS m m' s' = s → projS m m' e' = e → Reach m' s' e' := by
  induction hr with
  | one _ _ hab =>
    intro s' e' hs' he' p1 p2
    refine .step (.refl hs') he' ?_
    rw [h.above he' hs', p1, p2]
    exact hab
  | @step x y hb _ hab ih =>
    intro s' e' hs' he' p1 p2
    have hy : y < m.w + m.h := by cases hb <;> assumption
    obtain ⟨y', hy', p3⟩ := h.liftS hy
    refine .step (ih s' y' hs' hy' p1 p3) he' ?_
    rw [h.above he' hy', p2, p3]
    exact hab
theorem RepT.hangs (h : RepT m m' a b) : Hangs m' ↔ Hangs m := by
  constructor
  · intro k s e hs he
    obtain ⟨s', hs', rfl⟩ := h.liftS hs
    obtain ⟨e', he', rfl⟩ := h.liftS he
    exact h.down (k s' e' hs' he')
  · intro k s e hs he
    exact h.up (k.one h.ok (h.projLt s) (h.projLt e)) s e hs he rfl rfl
end
/-- d is c, a times to the side, b times up -/
structure RepC (c d : Ch) (W H a b : Nat) : Prop where
  ok : OkC c W H
  ok' : OkC d (a * W) (b * H)
  a1 : 1 ≤ a
  b1 : 1 ≤ b
  g : d.g = c.g
  cell : ∀ x y, x < a * W → y < b * H → d.cs[y * (a * W) + x]? = c.cs[(y % H) * W + x % W]?
theorem RepC.raised {c d : Ch} {W H a b : Nat} (h : RepC c d W H a b) : RepT (raisedF c W H) (raisedF d (a * W) (b * H)) a b where
  ok := h.ok.raised
  ok' := h.ok'.raised
  a1 := h.a1
  b1 := h.b1
  w := rfl
  h := rfl
  bit := fun x y hx hy => by
    unfold Tr.bit raisedF
    dsimp only
    rw [List.getD, List.getD, List.getElem?_map, List.getElem?_map, h.cell x y hx hy]
end Go.Proofs.YtmmakljmikdooaaDoor
