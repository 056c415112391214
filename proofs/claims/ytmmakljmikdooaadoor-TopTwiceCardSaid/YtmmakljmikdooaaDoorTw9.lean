/- Texts of the seat, put together: GroupWalkA, GroupWalkB. -/
import Derived.Test.YtmmakljmikdooaaDoorTw8
/- Chapter 3: the program's Finest. -/
namespace Go.Proofs.YtmmakljmikdooaaDoor
open Go.RowKit
set_option linter.unusedVariables false
set_option linter.unusedSimpArgs false

/-- the finest steps that are in K -/
structure FinP (K : Pt → Prop) (X x Y : Int) : Prop where
  X1 : 1 ≤ X
  kX : K ⟨X, 0⟩
  nX : ∀ k, 1 ≤ k → k < X → ¬ K ⟨k, 0⟩
  Y1 : 1 ≤ Y
  x0 : 0 ≤ x
  xX : x < X
  kY : K ⟨x, Y⟩
  nY : ∀ y k, 1 ≤ y → y < Y → 0 ≤ k → k < X → ¬ K ⟨k, y⟩
  nx : ∀ k, 0 ≤ k → k < x → ¬ K ⟨k, Y⟩
/-- a step of a chart -/
def stepC (c : Ch) (W H : Nat) (b : Pt) : Prop := keepsF (tor W H) (layF W H c.cs (tor W H)) (imgF c.g (tor W H) 0 false) b
theorem pl_add {n : Nat} (hn : 1 ≤ n) {p : Nat} (hp : p < n * n) (k l : Int) : pl n (addP (pt n p) ⟨n * k, n * l⟩) = p := by
  have : pl n (addP (pt n p) ⟨n * k, n * l⟩) = pl n (pt n p) := by
    unfold pl addP
    dsimp only
    rw [Int.add_mul_emod_self_left, Int.add_mul_emod_self_left]
  rw [this, pl_pt hp]
theorem keeps_n {g : Int} {n : Nat} {f : Nat → Int} (hn : 1 ≤ n) (k l : Int) : keepsF n f (imgF g n 0 false) ⟨n * k, n * l⟩ := by
  intro p hp
  have e : imgF g n 0 false p = p := by
    unfold imgF lin
    simp only [rot, Bool.false_eq_true, if_false]
    exact pl_pt hp
  rw [e, pl_add hn hp]
theorem img0_lt {g : Int} {n : Nat} (hn : 1 ≤ n) {t : Nat} {fl : Bool} : ∀ p, p < n * n → imgF g n t fl p < n * n := fun p _ => pl_lt hn _
/-- what the loops keep -/
structure FinS (w w4 wr : World) (X y0 y1 : Int) : Prop where
  side : Arr wr (w.heap.size + 1) 78 [.int .i64 X, .int .i64 0]
  up : Arr wr (w.heap.size + 1 + 1) 78 [.int .i64 y0, .int .i64 y1]
  old : ∀ b, w.heap.size + 2 < b → b < w4.heap.size → wr.heap[b]? = w4.heap[b]?
  size : w4.heap.size ≤ wr.heap.size
  below : Below w.heap.size w wr
theorem FinS.call {w w4 wr w' : World} {X y0 y1 : Int} (h : FinS w w4 wr X y0 y1) (hb : Below wr.heap.size wr w') : FinS w w4 w' X y0 y1 :=
  ⟨h.side.of_eq (hb.block _ h.side.lt), h.up.of_eq (hb.block _ h.up.lt), fun b h1 h2 => (hb.block b (Nat.lt_of_lt_of_le h2 h.size)).trans (h.old b h1 h2), Nat.le_trans h.size hb.size, h.below.trans (hb.mono h.below.size)⟩
theorem FinS.setX {w w4 wr : World} {X y0 y1 : Int} (h : FinS w w4 wr X y0 y1) (k : Int) : FinS w w4 (wr.setCell ⟨w.heap.size + 1, 0, none⟩ (.int .i64 k)) k y0 y1 :=
  ⟨h.side.set 0 _, h.up.far (by simp) _, fun b h1 h2 => (Below.heap_setCell _ _ _ _ (by show b ≠ w.heap.size + 1; omega)).trans (h.old b h1 h2), by simpa [World.setCell] using h.size, h.below.setCell (Nat.le_succ _) _⟩
theorem FinS.setY0 {w w4 wr : World} {X y0 y1 : Int} (h : FinS w w4 wr X y0 y1) (k : Int) : FinS w w4 (wr.setCell ⟨w.heap.size + 1 + 1, 0, none⟩ (.int .i64 k)) X k y1 :=
  ⟨h.side.far (by simp) _, h.up.set 0 _, fun b h1 h2 => (Below.heap_setCell _ _ _ _ (by show b ≠ w.heap.size + 1 + 1; omega)).trans (h.old b h1 h2), by simpa [World.setCell] using h.size, h.below.setCell (by show w.heap.size ≤ w.heap.size + 1 + 1; omega) _⟩
theorem FinS.setY1 {w w4 wr : World} {X y0 y1 : Int} (h : FinS w w4 wr X y0 y1) (k : Int) : FinS w w4 (wr.setCell ⟨w.heap.size + 1 + 1, 1, none⟩ (.int .i64 k)) X y0 k :=
  ⟨h.side.far (by simp) _, h.up.set 1 _, fun b h1 h2 => (Below.heap_setCell _ _ _ _ (by show b ≠ w.heap.size + 1 + 1; omega)).trans (h.old b h1 h2), by simpa [World.setCell] using h.size, h.below.setCell (by show w.heap.size ≤ w.heap.size + 1 + 1; omega) _⟩
set_option maxRecDepth 100000 in
set_option maxHeartbeats 4000000 in
theorem Finest_any {S : Nat → Prop} {v : Value} {c : Ch} {W H : Nat} (w : World) (hv : ChR w S v c) (hS : ∀ b, S b → b < w.heap.size) (hc : OkC c W H) (hT : tor W H ≤ 24) :
    Calls Tryd.prog 42 #[v] w fun e w' => Below w.heap.size w w' ∧ ∃ X x Y : Int, FinP (stepC c W H) X x Y ∧ X ≤ 24 ∧ Y ≤ 24 ∧ e = .returned (.tuple #[Pt.val ⟨X, 0⟩, Pt.val ⟨x, Y⟩, .int .i64 0]) := by
  have HV := Lib.hid hv
  have HSS := Lib.hid hS
  have HOK := Lib.hid hc
  obtain ⟨A, k, rfl⟩ := hv.form
  clear hS hc hv
  have HX := Lib.hid (((Arr.new w #[.int .i64 c.g, .int .i64 c.w, .int .i64 c.h, .slice A c.cs.length k] 24).alloc (.cells #[.int .i64 0, .int .i64 0] 78)).alloc (.cells #[.int .i64 0, .int .i64 0] 78))
  have HSI := Lib.hid ((arr_new2 w (.cells #[.int .i64 c.g, .int .i64 c.w, .int .i64 c.h, .slice A c.cs.length k] 24) #[.int .i64 0, .int .i64 0] 78).alloc (.cells #[.int .i64 0, .int .i64 0] 78))
  have HUP := Lib.hid (arr_new3 w (.cells #[.int .i64 c.g, .int .i64 c.w, .int .i64 c.h, .slice A c.cs.length k] 24) (.cells #[.int .i64 0, .int .i64 0] 78) #[.int .i64 0, .int .i64 0] 78)
  have HB0 := Lib.hid (al3 w (.cells #[.int .i64 c.g, .int .i64 c.w, .int .i64 c.h, .slice A c.cs.length k] 24) (.cells #[.int .i64 0, .int .i64 0] 78) (.cells #[.int .i64 0, .int .i64 0] 78))
  go_enter Tryd.func42, Tryd.ntmps42
  go_upto_region 1 with fail
  have HS0 : Hid ((((w.alloc (.cells #[.int .i64 c.g, .int .i64 c.w, .int .i64 c.h, .slice A c.cs.length k] 24)).alloc (.cells #[.int .i64 0, .int .i64 0] 78)).alloc (.cells #[.int .i64 0, .int .i64 0] 78)).heap.size = w.heap.size + 3) := by show _ = _; simp
  generalize ((w.alloc (.cells #[.int .i64 c.g, .int .i64 c.w, .int .i64 c.h, .slice A c.cs.length k] 24)).alloc (.cells #[.int .i64 0, .int .i64 0] 78)).alloc (.cells #[.int .i64 0, .int .i64 0] 78) = w0 at *
  have x0 := HX.out.cell (k := 0) rfl
  have x1 := HX.out.cell (k := 1) rfl
  have x2 := HX.out.cell (k := 2) rfl
  have x3 := HX.out.cell (k := 3) rfl
  go_wp2_with fail
  refine (laid_any w0 (HV.out.same fun b hb => HB0.out.block b (HSS.out b hb)) (fun b hb => Nat.lt_of_lt_of_le (HSS.out b hb) HB0.out.size) HOK.out).mono ?_
  rintro e w1 ⟨hb1, (⟨hT2, rfl⟩ | ⟨hT2, u, rfl, hu⟩)⟩
  · omega
  have HB1 := Lib.hid (HB0.out.trans (hb1.mono HB0.out.size))
  have HSI1 := Lib.hid (HSI.out.of_eq (hb1.block _ HSI.out.lt))
  have HUP1 := Lib.hid (HUP.out.of_eq (hb1.block _ HUP.out.lt))
  have HL1 := Lib.hid hb1.size
  have HU := Lib.hid hu
  obtain ⟨A2, c2, rfl⟩ := hu.form
  clear hb1 x0 x1 x2 x3 hu hT2
  have HG : Hid (c.g = 4 ∨ c.g = 6) := HOK.out.g
  have hn1 := tor_pos HOK.out.W1 HOK.out.H1
  have HKC : Hid (∀ b, stepC c W H b ↔ keepsF (tor W H) (layF W H c.cs (tor W H)) (imgF c.g (tor W H) 0 false) b) := fun b => Iff.rfl
  generalize hKe : stepC c W H = K at *
  have HKE := Lib.hid hKe
  clear hKe
  generalize layF W H c.cs (tor W H) = f at *
  generalize tor W H = n at *
  generalize c.g = g at *
  have hnn : n * n ≤ 24 * 24 := Nat.mul_le_mul hT hT
  have HZ := Lib.hid (Arr.new w1 #[.int .i64 g, .int .i64 (n : Int), .slice A2 (n * n) c2] 92)
  have HB2 := Lib.hid (al1 w1 (.cells #[.int .i64 g, .int .i64 (n : Int), .slice A2 (n * n) c2] 92))
  have hz := HZ.out
  go_upto_region 2 with fail
  have HS2 : Hid ((w1.alloc (.cells #[.int .i64 g, .int .i64 (n : Int), .slice A2 (n * n) c2] 92)).heap.size = w1.heap.size + 1) := by show _ = _; simp
  generalize w1.alloc (.cells #[.int .i64 g, .int .i64 (n : Int), .slice A2 (n * n) c2] 92) = w2 at *
  have z0 := hz.cell (k := 0) rfl
  have z1 := hz.cell (k := 1) rfl
  have z2 := hz.cell (k := 2) rfl
  clear hz
  go_wp2_with fail
  refine (image_any 0 false w2 (HU.out.same fun b hb => HB2.out.block b hb.2) (fun b hb => Nat.lt_of_lt_of_le hb.2 HB2.out.size) HG.out (by have := HG.out; omega) hn1 hT).mono ?_
  rintro e w3 ⟨too, rfl, hr, hb3⟩
  obtain ⟨A3, c3, rfl, r1, r2⟩ := own_form hr
  have HTO := Lib.hid (Ints.of_own hr)
  have HZ3 := Lib.hid (HZ.out.of_eq (hb3.block _ HZ.out.lt))
  have HL3 : Hid (w1.heap.size + 1 ≤ w3.heap.size) := by have := hb3.size; rw [HS2.out] at this; exact this
  have HU3 := Lib.hid ((HU.out.same (w' := w2) fun b hb => HB2.out.block b hb.2).same (w' := w3) fun b hb => hb3.block b (Nat.lt_of_lt_of_le hb.2 HB2.out.size))
  have hb13 := HB2.out.trans (hb3.mono HB2.out.size)
  have HFS : Hid (FinS w w3 w3 0 0 0) := ⟨HSI1.out.of_eq (hb13.block _ HSI1.out.lt), HUP1.out.of_eq (hb13.block _ HUP1.out.lt), fun _ _ _ => rfl, Nat.le_refl _, HB1.out.trans (hb13.mono HB1.out.size)⟩
  clear z0 z1 z2 hr hb3 hb13
  -- one question whether a step keeps it
  have HQ : Hid (∀ (wr : World) (X y0 y1 : Int) (b : Pt), FinS w w3 wr X y0 y1 → b.le 1000 → Calls Tryd.prog 48 #[.agg #[.int .i64 g, .int .i64 (n : Int), .slice A2 (n * n) c2], .slice A3 (n * n) c3, b.val] wr fun e w' => ∃ r : Bool, e = .returned (.bool r) ∧ (r = true ↔ K b) ∧ FinS w w3 w' X y0 y1) := by
    intro wr X y0 y1 b hf hb
    have hs0 := HS0.out
    have hl1 := HL1.out
    have hl3 := HL3.out
    have h1 : ClR wr (fun b => w0.heap.size ≤ b ∧ b < w1.heap.size) _ g n f := HU3.out.same fun b hb => hf.old b (by omega) (by omega)
    have h2 := HTO.out.same (w' := wr) fun b hb => hf.old b (by have := hb.1; rw [HS2.out] at this; omega) hb.2
    refine (keeps_any b wr h1 h2 (fun b hb => by have := hf.size; omega) (fun b hb => by have := hf.size; have := hb.2; omega) (img0_lt hn1) (by unfold Pt.le at *; omega) hn1 hT).mono ?_
    rintro e w' ⟨rfl, hb'⟩
    exact ⟨_, rfl, by rw [decide_eq_true_iff]; exact (HKC.out b).symm, hf.call hb'⟩
  have HKN : Hid (∀ k l, K ⟨n * k, n * l⟩) := fun k l => (HKC.out _).2 (keeps_n hn1 k l)
  clear HKC HG
  have HLW : Hid (w.heap.size + 2 < w1.heap.size ∧ w1.heap.size < w3.heap.size) := by
    have hs0 := HS0.out
    have hl1 := HL1.out
    have hl3 := HL3.out
    exact ⟨by omega, by omega⟩
  go_upto_region 5 with fail
  have q0 := HFS.out.side.cell (k := 0) rfl
  have e0 := HFS.out.side.free 0
  have HF1 := Lib.hid (HFS.out.setX 1)
  have HZW : Hid (∀ (wr : World) (X y0 y1 : Int), FinS w w3 wr X y0 y1 → Arr wr w1.heap.size 92 [.int .i64 g, .int .i64 (n : Int), .slice A2 (n * n) c2]) := fun wr X y0 y1 hf =>
    HZ3.out.of_eq (hf.old _ HLW.out.1 HLW.out.2)
  generalize hN : n * n = N at *
  unfold Pt.val at HQ
  go_upto_region 6 with fail
  generalize w3.setCell ⟨w.heap.size + 1, 0, none⟩ (.int .i64 1) = w4 at *
  clear q0 e0
  go_loopg [24] (n - 1) (fun gg u wr => ∃ X : Nat, 1 ≤ X ∧ X ≤ n ∧ gg = n - X ∧ FinS w w3 wr X 0 0 ∧ ∀ k : Int, 1 ≤ k → k < X → ¬ K ⟨k, 0⟩)
  case atStart => exact ⟨1, Nat.le_refl _, hn1, rfl, HF1.out, fun k h1 h2 => by omega⟩
  case round =>
    obtain ⟨X, hX1, hX2, rfl, hf, hno⟩ := hrel
    have HF := Lib.hid hf
    have HNO := Lib.hid hno
    have hz := HZW.out _ _ _ _ hf
    have z0 := hz.cell (k := 0) rfl
    have z1 := hz.cell (k := 1) rfl
    have z2 := hz.cell (k := 2) rfl
    have s0 := hf.side.cell (k := 0) rfl
    have s1 := hf.side.cell (k := 1) rfl
    clear hz hf hno
    go_wp2_with fail
    refine (HQ.out _ _ _ _ ⟨X, 0⟩ HF.out (by unfold Pt.le; dsimp only; omega)).mono ?_
    rintro e w5 ⟨r, rfl, hrk, hf5⟩
    have HF5 := Lib.hid hf5
    have HRK := Lib.hid hrk
    have hno0 := HNO.out
    have HKX : Hid (r = false → X < n) := fun hr => by
      rcases Nat.lt_or_ge X n with h | h
      · exact h
      · obtain rfl : X = n := by omega
        have := HKN.out 1 0
        rw [Int.mul_one, Int.mul_zero] at this
        have := HRK.out.2 this
        rw [hr] at this
        cases this
    clear z0 z1 z2 s0 s1 hf5 hrk HF
    have s0 := HF5.out.side.cell (k := 0) rfl
    have e0 := HF5.out.side.free 0
    rcases r with _ | _
    · clear hno0
      have hlt := HKX.out rfl
      have HN : Hid (∀ k : Int, 1 ≤ k → k < ((X + 1 : Nat) : Int) → ¬ K ⟨k, 0⟩) := fun k h1 h2 hk => by
        rcases Int.lt_or_le k X with h | h
        · exact HNO.out k h1 h hk
        · obtain rfl : k = X := by omega
          have := HRK.out.2 hk
          cases this
      have HF6 := Lib.hid (HF5.out.setX ((X : Int) + 1))
      go_wp2_with fail
      go_roundg (n - (X + 1))
      case measure => omega
      case rel => exact ⟨X + 1, by omega, by omega, rfl, by simpa using HF6.out, HN.out⟩
    · have HKXX := Lib.hid (HRK.out.1 rfl)
      clear HNO HRK HKX
      have HNO := Lib.hid hno0
      clear hno0
      have q1 := HF5.out.up.cell (k := 1) rfl
      have f1 := HF5.out.up.free 1
      have HF6 := Lib.hid (HF5.out.setY1 1)
      go_upto_region 8 with fail
      go_upto_region 10 with fail
      rename World => w6
      generalize w6.setCell ⟨w.heap.size + 1 + 1, 1, none⟩ (.int .i64 1) = w7 at *
      clear s0 e0 q1 f1 HF5
      go_loopg [48] (n - 1) (fun gg u wr => ∃ Y : Nat, 1 ≤ Y ∧ Y ≤ n ∧ gg = n - Y ∧ (∃ y0, FinS w w3 wr X y0 Y) ∧ ∀ y k : Int, 1 ≤ y → y < Y → 0 ≤ k → k < X → ¬ K ⟨k, y⟩)
      case atStart => exact ⟨1, Nat.le_refl _, hn1, rfl, ⟨_, HF6.out⟩, fun y k h1 h2 => by omega⟩
      case round =>
        clear HF6
        obtain ⟨Y, hY1, hY2, rfl, ⟨y0, hf⟩, hny⟩ := hrel
        have HF := Lib.hid hf
        have HNY := Lib.hid hny
        have q0 := hf.up.cell (k := 0) rfl
        have f0 := hf.up.free 0
        have HF7 := Lib.hid (hf.setY0 0)
        clear hf hny
        rename World => w8
        go_upto_region 10 with fail
        go_upto_region 11 with fail
        generalize w8.setCell ⟨w.heap.size + 1 + 1, 0, none⟩ (.int .i64 0) = w9 at *
        clear q0 f0 HF
        go_loopg [48] X (fun gg u wr => ∃ x : Nat, x ≤ X ∧ gg = X - x ∧ FinS w w3 wr X x Y ∧ ∀ k : Int, 0 ≤ k → k < x → ¬ K ⟨k, Y⟩)
        case atStart => exact ⟨0, Nat.zero_le _, rfl, HF7.out, fun k h1 h2 => by omega⟩
        case round =>
          clear HF7
          obtain ⟨x, hx, rfl, hf, hnx⟩ := hrel
          have HF := Lib.hid hf
          have HNX := Lib.hid hnx
          have hz := HZW.out _ _ _ _ hf
          have z0 := hz.cell (k := 0) rfl
          have z1 := hz.cell (k := 1) rfl
          have z2 := hz.cell (k := 2) rfl
          have s0 := hf.side.cell (k := 0) rfl
          have q0 := hf.up.cell (k := 0) rfl
          have q1 := hf.up.cell (k := 1) rfl
          clear hz hf hnx
          by_cases hlt : x < X
          · go_wp2_with fail
            refine (HQ.out _ _ _ _ ⟨x, Y⟩ HF.out (by unfold Pt.le; dsimp only; omega)).mono ?_
            rintro e w10 ⟨r, rfl, hrk, hf5⟩
            have HF5 := Lib.hid hf5
            have HRK := Lib.hid hrk
            clear z0 z1 z2 s0 q0 q1 hf5 hrk HF
            rcases r with _ | _
            · have HN : Hid (∀ k : Int, 0 ≤ k → k < ((x + 1 : Nat) : Int) → ¬ K ⟨k, Y⟩) := fun k h1 h2 hk => by
                rcases Int.lt_or_le k x with h | h
                · exact HNX.out k h1 h hk
                · obtain rfl : k = x := by omega
                  have := HRK.out.2 hk
                  cases this
              have q0 := HF5.out.up.cell (k := 0) rfl
              have e0 := HF5.out.up.free 0
              have HF6 := Lib.hid (HF5.out.setY0 ((x : Int) + 1))
              go_wp2_with fail
              go_roundg (X - (x + 1))
              case measure => omega
              case rel => exact ⟨x + 1, by omega, rfl, by simpa using HF6.out, HN.out⟩
            · have HKK := Lib.hid (HRK.out.1 rfl)
              have s0 := HF5.out.side.cell (k := 0) rfl
              have s1 := HF5.out.side.cell (k := 1) rfl
              have q0 := HF5.out.up.cell (k := 0) rfl
              have q1 := HF5.out.up.cell (k := 1) rfl
              have e0 := HF5.out.side.free 0
              have e1 := HF5.out.side.free 1
              have f0 := HF5.out.up.free 0
              have f1 := HF5.out.up.free 1
              go_upto_region 14 with fail
              go_region
              all_goals go_wp2_with fail
              have HBZ : Hid (Below w.heap.size w (((((w10.drew).setCell ⟨w.heap.size + 1, 0, none⟩ (.int .i64 X)).setCell ⟨w.heap.size + 1, 1, none⟩ (.int .i64 0)).setCell ⟨w.heap.size + 1 + 1, 0, none⟩ (.int .i64 x)).setCell ⟨w.heap.size + 1 + 1, 1, none⟩ (.int .i64 Y))) :=
                ((((below_dN (n := 1) HF5.out.below).setCell (Nat.le_succ _) _).setCell (Nat.le_succ _) _).setCell (by show w.heap.size ≤ w.heap.size + 1 + 1; omega) _).setCell (by show w.heap.size ≤ w.heap.size + 1 + 1; omega) _
              refine bodyPost_ret (v := .tuple #[.agg #[.int .i64 X, .int .i64 0], .agg #[.int .i64 x, .int .i64 Y], .int .i64 0]) (by simp [results, Tryd.results42, go_sem, s0, s1, q0, q1]) rfl ?_
              rw [HKE.out]
              exact ⟨HBZ.out, X, x, Y, ⟨by omega, HKXX.out, HNO.out, by omega, by omega, by omega, HKK.out, HNY.out, HNX.out⟩, by omega, by omega, rfl⟩
          · obtain rfl : x = X := by omega
            have hlY : Y < n := by
              rcases Nat.lt_or_ge Y n with h | h
              · exact h
              · obtain rfl : Y = n := by omega
                have := HKN.out 0 1
                rw [Int.mul_one, Int.mul_zero] at this
                exact absurd this (HNX.out 0 (by omega) (by omega))
            have HN : Hid (∀ y k : Int, 1 ≤ y → y < ((Y + 1 : Nat) : Int) → 0 ≤ k → k < x → ¬ K ⟨k, y⟩) := fun y k h1 h2 h3 h4 => by
              rcases Int.lt_or_le y Y with h | h
              · exact HNY.out y k h1 h h3 h4
              · obtain rfl : y = Y := by omega
                exact HNX.out k h3 h4
            have g1 := HF.out.up.free 1
            have HF6 := Lib.hid (HF.out.setY1 ((Y : Int) + 1))
            go_wp2_with fail
            go_roundg (n - (Y + 1))
            case measure => omega
            case rel => exact ⟨Y + 1, by omega, by omega, rfl, ⟨_, by simpa using HF6.out⟩, HN.out⟩
end Go.Proofs.YtmmakljmikdooaaDoor
/- Chapter 3: the program's Domain: it answers. -/
namespace Go.Proofs.YtmmakljmikdooaaDoor
open Go.RowKit
set_option linter.unusedVariables false
set_option linter.unusedSimpArgs false

theorem T30b : SliceT Tryd.prog 30 4 (.bool false) 1 1 := ⟨Tryd.underlying30, by kernel_rfl, rfl, by decide, by decide⟩
theorem T59p : SliceT Tryd.prog 59 78 (.agg #[.int .i64 0, .int .i64 0]) 2 16 := ⟨Tryd.underlying59, by kernel_rfl, rfl, by decide, by decide⟩
theorem keepL_mem {g : Int} {n : Nat} {f : Nat → Int} {fl : Bool} {t k : Nat} {m : Mv} (h : m ∈ keepL g n f fl t k) : m.t = t ∧ m.f = fl ∧ ∃ p, p < k ∧ m.b = pt n p ∧ keepsF n f (imgF g n t fl) (pt n p) := by
  unfold keepL at h
  obtain ⟨p, hp, rfl⟩ := List.mem_map.1 h
  obtain ⟨h1, h2⟩ := List.mem_filter.1 hp
  exact ⟨rfl, rfl, p, List.mem_range.1 h1, rfl, of_decide_eq_true h2⟩
theorem turnL_mem {g : Int} {n : Nat} {f : Nat → Int} {fl : Bool} {k : Nat} {m : Mv} (h : m ∈ turnL g n f fl k) : m.t < k ∧ m.f = fl ∧ ∃ p, p < n * n ∧ m.b = pt n p ∧ keepsF n f (imgF g n m.t fl) (pt n p) := by
  unfold turnL at h
  obtain ⟨t, ht, hm⟩ := List.mem_flatMap.1 h
  obtain ⟨h1, h2, h3⟩ := keepL_mem hm
  exact ⟨by rw [h1]; exact List.mem_range.1 ht, h2, by rw [h1]; exact h3⟩
theorem allL_mem {g : Int} {n : Nat} {f : Nat → Int} {m : Mv} (h : m ∈ allL g n f) : m.t < g.toNat ∧ ∃ p, p < n * n ∧ m.b = pt n p ∧ keepsF n f (imgF g n m.t m.f) (pt n p) := by
  unfold allL at h
  rcases List.mem_append.1 h with h | h
  · obtain ⟨h1, h2, h3⟩ := turnL_mem h
    exact ⟨h1, by rw [h2]; exact h3⟩
  · obtain ⟨h1, h2, h3⟩ := turnL_mem h
    exact ⟨h1, by rw [h2]; exact h3⟩
theorem pt_le {n p : Nat} (hn2 : n ≤ 24) (hp : p < n * n) : (pt n p).le 24 := by
  have hn : 1 ≤ n := by
    rcases Nat.eq_zero_or_pos n with e | e
    · subst e; omega
    · exact e
  obtain ⟨a1, a2, _, _, h, h1, h2, h3, h4⟩ := pt_parts hn hn2 hp
  rw [h]
  unfold Pt.le
  dsimp only
  omega
/-- a block of bools -/
def Bools (w : World) (b N : Nat) : Prop := ∃ bits : List Value, bits.length = N ∧ Arr w b 4 bits
/-- what Domain's loops keep -/
structure DomS (w w5 wr : World) (bs N : Nat) : Prop where
  seen : ∃ bits : List Bool, bits.length = N ∧ Arr wr bs 4 (bits.map Value.bool)
  old : ∀ b, b < w5.heap.size → b ≠ bs → wr.heap[b]? = w5.heap[b]?
  size : w5.heap.size ≤ wr.heap.size
  below : Below w.heap.size w wr
theorem DomS.call {w w5 wr w' : World} {bs N : Nat} (h : DomS w w5 wr bs N) (hbs : bs < w5.heap.size) (hb : Below wr.heap.size wr w') : DomS w w5 w' bs N := by
  obtain ⟨bits, h1, h2⟩ := h.seen
  exact ⟨⟨bits, h1, h2.of_eq (hb.block _ h2.lt)⟩, fun b k1 k2 => (hb.block b (Nat.lt_of_lt_of_le k1 h.size)).trans (h.old b k1 k2), Nat.le_trans h.size hb.size, h.below.trans (hb.mono h.below.size)⟩
theorem DomS.set {w w5 wr : World} {bs N q : Nat} (h : DomS w w5 wr bs N) (hw : w.heap.size ≤ bs) : DomS w w5 (wr.setCell ⟨bs, q, none⟩ (.bool true)) bs N := by
  obtain ⟨bits, h1, h2⟩ := h.seen
  refine ⟨⟨bits.set q true, by rw [List.length_set]; exact h1, ?_⟩, fun b k1 k2 => (Below.heap_setCell _ _ _ _ (by show b ≠ bs; exact k2)).trans (h.old b k1 k2), by simpa [World.setCell] using h.size, h.below.setCell hw _⟩
  rw [List.map_set]
  exact h2.set q _
theorem DomS.grown {w w5 wr w' : World} {bs N : Nat} {row : Option Nat} (h : DomS w w5 wr bs N) (hbs : bs < w5.heap.size) (hb : wr.grownBy w' row) (hr : ∀ k, row = some k → w5.heap.size ≤ k) (hw : w.heap.size ≤ w5.heap.size) : DomS w w5 w' bs N := by
  obtain ⟨bits, h1, h2⟩ := h.seen
  refine ⟨⟨bits, h1, h2.grown hb (fun e => by have := hr _ e; omega)⟩, fun b k1 k2 => (hb.block b (Nat.lt_of_lt_of_le k1 h.size) (fun e => by have := hr _ e.symm; omega)).trans (h.old b k1 k2), Nat.le_trans h.size hb.size, ?_⟩
  exact h.below.grown hb h.below.size (fun k e => by have := hr k e; omega)
end Go.Proofs.YtmmakljmikdooaaDoor
