/- Texts of the seat, put together: PrintWalk, NextWalk. -/
import Derived.Test.YtmmakljmikdooaaDoorTw16
import Derived.Test.YtmmakljmikdooaaDoorTwSignWalk
import Derived.Test.YtmmakljmikdooaaDoorSeq
import Derived.Lib.Strings
/- Chapter 2: the program's Print. -/
namespace Go.Proofs.YtmmakljmikdooaaDoor
open Go.RowKit
set_option linter.unusedVariables false
set_option linter.unusedSimpArgs false

theorem byte_enc (n : Nat) : Lib.byteCells (encB n) = Lib.runeCells (n : Int) := Lib.byteCells_encodeRune _
theorem bld_new (w : World) : Lib.IsBuilderF 45 5 w.heap.size w.heap.size (Lib.byteCells []) (w.alloc (.cells #[.pointer none, .slice none 0 0] 45)) :=
  .inl ⟨Nat.le_refl _, .slice none 0 0, heap_alloc_new w _, World.ownsRowF_nil _ _ _ _, by simp [Value.ownBlock]⟩
theorem ink_take {xs : List Int} {i : Nat} (h : i < xs.length) : inkB (xs.take (i + 1)) = inkB (xs.take i) ++ encB (signF (xs[i]).toNat) := by
  rw [List.take_succ_eq_append_getElem h, inkB_snoc]
theorem wr_rune (b : Nat) (l : List UInt8) (n : Nat) (hn : n < 10000) (w : World) (h : Lib.IsBuilderF 45 5 b b (Lib.byteCells l) w) (hlen : l.length ≤ 100000) (hBw : b ≤ w.heap.size) :
    Calls Tryd.prog 9 #[.pointer (some ⟨b, 0, none⟩), .int .i32 (n : Int)] w fun e w' => (∃ u, e = .returned u) ∧ Lib.IsBuilderF 45 5 b b (Lib.byteCells (l ++ encB n)) w' ∧ Below b w w' := by
  rw [Lib.byteCells_append, byte_enc]
  exact writeRune_any b b _ n (by omega) (by omega) w h (by rw [Lib.byteCells_length]; omega) hBw
theorem wr_byte (b : Nat) (l : List UInt8) (w : World) (h : Lib.IsBuilderF 45 5 b b (Lib.byteCells l) w) (hlen : l.length ≤ 100000) (hBw : b ≤ w.heap.size) :
    Calls Tryd.prog 11 #[.pointer (some ⟨b, 0, none⟩), .int .u8 10] w fun e w' => e = .returned .nilIface ∧ Lib.IsBuilderF 45 5 b b (Lib.byteCells (l ++ [10])) w' ∧ Below b w w' := by
  rw [Lib.byteCells_append]
  exact writeByte_any b b _ 10 w h (by rw [Lib.byteCells_length]; omega) hBw
theorem wr_head (b : Nat) (s : ByteArray) (hs : s.size = 4) (w : World) (h : Lib.IsBuilderF 45 5 b b (Lib.byteCells []) w) (hBw : b ≤ w.heap.size) :
    Calls Tryd.prog 8 #[.pointer (some ⟨b, 0, none⟩), .string s] w fun e w' => (∃ u, e = .returned u) ∧ Lib.IsBuilderF 45 5 b b (Lib.byteCells s.data.toList) w' ∧ Below b w w' := by
  refine (writeString_any b b _ s w h (by rw [Lib.byteCells_length, hs]; decide) hBw).mono ?_
  rintro e w' ⟨rfl, h1, h2⟩
  exact ⟨⟨_, rfl⟩, h1, h2⟩
theorem w64_mul {a b : Nat} (h : a * b ≤ 100000) : wrap64 ((a : Int) * (b : Int)) = ((a * b : Nat) : Int) := by
  rw [← Int.natCast_mul]
  generalize a * b = m at *
  exact IntWalk.wrap64_in _ (by omega)
theorem i64_mul {a b : Nat} (h : a * b ≤ 100000) : IntKind.i64.wrap ((a : Int) * (b : Int)) = ((a * b : Nat) : Int) := by
  rw [← Int.natCast_mul]
  generalize a * b = m at *
  exact IntWalk.i64_in _ (by omega)
theorem w64_add {a b : Nat} (h : a + b ≤ 100000) : wrap64 ((a : Int) + (b : Int)) = ((a + b : Nat) : Int) := by
  rw [IntWalk.wrap64_in _ (by omega)]; omega
theorem i64_add {a b : Nat} (h : a + b ≤ 100000) : IntKind.i64.wrap ((a : Int) + (b : Int)) = ((a + b : Nat) : Int) := by
  rw [IntWalk.i64_in _ (by omega)]; omega
theorem place_wraps {a b x : Nat} (h : a * b + x ≤ 100000) : wrap64 ((a : Int) * (b : Int)) = ((a * b : Nat) : Int) ∧ IntKind.i64.wrap ((a : Int) * (b : Int)) = ((a * b : Nat) : Int) ∧
    wrap64 (((a * b : Nat) : Int) + (x : Int)) = ((a * b + x : Nat) : Int) ∧ IntKind.i64.wrap (((a * b : Nat) : Int) + (x : Int)) = ((a * b + x : Nat) : Int) :=
  ⟨w64_mul (by omega), i64_mul (by omega), w64_add h, i64_add h⟩
set_option maxRecDepth 100000 in
set_option maxHeartbeats 4000000 in
theorem Print_any {S : Nat → Prop} {v : Value} {c : Ch} {W H : Nat} (w : World) (hv : ChR w S v c) (hS : ∀ b, S b → b < w.heap.size) (hc : OkC c W H) :
    Calls Tryd.prog 6 #[v] w fun e w' => e = .returned (.tuple #[.string ⟨(printF c W H).toArray⟩, .int .i64 0]) ∧ Below w.heap.size w w' := by
  have HV := Lib.hid hv
  have HSS := Lib.hid hS
  have HOK := Lib.hid hc
  obtain ⟨cv, rfl, hi⟩ := hv
  obtain ⟨A, cc, rfl, h1, h2, hr⟩ := hi
  have HR := Lib.hid hr
  clear hS hc hr
  have e1 := HOK.out.w
  have e2 := HOK.out.h
  have HWR : Hid (wrongC c = 0) := wrongC_ok HOK.out
  have b1 := HOK.out.W1
  have b2 := HOK.out.W2
  have b3 := HOK.out.H1
  have b4 := HOK.out.H2
  have HG := Lib.hid HOK.out.g
  have HPL := Lib.hid (printF_len HOK.out)
  -- what is laid, row by row
  have HCELL : Hid (∀ y x, y < H → x < W → ∃ z : Nat, z < 62 ∧ ∃ b o, A = some ⟨b, o, none⟩ ∧ S b ∧ w.cell? ⟨b, o + (y * W + x), none⟩ = some (.int .i64 (z : Int)) ∧ inkB ((rowC c W y).take (x + 1)) = inkB ((rowC c W y).take x) ++ encB (signF z)) := by
    intro y x hy hx
    have hrl := HOK.out.row_len hy
    have hxl : x < (rowC c W y).length := by omega
    have hg := HOK.out.row_get hy hx
    rw [List.getElem?_eq_getElem hxl] at hg
    have hk : y * W + x < c.cs.length := by
      have := HOK.out.at_ hy
      rw [Nat.succ_mul] at this
      omega
    rw [List.getElem?_eq_getElem hk] at hg
    injection hg with hg
    have hm := rowC_mem HOK.out (List.getElem_mem hxl)
    obtain ⟨b, o, e, hs, z0⟩ := ints_cell HR.out hk
    refine ⟨(rowC c W y)[x].toNat, by omega, b, o, e, hs, ?_, ink_take hxl⟩
    rw [z0, ← hg, Int.toNat_of_nonneg hm.1]
  have HIN : Hid (∀ y x, y < H → x < W → y * W + x < c.cs.length) := by
    intro y x hy hx
    have := HOK.out.at_ hy
    rw [Nat.succ_mul] at this
    omega
  have HROW : Hid (∀ k, k < H → rowsB c W H (k + 1) = rowsB c W H k ++ (inkB ((rowC c W (H - 1 - k)).take W) ++ [10])) := fun k hk => by
    rw [rowsB_snoc, lineB, List.take_of_length_le (rowC_len_le _ _ _)]
  have HLE : Hid (∀ k x, k < H → (headB c.g ++ rowsB c W H k ++ inkB ((rowC c W (H - 1 - k)).take x)).length ≤ 100000) := by
    intro k x hk
    have h1 := rowsB_len c W H k
    have h2 : k * (4 * W + 1) ≤ 64 * (4 * 64 + 1) := Nat.mul_le_mul (by omega) (by omega)
    have h3 := inkB_len ((rowC c W (H - 1 - k)).take x)
    have h4 := rowC_len_le c W (H - 1 - k)
    rw [List.length_take] at h3
    rw [List.length_append, List.length_append, headB_len]
    omega
  have HP : Hid (printF c W H = headB c.g ++ rowsB c W H H) := rfl
  have HHD : Hid (headB c.g = if c.g = 4 then [226, 150, 161, 10] else [226, 150, 179, 10]) := rfl
  have H00 : Hid (rowsB c W H 0 = []) := rfl
  generalize printF c W H = P at *
  obtain ⟨rb, hrb⟩ : ∃ rb : Nat → List UInt8, ∀ k, rowsB c W H k = rb k := ⟨_, fun _ => rfl⟩
  obtain ⟨ik, hik⟩ : ∃ ik : Nat → Nat → List UInt8, ∀ y x, inkB ((rowC c W y).take x) = ik y x := ⟨_, fun _ _ => rfl⟩
  have HIK0 : Hid (∀ y, ik y 0 = []) := fun y => by rw [← hik]; rfl
  simp only [hik, hrb] at HCELL HROW HLE HP H00
  clear hrb hik
  obtain ⟨g, cw, ch, cs⟩ := c
  dsimp only at *
  subst e1
  subst e2
  unfold maxLen at h2
  have HX := Lib.hid (Arr.new w #[.int .i64 g, .int .i64 (W : Int), .int .i64 (H : Int), .slice A cs.length cc] 24)
  have HB0 := Lib.hid (al1 w (.cells #[.int .i64 g, .int .i64 (W : Int), .int .i64 (H : Int), .slice A cs.length cc] 24))
  go_enter Tryd.func6, Tryd.ntmps6
  go_upto_region 1 with fail
  generalize w.alloc (.cells #[.int .i64 g, .int .i64 (W : Int), .int .i64 (H : Int), .slice A cs.length cc] 24) = w0 at *
  have x0 := HX.out.cell (k := 0) rfl
  have x1 := HX.out.cell (k := 1) rfl
  have x2 := HX.out.cell (k := 2) rfl
  have x3 := HX.out.cell (k := 3) rfl
  go_wp2_with fail
  refine (Wrong_any w0 (HV.out.same fun b hb => HB0.out.block b (HSS.out b hb)) fun b hb => Nat.lt_of_lt_of_le (HSS.out b hb) HB0.out.size).mono ?_
  rintro e w1 ⟨rfl, hb1⟩
  rw [HWR.out]
  have HB1 := Lib.hid (HB0.out.trans (hb1.mono HB0.out.size))
  have HX1 := Lib.hid (HX.out.of_eq (hb1.block _ HX.out.lt))
  clear hb1 x0 x1 x2 x3
  have hxl := HX1.out.lt
  go_upto_region 5 with fail
  have HN := Lib.hid (bld_new w1)
  have HB2 := Lib.hid (al1 w1 (.cells #[.pointer none, .slice none 0 0] 45))
  generalize hBB : w1.heap.size = B at *
  generalize w1.alloc (.cells #[.pointer none, .slice none 0 0] 45) = w2 at *
  have HZ : Hid (∀ wr, Below B w2 wr → Arr wr w.heap.size 24 [.int .i64 g, .int .i64 (W : Int), .int .i64 (H : Int), .slice A cs.length cc]) := fun wr hb => (HX1.out.of_eq (HB2.out.block _ hxl)).of_eq (hb.block _ hxl)
  have HCELL2 : Hid (∀ wr, Below B w2 wr → ∀ y x, y < H → x < W → ∃ z : Nat, z < 62 ∧ ∃ b o, A = some ⟨b, o, none⟩ ∧ wr.cell? ⟨b, o + (y * W + x), none⟩ = some (.int .i64 (z : Int)) ∧ ik y (x + 1) = ik y x ++ encB (signF z)) := by
    intro wr hb y x hy hx
    obtain ⟨z, hz, b, o, e, hs, hc, hi⟩ := HCELL.out y x hy hx
    refine ⟨z, hz, b, o, e, ?_, hi⟩
    have h0 := HSS.out b hs
    have h1 := HB1.out.block b h0
    have h2 : w2.heap[b]? = w1.heap[b]? := HB2.out.block b (by omega)
    have h3 : wr.heap[b]? = w2.heap[b]? := hb.block b (by omega)
    rw [World.cell?_of_block (a := ⟨b, o + (y * W + x), none⟩) (h3.trans (h2.trans h1)), hc]
  have HBE : Hid (B ≤ w2.heap.size) := by have := HB2.out.size; show B ≤ _; omega
  have HBW : Hid (∀ wr, Below B w2 wr → Below w.heap.size w wr) := fun wr hb => (HB1.out.trans (HB2.out.mono (by omega))).trans (hb.mono (by omega))
  clear HV HSS HOK HWR HR HCELL HX HX1 HB0 HB1 HB2
  have y0 := (HZ.out _ (Below.refl _ _)).cell (k := 0) rfl
  go_upto_if 15 with fail
  go_cut [] from 16 to 17 (fun wx => Lib.IsBuilderF 45 5 B B (Lib.byteCells (headB g)) wx ∧ Below B w2 wx)
  case first =>
    rcases HG.out with hg | hg
    · subst hg
      go_wp2_with fail
      refine (wr_head B ⟨#[226, 150, 161, 10]⟩ rfl w2 HN.out HBE.out).mono ?_
      rintro e w3 ⟨⟨u, rfl⟩, k1, k2⟩
      go_wp2_with fail
      go_meet
      exact ⟨k1, k2⟩
    · subst hg
      go_wp2_with fail
      refine (wr_head B ⟨#[226, 150, 179, 10]⟩ rfl w2 HN.out HBE.out).mono ?_
      rintro e w3 ⟨⟨u, rfl⟩, k1, k2⟩
      go_wp2_with fail
      go_meet
      exact ⟨k1, k2⟩
  case rest =>
  obtain ⟨k1, k2⟩ := hcut
  rename World => w3
  have z2 := (HZ.out _ k2).cell (k := 2) rfl
  have HI := Lib.hid k1
  have HB := Lib.hid k2
  clear k1 k2 y0
  go_wp2_with fail
  clear z2
  go_loopg [6] (H + 1) (fun gg yv wr => ∃ k : Nat, k ≤ H ∧ gg = H + 1 - k ∧ yv = .int .i64 ((H : Int) - 1 - (k : Int)) ∧ Lib.IsBuilderF 45 5 B B (Lib.byteCells (headB g ++ rb k)) wr ∧ Below B w2 wr)
  case atStart => exact ⟨0, by omega, by omega, by simp, by rw [H00.out, List.append_nil]; exact HI.out, HB.out⟩
  case round =>
    clear HI HB
    obtain ⟨k, hk, rfl, rfl, hi, hb⟩ := hrel
    have HI := Lib.hid hi
    have HB := Lib.hid hb
    clear hi hb
    by_cases hlt : k < H
    case neg =>
      obtain rfl : k = H := by omega
      have q : decide ((k : Int) - 1 - (k : Int) ≥ 0) = false := decide_eq_false (by omega)
      rw [← HP.out] at HI
      go_wp2_with fail
      refine (bld_String_any_k B B P _ HI.out (Nat.le_trans HBE.out HB.out.size)).mono ?_
      rintro e w4 ⟨rfl, _, k2, _⟩
      have HB4 := Lib.hid (HBW.out _ (HB.out.trans k2))
      clear k2
      go_wp2_with fail
      go_ret2
      exact ⟨rfl, HB4.out⟩
    have q : decide ((H : Int) - 1 - (k : Int) ≥ 0) = true := decide_eq_true (by omega)
    obtain ⟨y, hy⟩ : ∃ y, H - 1 - k = y := ⟨_, rfl⟩
    have hyi : (H : Int) - 1 - (k : Int) = (y : Int) := by omega
    have hyH : y < H := by omega
    have hlek := fun x => HLE.out k x hlt
    have hrk := HROW.out k hlt
    rw [hy] at hlek hrk
    have HLK := Lib.hid hlek
    have HRK := Lib.hid hrk
    clear hlek hrk
    rw [hyi] at *
    rename World => w4
    have z1 := (HZ.out _ HB.out).cell (k := 1) rfl
    go_wp2_with fail
    clear z1
    go_loopg [27] W (fun gg ctr wr => ∃ x : Nat, x ≤ W ∧ gg = W - x ∧ ctr = .int .i64 (x : Int) ∧ Lib.IsBuilderF 45 5 B B (Lib.byteCells (headB g ++ rb k ++ ik y x)) wr ∧ Below B w2 wr)
    case atStart => exact ⟨0, by omega, rfl, rfl, by rw [HIK0.out, List.append_nil]; exact HI.out, HB.out⟩
    case round =>
      clear HI HB
      obtain ⟨x, hx, rfl, rfl, hi, hb⟩ := hrel
      have HI := Lib.hid hi
      have HB := Lib.hid hb
      clear hi hb
      by_cases hlx : x < W
      case neg =>
        obtain rfl : x = W := by omega
        go_wp2_with fail
        refine (wr_byte B _ _ HI.out (HLK.out x) (Nat.le_trans HBE.out HB.out.size)).mono ?_
        rintro e w5 ⟨rfl, j1, j2⟩
        have HJ : Hid (Lib.IsBuilderF 45 5 B B (Lib.byteCells (headB g ++ rb (k + 1))) w5) := by
          show Lib.IsBuilderF _ _ _ _ _ _
          rw [HRK.out, ← List.append_assoc, ← List.append_assoc]
          exact j1
        have HB5 := Lib.hid (HB.out.trans j2)
        clear j1 j2
        go_wp2_with fail
        go_roundg (H + 1 - (k + 1))
        case measure => omega
        case rel => exact ⟨k + 1, by omega, rfl, congrArg (Value.int .i64) (by omega), HJ.out, HB5.out⟩
      rename World => w5
      obtain ⟨z, hz, b, o, rfl, c0, he⟩ := HCELL2.out _ HB.out y x hyH hlx
      have z1 := (HZ.out _ HB.out).cell (k := 1) rfl
      have z3 := (HZ.out _ HB.out).cell (k := 3) rfl
      have hm : (y + 1) * W ≤ 64 * 64 := Nat.mul_le_mul (by omega) b2
      rw [Nat.succ_mul] at hm
      have hin : y * W + x < cs.length := HIN.out y x hyH hlx
      have hml : y * W + x ≤ 100000 := by omega
      obtain ⟨hw1, hw2, hw3, hw4⟩ := place_wraps hml
      generalize y * W = m at *
      generalize m + x = q at *
      clear hm hml
      go_wp2_with fail
      refine (sign_any z _ hz).mono ?_
      rintro e w6 ⟨rfl, rfl⟩
      go_wp2_with fail
      refine (wr_rune B _ (signF z) (signF_lt z hz).2 _ HI.out (HLK.out x) (Nat.le_trans HBE.out HB.out.size)).mono ?_
      rintro e w6 ⟨⟨u, rfl⟩, j1, j2⟩
      have HJ : Hid (Lib.IsBuilderF 45 5 B B (Lib.byteCells (headB g ++ rb k ++ ik y (x + 1))) w6) := by
        show Lib.IsBuilderF _ _ _ _ _ _
        rw [he, ← List.append_assoc]
        exact j1
      have HB6 := Lib.hid (HB.out.trans j2)
      clear j1 j2
      go_wp2_with fail
      go_roundg (W - (x + 1))
      case measure => omega
      case rel => exact ⟨x + 1, by omega, rfl, by go_num, HJ.out, HB6.out⟩
end Go.Proofs.YtmmakljmikdooaaDoor
/- Chapter 2: the program's reader: next. -/
namespace Go.Proofs.YtmmakljmikdooaaDoor
open Go.RowKit
set_option linter.unusedVariables false
set_option linter.unusedSimpArgs false

/-- the library's two tables, as start-up lays them -/
structure Tabs (w : World) : Prop where
  t : Lib.Utf8Tabs 0 1 w
  lt : 2 ≤ w.heap.size
theorem Tabs.same {w w' : World} (h : Tabs w) (h0 : w'.heap[0]? = w.heap[0]?) (h1 : w'.heap[1]? = w.heap[1]?) (hs : w.heap.size ≤ w'.heap.size) : Tabs w' :=
  ⟨⟨fun c hc => (World.cell?_of_block (a := ⟨0, c, none⟩) h0).trans (h.t.1 c hc), fun i hi => ⟨(World.cell?_of_block (a := ⟨1, 2 * i, none⟩) h1).trans (h.t.2 i hi).1, (World.cell?_of_block (a := ⟨1, 2 * i + 1, none⟩) h1).trans (h.t.2 i hi).2⟩⟩, Nat.le_trans h.lt hs⟩
theorem Tabs.below {B : Nat} {w w' : World} (h : Tabs w) (hb : Below B w w') (hB : 2 ≤ B) : Tabs w' := h.same (hb.block 0 (by omega)) (hb.block 1 (by omega)) hb.size
theorem Tabs.grown {g : Nat} {w w' : World} (h : Tabs w) (hg : w.grownBy w' (some g)) (hgt : 2 ≤ g) : Tabs w' :=
  h.same (hg.block 0 (by have := h.lt; omega) (by intro e; injection e with e; omega)) (hg.block 1 (by have := h.lt; omega) (by intro e; injection e with e; omega)) hg.size
theorem tail_str (l : List UInt8) (p : Nat) : (⟨l.toArray⟩ : ByteArray).extract p l.length = ⟨(l.drop p).toArray⟩ := by
  rw [Lib.extract_eq]
  congr 2
  show List.take _ (List.drop p l.toArray.toList) = _
  rw [List.take_of_length_le (by simp)]
/-- what next says -/
def nextF (l : List UInt8) (p : Nat) : Nat × Nat := if p = l.length then (0, 0) else dec (l.drop p)
set_option maxRecDepth 100000 in
set_option maxHeartbeats 4000000 in
theorem next_any (l : List UInt8) (p b : Nat) (w : World) (ht : Tabs w) (hx : Arr w b 70 [.string ⟨l.toArray⟩, .int .i64 (p : Int)]) (hp : p ≤ l.length) (hl : l.length ≤ 70000) :
    Calls Tryd.prog 23 #[.pointer (some ⟨b, 0, none⟩)] w fun e w' => e = .returned (.tuple #[.int .i32 ((nextF l p).1 : Nat), .int .i64 ((nextF l p).2 : Nat)]) ∧ Below w.heap.size w w' := by
  have HX := Lib.hid hx
  have HT := Lib.hid ht
  have x0 := hx.cell (k := 0) rfl
  have x1 := hx.cell (k := 1) rfl
  have hlt := hx.lt
  have hsz : ByteArray.size ⟨l.toArray⟩ = l.length := size_mk l
  clear hx ht
  by_cases h : p = l.length
  · have HE : Hid (nextF l p = (0, 0)) := if_pos h
    have q : ((p : Int) == (l.length : Int)) = true := by rw [beq_iff_eq]; omega
    generalize nextF l p = r at *
    go_enter Tryd.func23, Tryd.ntmps23
    go_wp2_with (go_quiet (fail))
    go_ret2
    rw [HE.out]
    exact ⟨rfl, below_dN (Below.refl _ _)⟩
  · have HE : Hid (nextF l p = dec (l.drop p)) := if_neg h
    have q : ((p : Int) == (l.length : Int)) = false := by rw [beq_eq_false_iff_ne]; omega
    generalize nextF l p = r at *
    have HC : Hid (∀ w', Below w.heap.size w w' → Calls Tryd.prog 39 #[.string ⟨(l.drop p).toArray⟩] w' fun e w'' => e = .returned (.tuple #[.int .i32 (r.1 : Nat), .int .i64 (r.2 : Nat)]) ∧ Below w'.heap.size w' w'') := fun w' hb => by
      rw [HE.out]
      exact decode_any _ w' (HT.out.below hb HT.out.lt).t
    have hts := tail_str l p
    have HS : Hid (∀ w', Below w.heap.size w w' → Below w.heap.size w w' ∧ w'.cell? ⟨b, 0, none⟩ = some (.string ⟨l.toArray⟩) ∧ w'.cell? ⟨b, 1, none⟩ = some (.int .i64 (p : Int))) := fun w' hb =>
      ⟨hb, (hb.cell (p := ⟨b, 0, none⟩) hlt).trans x0, (hb.cell (p := ⟨b, 1, none⟩) hlt).trans x1⟩
    clear HE
    go_enter Tryd.func23, Tryd.ntmps23
    go_upto_region 3 with (go_quiet (fail))
    have HS0 := Lib.hid (HS.out _ (below_dN (n := nq + 1) (Below.refl _ _)))
    clear x0 x1
    refine wp_region_seq (fun w' => Below w.heap.size w w' ∧ w'.cell? ⟨b, 0, none⟩ = some (.string ⟨l.toArray⟩) ∧ w'.cell? ⟨b, 1, none⟩ = some (.int .i64 (p : Int)))
      (by kernel_rfl) (by kernel_rfl) HS0.out ?_
    show Seq _ _ _ _ [_, _, _, _, _, _, _, _, _, _, _, _, _, _] _
    repeat (first
      | (refine seq_val ?_ (by rfl) ?_ ?_
         rotate_left 1
         · rintro w6 ⟨_, x0, x1⟩; go_simp; first | done | with_reducible rfl
         (try simp only [Act.put, List.setIfInBounds_toArray, List.set_cons_zero, List.set_cons_succ]))
      | (refine seq_call ?_ ?_ ?_ (by rfl) ?_ ?_ ?_
         rotate_left 3
         · intro w6 hS6; go_simp; (refine And.intro ?_ ?_ <;> rfl)
         · intro w6 hS6
           (with_reducible refine (HC.out _ hS6.1).mono ?_)
           rintro e w7 ⟨rfl, hb7⟩
           refine And.intro ?_ (HS.out _ (hS6.1.trans (hb7.mono hS6.1.size)))
           rfl
         (try simp only [Act.put, List.setIfInBounds_toArray, List.set_cons_zero, List.set_cons_succ])))
    refine seq_end ?_
    intro w6 hS6
    have HB6 := Lib.hid hS6.1
    clear hS6
    go_wp2_with fail
    go_ret2
    exact ⟨rfl, HB6.out⟩
end Go.Proofs.YtmmakljmikdooaaDoor
