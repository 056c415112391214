import Derived.Test.YtmmakljmikdooaaDoorTw11
import Derived.RangeFuncNested
import Derived.RangeFuncBound
import Derived.RangeFuncCalls
import Derived.RangeFuncLeaves
import Derived.Shelf.Abstract
import Derived.Shelf.RegionOpen
import Derived.OwnWalkIn
import Derived.TacticsInMore
import Derived.LoopNIn
import Derived.LoopIn
import Derived.Sort.CutIn
/- Chapter 5: the rows, one by one: the iterator. -/
namespace Go.Proofs.YtmmakljmikdooaaDoor
open Go.RowKit Go.Shelf
set_option linter.unusedVariables false
set_option linter.unusedSimpArgs false
attribute [local go_sem] Oper.semAt_some

/-- the number of a row -/
abbrev RowN (H : Nat) := { y : Nat // y < H }
/-- a row's value -/
def rowV (b o W c y : Nat) : Value := .slice (some ⟨b, o + y * W, none⟩) W (c - y * W)
/-- the box is as it was -/
def KB (Bn : Nat) (A B : World) : Prop := B.heap[Bn]? = A.heap[Bn]?
/-- the first rows -/
def upR {H : Nat} (pre : List (RowN H)) : Prop := pre.map Subtype.val = List.range pre.length
theorem upR_snoc {H : Nat} {pre : List (RowN H)} (h : upR pre) (hy : pre.length < H) : upR (pre ++ [⟨pre.length, hy⟩]) := by
  unfold upR at *
  rw [List.map_append, h, List.length_append, List.length_singleton, List.range_succ]
  rfl
theorem row_mul {y W H L : Nat} (hW2 : W ≤ 64) (hH2 : H ≤ 64) (hlt : y < H) (hL : L = W * H) : ∃ yw : Nat, y * W = yw ∧ yw + W ≤ L ∧ L ≤ 4096 ∧ wrap64 ((y : Int) * (W : Int)) = (yw : Int) ∧ wrap64 (((y : Int) + 1) * (W : Int)) = (yw : Int) + (W : Int) ∧
    IntKind.i64.wrap ((y : Int) * (W : Int)) = (yw : Int) ∧ IntKind.i64.wrap (((y : Int) + 1) * (W : Int)) = (yw : Int) + (W : Int) := by
  have hm1 : (y + 1) * W ≤ H * W := Nat.mul_le_mul_right W hlt
  have hm2 : H * W ≤ 64 * 64 := Nat.mul_le_mul hH2 hW2
  rw [Nat.succ_mul] at hm1
  rw [Nat.mul_comm] at hL
  have e1 : (y : Int) * (W : Int) = ((y * W : Nat) : Int) := by rw [Int.natCast_mul]
  have e2 : ((y : Int) + 1) * (W : Int) = ((y * W : Nat) : Int) + (W : Int) := by rw [Int.add_mul, Int.one_mul, e1]
  rw [e1, e2]
  subst hL
  generalize H * W = L at *
  generalize y * W = yw at *
  clear e1 e2
  exact ⟨yw, rfl, by omega, by omega, IntWalk.wrap64_in _ (by omega), IntWalk.wrap64_in _ (by omega), IntWalk.i64_in _ (by omega), IntWalk.i64_in _ (by omega)⟩
theorem run_slice30 (b o L c yw W : Nat) (w : World) (h1 : yw + W ≤ L) (h2 : L ≤ c) (hW : 1 ≤ W) :
    (Instr.slice 30 (.slice (some ⟨b, o, none⟩) L c) (some (.int .i64 (yw : Int))) (some (.int .i64 ((yw : Int) + (W : Int)))) none).run Tryd.prog w = .ok (.slice (some ⟨b, o + yw, none⟩) W (c - yw)) w := by
  rw [run_slice_lh (P := Tryd.prog) w 30 (some ⟨b, o, none⟩) L c (by kernel_rfl) .i64 .i64 (yw : Int) ((yw : Int) + (W : Int)) (by omega) (by omega) (by omega)]
  have e2 : ((yw : Int) + (W : Int)).toNat = yw + W := by omega
  rw [e2, Int.toNat_natCast]
  have e3 : (sizeOf (Tryd.prog.elem 30)).run Tryd.prog w = .ok 1 w := by kernel_rfl
  rw [e3]
  simp only [Result.andThen, sliced]
  rw [if_neg (by omega), Nat.mul_one, show yw + W - yw = W by omega]
  simp [Addr.add_lit]
set_option maxRecDepth 100000 in
set_option maxHeartbeats 2000000 in
theorem rows1_in (n : Nat) (hn : 1 ≤ n) (l Bn b o c W H L : Nat) (hW : 1 ≤ W) (hW2 : W ≤ 64) (hH2 : H ≤ 64) (hL : L = W * H) (hc : L ≤ c) (hc2 : c ≤ maxLen) (J Jx : List (RowN H) → World → Prop)
    (hY : ∀ pre (x : RowN H) W1, J pre W1 → pre.length < H → YieldAt Fence.wide (n - 1) Tryd.prog l #[.int .i64 (x.1 : Int), rowV b o W c x.1] W1 fun e W' =>
      (e = .returned (.bool true) ∧ J (pre ++ [x]) W' ∧ KB Bn W1 W') ∨ (e = .returned (.bool false) ∧ Jx (pre ++ [x]) W'))
    (w : World) (hB : Arr w Bn 32 [.int .i64 (W : Int), .int .i64 (H : Int), .slice (some ⟨b, o, none⟩) L c]) (h0 : J [] w) :
    CallsIn Fence.wide n Tryd.prog 81 #[.func (.yield l) #[] #[], .pointer (some ⟨Bn, 0, none⟩)] w fun e W' => (∃ v, e = .returned v) ∧
      ((∃ ys : List (RowN H), (ys.length = H ∧ upR ys) ∧ J ys W') ∨ (∃ pre : List (RowN H), upR pre ∧ Jx pre W')) := by
  unfold maxLen at hc2
  have HB := Lib.hid hB
  have HYY := Lib.hid hY
  have HLL := Lib.hid hL
  clear hY hB hL
  refine callsIn_of_wp Tryd.func81 rfl trivial ?_ rfl
  simp only [Tryd.ntmps81, List.size_toArray, List.length_cons, List.length_nil, Nat.reduceAdd, Nat.reduceSub, Array.replicate_succ, Array.replicate_zero, List.push_toArray, List.append_toArray, List.nil_append, List.cons_append]
  have x1 := HB.out.cell (k := 1) rfl
  gi_wp2
  clear x1
  gi_loopw [6] (fun p wr => ∃ (y : Nat) (pre : List (RowN H)), y ≤ H ∧ p = .int .i64 y ∧ pre.length = y ∧ upR pre ∧ J pre wr ∧ KB Bn w wr)
    (fun p _ => H - (intOf p).toNat)
  case atStart => exact ⟨0, [], Nat.zero_le _, rfl, rfl, rfl, h0, rfl⟩
  case round =>
    obtain ⟨y, pre, hy, rfl, hlen, hup, hJ, hbw⟩ := hrel
    have HUP := Lib.hid hup
    have HLE := Lib.hid hlen
    have hbb := HB.out.of_eq hbw
    have HBW := Lib.hid hbw
    have x0 := hbb.cell (k := 0) rfl
    have x1 := hbb.cell (k := 1) rfl
    have x2 := hbb.cell (k := 2) rfl
    clear hup hlen hbb hbw
    by_cases hlt : y < H
    · obtain ⟨fn, tmps, assign, body, hy', hR⟩ := HYY.out pre ⟨y, hlt⟩ wr hJ (by rw [HLE.out]; exact hlt)
      dsimp only at hy'
      unfold rowV at hy'
      obtain ⟨yw, eyw, hm5, hm6, hw1, hw2, hw3, hw4⟩ := row_mul hW2 hH2 hlt HLL.out
      rw [eyw] at hy'
      clear eyw
      have hsl := fun wx => run_slice30 b o L c yw W wx hm5 hc hW
      gi_upto_region 3 with (fail)
      gi_wp2
      have HUN : Hid (upR (pre ++ [⟨y, hlt⟩])) := by
        have h1 := upR_snoc HUP.out (show pre.length < H by rw [HLE.out]; exact hlt)
        have e : (⟨pre.length, by rw [HLE.out]; exact hlt⟩ : RowN H) = ⟨y, hlt⟩ := Subtype.ext HLE.out
        rw [e] at h1
        exact h1
      clear hw1 hw2 hw3 hw4 hsl hm5 hm6 hy'
      refine hR.mono ?_
      rintro e W3 (⟨rfl, hJ3, hk3⟩ | ⟨rfl, hJx3⟩)
      · have HB3 : Hid (KB Bn w W3) := hk3.trans HBW.out
        gi_wp2
        go_roundw
        case rel => exact ⟨y + 1, pre ++ [⟨y, hlt⟩], by omega, by simp, by rw [List.length_append, HLE.out]; rfl, HUN.out, hJ3, HB3.out⟩
        case measure => simp [intOf]; omega
      · gi_wp2
        refine bodyPost_ret (results_none rfl _ _ _) rfl ?_
        exact ⟨⟨_, rfl⟩, .inr ⟨pre ++ [⟨y, hlt⟩], HUN.out, hJx3⟩⟩
    · obtain rfl : y = H := by omega
      gi_wp2
      go_end0
      exact ⟨⟨_, rfl⟩, .inl ⟨pre, ⟨HLE.out, HUP.out⟩, hJ⟩⟩
/-- 'rows(m)' hands back a function value that captures m's box. -/
theorem rows_any (W H : Nat) (A : Option Addr) (L c : Nat) (w : World) :
    Calls Tryd.prog 74 #[.agg #[.int .i64 (W : Int), .int .i64 (H : Int), .slice A L c]] w fun e w' => e = .returned (.func (.func 81) #[] #[.pointer (some ⟨w.heap.size, 0, none⟩)]) ∧ w' = w.alloc (.cells #[.int .i64 (W : Int), .int .i64 (H : Int), .slice A L c] 32) := by
  go_enter Tryd.func74, Tryd.ntmps74
  go_wp2_with fail
  go_ret
  exact ⟨rfl, rfl⟩
/-- its contract -/
theorem rows_stops (n : Nat) (hn : 1 ≤ n) (Bn b o c W H L : Nat) (hW : 1 ≤ W) (hW2 : W ≤ 64) (hH2 : H ≤ 64) (hL : L = W * H) (hc : L ≤ c) (hc2 : c ≤ maxLen) (w : World) (hb : Bn < w.heap.size)
    (hB : Arr w Bn 32 [.int .i64 (W : Int), .int .i64 (H : Int), .slice (some ⟨b, o, none⟩) L c]) :
    SeqStopsK Fence.wide n Tryd.prog 81 #[.pointer (some ⟨Bn, 0, none⟩)] (fun x : RowN H => #[.int .i64 (x.1 : Int), rowV b o W c x.1]) (KB Bn) (fun ys => ys.length = H ∧ upR ys) (fun pre => upR pre) H w :=
  fun l J Jx w1 hw _ _ hY h0 => rows1_in n hn l Bn b o c W H L hW hW2 hH2 hL hc hc2 J Jx hY w1 (hB.of_eq (hw.block _ hb)) h0
theorem KB.trans {Bn : Nat} {A B C : World} (h : KB Bn A B) (k : KB Bn B C) : KB Bn A C := Eq.trans k h
theorem KB.put {Bn : Nat} {w : World} (hb : Bn < w.heap.size) (W : World) (l : Nat) (o o' : Obj) (hl : w.heap.size ≤ l) (h : W.heap[l]? = some o) (h1 : o.isCells = false) (h2 : o.isWalk = false) : KB Bn W (W.putObj l o') :=
  (belowK_b (w := w) (n₀ := w.heap.size) (Nat.le_refl _) W l o o' hl h h1 h2).block Bn hb
end Go.Proofs.YtmmakljmikdooaaDoor
