import Derived.Test.YtaacfjeddoekfaaTlKnitWalk5
/- Chapter 11: a new machine. -/
namespace Go.Proofs.Ytaacfjeddoekfaa
open Go.RowKit
set_option linter.unusedVariables false
set_option linter.unusedSimpArgs false

theorem made_nils (N : Nat) : (madeCells #[nils] N).toList = (List.range N).map fun _ => nils := by
  apply List.ext_getElem?
  intro i
  by_cases h : i < N
  · unfold madeCells; simp [h, Nat.mod_one]
  · rw [List.getElem?_eq_none (by rw [Array.length_toList, size_madeCells]; omega), List.getElem?_eq_none (by simp; omega)]
theorem mw_new {w w' : World} {B p N g0 g1 : Nat} (hb : Below B w w') (hB : B ≤ w.heap.size) (hp : B ≤ p) (h0 : p < g0) (h1 : g0 < g1) (a : Arr w' p 78 [nils, .slice (some ⟨g0, 0, none⟩) N N, .slice (some ⟨g1, 0, none⟩) N N, nils, .int .i64 0, .int .i64 0])
    (b0 : Arr w' g0 25 ((List.range N).map fun _ => nils)) (b1 : Arr w' g1 25 ((List.range N).map fun _ => nils)) : MW w w' B p N zeroK := by
  refine ⟨⟨fun x => if x = p then rM else if x = g0 then rB 0 else if x = g1 then rB 1 else (6, 0, 0), nils, nils, fun b => if b = 0 then g0 else g1, fun _ _ => nils, fun _ => nils⟩, ⟨hb, hB, a, hp, fun b hb => ?_, World.ownsRow_nil _ _ _ _, World.ownsRow_nil _ _ _ _, fun b n => World.ownsRow_nil _ _ _ _, if_pos rfl, fun b hb => ?_, Sep.nil _ _, Sep.nil _ _, fun b n => Sep.nil _ _⟩, fun i hi => by simp [zeroK] at hi⟩
  · rcases hb with rfl | rfl
    · exact ⟨b0, by show B ≤ g0; omega⟩
    · exact ⟨b1, by show B ≤ g1; omega⟩
  · rcases hb with rfl | rfl
    · show (if g0 = p then rM else if g0 = g0 then rB 0 else _) = _
      rw [if_neg (by omega), if_pos rfl]
    · show (if g1 = p then rM else if g1 = g0 then rB 0 else if g1 = g1 then rB 1 else _) = _
      rw [if_neg (by omega), if_neg (by omega), if_pos rfl]

set_option maxHeartbeats 1000000 in
theorem New_bad (n : Int) (hn : n < 1 ∨ 128 < n) (w : World) : Calls Try.prog 25 #[.int .i64 n] w fun e w' => e = .returned (.tuple #[.pointer none, .int .i64 3]) ∧ w' = w := by
  by_cases h : n < 1
  · go_enter Try.func25, Try.ntmps25
    go_wp2_with fail
    go_ret2
    exact ⟨rfl, rfl⟩
  · have h2 : 128 < n := by omega
    clear hn
    go_enter Try.func25, Try.ntmps25
    go_wp2_with fail
    go_ret2
    exact ⟨rfl, rfl⟩

theorem arr_new_set (w : World) (q : Addr) (v : Value) (cs : Array Value) (t : TypeId) : Arr ((w.setCell q v).alloc (.cells cs t)) w.heap.size t cs.toList := by
  have := Arr.new (w.setCell q v) cs t
  rwa [show (w.setCell q v).heap.size = w.heap.size by simp [World.setCell]] at this
/-- what stands while the beds are made -/
inductive NB (w : World) (N : Nat) : Nat → World → Prop
  | zero {w'} (hb : Below w.heap.size w w') (a : Arr w' w.heap.size 78 [nils, nils, nils, nils, .int .i64 0, .int .i64 0]) : NB w N 0 w'
  | one {w' g0} (hb : Below w.heap.size w w') (h0 : w.heap.size < g0) (a : Arr w' w.heap.size 78 [nils, .slice (some ⟨g0, 0, none⟩) N N, nils, nils, .int .i64 0, .int .i64 0]) (b0 : Arr w' g0 25 ((List.range N).map fun _ => nils)) : NB w N 1 w'
  | two {w' g0 g1} (hb : Below w.heap.size w w') (h0 : w.heap.size < g0) (h1 : g0 < g1) (a : Arr w' w.heap.size 78 [nils, .slice (some ⟨g0, 0, none⟩) N N, .slice (some ⟨g1, 0, none⟩) N N, nils, .int .i64 0, .int .i64 0])
      (b0 : Arr w' g0 25 ((List.range N).map fun _ => nils)) (b1 : Arr w' g1 25 ((List.range N).map fun _ => nils)) : NB w N 2 w'

set_option maxHeartbeats 2000000 in
theorem New_ok (N : Nat) (h1 : 1 ≤ N) (h2 : N ≤ 128) (w : World) : Calls Try.prog 25 #[.int .i64 (N : Int)] w fun e w' => ∃ p, e = .returned (.tuple #[ptr p 0, .int .i64 0]) ∧ MW w w' w.heap.size p N zeroK := by
  have mk := fun w => run_mk T24 N N (Nat.le_refl _) (by omega) w
  have hst : Hid (NB w N 0 (w.alloc (.cells #[nils, nils, nils, nils, .int .i64 0, .int .i64 0] 78))) := .zero ((Below.refl _ _).alloc (Nat.le_refl _) _) (Arr.new w _ 78)
  go_enter Try.func25, Try.ntmps25
  go_wp2_with fail
  go_loopg [14] 2 (fun gg ctr wr => ∃ i : Nat, i ≤ 2 ∧ gg = 2 - i ∧ ctr = .int .i64 i ∧ NB w N i wr)
  case atStart => exact ⟨0, by omega, rfl, rfl, hst.out⟩
  case round =>
    clear hst
    obtain ⟨i, hi, rfl, rfl, hnb⟩ := hrel
    cases hnb with
    | zero hb a =>
      have c1 := a.cell (k := 1) rfl
      have z1 := a.free 1
      have hlt := a.lt
      have HN : Hid (NB w N 1 (((wr.setCell ⟨w.heap.size, 1, none⟩ (.slice (some ⟨wr.heap.size, 0, none⟩) N N)).alloc (.cells (madeCells #[nils] N) 25)).drewN 1)) := by
        refine .one (below_dN (n := 1) ((hb.setCell (Nat.le_refl _) _).alloc (by have := hb.size; simp [World.setCell]; omega) _)) hlt ((a.set 1 _).alloc _) ?_
        have := arr_new_set wr ⟨w.heap.size, 1, none⟩ (.slice (some ⟨wr.heap.size, 0, none⟩) N N) (madeCells #[nils] N) 25
        rw [made_nils] at this
        exact this
      clear a hb
      go_wp2_with fail
      go_region
      go_wp2_with fail
      go_roundg 1
      case measure => omega
      case rel => exact ⟨1, by omega, rfl, by go_num, HN.out⟩
    | @one w9 g0 hb h0 a b0 =>
      have c1 := a.cell (k := 2) rfl
      have z1 := a.free 2
      have hlt := a.lt
      have HN : Hid (NB w N 2 (((wr.setCell ⟨w.heap.size, 2, none⟩ (.slice (some ⟨wr.heap.size, 0, none⟩) N N)).alloc (.cells (madeCells #[nils] N) 25)).drewN 1)) := by
        refine .two (below_dN (n := 1) ((hb.setCell (Nat.le_refl _) _).alloc (by have := hb.size; simp [World.setCell]; omega) _)) h0 b0.lt ((a.set 2 _).alloc _) ((b0.far (p := ⟨w.heap.size, 2, none⟩) (Nat.ne_of_gt h0) _).alloc _) ?_
        have := arr_new_set wr ⟨w.heap.size, 2, none⟩ (.slice (some ⟨wr.heap.size, 0, none⟩) N N) (madeCells #[nils] N) 25
        rw [made_nils] at this
        exact this
      clear a hb b0
      go_wp2_with fail
      go_region
      go_wp2_with fail
      go_roundg 0
      case measure => omega
      case rel => exact ⟨2, by omega, rfl, by go_num, HN.out⟩
    | @two w9 g0 g1 hb h0 h1 a b0 b1 =>
      have HF : Hid (MW w wr w.heap.size w.heap.size N zeroK) := mw_new hb (Nat.le_refl _) (Nat.le_refl _) h0 h1 a b0 b1
      clear a hb b0 b1
      go_wp2_with fail
      go_ret2
      exact ⟨w.heap.size, rfl, HF.out⟩
end Go.Proofs.Ytaacfjeddoekfaa
