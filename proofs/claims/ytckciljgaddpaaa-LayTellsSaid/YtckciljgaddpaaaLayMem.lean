/- Chapter 16: rows of points; what stands while pieces are laid. -/
import Derived.Test.YtckciljgaddpaaaLayWalk2
namespace Go.Proofs.Ytckciljgaddpaaa
open Go.RowKit
set_option linter.unusedVariables false

/-- a point -/
structure Pt where
  x : Int
  y : Int
def Pt.cells (p : Pt) : List Value := [.int .i64 p.x, .int .i64 p.y]
theorem Pt.cells_len (p : Pt) : p.cells.length = 2 := rfl
abbrev Points := Els Pt.cells 2
def pRow (q : Nat → Pt) (n : Nat) : List Value := (List.range n).flatMap fun k => (q k).cells
theorem pRow_len (q : Nat → Pt) (n : Nat) : (pRow q n).length = n * 2 := by
  unfold pRow
  rw [flat_len (n := 2) (fun _ => rfl)]
  simp
theorem pRow_get (q : Nat → Pt) {n k j : Nat} (hk : k < n) (hj : j < 2) : (pRow q n)[k * 2 + j]? = (q k).cells[j]? := by
  unfold pRow
  rw [flat_get (n := 2) (f := fun k => (q k).cells) (fun _ => rfl) (List.range n) (by simpa using hk) hj]
  simp
theorem pRow_ext {q : Nat → Pt} {n : Nat} {l : List Value} (hl : l.length = n * 2) (h : ∀ k j, k < n → j < 2 → l[k * 2 + j]? = (q k).cells[j]?) : l = pRow q n := by
  apply List.ext_getElem?
  intro m
  by_cases hm : m < n * 2
  · have e : m = m / 2 * 2 + m % 2 := by omega
    rw [e, h (m / 2) (m % 2) (by omega) (by omega), pRow_get q (by omega) (by omega)]
  · rw [List.getElem?_eq_none (by omega), List.getElem?_eq_none (by rw [pRow_len]; omega)]
theorem pRow_set (q : Nat → Pt) {n i : Nat} (hi : i < n) (x y : Int) : ((pRow q n).set (i * 2) (.int .i64 x)).set (i * 2 + 1) (.int .i64 y) = pRow (fun k => if k = i then ⟨x, y⟩ else q k) n := by
  refine pRow_ext (by simp [pRow_len]) fun k j hk hj => ?_
  rw [List.getElem?_set, List.getElem?_set]
  simp only [List.length_set, pRow_len]
  by_cases h : k = i
  · subst h
    rw [if_pos rfl]
    have hj2 : j = 0 ∨ j = 1 := by omega
    rcases hj2 with rfl | rfl
    · rw [if_neg (by omega), if_pos (by omega), if_pos (by omega)]; rfl
    · rw [if_pos rfl, if_pos (by omega)]; rfl
  · rw [if_neg (by omega), if_neg (by omega), if_neg h, pRow_get q hk hj]
/-- the row of block g holds the points q -/
def PR (w : World) (base g cap n : Nat) (q : Nat → Pt) : Prop := w.ownsRow base 36 2 (.slice (some ⟨g, 0, none⟩) n cap) n (pRow q n)
section
variable {w w' : World} {base g cap n : Nat} {q : Nat → Pt}
theorem PR.free (h : PR w base g cap n q) (k : Nat) : w.frozen? ⟨g, k, none⟩ = false := World.ownsRow.frozenAt h k
theorem PR.cellX (h : PR w base g cap n q) {k : Nat} (hk : k < n) : w.cell? ⟨g, k * 2, none⟩ = some (.int .i64 (q k).x) := by
  rw [World.ownsRow.cellAt h (k * 2) (by omega), show k * 2 = k * 2 + 0 from rfl, pRow_get q hk (by decide)]; rfl
theorem PR.cellY (h : PR w base g cap n q) {k : Nat} (hk : k < n) : w.cell? ⟨g, k * 2 + 1, none⟩ = some (.int .i64 (q k).y) := by
  rw [World.ownsRow.cellAt h (k * 2 + 1) (by omega), pRow_get q hk (by decide)]; rfl
theorem PR.lt (h : PR w base g cap n q) : g < w.heap.size := (World.ownsRow.lt h g rfl).2
theorem PR.block (h : PR w base g cap n q) (e : w'.heap[g]? = w.heap[g]?) : PR w' base g cap n q := by
  unfold PR World.ownsRow at *
  refine ⟨h.1, h.2.imp id ?_⟩
  rintro ⟨g', cap', cur, hv, hb, hg, rest⟩
  refine ⟨g', cap', cur, hv, hb, ?_, rest⟩
  cases hv
  rw [e]; exact hg
theorem PR.set (h : PR w base g cap n q) {i : Nat} (hi : i < n) (x y : Int) : PR ((w.setCell ⟨g, i * 2, none⟩ (.int .i64 x)).setCell ⟨g, i * 2 + 1, none⟩ (.int .i64 y)) base g cap n (fun k => if k = i then ⟨x, y⟩ else q k) := by
  have h1 := (World.ownsRow.stored h (i * 2) (.int .i64 x)).1
  have h2 := (World.ownsRow.stored h1 (i * 2 + 1) (.int .i64 y)).1
  rw [pRow_set q hi] at h2
  exact h2
theorem PR.congr {q' : Nat → Pt} (h : PR w base g cap n q) (e : ∀ k, k < n → q k = q' k) : PR w base g cap n q' := by
  have : pRow q n = pRow q' n := by
    refine pRow_ext (pRow_len _ _) fun k j hk hj => ?_
    rw [pRow_get q hk hj, e k hk]
  unfold PR at *
  rwa [this] at h
theorem PR.els (h : PR w base g cap n q) : Points w (fun b => base ≤ b ∧ b < w.heap.size) (.slice (some ⟨g, 0, none⟩) n cap) ((List.range n).map q) := by
  obtain ⟨A, c, e, h1, h2⟩ := own_form h
  cases e
  have hr := Row.of_own h
  refine ⟨_, _, by rw [List.length_map, List.length_range], by rw [List.length_map, List.length_range]; exact h1, h2, ?_⟩
  rw [List.length_map, List.length_range, List.flatMap_map]
  exact hr
end
/-- a new row of points, all nought -/
theorem PR.new (w : World) (n : Nat) (hn : n ≤ maxLen) : PR (w.alloc (.cells (madeCells #[.int .i64 0, .int .i64 0] (n * 2)) 36)) w.heap.size w.heap.size n n (fun _ => ⟨0, 0⟩) := by
  have h := World.ownsRow_lit (base := w.heap.size) (e := 36) (size := 2) w (madeCells #[.int .i64 0, .int .i64 0] (n * 2)) n (Nat.le_refl _) hn (size_madeCells _ _)
  have e : (madeCells #[.int .i64 0, .int .i64 0] (n * 2)).toList = pRow (fun _ => ⟨0, 0⟩) n := by
    refine pRow_ext (by rw [Array.length_toList, size_madeCells]) fun k j hk hj => ?_
    unfold madeCells
    have hj2 : j = 0 ∨ j = 1 := by omega
    have hlt : k * 2 + j < n * 2 := by omega
    simp [hlt]
    rcases hj2 with rfl | rfl
    · simp [Pt.cells]
    · simp [Pt.cells]
  rw [e] at h
  exact h
theorem IR.new (w : World) (n : Nat) (hn : n ≤ maxLen) : IR (w.alloc (.cells (madeCells #[.int .i64 0] n) 3)) w.heap.size w.heap.size n n (fun _ => 0) := by
  have h := World.ownsRow_lit (base := w.heap.size) (e := 3) (size := 1) w (madeCells #[.int .i64 0] n) n (Nat.le_refl _) hn (by rw [size_madeCells, Nat.mul_one])
  have e : (madeCells #[.int .i64 0] n).toList = fRow (fun _ => 0) n := by
    apply List.ext_getElem?
    intro m
    by_cases hm : m < n
    · rw [fRow_get _ hm]; unfold madeCells; simp [hm, Nat.mod_one]
    · rw [List.getElem?_eq_none (by rw [Array.length_toList, size_madeCells]; omega), List.getElem?_eq_none (by simp [fRow]; omega)]
  rw [e] at h
  exact h

/-- what stands while pieces are laid -/
structure LS (w0 w : World) (B g1 g2 g3 n : Nat) (v : Value) (h : Nat → Int) (q : Nat → Pt) (x y : Int) : Prop where
  below : Below w0.heap.size w0 w
  box : Arr w B 22 [v]
  ord : IR w g1 g1 n n h
  at_ : PR w g2 g2 n n q
  nx : Arr w g3 36 [.int .i64 x, .int .i64 y]
  l0 : w0.heap.size ≤ B
  l1 : B < g1
  l2 : g1 < g2
  l3 : g2 < g3
section
variable {w0 w : World} {B g1 g2 g3 n : Nat} {v : Value} {h : Nat → Int} {q : Nat → Pt} {x y : Int}
theorem LS.dN (s : LS w0 w B g1 g2 g3 n v h q x y) (k : Nat) : LS w0 (w.drewN k) B g1 g2 g3 n v h q x y := ⟨below_dN s.below, s.box, s.ord.dN k, own_dN s.at_, s.nx, s.l0, s.l1, s.l2, s.l3⟩
theorem LS.drew (s : LS w0 w B g1 g2 g3 n v h q x y) : LS w0 w.drew B g1 g2 g3 n v h q x y := s.dN 1
theorem LS.one (s : LS w0 w B g1 g2 g3 n v h q x y) (a : Int) : LS w0 (w.setCell ⟨g3, 0, none⟩ (.int .i64 a)) B g1 g2 g3 n v h q a y := by
  obtain ⟨b, c, d, e, f, l0, l1, l2, l3⟩ := s
  refine ⟨b.setCell (by show _ ≤ g3; omega) _, c.far (by show B ≠ g3; omega) _, d.block (Below.heap_setCell _ _ _ _ (by show g1 ≠ g3; omega)), e.block (Below.heap_setCell _ _ _ _ (by show g2 ≠ g3; omega)), f.set 0 _, l0, l1, l2, l3⟩
theorem LS.two (s : LS w0 w B g1 g2 g3 n v h q x y) (a b : Int) : LS w0 ((w.setCell ⟨g3, 0, none⟩ (.int .i64 a)).setCell ⟨g3, 1, none⟩ (.int .i64 b)) B g1 g2 g3 n v h q a b := by
  have s := s.one a
  obtain ⟨b, c, d, e, f, l0, l1, l2, l3⟩ := s
  refine ⟨b.setCell (by show _ ≤ g3; omega) _, c.far (by show B ≠ g3; omega) _, d.block (Below.heap_setCell _ _ _ _ (by show g1 ≠ g3; omega)), e.block (Below.heap_setCell _ _ _ _ (by show g2 ≠ g3; omega)), f.set 1 _, l0, l1, l2, l3⟩
theorem LS.put (s : LS w0 w B g1 g2 g3 n v h q x y) {i : Nat} (hi : i < n) (a b : Int) : LS w0 ((w.setCell ⟨g2, i * 2, none⟩ (.int .i64 a)).setCell ⟨g2, i * 2 + 1, none⟩ (.int .i64 b)) B g1 g2 g3 n v h (fun k => if k = i then ⟨a, b⟩ else q k) x y := by
  obtain ⟨b, c, d, e, f, l0, l1, l2, l3⟩ := s
  refine ⟨(b.setCell (by show _ ≤ g2; omega) _).setCell (by show _ ≤ g2; omega) _, (c.far (by show B ≠ g2; omega) _).far (by show B ≠ g2; omega) _,
    d.block ((Below.heap_setCell _ _ _ _ (by show g1 ≠ g2; omega)).trans (Below.heap_setCell _ _ _ _ (by show g1 ≠ g2; omega))), e.set hi _ _, (f.far (by show g3 ≠ g2; omega) _).far (by show g3 ≠ g2; omega) _, l0, l1, l2, l3⟩
theorem LS.congr {q' : Nat → Pt} (s : LS w0 w B g1 g2 g3 n v h q x y) (e : ∀ k, k < n → q k = q' k) : LS w0 w B g1 g2 g3 n v h q' x y := ⟨s.below, s.box, s.ord, s.at_.congr e, s.nx, s.l0, s.l1, s.l2, s.l3⟩
end
end Go.Proofs.Ytckciljgaddpaaa
