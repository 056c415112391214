/- Texts of the seat, put together: FabMem, FabRef1, KnitSame. -/
import Derived.Test.YtaacfjeddoekfaaTlFabBuild
import Derived.Test.YtaacfjeddoekfaaTlFabWalk3
import Derived.Test.YtaacfjeddoekfaaTl6
import Derived.Test.YtaacfjeddoekfaaTl2
import Derived.Test.YtaacfjeddoekfaaTl5
import Derived.Deep.QuietTactic
import Derived.BigQuiet
import Derived.Deep.LoopGhost
/- Chapter 12, the document's answer: what its Cloth makes, in memory. -/
namespace Go.Proofs.Ytaacfjeddoekfaa
open Go.RowKit
set_option linter.unusedVariables false

/-! ### a row of pairs -/
def prow (c : Nat → Value × Value) (n : Nat) : List Value := (List.range n).flatMap fun t => [(c t).1, (c t).2]
theorem prow_len (c : Nat → Value × Value) (n : Nat) : (prow c n).length = n * 2 := by
  unfold prow
  rw [flat_len (n := 2) (fun _ => rfl), List.length_range]
theorem prow_get (c : Nat → Value × Value) {n t : Nat} (h : t < n) : (prow c n)[t * 2]? = some (c t).1 ∧ (prow c n)[t * 2 + 1]? = some (c t).2 := by
  have hl : t < (List.range n).length := by simpa using h
  have h0 := flat_get (n := 2) (f := fun t => [(c t).1, (c t).2]) (fun _ => rfl) (List.range n) hl (show 0 < 2 by decide)
  have h1 := flat_get (n := 2) (f := fun t => [(c t).1, (c t).2]) (fun _ => rfl) (List.range n) hl (show 1 < 2 by decide)
  rw [List.getElem_range] at h0 h1
  exact ⟨h0, h1⟩
theorem prow_congr {c d : Nat → Value × Value} {n : Nat} (h : ∀ t, t < n → c t = d t) : prow c n = prow d n := by
  unfold prow
  have : ∀ t ∈ List.range n, [(c t).1, (c t).2] = [(d t).1, (d t).2] := fun t ht => by rw [h t (by simpa using ht)]
  rw [List.flatMap_def, List.flatMap_def, List.map_congr_left this]
theorem prow_set {c : Nat → Value × Value} {n t : Nat} (h : t < n) (a b : Value) : ((prow c n).set (t * 2) a).set (t * 2 + 1) b = prow (fun s => if s = t then (a, b) else c s) n := by
  apply List.ext_getElem?
  intro j
  rcases Nat.lt_or_ge j (n * 2) with hj | hj
  · have hs : j / 2 < n := by omega
    have e1 := prow_get c hs
    have e2 := prow_get (fun s => if s = t then (a, b) else c s) hs
    rw [List.getElem?_set, List.getElem?_set, List.length_set, prow_len]
    rcases Nat.mod_two_eq_zero_or_one j with hm | hm
    · have ej : j = j / 2 * 2 := by omega
      by_cases c1 : j / 2 = t
      · rw [if_neg (by omega), if_pos (by omega), if_pos (by omega), ej, e2.1, if_pos c1]
      · rw [if_neg (by omega), if_neg (by omega), ej, e2.1, e1.1, if_neg c1]
    · have ej : j = j / 2 * 2 + 1 := by omega
      by_cases c1 : j / 2 = t
      · rw [if_pos (by omega), if_pos (by omega), ej, e2.2, if_pos c1]
      · rw [if_neg (by omega), if_neg (by omega), ej, e2.2, e1.2, if_neg c1]
  · rw [List.getElem?_eq_none (by rw [List.length_set, List.length_set, prow_len]; exact hj), List.getElem?_eq_none (by rw [prow_len]; exact hj)]
theorem prow_lrow {c : Nat → Value × Value} {ls : List Lop} (h : ∀ t, t < ls.length → (c t).1 = .int .i64 (ls.getD t noLop).car) : prow c ls.length = lrow ls fun t => (c t).2 := by
  unfold prow lrow
  have : ∀ t ∈ List.range ls.length, [(c t).1, (c t).2] = [.int .i64 (ls.getD t noLop).car, (c t).2] := fun t ht => by rw [h t (by simpa using ht)]
  rw [List.flatMap_def, List.flatMap_def, List.map_congr_left this]
def zeroP : Nat → Value × Value := fun _ => (.int .i64 0, nils)
theorem made_prow (n : Nat) : (madeCells #[.int .i64 0, nils] (n * 2)).toList = prow zeroP n := by
  apply List.ext_getElem?
  intro j
  rcases Nat.lt_or_ge j (n * 2) with hj | hj
  · have hs : j / 2 < n := by omega
    have e := prow_get zeroP hs
    rcases Nat.mod_two_eq_zero_or_one j with hm | hm
    · have ej : j = j / 2 * 2 := by omega
      rw [ej, e.1]
      unfold madeCells zeroP
      simp [show j / 2 * 2 < n * 2 by omega]
    · have ej : j = j / 2 * 2 + 1 := by omega
      rw [ej, e.2]
      unfold madeCells zeroP
      simp [show j / 2 * 2 + 1 < n * 2 by omega, Nat.add_mod]
  · rw [List.getElem?_eq_none (by rw [Array.length_toList, size_madeCells]; exact hj), List.getElem?_eq_none (by rw [prow_len]; exact hj)]

/-! ### the box, the row, the list: in whatever order they are made -/
abbrev mkP (n : Nat) : Obj := .cells (madeCells #[.int .i64 0, nils] (n * 2)) 41
abbrev bx0 : Obj := .cells #[nils, nils, nils, nils, .int .i64 0] 27
structure RSB (w4 W : World) (n : Nat) (xs : List Int) (c d : Option Value) (m a : Option Nat) : Prop where
  below : Below w4.heap.size w4 W
  hc : ∀ v, c = some v → W.ownsRow w4.heap.size 3 1 v xs.length (ints xs)
  hd : ∀ v, d = some v → W.ownsRow w4.heap.size 3 1 v xs.length (ints (xs.mergeSort fun x y => decide (x ≤ y))) ∧ (∀ b, m = some b → v.ownBlock ≠ some b) ∧ (∀ b, a = some b → v.ownBlock ≠ some b)
  hm : ∀ b, m = some b → W.ownsRow w4.heap.size 41 2 (.slice (some ⟨b, 0, none⟩) n n) n (prow zeroP n) ∧ a ≠ some b
  ha : ∀ b, a = some b → w4.heap.size ≤ b ∧ Arr W b 27 [nils, nils, nils, nils, .int .i64 0] ∧ m ≠ some b
section
variable {w4 W W' : World} {n : Nat} {xs : List Int} {c d : Option Value} {m a : Option Nat}
theorem RSB.zero (w4 : World) (n : Nat) (xs : List Int) : RSB w4 w4 n xs none none none none :=
  ⟨Below.refl _ _, fun v h => (by cases h), fun v h => (by cases h), fun b h => (by cases h), fun b h => (by cases h)⟩
theorem RSB.keep (h : RSB w4 W n xs c d m a) (hb : Below W.heap.size W W') : RSB w4 W' n xs c d m a :=
  ⟨h.below.trans (hb.mono h.below.size), fun v e => own_below (h.hc v e) hb (Nat.le_refl _), fun v e => ⟨own_below (h.hd v e).1 hb (Nat.le_refl _), (h.hd v e).2⟩, fun b e => ⟨own_below (h.hm b e).1 hb (Nat.le_refl _), (h.hm b e).2⟩,
    fun b e => ⟨(h.ha b e).1, (h.ha b e).2.1.of_eq (hb.block _ (h.ha b e).2.1.lt), (h.ha b e).2.2⟩⟩
theorem RSB.drew (h : RSB w4 W n xs c d m a) : RSB w4 W.drew n xs c d m a := h.keep (below_dN (n := 1) (Below.refl _ _))
theorem RSB.aM (h : RSB w4 W n xs c d none a) (hn : n ≤ maxLen) : RSB w4 (W.alloc (mkP n)) n xs c d (some W.heap.size) a := by
  have hb : Below W.heap.size W (W.alloc (mkP n)) := (Below.refl _ _).alloc (Nat.le_refl _) _
  have k := h.keep hb
  refine ⟨k.below, k.hc, fun v e => ⟨(k.hd v e).1, fun b eb => ?_, (k.hd v e).2.2⟩, fun b e => ?_, fun b e => ⟨(k.ha b e).1, (k.ha b e).2.1, fun e2 => ?_⟩⟩
  · cases eb
    intro e2
    have := ((h.hd v e).1.lt _ e2).2
    omega
  · cases e
    refine ⟨?_, fun e2 => ?_⟩
    · have hr := World.ownsRow_lit (base := w4.heap.size) (e := 41) (size := 2) W (madeCells #[.int .i64 0, nils] (n * 2)) n h.below.size hn (by rw [size_madeCells])
      rw [made_prow] at hr
      exact hr
    · have := (h.ha _ e2).2.1.lt; omega
  · cases e2
    have := (h.ha _ e).2.1.lt; omega
theorem RSB.aA (h : RSB w4 W n xs c d m none) : RSB w4 (W.alloc bx0) n xs c d m (some W.heap.size) := by
  have hb : Below W.heap.size W (W.alloc bx0) := (Below.refl _ _).alloc (Nat.le_refl _) _
  have k := h.keep hb
  refine ⟨k.below, k.hc, fun v e => ⟨(k.hd v e).1, (k.hd v e).2.1, fun b eb => ?_⟩, fun b e => ⟨(k.hm b e).1, fun e2 => ?_⟩, fun b e => ?_⟩
  · cases eb
    intro e2
    have := ((h.hd v e).1.lt _ e2).2
    omega
  · have := ((h.hm b e).1.lt b rfl).2
    injection e2 with e2
    omega
  · cases e
    refine ⟨h.below.size, Arr.new W #[nils, nils, nils, nils, .int .i64 0] 27, fun e2 => ?_⟩
    have := ((h.hm _ e2).1.lt W.heap.size rfl).2; omega
theorem RSB.callC (h : RSB w4 W n xs none none m a) (hb : Below W.heap.size W W') {u : Value} (hu : W'.ownsRow W.heap.size 3 1 u xs.length (ints xs)) : RSB w4 W' n xs (some u) none m a :=
  have k := h.keep hb
  ⟨k.below, fun v e => by cases e; exact own_base hu h.below.size, fun v e => (by cases e), k.hm, k.ha⟩
theorem RSB.callD (h : RSB w4 W n xs c none m a) (hb : Below W.heap.size W W') {u : Value} (hu : W'.ownsRow W.heap.size 3 1 u xs.length (ints (xs.mergeSort fun x y => decide (x ≤ y)))) : RSB w4 W' n xs c (some u) m a :=
  have k := h.keep hb
  ⟨k.below, k.hc, fun v e => by
    cases e
    refine ⟨own_base hu h.below.size, fun b e e2 => ?_, fun b e e2 => ?_⟩
    · have := (hu.lt _ e2).1
      have := ((h.hm b e).1.lt b rfl).2; omega
    · have := (hu.lt _ e2).1
      have := (h.ha b e).2.1.lt; omega, k.hm, k.ha⟩
/-- the end: the box holds the row and the list -/
structure RE (w4 W : World) (n : Nat) (xs : List Int) (rack : Int) (g gm : Nat) (vo : Value) : Prop where
  below : Below w4.heap.size w4 W
  arr : Arr W g 27 [.slice (some ⟨gm, 0, none⟩) n n, nils, nils, vo, .int .i64 rack]
  gB : w4.heap.size ≤ g
  row : W.ownsRow w4.heap.size 41 2 (.slice (some ⟨gm, 0, none⟩) n n) n (prow zeroP n)
  lo : W.ownsRow w4.heap.size 3 1 vo xs.length (ints (xs.mergeSort fun x y => decide (x ≤ y)))
  ne1 : gm ≠ g
  ne2 : vo.ownBlock ≠ some g
  ne3 : vo.ownBlock ≠ some gm
/-- five cells of the box set -/
abbrev set5B (w : World) (g : Nat) (x0 x1 x2 x3 x4 : Value) : World := ((((w.setCell ⟨g, 0, none⟩ x0).setCell ⟨g, 1, none⟩ x1).setCell ⟨g, 2, none⟩ x2).setCell ⟨g, 3, none⟩ x3).setCell ⟨g, 4, none⟩ x4
theorem RSB.set {v : Value} {gm g : Nat} (h : RSB w4 W n xs c (some v) (some gm) (some g)) (rack : Int) : RE w4 (set5B W g (.slice (some ⟨gm, 0, none⟩) n n) nils nils v (.int .i64 rack)) n xs rack g gm v := by
  obtain ⟨hd, hd1, hd2⟩ := h.hd v rfl
  obtain ⟨hm, hm1⟩ := h.hm gm rfl
  obtain ⟨ha, ha1, ha2⟩ := h.ha g rfl
  have hne : gm ≠ g := fun e => ha2 (by rw [e])
  refine ⟨((((h.below.setCell ha _).setCell ha _).setCell ha _).setCell ha _).setCell ha _, ((((ha1.set 0 _).set 1 _).set 2 _).set 3 _).set 4 _, ha, kept_five hm (fun e => hne (by injection e)) _ _ _ _ _, kept_five hd (hd2 g rfl) _ _ _ _ _, hne, hd2 g rfl, hd1 gm rfl⟩
/-- the box is made last, as it is to be -/
theorem RSB.last {v : Value} {gm : Nat} (h : RSB w4 W n xs c (some v) (some gm) none) (rack : Int) : RE w4 (W.alloc (.cells #[.slice (some ⟨gm, 0, none⟩) n n, nils, nils, v, .int .i64 rack] 27)) n xs rack W.heap.size gm v := by
  obtain ⟨hd, hd1, hd2⟩ := h.hd v rfl
  obtain ⟨hm, hm1⟩ := h.hm gm rfl
  refine ⟨h.below.alloc h.below.size _, Arr.new W _ 27, h.below.size, own_al hm _, own_al hd _, fun e => ?_, fun e => ?_, hd1 gm rfl⟩
  · have := (hm.lt gm rfl).2; omega
  · have := (hd.lt _ e).2; omega
/-- the row is made last -/
theorem RE.aM {W : World} {v : Value} {g : Nat} {rack : Int} (hn : n ≤ maxLen) (hb : Below w4.heap.size w4 W) (harr : Arr W g 27 [.slice (some ⟨W.heap.size, 0, none⟩) n n, nils, nils, v, .int .i64 rack]) (hg : w4.heap.size ≤ g)
    (hd : W.ownsRow w4.heap.size 3 1 v xs.length (ints (xs.mergeSort fun x y => decide (x ≤ y)))) (hd2 : v.ownBlock ≠ some g) : RE w4 (W.alloc (mkP n)) n xs rack g W.heap.size v := by
  have hr := World.ownsRow_lit (base := w4.heap.size) (e := 41) (size := 2) W (madeCells #[.int .i64 0, nils] (n * 2)) n hb.size hn (by rw [size_madeCells])
  rw [made_prow] at hr
  refine ⟨hb.alloc hb.size _, harr.alloc _, hg, hr, own_al hd _, fun e => ?_, hd2, fun e => ?_⟩
  · have := harr.lt; omega
  · have := (hd.lt _ e).2; omega
theorem RSB.setM {v : Value} {g : Nat} (h : RSB w4 W n xs c (some v) none (some g)) (hn : n ≤ maxLen) (rack : Int) : RE w4 ((set5B W g (.slice (some ⟨W.heap.size, 0, none⟩) n n) nils nils v (.int .i64 rack)).alloc (mkP n)) n xs rack g W.heap.size v := by
  obtain ⟨hd, hd1, hd2⟩ := h.hd v rfl
  obtain ⟨ha, ha1, ha2⟩ := h.ha g rfl
  have hsz : (set5B W g (.slice (some ⟨W.heap.size, 0, none⟩) n n) nils nils v (.int .i64 rack)).heap.size = W.heap.size := by simp [set5B, World.setCell]
  have := RE.aM (w4 := w4) (W := set5B W g (.slice (some ⟨W.heap.size, 0, none⟩) n n) nils nils v (.int .i64 rack)) (n := n) (xs := xs) (v := v) (g := g) (rack := rack) hn (((((h.below.setCell ha _).setCell ha _).setCell ha _).setCell ha _).setCell ha _)
    (by rw [hsz]; exact ((((ha1.set 0 _).set 1 _).set 2 _).set 3 _).set 4 _) ha (kept_five hd (hd2 g rfl) _ _ _ _ _) (hd2 g rfl)
  rw [hsz] at this
  exact this
theorem RSB.lastM {v : Value} (h : RSB w4 W n xs c (some v) none none) (hn : n ≤ maxLen) (rack : Int) : RE w4 ((W.alloc (.cells #[.slice (some ⟨W.heap.size + 1, 0, none⟩) n n, nils, nils, v, .int .i64 rack] 27)).alloc (mkP n)) n xs rack W.heap.size (W.heap.size + 1) v := by
  obtain ⟨hd, hd1, hd2⟩ := h.hd v rfl
  have hsz : (W.alloc (.cells #[.slice (some ⟨W.heap.size + 1, 0, none⟩) n n, nils, nils, v, .int .i64 rack] 27)).heap.size = W.heap.size + 1 := by simp
  have := RE.aM (w4 := w4) (W := W.alloc (.cells #[.slice (some ⟨W.heap.size + 1, 0, none⟩) n n, nils, nils, v, .int .i64 rack] 27)) (n := n) (xs := xs) (v := v) (g := W.heap.size) (rack := rack) hn (h.below.alloc h.below.size _)
    (by rw [hsz]; exact Arr.new W _ 27) h.below.size (own_al hd _) (fun e => by have := (hd.lt _ e).2; omega)
  rw [hsz] at this
  exact this
theorem RSB.mLast {v : Value} (h : RSB w4 W n xs c (some v) none none) (hn : n ≤ maxLen) (rack : Int) : RE w4 ((W.alloc (mkP n)).alloc (.cells #[.slice (some ⟨W.heap.size, 0, none⟩) n n, nils, nils, v, .int .i64 rack] 27)) n xs rack (W.heap.size + 1) W.heap.size v := by
  have := (h.aM hn).last rack
  rw [World.size_alloc] at this
  exact this
theorem RSB.end1 {v : Value} {gm : Nat} {g : Nat} (h : RSB w4 W n xs c (some v) (some gm) (some g)) (rack : Int) : ∃ g' gm' vo, Value.pointer (some ⟨g, 0, none⟩) = Value.pointer (some ⟨g', 0, none⟩) ∧ RE w4 (((((W.setCell ⟨g, 0, none⟩ (.slice (some ⟨gm, 0, none⟩) n n)).setCell ⟨g, 1, none⟩ (.slice none 0 0)).setCell ⟨g, 2, none⟩ (.slice none 0 0)).setCell ⟨g, 3, none⟩ v).setCell ⟨g, 4, none⟩ (.int .i64 rack)) n xs rack g' gm' vo := ⟨_, _, _, rfl, h.set rack⟩
theorem RSB.end2 {v : Value} {gm : Nat} (h : RSB w4 W n xs c (some v) (some gm) none) (rack : Int) : ∃ g' gm' vo, Value.pointer (some ⟨W.heap.size, 0, none⟩) = Value.pointer (some ⟨g', 0, none⟩) ∧ RE w4 (W.alloc (Obj.cells #[Value.slice (some ⟨gm, 0, none⟩) n n, Value.slice none 0 0, Value.slice none 0 0, v, Value.int IntKind.i64 rack] 27)) n xs rack g' gm' vo := ⟨_, _, _, rfl, h.last rack⟩
theorem RSB.end3 {v : Value} {g : Nat} (h : RSB w4 W n xs c (some v) none (some g)) (hn : n ≤ maxLen) (rack : Int) : ∃ g' gm' vo, Value.pointer (some ⟨g, 0, none⟩) = Value.pointer (some ⟨g', 0, none⟩) ∧ RE w4 ((((((W.setCell ⟨g, 0, none⟩ (.slice (some ⟨W.heap.size, 0, none⟩) n n)).setCell ⟨g, 1, none⟩ (.slice none 0 0)).setCell ⟨g, 2, none⟩ (.slice none 0 0)).setCell ⟨g, 3, none⟩ v).setCell ⟨g, 4, none⟩ (.int .i64 rack)).alloc (Obj.cells (madeCells #[Value.int IntKind.i64 0, Value.slice none 0 0] (n * 2)) 41)) n xs rack g' gm' vo := ⟨_, _, _, rfl, h.setM hn rack⟩
theorem RSB.end4 {v : Value} (h : RSB w4 W n xs c (some v) none none) (hn : n ≤ maxLen) (rack : Int) : ∃ g' gm' vo, Value.pointer (some ⟨W.heap.size, 0, none⟩) = Value.pointer (some ⟨g', 0, none⟩) ∧ RE w4 ((W.alloc (Obj.cells #[Value.slice (some ⟨W.heap.size + 1, 0, none⟩) n n, Value.slice none 0 0, Value.slice none 0 0, v, Value.int IntKind.i64 rack] 27)).alloc (Obj.cells (madeCells #[Value.int IntKind.i64 0, Value.slice none 0 0] (n * 2)) 41)) n xs rack g' gm' vo := ⟨_, _, _, rfl, h.lastM hn rack⟩
theorem RSB.end5 {v : Value} (h : RSB w4 W n xs c (some v) none none) (hn : n ≤ maxLen) (rack : Int) : ∃ g' gm' vo, Value.pointer (some ⟨W.heap.size + 1, 0, none⟩) = Value.pointer (some ⟨g', 0, none⟩) ∧ RE w4 ((W.alloc (Obj.cells (madeCells #[Value.int IntKind.i64 0, Value.slice none 0 0] (n * 2)) 41)).alloc (Obj.cells #[Value.slice (some ⟨W.heap.size, 0, none⟩) n n, Value.slice none 0 0, Value.slice none 0 0, v, Value.int IntKind.i64 rack] 27)) n xs rack g' gm' vo := ⟨_, _, _, rfl, h.mLast hn rack⟩
end

theorem five_alloc (w : World) (p : Nat) (a b c d e : Value) (o : Obj) (x k : Nat) (h : x < w.heap.size) (hp : x ≠ p) : ((((((w.setCell ⟨p, 0, none⟩ a).setCell ⟨p, 1, none⟩ b).setCell ⟨p, 2, none⟩ c).setCell ⟨p, 3, none⟩ d).setCell ⟨p, 4, none⟩ e).alloc o).cell? ⟨x, k, none⟩ = w.cell? ⟨x, k, none⟩ := by
  rw [World.cell?_alloc_lt _ _ _ (by simp [World.setCell]; exact h)]
  exact five_far _ _ _ _ _ _ _ _ _ hp
/-! ### loops told in whatever order -/
def R1 (wA w : World) (g : Nat) (k : KS) (nv : Nat → Nat) (i : Nat) : Prop := ∃ own v n cs vo cl c gm, SB wA w g own [0, 1, 2] v n cs vo k.rack cl ∧ n 0 = k.loops.length ∧ cs 0 = prow c k.loops.length ∧ v 0 = .slice (some ⟨gm, 0, none⟩) k.loops.length k.loops.length ∧
  (∀ t, t < k.loops.length → nv t < i → (c t).1 = .int .i64 (k.loops.getD t noLop).car ∧ ((c t).2, (k.loops.getD t noLop).thr) ∈ cl) ∧ (vo, k.loose) ∈ cl ∧ v 1 = nils ∧ v 2 = nils ∧ n 1 = 0 ∧ n 2 = 0 ∧ cs 1 = [] ∧ cs 2 = []
theorem R1.below {wA w : World} {g : Nat} {k : KS} {nv : Nat → Nat} {i : Nat} (h : R1 wA w g k nv i) : Below wA.heap.size wA w := by obtain ⟨own, v, n, cs, vo, cl, c, gm, hs, _⟩ := h; exact hs.below
theorem RE.start {w4 W : World} {xs : List Int} {g gm : Nat} {vo : Value} {k : KS} (h : RE w4 W k.loops.length xs k.rack g gm vo) (hl : k.loose = xs.mergeSort fun x y => decide (x ≤ y)) (nv : Nat → Nat) : R1 w4 W g k nv 0 := by
  have hi : Ints W (CB w4 W fun b => if b = g then rK else if b = gm then rV 0 else rC) vo k.loose := by
    have h0 : Ints W (fun b => w4.heap.size ≤ b ∧ b < W.heap.size ∧ b ≠ g) vo k.loose := by
      rw [hl]; exact Ints.of_own_ne h.lo h.ne2
    obtain ⟨A, c, rfl, q1, q2, q3⟩ := h0
    refine ⟨A, c, rfl, q1, q2, q3.len, fun hn => ?_⟩
    obtain ⟨b, o, e, hs, hc⟩ := q3.at_ hn
    refine ⟨b, o, e, ⟨hs.1, hs.2.1, ?_⟩, hc⟩
    have hbm : b ≠ gm := fun e2 => h.ne3 (by
      rcases h.lo.2 with ⟨e3, _⟩ | ⟨g3, cap, cur, e3, _⟩
      · simp only [Value.slice.injEq] at e3
        rw [e3.1] at e
        cases e
      · simp only [Value.slice.injEq] at e3
        rw [e3.1]
        rw [e3.1] at e
        cases e
        rw [← e2]; rfl)
    show (if b = g then rK else if b = gm then rV 0 else rC) = rC
    rw [if_neg hs.2.2, if_neg hbm]
  refine ⟨fun b => if b = g then rK else if b = gm then rV 0 else rC, fun i => if i = 0 then .slice (some ⟨gm, 0, none⟩) k.loops.length k.loops.length else nils, fun i => if i = 0 then k.loops.length else 0, fun i => if i = 0 then prow zeroP k.loops.length else [], vo, [(vo, k.loose)], zeroP, gm,
    ⟨h.below, h.arr, h.gB, if_pos rfl, fun r hr => ?_, fun q hq => ?_⟩, rfl, rfl, rfl, fun t _ ht => by omega, by simp, rfl, rfl, rfl, rfl, rfl, rfl⟩
  · by_cases h0 : r = 0
    · subst h0
      refine ⟨h.row, fun b e => ?_⟩
      cases e
      show (if gm = g then rK else if gm = gm then rV 0 else rC) = rV 0
      rw [if_neg h.ne1, if_pos rfl]
    · rw [if_neg h0, if_neg h0, if_neg h0]
      exact ⟨World.ownsRow_nil _ _ _ _, Sep.nil _ _⟩
  · rw [List.mem_singleton] at hq
    subst hq
    exact hi
/-- loop t is told, whatever its place -/
theorem R1.put {wA wx : World} {g gm : Nat} {k : KS} {nv : Nat → Nat} {i t : Nat} {own : Nat → Role} {v : Nat → Value} {n : Nat → Nat} {cs : Nat → List Value} {vo u : Value} {cl : List (Value × List Int)} {c : Nat → Value × Value} (hs : SB wA wx g own [0, 1, 2] v n cs vo k.rack cl) (ht : t < k.loops.length)
    (h0 : n 0 = k.loops.length) (e0 : cs 0 = prow c k.loops.length) (hv : v 0 = .slice (some ⟨gm, 0, none⟩) k.loops.length k.loops.length) (hm : ∀ t, t < k.loops.length → nv t < i → (c t).1 = .int .i64 (k.loops.getD t noLop).car ∧ ((c t).2, (k.loops.getD t noLop).thr) ∈ cl)
    (hvo : (vo, k.loose) ∈ cl) (h1 : v 1 = nils ∧ v 2 = nils ∧ n 1 = 0 ∧ n 2 = 0 ∧ cs 1 = [] ∧ cs 2 = []) (hnv : ∀ s, s < k.loops.length → (nv s < i + 1 ↔ nv s < i ∨ s = t)) (hu : (u, (k.loops.getD t noLop).thr) ∈ cl) :
    R1 wA ((wx.setCell ⟨gm, t * 2, none⟩ (.int .i64 (k.loops.getD t noLop).car)).setCell ⟨gm, t * 2 + 1, none⟩ u) g k nv (i + 1) := by
  have hrow := (hs.row 0 (by simp)).1
  have hrow' : wx.ownsRow wA.heap.size 41 2 (.slice (some ⟨gm, 0, none⟩) k.loops.length k.loops.length) k.loops.length (prow c k.loops.length) := by
    have := hrow
    rw [h0, e0, hv] at this
    exact this
  have s1 := hrow'.stored (t * 2) (.int .i64 (k.loops.getD t noLop).car)
  have s2 := s1.1.stored (t * 2 + 1) u
  rw [prow_set ht] at s2
  have hgm : wA.heap.size ≤ gm := (hrow'.lt gm rfl).1
  have hb : Below wA.heap.size wA ((wx.setCell ⟨gm, t * 2, none⟩ (.int .i64 (k.loops.getD t noLop).car)).setCell ⟨gm, t * 2 + 1, none⟩ u) := (hs.below.setCell hgm _).setCell hgm _
  have hq := hs.sq.grow (r := 0) (v' := v 0) (z := wx.heap.size) (m := k.loops.length) (us := prow (fun s => if s = t then (.int .i64 (k.loops.getD t noLop).car, u) else c s) k.loops.length) (by simp) (by rw [hv]; exact grownBy_trans s1.2 s2.2) (Nat.le_refl _) hb (by rw [hv]; exact s2.1) (.inl rfl)
  have hv0 : (fun i => if i = 0 then v 0 else v i) = v := by funext j; by_cases hj : j = 0 <;> simp [hj]
  rw [hv0] at hq
  refine ⟨_, v, _, _, vo, cl, fun s => if s = t then (.int .i64 (k.loops.getD t noLop).car, u) else c s, gm, hq.sb rfl, if_pos rfl, if_pos rfl, hv, fun s hsl hsi => ?_, hvo, h1.1, h1.2.1, h1.2.2.1, h1.2.2.2.1, h1.2.2.2.2.1, h1.2.2.2.2.2⟩
  by_cases hst : s = t
  · subst hst
    (try dsimp only)
    rw [if_pos rfl]
    exact ⟨rfl, hu⟩
  · (try dsimp only)
    rw [if_neg hst]
    exact hm s hsl (((hnv s hsl).1 hsi).resolve_right hst)
theorem R1.all {wA w : World} {g : Nat} {k : KS} {nv : Nat → Nat} {i : Nat} (h : R1 wA w g k nv i) (hnv : ∀ t, t < k.loops.length → nv t < i) : S2 wA w g k 0 0 := by
  obtain ⟨own, v, n, cs, vo, cl, c, gm, hs, h0, e0, hv, hm, hvo, h1, h2, h3, h4, h5, h6⟩ := h
  refine ⟨own, v, n, cs, vo, cl, fun t => (c t).2, fun _ => nils, fun _ => nils, hs, ⟨h0, ?_, fun t ht => (hm t ht (hnv t ht)).2, hvo⟩, ⟨h3, h5, fun j hj => by omega⟩, h4, h6, fun j hj => by omega⟩
  rw [e0]
  exact prow_lrow fun t ht => (hm t ht (hnv t ht)).1
end Go.Proofs.Ytaacfjeddoekfaa
/- Chapter 12, the document's answer: Number, renamed. -/
namespace Go.Proofs.Ytaacfjeddoekfaa
open Go.RowKit
set_option linter.unusedVariables false
set_option linter.unusedSimpArgs false

/-- how many of the first i loops come ahead of loop x -/
def cnt (cs : List Int) (x i : Nat) : Nat := (List.range i).countP (aheadB cs x)
theorem cnt_succ (cs : List Int) (x i : Nat) : cnt cs x (i + 1) = cnt cs x i + if aheadB cs x i = true then 1 else 0 := by
  unfold cnt
  rw [List.range_succ, List.countP_append, List.countP_singleton]
theorem cnt_le (cs : List Int) (x i : Nat) : cnt cs x i ≤ i := by
  have := List.countP_le_length (p := aheadB cs x) (l := List.range i)
  rwa [List.length_range] at this

set_option maxRecDepth 100000 in
set_option maxHeartbeats 4000000 in
theorem Number_any {S : Nat → Prop} {kv : Value} {k : Kn} (x : Nat) (w : World) (hk : KnR w S kv k) (hS : ∀ b, S b → b < w.heap.size) (hx : x < k.loops.length) (hn : k.loops.length ≤ 4096) :
    Calls Try.prog 43 #[kv, .int .i64 (x : Int)] w fun e w' => e = .returned (.int .i64 (num (cars k.loops) x : Int)) ∧ Below w.heap.size w w' := by
  obtain ⟨vl, vf, vb, vo, rfl, hl', hf', hb', ho'⟩ := hk
  have HL := Lib.hid hl'
  have HSB := Lib.hid hS
  obtain ⟨Aq, cq, tq, rfl, hq1, hq2, hrow, hth⟩ := hl'
  have HR := Lib.hid hrow
  have HTF : Hid (∀ i, i < k.loops.length → ∃ A n c, tq i = .slice A n c) := fun i hi => by obtain ⟨A, c, e, _⟩ := hth i hi; exact ⟨A, _, c, e⟩
  clear hth
  obtain ⟨Af, cf, tf, rfl, _⟩ := hf'
  obtain ⟨Ab, cb, tb, rfl, _⟩ := hb'
  obtain ⟨Ap, cp, rfl, _⟩ := ho'
  clear hS hrow
  have HX0 := Lib.hid (Arr.new w #[.slice Aq k.loops.length cq, .slice Af k.front.length cf, .slice Ab k.back.length cb, .slice Ap k.loose.length cp, .int .i64 k.rack] 27)
  have HB0 : Hid (Below w.heap.size w (w.alloc (.cells #[.slice Aq k.loops.length cq, .slice Af k.front.length cf, .slice Ab k.back.length cb, .slice Ap k.loose.length cp, .int .i64 k.rack] 27))) := (Below.refl _ _).alloc (Nat.le_refl _) _
  have HC0 : Hid (∀ i, cnt (cars k.loops) x (i + 1) = cnt (cars k.loops) x i + if aheadB (cars k.loops) x i = true then 1 else 0) := fun i => cnt_succ _ _ _
  have HCL : Hid (∀ i, cnt (cars k.loops) x i ≤ i) := fun i => cnt_le _ _ _
  have HCE : Hid (cnt (cars k.loops) x k.loops.length = num (cars k.loops) x) := by show _ = _; unfold cnt num; rw [cars_len]
  have HAH : Hid (∀ i, aheadB (cars k.loops) x i = decide ((k.loops.getD i noLop).car < (k.loops.getD x noLop).car ∨ ((k.loops.getD i noLop).car = (k.loops.getD x noLop).car ∧ i < x))) := fun i => by unfold aheadB; rw [cars_get, cars_get]
  have HC00 : Hid (cnt (cars k.loops) x 0 = 0) := rfl
  generalize num (cars k.loops) x = nx at *
  generalize hct : cnt (cars k.loops) x = ct at *
  generalize hah : aheadB (cars k.loops) x = ah at *
  clear hct hah
  unfold maxLen at hq2
  go_enter Try.func43, Try.ntmps43
  go_upto_region 2 with fail
  generalize w.alloc (.cells #[.slice Aq k.loops.length cq, .slice Af k.front.length cf, .slice Ab k.back.length cb, .slice Ap k.loose.length cp, .int .i64 k.rack] 27) = w0 at *
  have hsz0 := HX0.out.lt
  have q0 := HX0.out.cell (k := 0) rfl
  go_wp2_with fail
  clear q0
  go_loopg [5, 11] k.loops.length (fun gg nn ctr wr => ∃ i : Nat, i ≤ k.loops.length ∧ gg = k.loops.length - i ∧ ctr = .int .i64 i ∧ nn = .int .i64 (ct i : Nat) ∧ Below w0.heap.size w0 wr)
  case atStart => exact ⟨0, by omega, rfl, rfl, by rw [HC00.out]; rfl, Below.refl _ _⟩
  case round =>
    obtain ⟨i, hi, rfl, rfl, rfl, hb⟩ := hrel
    have HB := Lib.hid hb
    clear hb
    by_cases hlt : i < k.loops.length
    case neg =>
      obtain rfl : i = k.loops.length := by omega
      have HBW := Lib.hid (HB0.out.trans (HB.out.mono HB0.out.size))
      have HE := Lib.hid HCE.out
      rw [HCE.out]
      go_wp2_with fail
      go_ret
      exact ⟨rfl, HBW.out⟩
    have HRW := Lib.hid ((HR.out.same fun b hb => HB0.out.block b (HSB.out b hb)).same (w' := wr) fun b hb => HB.out.block b (Nat.lt_of_lt_of_le (HSB.out b hb) HB0.out.size))
    obtain ⟨b, o, e, hbS, u0, u1⟩ := loop_cells HRW.out hlt
    cases e
    obtain ⟨b', o', e, _, v0, v1⟩ := loop_cells HRW.out hx
    cases e
    have hle := HCL.out i
    have HS := Lib.hid (HC0.out i)
    have HD := Lib.hid (HAH.out i)
    generalize (k.loops.getD i noLop).car = p at *
    generalize (k.loops.getD x noLop).car = q at *
    generalize ct i = m at *
    obtain ⟨Ai, ni, ci, hti⟩ := HTF.out i hlt
    rw [hti] at u1
    clear hti v1
    have hbl : b < wr.heap.size := Nat.lt_of_lt_of_le (Nat.lt_of_lt_of_le (HSB.out b hbS) HB0.out.size) HB.out.size
    have HBN : Hid (Below w0.heap.size w0 (wr.alloc (.cells #[.int .i64 p, .slice Ai ni ci] 41))) := HB.out.alloc HB.out.size _
    have HY := Lib.hid (Arr.new wr #[.int .i64 p, .slice Ai ni ci] 41)
    have hv0 := (World.cell?_alloc_lt wr (.cells #[.int .i64 p, .slice Ai ni ci] 41) ⟨b, o + x * 2, none⟩ hbl).trans v0
    have HX1 := Lib.hid ((HX0.out.of_eq (HB.out.block _ HX0.out.lt)).alloc (.cells #[.int .i64 p, .slice Ai ni ci] 41))
    go_upto_region 5 with fail
    generalize wr.alloc (.cells #[.int .i64 p, .slice Ai ni ci] 41) = w1 at *
    have y0 := HY.out.cell (k := 0) rfl
    have z0 := HX1.out.cell (k := 0) rfl
    clear u0 u1 v0
    by_cases h1 : p < q
    · have d1 : decide (p < q) = true := decide_eq_true h1
      have HE : Hid (ct (i + 1) = m + 1) := by show _ = _; rw [HS.out, HD.out, decide_eq_true (.inl h1)]; rfl
      clear h1
      go_wp2_with (go_quiet (fail))
      go_roundg (k.loops.length - (i + 1))
      case measure => omega
      case rel => exact ⟨i + 1, by omega, rfl, by go_num, by rw [HE.out]; go_num, below_dN HBN.out⟩
    · have d1 : decide (p < q) = false := decide_eq_false h1
      by_cases h2 : p = q
      · have d2 : (p == q) = true := by simpa using h2
        by_cases h3 : i < x
        · have d3 : decide ((i : Int) < (x : Int)) = true := decide_eq_true (by omega)
          have HE : Hid (ct (i + 1) = m + 1) := by show _ = _; rw [HS.out, HD.out, decide_eq_true (.inr ⟨h2, h3⟩)]; rfl
          clear h1 h2
          go_wp2_with (go_quiet (fail))
          go_roundg (k.loops.length - (i + 1))
          case measure => omega
          case rel => exact ⟨i + 1, by omega, rfl, by go_num, by rw [HE.out]; go_num, below_dN HBN.out⟩
        · have d3 : decide ((i : Int) < (x : Int)) = false := decide_eq_false (by omega)
          have HE : Hid (ct (i + 1) = m) := by show _ = _; rw [HS.out, HD.out, decide_eq_false (by rintro (h | ⟨_, h⟩); exact h1 h; exact h3 h)]; rfl
          clear h1 h2
          go_wp2_with (go_quiet (fail))
          go_roundg (k.loops.length - (i + 1))
          case measure => omega
          case rel => exact ⟨i + 1, by omega, rfl, by go_num, by rw [HE.out], below_dN HBN.out⟩
      · have d2 : (p == q) = false := by simpa using h2
        have HE : Hid (ct (i + 1) = m) := by show _ = _; rw [HS.out, HD.out, decide_eq_false (by rintro (h | ⟨h, _⟩); exact h1 h; exact h2 h)]; rfl
        clear h1 h2
        go_wp2_with (go_quiet (fail))
        go_roundg (k.loops.length - (i + 1))
        case measure => omega
        case rel => exact ⟨i + 1, by omega, rfl, by go_num, by rw [HE.out], below_dN HBN.out⟩

set_option maxRecDepth 100000 in
set_option maxHeartbeats 4000000 in
theorem renamedR_any {S T : Nat → Prop} {kv lv : Value} {k : Kn} {l : List Int} (w : World) (hk : KnR w S kv k) (hl : Ints w T lv l) (hS : ∀ b, S b → b < w.heap.size) (hT : ∀ b, T b → b < w.heap.size) (hn : k.loops.length ≤ 4096) (hlow : ∀ x ∈ l, 0 ≤ x ∧ x < (k.loops.length : Int)) (hll : l.length ≤ 1000000) :
    Calls Try.prog 42 #[kv, lv] w fun e w' => ∃ u, e = .returned u ∧ w'.ownsRow w.heap.size 3 1 u l.length (ints (l.map (nm (cars k.loops)))) ∧ Below w.heap.size w w' := by
  have HK := Lib.hid hk
  obtain ⟨vl, vf, vb, vo, rfl, hl', hf', hb', ho'⟩ := hk
  have HSB := Lib.hid hS
  have HST := Lib.hid hT
  have HLOW := Lib.hid hlow
  obtain ⟨Aq, cq, tq, rfl, _⟩ := hl'
  obtain ⟨Af, cf, tf, rfl, _⟩ := hf'
  obtain ⟨Ab, cb, tb, rfl, _⟩ := hb'
  obtain ⟨Ap, cp, rfl, _⟩ := ho'
  obtain ⟨A, c, rfl, h1, h2, hr⟩ := hl
  have HR := Lib.hid hr
  clear hr hS hT hlow
  unfold maxLen at h2
  have HX0 := Lib.hid (Arr.new w #[.slice Aq k.loops.length cq, .slice Af k.front.length cf, .slice Ab k.back.length cb, .slice Ap k.loose.length cp, .int .i64 k.rack] 27)
  have HB0 : Hid (Below w.heap.size w (w.alloc (.cells #[.slice Aq k.loops.length cq, .slice Af k.front.length cf, .slice Ab k.back.length cb, .slice Ap k.loose.length cp, .int .i64 k.rack] 27))) := (Below.refl _ _).alloc (Nat.le_refl _) _
  go_enter Try.func42, Try.ntmps42
  go_upto_region 2 with fail
  generalize w.alloc (.cells #[.slice Aq k.loops.length cq, .slice Af k.front.length cf, .slice Ab k.back.length cb, .slice Ap k.loose.length cp, .int .i64 k.rack] 27) = w0 at *
  go_wp2_with fail
  go_loopg [5, 10] l.length (fun gg out ctr wr => ∃ i : Nat, i ≤ l.length ∧ gg = l.length - i ∧ ctr = .int .i64 i ∧ wr.ownsRow w0.heap.size 3 1 out i (ints ((l.take i).map (nm (cars k.loops)))) ∧ Below w0.heap.size w0 wr)
  case atStart => exact ⟨0, by omega, rfl, rfl, World.ownsRow_nil _ _ _ _, Below.refl _ _⟩
  case round =>
    obtain ⟨i, hi, rfl, rfl, ho, hb⟩ := hrel
    have HO := Lib.hid ho
    have HB := Lib.hid hb
    clear ho hb
    by_cases hlt : i < l.length
    case neg =>
      obtain rfl : i = l.length := by omega
      rw [List.take_length] at HO
      have HBW := Lib.hid (HB0.out.trans (HB.out.mono HB0.out.size))
      go_wp2_with fail
      go_ret
      exact ⟨_, rfl, own_base HO.out HB0.out.size, HBW.out⟩
    obtain ⟨b, o, e, hb, x0⟩ := ints_cell ((HR.out.same fun b hb => HB0.out.block b (HST.out b hb)).same (w' := wr) fun b hb => HB.out.block b (Nat.lt_of_lt_of_le (HST.out b hb) HB0.out.size)) hlt
    cases e
    have hx := HLOW.out _ (List.getElem_mem hlt)
    have HN : Hid ((l.take (i + 1)).map (nm (cars k.loops)) = (l.take i).map (nm (cars k.loops)) ++ [nm (cars k.loops) l[i]]) := by
      show _ = _
      rw [List.take_succ_eq_append_getElem hlt, List.map_append]; rfl
    generalize l[i] = x at *
    obtain ⟨m, rfl⟩ : ∃ m : Nat, x = (m : Int) := ⟨x.toNat, by omega⟩
    have hm : m < k.loops.length := by omega
    have HNM : Hid (nm (cars k.loops) (m : Int) = (num (cars k.loops) m : Int)) := by show _ = _; unfold nm; rw [Int.toNat_natCast]
    rw [HNM.out] at HN
    have HNL : Hid (num (cars k.loops) m < k.loops.length) := by
      have := num_lt (cs := cars k.loops) (x := m) (by rw [cars_len]; exact hm)
      rwa [cars_len] at this
    have hnl := HNL.out
    have HX1 := Lib.hid (HX0.out.of_eq (HB.out.block _ HX0.out.lt))
    have q0 := HX1.out.cell (k := 0) rfl
    have q1 := HX1.out.cell (k := 1) rfl
    have q2 := HX1.out.cell (k := 2) rfl
    have q3 := HX1.out.cell (k := 3) rfl
    have q4 := HX1.out.cell (k := 4) rfl
    have HKW : Hid (KnR wr S (.agg #[.slice Aq k.loops.length cq, .slice Af k.front.length cf, .slice Ab k.back.length cb, .slice Ap k.loose.length cp, .int .i64 k.rack]) k) := (HK.out.same fun b hb => HB0.out.block b (HSB.out b hb)).same fun b hb => HB.out.block b (Nat.lt_of_lt_of_le (HSB.out b hb) HB0.out.size)
    have HSW : Hid (∀ b, S b → b < wr.heap.size) := fun b hb => Nat.lt_of_lt_of_le (Nat.lt_of_lt_of_le (HSB.out b hb) HB0.out.size) HB.out.size
    go_wp2_with fail
    refine (Number_any m wr HKW.out HSW.out hm hn).mono ?_
    rintro e w2 ⟨rfl, hb2⟩
    have HB2 := Lib.hid (HB.out.trans (hb2.mono HB.out.size))
    have HO2 := Lib.hid (own_below HO.out hb2 (Nat.le_refl _))
    clear hb2 q0 q1 q2 q3 q4 x0
    generalize num (cars k.loops) m = y at *
    generalize (l.take i).map (nm (cars k.loops)) = L at *
    go_wp2_with (at_builtin
                 refine app_el T25 [.int .i64 (y : Int)] HO2.out HB2.out (Nat.le_refl _) rfl rfl rfl rfl rfl ?_ ?_ ?_
                 rotate_right
                 intro v1 w3 hown1 hb1 hg1 ho1
                 have HF := Lib.hid (And.intro hown1 hb1)
                 clear hown1 hb1 hg1 ho1)
    case refine_1 => simp [Value.oneCell']
    case refine_2 => omega
    go_roundg (l.length - (i + 1))
    case measure => omega
    case rel => exact ⟨i + 1, by omega, rfl, by go_num, by rw [HN.out, ints_app]; exact HF.out.1, HF.out.2⟩
end Go.Proofs.Ytaacfjeddoekfaa
/- Chapter 11: what reads alike is the same. -/
namespace Go.Proofs.Ytaacfjeddoekfaa
open Go.RowKit
set_option linter.unusedVariables false
set_option linter.unusedSimpArgs false

set_option maxHeartbeats 1000000 in
theorem sameNumbers_self {S T : Nat → Prop} {a b : Value} {xs : List Int} (w : World) (ha : Ints w S a xs) (hb : Ints w T b xs) :
    Calls Try.prog 28 #[a, b] w fun e w' => e = .returned (.bool true) ∧ ∃ n, w' = w.drewN n := by
  obtain ⟨A, c, rfl, h1, h2, ra⟩ := ha
  obtain ⟨B, d, rfl, h3, h4, rb⟩ := hb
  unfold maxLen at h2 h4
  have hne : ((xs.length : Int) != (xs.length : Int)) = false := by simp
  go_enter Try.func28, Try.ntmps28
  go_wp2_with fail
  clear hne
  go_loopg [13] xs.length (fun gg ctr wr => ∃ k n : Nat, k ≤ xs.length ∧ gg = xs.length - k ∧ ctr = .int .i64 k ∧ wr = w.drewN n)
  case atStart => exact ⟨0, 0, Nat.zero_le _, rfl, rfl, rfl⟩
  case round =>
    obtain ⟨k, n, hk, rfl, rfl, rfl⟩ := hrel
    by_cases hlt : k < xs.length
    · obtain ⟨b, o, rfl, _, hx⟩ := ints_cell ra hlt
      obtain ⟨b', o', rfl, _, hy⟩ := ints_cell rb hlt
      generalize xs[k] = x at *
      have hne : (x != x) = false := by simp
      go_wp2_with (go_quiet (fail))
      go_roundg (xs.length - (k + 1))
      case measure => omega
      case rel => exact ⟨k + 1, _, by omega, rfl, by go_num, rfl⟩
    · go_wp2_with fail
      go_ret
      exact ⟨rfl, n, rfl⟩
theorem Ints.dN {w : World} {S : Nat → Prop} {v : Value} {xs : List Int} (h : Ints w S v xs) (n : Nat) : Ints (w.drewN n) S v xs := h.same fun _ _ => rfl

set_option maxHeartbeats 1000000 in
theorem sameLists_self {S T : Nat → Prop} {a b : Value} {xs : List (List Int)} (w : World) (ha : ListsRd w S a xs) (hb : ListsRd w T b xs) :
    Calls Try.prog 29 #[a, b] w fun e w' => e = .returned (.bool true) ∧ ∃ n, w' = w.drewN n := by
  obtain ⟨A, c, tv, rfl, h1, h2, ra, ia⟩ := ha
  obtain ⟨B, d, tw, rfl, h3, h4, rb, ib⟩ := hb
  unfold maxLen at h2 h4
  have hne : ((xs.length : Int) != (xs.length : Int)) = false := by simp
  have RA := Lib.hid ra
  have RB := Lib.hid rb
  have IA := Lib.hid ia
  have IB := Lib.hid ib
  clear ra rb ia ib
  go_enter Try.func29, Try.ntmps29
  go_wp2_with fail
  clear hne
  go_loopg [13] xs.length (fun gg ctr wr => ∃ k n : Nat, k ≤ xs.length ∧ gg = xs.length - k ∧ ctr = .int .i64 k ∧ wr = w.drewN n)
  case atStart => exact ⟨0, 0, Nat.zero_le _, rfl, rfl, rfl⟩
  case round =>
    obtain ⟨k, n, hk, rfl, rfl, rfl⟩ := hrel
    by_cases hlt : k < xs.length
    · obtain ⟨b, o, rfl, _, hx⟩ := list_cell RA.out hlt
      obtain ⟨b', o', rfl, _, hy⟩ := list_cell RB.out hlt
      have IAk := Lib.hid (IA.out k hlt)
      have IBk := Lib.hid (IB.out k hlt)
      generalize tv k = u at *
      generalize tw k = u' at *
      go_upto_region 6 with fail
      refine wp_region_seq (fun w' => ∃ n', w' = w.drewN n') (by kernel_rfl) (by kernel_rfl) ⟨n + 1, rfl⟩ ?_
      show Seq _ _ _ _ [_, _, _, _, _, _, _, _, _, _] _
      repeat (first
        | (refine seq_skip (by rfl) ?_; (try simp only [Act.put, List.setIfInBounds_toArray, List.set_cons_zero, List.set_cons_succ]))
        | (refine seq_val ?_ (by rfl) ?_ ?_
           rotate_left 1
           · rintro w5 ⟨k5, rfl⟩; go_simp; first | done | with_reducible rfl
           (try simp only [Act.put, List.setIfInBounds_toArray, List.set_cons_zero, List.set_cons_succ]))
        | (refine seq_call ?_ ?_ ?_ (by rfl) ?_ ?_ ?_
           rotate_left 3
           · rintro w5 ⟨k5, rfl⟩; go_simp; (refine And.intro ?_ ?_ <;> rfl)
           · rintro w5 ⟨k5, rfl⟩
             refine (sameNumbers_self _ (IAk.out.dN k5) (IBk.out.dN k5)).mono ?_
             rintro e w6 ⟨rfl, m6, rfl⟩
             refine And.intro ?_ ⟨_, World.drewN_drewN _ _ _⟩; rfl
           (try simp only [Act.put, List.setIfInBounds_toArray, List.set_cons_zero, List.set_cons_succ])))
      refine seq_end ?_
      rintro w7 ⟨k7, rfl⟩
      go_wp2_with fail
      go_roundg (xs.length - (k + 1))
      case measure => omega
      case rel => exact ⟨k + 1, _, by omega, rfl, by go_num, rfl⟩
    · go_wp2_with fail
      go_ret
      exact ⟨rfl, n, rfl⟩

set_option maxRecDepth 100000 in
set_option maxHeartbeats 4000000 in
theorem Same_self {S T : Nat → Prop} {a b : Value} {k : Kn} (w : World) (ha : KnR w S a k) (hb : KnR w T b k) (hS : ∀ b, S b → b < w.heap.size) (hT : ∀ b, T b → b < w.heap.size) :
    Calls Try.prog 13 #[a, b] w fun e w' => e = .returned (.bool true) ∧ Below w.heap.size w w' := by
  obtain ⟨al, af, ab, ao, rfl, l1, f1, b1, o1⟩ := ha
  obtain ⟨bl, bf, bb, bo, rfl, l2, f2, b2, o2⟩ := hb
  have L1 := Lib.hid l1
  have L2 := Lib.hid l2
  have F1 := Lib.hid f1
  have F2 := Lib.hid f2
  have B1 := Lib.hid b1
  have B2 := Lib.hid b2
  have O1 := Lib.hid o1
  have O2 := Lib.hid o2
  obtain ⟨Al, cl, tl, rfl, p1, p2, r1, i1⟩ := l1
  obtain ⟨Al2, cl2, tl2, rfl, p3, p4, r2, i2⟩ := l2
  have R1 := Lib.hid r1
  have R2 := Lib.hid r2
  have I1 := Lib.hid i1
  have I2 := Lib.hid i2
  obtain ⟨Af, cf, tf, rfl, _⟩ := f1
  obtain ⟨Af2, cf2, tf2, rfl, _⟩ := f2
  obtain ⟨Ab, cb, tb, rfl, _⟩ := b1
  obtain ⟨Ab2, cb2, tb2, rfl, _⟩ := b2
  obtain ⟨Ao, co, rfl, _⟩ := o1
  obtain ⟨Ao2, co2, rfl, _⟩ := o2
  clear r1 r2 i1 i2
  unfold maxLen at p2 p4
  have ST := Lib.hid (And.intro hS hT)
  clear hS hT
  have hne : ((k.loops.length : Int) != (k.loops.length : Int)) = false := by simp
  have hrk : (k.rack != k.rack) = false := by simp
  have HA := Lib.hid ((Arr.new w #[.slice Al k.loops.length cl, .slice Af k.front.length cf, .slice Ab k.back.length cb, .slice Ao k.loose.length co, .int .i64 k.rack] 27).alloc (.cells #[.slice Al2 k.loops.length cl2, .slice Af2 k.front.length cf2, .slice Ab2 k.back.length cb2, .slice Ao2 k.loose.length co2, .int .i64 k.rack] 27))
  have HB := Lib.hid (arr_new2 w (.cells #[.slice Al k.loops.length cl, .slice Af k.front.length cf, .slice Ab k.back.length cb, .slice Ao k.loose.length co, .int .i64 k.rack] 27) #[.slice Al2 k.loops.length cl2, .slice Af2 k.front.length cf2, .slice Ab2 k.back.length cb2, .slice Ao2 k.loose.length co2, .int .i64 k.rack] 27)
  have HW : Hid (Below w.heap.size w ((w.alloc (.cells #[.slice Al k.loops.length cl, .slice Af k.front.length cf, .slice Ab k.back.length cb, .slice Ao k.loose.length co, .int .i64 k.rack] 27)).alloc (.cells #[.slice Al2 k.loops.length cl2, .slice Af2 k.front.length cf2, .slice Ab2 k.back.length cb2, .slice Ao2 k.loose.length co2, .int .i64 k.rack] 27))) := ((Below.refl _ _).alloc (Nat.le_refl _) _).alloc (by simp) _
  go_enter Try.func13, Try.ntmps13
  go_wp2_with fail
  generalize (w.alloc (.cells #[.slice Al k.loops.length cl, .slice Af k.front.length cf, .slice Ab k.back.length cb, .slice Ao k.loose.length co, .int .i64 k.rack] 27)).alloc (.cells #[.slice Al2 k.loops.length cl2, .slice Af2 k.front.length cf2, .slice Ab2 k.back.length cb2, .slice Ao2 k.loose.length co2, .int .i64 k.rack] 27) = w2 at *
  have HS1 : Hid (∀ n, Same S w (w2.drewN n)) := fun n b hb => HW.out.block b (ST.out.1 b hb)
  have HSa : Hid (Same S w w2) := fun b hb => HW.out.block b (ST.out.1 b hb)
  have HSb : Hid (Same T w w2) := fun b hb => HW.out.block b (ST.out.2 b hb)
  have HS2 : Hid (∀ n, Same T w (w2.drewN n)) := fun n b hb => HW.out.block b (ST.out.2 b hb)
  have a0 := HA.out.cell (k := 0) rfl
  have a1 := HA.out.cell (k := 1) rfl
  have a2 := HA.out.cell (k := 2) rfl
  have a3 := HA.out.cell (k := 3) rfl
  have a4 := HA.out.cell (k := 4) rfl
  have c0 := HB.out.cell (k := 0) rfl
  have c1 := HB.out.cell (k := 1) rfl
  have c2 := HB.out.cell (k := 2) rfl
  have c3 := HB.out.cell (k := 3) rfl
  have c4 := HB.out.cell (k := 4) rfl
  refine (sameNumbers_self _ (O1.out.same (HS1.out 0)) (O2.out.same (HS2.out 0))).mono ?_
  rintro e w3 ⟨rfl, n3, rfl⟩
  go_wp2_with fail
  refine (sameLists_self _ (F1.out.same (HS1.out n3)) (F2.out.same (HS2.out n3))).mono ?_
  rintro e w4 ⟨rfl, n4, rfl⟩
  go_wp2_with fail
  refine (sameLists_self _ (B1.out.same (HS1.out (n3 + n4))) (B2.out.same (HS2.out (n3 + n4)))).mono ?_
  rintro e w5 ⟨rfl, n5, rfl⟩
  go_wp2_with fail
  go_loopg [47] k.loops.length (fun gg ctr wr => ∃ i n : Nat, i ≤ k.loops.length ∧ gg = k.loops.length - i ∧ ctr = .int .i64 i ∧ wr = w2.drewN n)
  case atStart => exact ⟨0, _, by omega, rfl, rfl, rfl⟩
  case round =>
    obtain ⟨i, n, hi, rfl, rfl, rfl⟩ := hrel
    by_cases hlt : i < k.loops.length
    case neg =>
      go_wp2_with fail
      go_ret
      exact ⟨rfl, below_dN HW.out⟩
    obtain ⟨b, o, e, _, x0, x1⟩ := loop_cells (R1.out.same HSa.out) hlt
    cases e
    obtain ⟨b', o', e, _, y0, y1⟩ := loop_cells (R2.out.same HSb.out) hlt
    cases e
    have IA := Lib.hid ((I1.out i hlt).same HSa.out)
    have IB := Lib.hid ((I2.out i hlt).same HSb.out)
    generalize (k.loops.getD i noLop).car = car at *
    generalize (k.loops.getD i noLop).thr = thr at *
    generalize tl i = u at *
    generalize tl2 i = u' at *
    have hcc : (car != car) = false := by simp
    go_upto_region 6 with fail
    refine wp_region_seq (fun w' => ∃ n', w' = w2.drewN n') (by kernel_rfl) (by kernel_rfl) ⟨n + 1, rfl⟩ ?_
    show Seq _ _ _ _ [_, _, _, _, _, _, _, _, _, _, _, _, _, _, _, _, _, _, _, _, _, _, _, _, _, _, _, _, _] _
    repeat (first
      | (refine seq_skip (by rfl) ?_; (try simp only [Act.put, List.setIfInBounds_toArray, List.set_cons_zero, List.set_cons_succ]))
      | (refine seq_val ?_ (by rfl) ?_ ?_
         rotate_left 1
         · rintro w5 ⟨k5, rfl⟩; go_simp; first | done | with_reducible rfl
         (try simp only [Act.put, List.setIfInBounds_toArray, List.set_cons_zero, List.set_cons_succ]))
      | (refine seq_call ?_ ?_ ?_ (by rfl) ?_ ?_ ?_
         rotate_left 3
         · rintro w5 ⟨k5, rfl⟩; go_simp; (refine And.intro ?_ ?_ <;> rfl)
         · rintro w5 ⟨k5, rfl⟩
           refine (sameNumbers_self _ (IA.out.dN k5) (IB.out.dN k5)).mono ?_
           rintro e w6 ⟨rfl, m6, rfl⟩
           refine And.intro ?_ ⟨_, World.drewN_drewN _ _ _⟩; rfl
         (try simp only [Act.put, List.setIfInBounds_toArray, List.set_cons_zero, List.set_cons_succ])))
    refine seq_end ?_
    rintro w7 ⟨k7, rfl⟩
    go_wp2_with fail
    go_roundg (k.loops.length - (i + 1))
    case measure => omega
    case rel => exact ⟨i + 1, _, by omega, rfl, by go_num, rfl⟩
end Go.Proofs.Ytaacfjeddoekfaa
