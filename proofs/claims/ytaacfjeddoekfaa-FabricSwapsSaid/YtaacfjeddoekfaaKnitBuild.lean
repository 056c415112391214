/- Chapter 11: what is told is built, row by row. -/
import Derived.Test.YtaacfjeddoekfaaKnitRead
namespace Go.Proofs.Ytaacfjeddoekfaa
open Go.RowKit
set_option linter.unusedVariables false

abbrev rK : Role := (0, 1, 0)
abbrev rC : Role := (2, 0, 0)
abbrev rV (r : Nat) : Role := (1, (r : Int), 0)
def et : Nat → TypeId
  | 0 => 41
  | _ => 25
def sz : Nat → Nat
  | 0 => 2
  | _ => 1
/-- blocks of what is only read -/
def CB (w0 w : World) (own : Nat → Role) : Nat → Prop := fun b => w0.heap.size ≤ b ∧ b < w.heap.size ∧ own b = rC
/-- something told, half built: rows that grow, lists that only are read -/
structure SB (w0 w : World) (g : Nat) (own : Nat → Role) (rs : List Nat) (v : Nat → Value) (n : Nat → Nat) (cs : Nat → List Value) (vo : Value) (rack : Int) (cl : List (Value × List Int)) : Prop where
  below : Below w0.heap.size w0 w
  arr : Arr w g 27 [v 0, v 1, v 2, vo, .int .i64 rack]
  gB : w0.heap.size ≤ g
  og : own g = rK
  row : ∀ r, r ∈ rs → w.ownsRow w0.heap.size (et r) (sz r) (v r) (n r) (cs r) ∧ Sep (v r) (rV r) own
  cl : ∀ q ∈ cl, Ints w (CB w0 w own) q.1 q.2
section
variable {w0 w w1 : World} {g : Nat} {own : Nat → Role} {rs : List Nat} {v : Nat → Value} {n : Nat → Nat} {cs : Nat → List Value} {vo : Value} {rack : Int} {cl : List (Value × List Int)}
theorem SB.keep (h : SB w0 w g own rs v n cs vo rack cl) (hb : Below w.heap.size w w1) : SB w0 w1 g own rs v n cs vo rack cl :=
  ⟨h.below.trans (hb.mono h.below.size), h.arr.of_eq (hb.block _ h.arr.lt), h.gB, h.og, fun r hr => ⟨own_below (h.row r hr).1 hb (Nat.le_refl _), (h.row r hr).2⟩,
    fun q hq => ((h.cl q hq).same fun b hb' => hb.block b hb'.2.1).mono fun b hb' => ⟨hb'.1, Nat.lt_of_lt_of_le hb'.2.1 hb.size, hb'.2.2⟩⟩
theorem SB.drew (h : SB w0 w g own rs v n cs vo rack cl) : SB w0 w.drew g own rs v n cs vo rack cl := h.keep (below_dN (n := 1) (Below.refl _ _))
/-- a list more that is only read -/
theorem SB.more (h : SB w0 w g own rs v n cs vo rack cl) (hb : Below w.heap.size w w1) {u : Value} {xs : List Int} (hu : Ints w1 (fun b => w.heap.size ≤ b ∧ b < w1.heap.size) u xs) :
    SB w0 w1 g (fun b => if b < w.heap.size then own b else rC) rs v n cs vo rack ((u, xs) :: cl) := by
  have k := h.keep hb
  refine ⟨k.below, k.arr, k.gB, by show (if g < w.heap.size then own g else rC) = rK; rw [if_pos h.arr.lt]; exact h.og, fun r hr => ⟨(k.row r hr).1, fun x hx => ?_⟩, fun q hq => ?_⟩
  · show (if x < w.heap.size then own x else rC) = rV r
    rw [if_pos ((h.row r hr).1.lt x hx).2]
    exact (h.row r hr).2 x hx
  · rcases List.mem_cons.1 hq with rfl | hq
    · exact hu.mono fun b hb' => ⟨Nat.le_trans h.below.size hb'.1, hb'.2, by show (if b < w.heap.size then own b else rC) = rC; rw [if_neg (by omega)]⟩
    · exact ((h.cl q hq).same fun b hb' => hb.block b hb'.2.1).mono fun b hb' => ⟨hb'.1, Nat.lt_of_lt_of_le hb'.2.1 hb.size, by show (if b < w.heap.size then own b else rC) = rC; rw [if_pos hb'.2.1]; exact hb'.2.2⟩
/-- a row grows -/
theorem SB.grow (h : SB w0 w g own rs v n cs vo rack cl) {r : Nat} (hr : r ∈ rs) (hr3 : r < 3) {v' : Value} {z m : Nat} {us : List Value} (hg : w.grownBy w1 (v r).ownBlock) (hz : w.heap.size ≤ z) (hb : Below w0.heap.size w0 w1)
    (hv : w1.ownsRow w0.heap.size (et r) (sz r) v' m us) (he : v'.ownBlock = (v r).ownBlock ∨ v'.ownBlock = some z) :
    SB w0 (w1.setCell ⟨g, r, none⟩ v') g (ow own z (rV r)) rs (fun i => if i = r then v' else v i) (fun i => if i = r then m else n i) (fun i => if i = r then us else cs i) vo rack cl := by
  have hs := (h.row r hr).2
  have hrow := (h.row r hr).1
  have K : Kept own (rV r) w w1 := .of_grown hg fun x e => hs x e
  have eg : ow own z (rV r) g = rK := by rw [ow_ne _ _ (by have := h.arr.lt; omega)]; exact h.og
  have S' : Sep v' (rV r) (ow own z (rV r)) := hs.app hrow hz he
  have K2 : Kept (ow own z (rV r)) rK w1 (w1.setCell ⟨g, r, none⟩ v') := .set r _ eg
  have hsz : (w1.setCell ⟨g, r, none⟩ v').heap.size = w1.heap.size := by simp [World.setCell]
  refine ⟨hb.setCell h.gB _, ?_, h.gB, eg, fun i hi => ?_, fun q hq => ?_⟩
  · have a := (K.arr h.arr (by rw [h.og]; simp)).set r v'
    have e : [v 0, v 1, v 2, vo, Value.int .i64 rack].set r v' = [if 0 = r then v' else v 0, if 1 = r then v' else v 1, if 2 = r then v' else v 2, vo, .int .i64 rack] := by
      have : r = 0 ∨ r = 1 ∨ r = 2 := by omega
      rcases this with rfl | rfl | rfl <;> rfl
    rw [e] at a
    exact a
  · by_cases hir : i = r
    · subst hir
      rw [if_pos rfl, if_pos rfl, if_pos rfl]
      exact ⟨K2.row hv S' (by simp), S'⟩
    · rw [if_neg hir, if_neg hir, if_neg hir]
      have s2 : Sep (v i) (rV i) (ow own z (rV r)) := (h.row i hi).2.turn (h.row i hi).1 (ow_old hz) (by simp; omega)
      exact ⟨K2.row (K.row (h.row i hi).1 (h.row i hi).2 (by simp; omega)) s2 (by simp), s2⟩
  · refine ((h.cl q hq).same fun b hb' => ?_).mono fun b hb' => ⟨hb'.1, by rw [hsz]; exact Nat.lt_of_lt_of_le hb'.2.1 K.size, by rw [ow_ne _ _ (by have := hb'.2.1; omega)]; exact hb'.2.2⟩
    have e1 := K.block b hb'.2.1 (by rw [hb'.2.2]; simp)
    have e2 := K2.block b (Nat.lt_of_lt_of_le hb'.2.1 K.size) (by rw [ow_ne _ _ (by have := hb'.2.1; omega), hb'.2.2]; simp)
    exact e2.trans e1
theorem SB.cell (h : SB w0 w g own rs v n cs vo rack cl) {j : Nat} {u : Value} (hu : [v 0, v 1, v 2, vo, Value.int .i64 rack][j]? = some u) : w.cell? ⟨g, j, none⟩ = some u := h.arr.cell hu
theorem SB.start {w0 w : World} {g : Nat} (rs : List Nat) {u0 vo : Value} {rack : Int} {xs : List Int} (hb : Below w0.heap.size w0 w) (ha : Arr w g 27 [u0, nils, nils, vo, .int .i64 rack]) (hg : w0.heap.size ≤ g) (h0 : 0 ∈ rs → u0 = nils) (hvo : Ints w (fun b => w0.heap.size ≤ b ∧ b < w.heap.size ∧ b ≠ g) vo xs) :
    SB w0 w g (fun b => if b = g then rK else rC) rs (fun i => if i = 0 then u0 else nils) (fun _ => 0) (fun _ => []) vo rack [(vo, xs)] := by
  refine ⟨hb, ha, hg, if_pos rfl, fun r hr => ?_, fun q hq => ?_⟩
  · have e : (if r = 0 then u0 else nils) = nils := by
      by_cases h : r = 0
      · subst h; rw [if_pos rfl]; exact h0 hr
      · rw [if_neg h]
    rw [e]
    exact ⟨World.ownsRow_nil _ _ _ _, Sep.nil _ _⟩
  · rw [List.mem_singleton] at hq
    subst hq
    exact hvo.mono fun b hb' => ⟨hb'.1, hb'.2.1, if_neg hb'.2.2⟩
/-- a row of lists, read -/
theorem SB.lists (h : SB w0 w g own rs v n cs vo rack cl) {r : Nat} (hr : r ∈ rs) (hr0 : r ≠ 0) {xs : List (List Int)} {tv : Nat → Value} (hn : n r = xs.length) (hc : cs r = vrow xs.length tv) (hm : ∀ i, i < xs.length → (tv i, xs.getD i []) ∈ cl) :
    ListsRd w (fun b => w0.heap.size ≤ b ∧ b < w.heap.size) (v r) xs := by
  have ho := (h.row r hr).1
  have e1 : sz r = 1 := by unfold sz; split <;> simp_all
  rw [hn, hc, e1] at ho
  obtain ⟨A, c, e, h1, h2⟩ := own_form ho
  rw [e] at ho ⊢
  exact ⟨A, c, tv, rfl, h1, h2, (Row.of_own ho), fun i hi => (h.cl _ (hm i hi)).mono fun b hb => ⟨hb.1, hb.2.1⟩⟩
theorem SB.loops (h : SB w0 w g own rs v n cs vo rack cl) (hr : 0 ∈ rs) {ls : List Lop} {tv : Nat → Value} (hn : n 0 = ls.length) (hc : cs 0 = lrow ls tv) (hm : ∀ i, i < ls.length → (tv i, (ls.getD i noLop).thr) ∈ cl) :
    LoopsRd w (fun b => w0.heap.size ≤ b ∧ b < w.heap.size) (v 0) ls := by
  have ho := (h.row 0 hr).1
  rw [hn, hc] at ho
  obtain ⟨A, c, e, h1, h2⟩ := own_form ho
  rw [e] at ho ⊢
  exact ⟨A, c, tv, rfl, h1, h2, (Row.of_own ho), fun i hi => (h.cl _ (hm i hi)).mono fun b hb => ⟨hb.1, hb.2.1⟩⟩
end
/-- i loops are told -/
def S1 (wA w : World) (g : Nat) (k : KS) (i : Nat) : Prop := ∃ own v n cs vo cl tl, SB wA w g own [0, 1, 2] v n cs vo k.rack cl ∧ n 0 = i ∧ cs 0 = lrow (k.loops.take i) tl ∧ (∀ j, j < i → (tl j, (k.loops.getD j noLop).thr) ∈ cl) ∧ (vo, k.loose) ∈ cl ∧
  v 1 = nils ∧ v 2 = nils ∧ n 1 = 0 ∧ n 2 = 0 ∧ cs 1 = [] ∧ cs 2 = []
theorem S1.below {wA w : World} {g : Nat} {k : KS} {i : Nat} (h : S1 wA w g k i) : Below wA.heap.size wA w := by obtain ⟨own, v, n, cs, vo, cl, tl, hs, _⟩ := h; exact hs.below
theorem S1.app {wA wx w7 : World} {g z : Nat} {k : KS} {i : Nat} {own : Nat → Role} {v : Nat → Value} {n : Nat → Nat} {cs : Nat → List Value} {vo u v' : Value} {cl : List (Value × List Int)} {tl : Nat → Value} (hs : SB wA wx g own [0, 1, 2] v n cs vo k.rack cl) (hi : i < k.loops.length)
    (e0 : cs 0 = lrow (k.loops.take i) tl) (hm : ∀ j, j < i → (tl j, (k.loops.getD j noLop).thr) ∈ cl) (hu : (u, (k.loops.getD i noLop).thr) ∈ cl) (hvo : (vo, k.loose) ∈ cl) (h1 : v 1 = nils ∧ v 2 = nils ∧ n 1 = 0 ∧ n 2 = 0 ∧ cs 1 = [] ∧ cs 2 = [])
    (hg : wx.grownBy w7 (v 0).ownBlock) (hz : wx.heap.size ≤ z) (hb : Below wA.heap.size wA w7) (hv : w7.ownsRow wA.heap.size 41 2 v' (i + 1) (cs 0 ++ [.int .i64 (k.loops.getD i noLop).car, u])) (he : v'.ownBlock = (v 0).ownBlock ∨ v'.ownBlock = some z) :
    S1 wA (w7.setCell ⟨g, 0, none⟩ v') g k (i + 1) := by
  have hg2 := hs.grow (r := 0) (by simp) (by decide) hg hz hb hv he
  have hl : (k.loops.take i).length = i := by rw [List.length_take]; omega
  refine ⟨_, _, _, _, _, _, fun j => if j = i then u else tl j, hg2, if_pos rfl, ?_, fun j hj => ?_, hvo, h1.1, h1.2.1, h1.2.2.1, h1.2.2.2.1, h1.2.2.2.2.1, h1.2.2.2.2.2⟩
  · show (if 0 = 0 then _ else _) = _
    rw [if_pos rfl, e0, List.take_succ_eq_append_getElem hi]
    have := lrow_snoc (k.loops.take i) tl k.loops[i] u
    rw [hl] at this
    rw [this]
    simp [hi]
  · by_cases h : j = i
    · subst h; dsimp only; rw [if_pos rfl]; exact hu
    · dsimp only; rw [if_neg h]; exact hm j (by omega)
/-- of i needles of the front bed, of i2 of the back bed it is told what they hold -/
def S2 (wA w : World) (g : Nat) (k : KS) (i i2 : Nat) : Prop := ∃ own v n cs vo cl tl tf tb, SB wA w g own [0, 1, 2] v n cs vo k.rack cl ∧ (n 0 = k.loops.length ∧ cs 0 = lrow k.loops tl ∧ (∀ j, j < k.loops.length → (tl j, (k.loops.getD j noLop).thr) ∈ cl) ∧ (vo, k.loose) ∈ cl) ∧
  (n 1 = i ∧ cs 1 = vrow i tf ∧ (∀ j : Nat, j < i → (tf j, k.on 0 (j : Int)) ∈ cl)) ∧ n 2 = i2 ∧ cs 2 = vrow i2 tb ∧ (∀ j : Nat, j < i2 → (tb j, k.on 1 (j : Int)) ∈ cl)
theorem S2.below {wA w : World} {g : Nat} {k : KS} {i i2 : Nat} (h : S2 wA w g k i i2) : Below wA.heap.size wA w := by obtain ⟨own, v, n, cs, vo, cl, tl, tf, tb, hs, _⟩ := h; exact hs.below
theorem S2.start {wA w : World} {g : Nat} {k : KS} (h : S1 wA w g k k.loops.length) : S2 wA w g k 0 0 := by
  obtain ⟨own, v, n, cs, vo, cl, tl, hs, e0, e1, hm, hvo, h1, h2, h3, h4, h5, h6⟩ := h
  rw [List.take_length] at e1
  exact ⟨own, v, n, cs, vo, cl, tl, fun _ => nils, fun _ => nils, hs, ⟨e0, e1, hm, hvo⟩, ⟨h3, h5, fun j hj => by omega⟩, h4, h6, fun j hj => by omega⟩
theorem vrow_mem {cl : List (Value × List Int)} {tv : Nat → Value} {f : Nat → List Int} {i : Nat} {u : Value} (hm : ∀ j : Nat, j < i → (tv j, f j) ∈ cl) (hu : (u, f i) ∈ cl) : ∀ j : Nat, j < i + 1 → ((if j = i then u else tv j), f j) ∈ cl := fun j hj => by
  by_cases h : j = i
  · subst h; rw [if_pos rfl]; exact hu
  · rw [if_neg h]; exact hm j (by omega)
section
variable {wA wx w7 : World} {g z : Nat} {k : KS} {i i2 : Nat} {own : Nat → Role} {v : Nat → Value} {n : Nat → Nat} {cs : Nat → List Value} {vo u v' : Value} {cl : List (Value × List Int)} {tl tf tb : Nat → Value}
theorem S2.front (hs : SB wA wx g own [0, 1, 2] v n cs vo k.rack cl) (h0 : n 0 = k.loops.length ∧ cs 0 = lrow k.loops tl ∧ (∀ j, j < k.loops.length → (tl j, (k.loops.getD j noLop).thr) ∈ cl) ∧ (vo, k.loose) ∈ cl)
    (h1 : n 1 = i ∧ cs 1 = vrow i tf ∧ (∀ j : Nat, j < i → (tf j, k.on 0 (j : Int)) ∈ cl)) (h2 : n 2 = i2 ∧ cs 2 = vrow i2 tb ∧ (∀ j : Nat, j < i2 → (tb j, k.on 1 (j : Int)) ∈ cl)) (hu : (u, k.on 0 (i : Int)) ∈ cl)
    (hg : wx.grownBy w7 (v 1).ownBlock) (hz : wx.heap.size ≤ z) (hb : Below wA.heap.size wA w7) (hv : w7.ownsRow wA.heap.size 25 1 v' (i + 1) (cs 1 ++ [u])) (he : v'.ownBlock = (v 1).ownBlock ∨ v'.ownBlock = some z) :
    S2 wA (w7.setCell ⟨g, 1, none⟩ v') g k (i + 1) i2 := by
  have hg2 := hs.grow (r := 1) (by simp) (by decide) hg hz hb hv he
  refine ⟨_, _, _, _, _, _, tl, fun j => if j = i then u else tf j, tb, hg2, h0, ⟨if_pos rfl, ?_, vrow_mem (f := fun j : Nat => k.on 0 (j : Int)) h1.2.2 hu⟩, h2⟩
  show (if 1 = 1 then _ else _) = _
  rw [if_pos rfl, h1.2.1, vrow_snoc]
theorem S2.back (hs : SB wA wx g own [0, 1, 2] v n cs vo k.rack cl) (h0 : n 0 = k.loops.length ∧ cs 0 = lrow k.loops tl ∧ (∀ j, j < k.loops.length → (tl j, (k.loops.getD j noLop).thr) ∈ cl) ∧ (vo, k.loose) ∈ cl)
    (h1 : n 1 = i ∧ cs 1 = vrow i tf ∧ (∀ j : Nat, j < i → (tf j, k.on 0 (j : Int)) ∈ cl)) (h2 : n 2 = i2 ∧ cs 2 = vrow i2 tb ∧ (∀ j : Nat, j < i2 → (tb j, k.on 1 (j : Int)) ∈ cl)) (hu : (u, k.on 1 (i2 : Int)) ∈ cl)
    (hg : wx.grownBy w7 (v 2).ownBlock) (hz : wx.heap.size ≤ z) (hb : Below wA.heap.size wA w7) (hv : w7.ownsRow wA.heap.size 25 1 v' (i2 + 1) (cs 2 ++ [u])) (he : v'.ownBlock = (v 2).ownBlock ∨ v'.ownBlock = some z) :
    S2 wA (w7.setCell ⟨g, 2, none⟩ v') g k i (i2 + 1) := by
  have hg2 := hs.grow (r := 2) (by simp) (by decide) hg hz hb hv he
  refine ⟨_, _, _, _, _, _, tl, tf, fun j => if j = i2 then u else tb j, hg2, h0, h1, if_pos rfl, ?_, vrow_mem (f := fun j : Nat => k.on 1 (j : Int)) h2.2.2 hu⟩
  show (if 2 = 2 then _ else _) = _
  rw [if_pos rfl, h2.2.1, vrow_snoc]
end
theorem getD_on (k : KS) (b : Int) {N i : Nat} (hi : i < N) : ((List.range N).map fun n : Nat => k.on b (n : Int)).getD i [] = k.on b (i : Int) := by simp [hi]
theorem S2.end_ {wA w : World} {g : Nat} {k : KS} {N : Nat} (h : S2 wA w g k N N) : ∃ v0 v1 v2 vo, Arr w g 27 [v0, v1, v2, vo, .int .i64 k.rack] ∧ KnR w (fun b => wA.heap.size ≤ b ∧ b < w.heap.size) (.agg #[v0, v1, v2, vo, .int .i64 k.rack]) (told N k) := by
  obtain ⟨own, v, n, cs, vo, cl, tl, tf, tb, hs, ⟨e0, e1, hm, hvo⟩, ⟨h1, h2, h3⟩, h4, h5, h6⟩ := h
  refine ⟨v 0, v 1, v 2, vo, hs.arr, v 0, v 1, v 2, vo, rfl, hs.loops (by simp) e0 e1 hm, ?_, ?_, (hs.cl _ hvo).mono fun b hb => ⟨hb.1, hb.2.1⟩⟩
  · refine hs.lists (r := 1) (by simp) (by decide) (tv := tf) ?_ ?_ fun i hi => ?_
    · unfold told; simpa using h1
    · unfold told; simpa using h2
    · unfold told at hi ⊢; simp only [List.length_map, List.length_range] at hi; dsimp only; rw [getD_on k 0 hi]; exact h3 i hi
  · refine hs.lists (r := 2) (by simp) (by decide) (tv := tb) ?_ ?_ fun i hi => ?_
    · unfold told; simpa using h4
    · unfold told; simpa using h5
    · unfold told at hi ⊢; simp only [List.length_map, List.length_range] at hi; dsimp only; rw [getD_on k 1 hi]; exact h6 i hi
end Go.Proofs.Ytaacfjeddoekfaa
