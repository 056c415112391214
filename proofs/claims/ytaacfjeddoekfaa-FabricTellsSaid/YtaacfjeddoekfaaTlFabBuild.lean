import Derived.Test.YtaacfjeddoekfaaTl2
/- Chapter 12: cloth told, row by row: two rows grow ahead of two stores. -/
namespace Go.Proofs.Ytaacfjeddoekfaa
open Go.RowKit
set_option linter.unusedVariables false

/-- as SB, whatever the box holds -/
structure SQ (w0 w : World) (g : Nat) (own : Nat → Role) (rs : List Nat) (v : Nat → Value) (n : Nat → Nat) (cs : Nat → List Value) (bx : List Value) (cl : List (Value × List Int)) : Prop where
  below : Below w0.heap.size w0 w
  arr : Arr w g 27 bx
  gB : w0.heap.size ≤ g
  og : own g = rK
  row : ∀ r, r ∈ rs → w.ownsRow w0.heap.size (et r) (sz r) (v r) (n r) (cs r) ∧ Sep (v r) (rV r) own
  cl : ∀ q ∈ cl, Ints w (CB w0 w own) q.1 q.2
section
variable {w0 w w1 : World} {g : Nat} {own : Nat → Role} {rs : List Nat} {v : Nat → Value} {n : Nat → Nat} {cs : Nat → List Value} {vo : Value} {rack : Int} {bx : List Value} {cl : List (Value × List Int)}
theorem SB.sq (h : SB w0 w g own rs v n cs vo rack cl) : SQ w0 w g own rs v n cs [v 0, v 1, v 2, vo, .int .i64 rack] cl := ⟨h.below, h.arr, h.gB, h.og, h.row, h.cl⟩
theorem SQ.sb (h : SQ w0 w g own rs v n cs bx cl) (e : bx = [v 0, v 1, v 2, vo, .int .i64 rack]) : SB w0 w g own rs v n cs vo rack cl := by
  subst e
  exact ⟨h.below, h.arr, h.gB, h.og, h.row, h.cl⟩
theorem SQ.keep (h : SQ w0 w g own rs v n cs bx cl) (hb : Below w.heap.size w w1) : SQ w0 w1 g own rs v n cs bx cl :=
  ⟨h.below.trans (hb.mono h.below.size), h.arr.of_eq (hb.block _ h.arr.lt), h.gB, h.og, fun r hr => ⟨own_below (h.row r hr).1 hb (Nat.le_refl _), (h.row r hr).2⟩,
    fun q hq => ((h.cl q hq).same fun b hb' => hb.block b hb'.2.1).mono fun b hb' => ⟨hb'.1, Nat.lt_of_lt_of_le hb'.2.1 hb.size, hb'.2.2⟩⟩
theorem SQ.more (h : SQ w0 w g own rs v n cs bx cl) (hb : Below w.heap.size w w1) {u : Value} {xs : List Int} (hu : Ints w1 (fun b => w.heap.size ≤ b ∧ b < w1.heap.size) u xs) :
    SQ w0 w1 g (fun b => if b < w.heap.size then own b else rC) rs v n cs bx ((u, xs) :: cl) := by
  have k := h.keep hb
  refine ⟨k.below, k.arr, k.gB, by show (if g < w.heap.size then own g else rC) = rK; rw [if_pos h.arr.lt]; exact h.og, fun r hr => ⟨(k.row r hr).1, fun x hx => ?_⟩, fun q hq => ?_⟩
  · show (if x < w.heap.size then own x else rC) = rV r
    rw [if_pos ((h.row r hr).1.lt x hx).2]
    exact (h.row r hr).2 x hx
  · rcases List.mem_cons.1 hq with rfl | hq
    · exact hu.mono fun b hb' => ⟨Nat.le_trans h.below.size hb'.1, hb'.2, by show (if b < w.heap.size then own b else rC) = rC; rw [if_neg (by omega)]⟩
    · exact ((h.cl q hq).same fun b hb' => hb.block b hb'.2.1).mono fun b hb' => ⟨hb'.1, Nat.lt_of_lt_of_le hb'.2.1 hb.size, by show (if b < w.heap.size then own b else rC) = rC; rw [if_pos hb'.2.1]; exact hb'.2.2⟩
/-- a row grows; the box stands -/
theorem SQ.grow (h : SQ w0 w g own rs v n cs bx cl) {r : Nat} (hr : r ∈ rs) {v' : Value} {z m : Nat} {us : List Value} (hg : w.grownBy w1 (v r).ownBlock) (hz : w.heap.size ≤ z) (hb : Below w0.heap.size w0 w1)
    (hv : w1.ownsRow w0.heap.size (et r) (sz r) v' m us) (he : v'.ownBlock = (v r).ownBlock ∨ v'.ownBlock = some z) :
    SQ w0 w1 g (ow own z (rV r)) rs (fun i => if i = r then v' else v i) (fun i => if i = r then m else n i) (fun i => if i = r then us else cs i) bx cl := by
  have hs := (h.row r hr).2
  have hrow := (h.row r hr).1
  have K : Kept own (rV r) w w1 := .of_grown hg fun x e => hs x e
  have eg : ow own z (rV r) g = rK := by rw [ow_ne _ _ (by have := h.arr.lt; omega)]; exact h.og
  have S' : Sep v' (rV r) (ow own z (rV r)) := hs.app hrow hz he
  refine ⟨hb, K.arr h.arr (by rw [h.og]; simp), h.gB, eg, fun i hi => ?_, fun q hq => ?_⟩
  · by_cases hir : i = r
    · subst hir
      rw [if_pos rfl, if_pos rfl, if_pos rfl]
      exact ⟨hv, S'⟩
    · rw [if_neg hir, if_neg hir, if_neg hir]
      have s2 : Sep (v i) (rV i) (ow own z (rV r)) := (h.row i hi).2.turn (h.row i hi).1 (ow_old hz) (by simp; omega)
      exact ⟨K.row (h.row i hi).1 (h.row i hi).2 (by simp; omega), s2⟩
  · refine ((h.cl q hq).same fun b hb' => ?_).mono fun b hb' => ⟨hb'.1, Nat.lt_of_lt_of_le hb'.2.1 K.size, by rw [ow_ne _ _ (by have := hb'.2.1; omega)]; exact hb'.2.2⟩
    exact K.block b hb'.2.1 (by rw [hb'.2.2]; simp)
/-- a cell of the box is set -/
theorem SQ.set (h : SQ w0 w g own rs v n cs bx cl) (j : Nat) (u : Value) : SQ w0 (w.setCell ⟨g, j, none⟩ u) g own rs v n cs (bx.set j u) cl := by
  have K2 : Kept own rK w (w.setCell ⟨g, j, none⟩ u) := .set j _ h.og
  have hsz : (w.setCell ⟨g, j, none⟩ u).heap.size = w.heap.size := by simp [World.setCell]
  refine ⟨h.below.setCell h.gB _, h.arr.set j u, h.gB, h.og, fun i hi => ⟨K2.row (h.row i hi).1 (h.row i hi).2 (by simp), (h.row i hi).2⟩, fun q hq => ?_⟩
  refine ((h.cl q hq).same fun b hb' => ?_).mono fun b hb' => ⟨hb'.1, by rw [hsz]; exact hb'.2.1, hb'.2.2⟩
  exact K2.block b hb'.2.1 (by rw [hb'.2.2]; simp)
end
section
variable {wA wx w7 w8 w9 : World} {g z z2 : Nat} {k : KS} {i : Nat} {own : Nat → Role} {v : Nat → Value} {n : Nat → Nat} {cs : Nat → List Value} {vo u1 u2 v1 v2 : Value} {cl : List (Value × List Int)} {tl tf tb : Nat → Value} {bx : List Value} {x1 x2 : Value}
/-- both rows of lists have grown by one, and are stored -/
theorem S2.both (hs : SQ wA wx g own [0, 1, 2] v n cs [v 0, x1, x2, vo, .int .i64 k.rack] cl) (h0 : n 0 = k.loops.length ∧ cs 0 = lrow k.loops tl ∧ (∀ j, j < k.loops.length → (tl j, (k.loops.getD j noLop).thr) ∈ cl) ∧ (vo, k.loose) ∈ cl)
    (h1 : n 1 = i + 1 ∧ cs 1 = vrow i tf ++ [u1] ∧ (∀ j : Nat, j < i → (tf j, k.on 0 (j : Int)) ∈ cl)) (h2 : n 2 = i + 1 ∧ cs 2 = vrow i tb ++ [u2] ∧ (∀ j : Nat, j < i → (tb j, k.on 1 (j : Int)) ∈ cl)) (hu1 : (u1, k.on 0 (i : Int)) ∈ cl) (hu2 : (u2, k.on 1 (i : Int)) ∈ cl) :
    S2 wA ((wx.setCell ⟨g, 1, none⟩ (v 1)).setCell ⟨g, 2, none⟩ (v 2)) g k (i + 1) (i + 1) := by
  have hb := ((hs.set 1 (v 1)).set 2 (v 2)).sb (vo := vo) (rack := k.rack) rfl
  exact ⟨_, _, _, _, _, _, tl, fun j => if j = i then u1 else tf j, fun j => if j = i then u2 else tb j, hb, h0, ⟨h1.1, by rw [h1.2.1, vrow_snoc], vrow_mem (f := fun j : Nat => k.on 0 (j : Int)) h1.2.2 hu1⟩, h2.1, by rw [h2.2.1, vrow_snoc], vrow_mem (f := fun j : Nat => k.on 1 (j : Int)) h2.2.2 hu2⟩
end
/-- cloth as something to be told of N needles -/
def clothS (k : Kn) : KS := ⟨(cloth k).loops, fun b n => if b = 0 then (cloth k).front.getD n.toNat [] else (cloth k).back.getD n.toNat [], (cloth k).loose, k.rack, 0⟩
theorem told_cloth {k : Kn} {N : Nat} (h1 : k.front.length = N) (h2 : k.back.length = N) : told N (clothS k) = cloth k := by
  have e : ∀ l : List (List Int), l.length = N → ((List.range N).map fun n : Nat => l.getD (n : Int).toNat []) = l := fun l hl => by
    apply List.ext_getElem
    · simp [hl]
    · intro i a b
      simp [b]
  have e1 : (cloth k).front.length = N := by unfold cloth; simp [h1]
  have e2 : (cloth k).back.length = N := by unfold cloth; simp [h2]
  have f0 : ∀ m : Nat, (clothS k).on 0 (m : Int) = (cloth k).front.getD (m : Int).toNat [] := fun m => rfl
  have f1 : ∀ m : Nat, (clothS k).on 1 (m : Int) = (cloth k).back.getD (m : Int).toNat [] := fun m => rfl
  unfold told
  rw [List.map_congr_left fun m _ => f0 m, List.map_congr_left fun m _ => f1 m, e _ e1, e _ e2]
  rfl
end Go.Proofs.Ytaacfjeddoekfaa
