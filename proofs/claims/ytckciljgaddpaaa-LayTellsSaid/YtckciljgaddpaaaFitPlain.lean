/- Chapter 16, plain: whether pieces fit. -/
import Derived.Test.YtckciljgaddpaaaLayWalk4
namespace Go.Proofs.Ytckciljgaddpaaa
open Go.RowKit
set_option linter.unusedVariables false

def noPt : Pt := ⟨0, 0⟩
theorem pt_getD {zs : List Pt} {i : Nat} (h : i < zs.length) : zs.getD i noPt = zs[i] := by simp [h]
def inR (W H : Int) (p : Pc) (z : Pt) : Prop := 0 ≤ z.x ∧ 0 ≤ z.y ∧ z.x ≤ W - p.w ∧ p.h ≤ H ∧ z.y ≤ H - p.h
def ovl (p : Pc) (z : Pt) (q : Pc) (u : Pt) : Prop := z.x - u.x < q.w ∧ u.x - z.x < p.w ∧ z.y - u.y < q.h ∧ u.y - z.y < p.h
/-- all pieces lie on the cloth, none on another one -/
structure Fit (W H : Int) (ps : List Pc) (zs : List Pt) : Prop where
  inr : ∀ i, i < ps.length → inR W H (ps.getD i noPc) (zs.getD i noPt)
  apart : ∀ i k, k < i → i < ps.length → ¬ ovl (ps.getD i noPc) (zs.getD i noPt) (ps.getD k noPc) (zs.getD k noPt)
noncomputable def fitB (W H : Int) (ps : List Pc) (zs : List Pt) : Bool := @decide (Fit W H ps zs) (Classical.propDecidable _)
theorem fitB_true {W H : Int} {ps : List Pc} {zs : List Pt} (h : Fit W H ps zs) : fitB W H ps zs = true := by unfold fitB; exact @decide_eq_true _ (Classical.propDecidable _) h
theorem fitB_false {W H : Int} {ps : List Pc} {zs : List Pt} (h : ¬ Fit W H ps zs) : fitB W H ps zs = false := by unfold fitB; exact @decide_eq_false _ (Classical.propDecidable _) h
/-- the first i are right -/
def FitTo (W H : Int) (ps : List Pc) (zs : List Pt) (i : Nat) : Prop := ∀ j, j < i → inR W H (ps.getD j noPc) (zs.getD j noPt) ∧ ∀ k, k < j → ¬ ovl (ps.getD j noPc) (zs.getD j noPt) (ps.getD k noPc) (zs.getD k noPt)
theorem FitTo.done {W H : Int} {ps : List Pc} {zs : List Pt} (h : FitTo W H ps zs ps.length) : Fit W H ps zs := ⟨fun i hi => (h i hi).1, fun i k hk hi => (h i hi).2 k hk⟩
theorem FitTo.next {W H : Int} {ps : List Pc} {zs : List Pt} {i : Nat} (h : FitTo W H ps zs i) (h1 : inR W H (ps.getD i noPc) (zs.getD i noPt)) (h2 : ∀ k, k < i → ¬ ovl (ps.getD i noPc) (zs.getD i noPt) (ps.getD k noPc) (zs.getD k noPt)) : FitTo W H ps zs (i + 1) := by
  intro j hj
  rcases Nat.lt_or_eq_of_le (Nat.le_of_lt_succ hj) with h3 | rfl
  · exact h j h3
  · exact ⟨h1, h2⟩

/-- have two stretches a place in common? -/
def btw (a n b m : Int) : Bool := if a ≤ b then decide (b - a < n) else decide (a - b < m)
theorem btw_ovl {p q : Pc} {z u : Pt} (hp : 1 ≤ p.w ∧ 1 ≤ p.h) (hq : 1 ≤ q.w ∧ 1 ≤ q.h) : (btw z.x p.w u.x q.w && btw z.y p.h u.y q.h) = true ↔ ovl p z q u := by
  unfold btw ovl
  rw [Bool.and_eq_true]
  split <;> split <;> simp only [decide_eq_true_eq] <;> omega
theorem ovl_symm {p q : Pc} {z u : Pt} : ovl p z q u ↔ ovl q u p z := by unfold ovl; omega
end Go.Proofs.Ytckciljgaddpaaa
