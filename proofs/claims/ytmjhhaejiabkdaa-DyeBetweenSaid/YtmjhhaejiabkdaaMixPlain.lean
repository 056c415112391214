/- Chapter 15, plain: the sums of a mix, step by step. -/
import Derived.Test.YtmjhhaejiabkdaaMixWalk1
namespace Go.Proofs.Ytmjhhaejiabkdaa
open Go.Proofs.Ytmjhhaejiabkdaa.Fl
set_option linter.unusedVariables false

def noDr : Dr := ⟨⟨0, 0, 0⟩, 0⟩
/-- the part's weight in drop k -/
def prodAt (p : Dy → Nat) (xs : List Dr) (k : Nat) : Nat := (Ieee.double.mul (xs.getD k noDr).s (p (xs.getD k noDr).d)).getD 0
/-- the sum of the first k -/
def accAt (p : Dy → Nat) (xs : List Dr) : Nat → Nat
  | 0 => 0
  | k + 1 => (Ieee.double.add (accAt p xs k) (prodAt p xs k)).getD 0
def allAt (xs : List Dr) : Nat → Nat
  | 0 => 0
  | k + 1 => (Ieee.double.add (allAt xs k) (xs.getD k noDr).s).getD 0
/-- each step of the sum is a number -/
def SumIs (p : Dy → Nat) (xs : List Dr) : Prop := ∀ k (h : k < xs.length), Ieee.double.mul xs[k].s (p xs[k].d) = some (prodAt p xs k) ∧ Ieee.double.add (accAt p xs k) (prodAt p xs k) = some (accAt p xs (k + 1))
def AllIs (xs : List Dr) : Prop := ∀ k (h : k < xs.length), Ieee.double.add (allAt xs k) xs[k].s = some (allAt xs (k + 1))
/-- what a mix of xs is -/
structure MixIs (xs : List Dr) (d : Dy) : Prop where
  r : SumIs Dy.r xs
  g : SumIs Dy.g xs
  b : SumIs Dy.b xs
  all : AllIs xs
  qr : Ieee.double.div (accAt Dy.r xs xs.length) (allAt xs xs.length) = some d.r
  qg : Ieee.double.div (accAt Dy.g xs xs.length) (allAt xs xs.length) = some d.g
  qb : Ieee.double.div (accAt Dy.b xs xs.length) (allAt xs xs.length) = some d.b
end Go.Proofs.Ytmjhhaejiabkdaa
