/- float64, plain: what a word stands for, in units of the least number; how near a rounded number is. -/
import Derived.Test.YtmjhhaejiabkdaaLib
import Ieee.Arith
namespace Go.Proofs.Ytmjhhaejiabkdaa.Fl
open Ieee
set_option linter.unusedVariables false

/-- the magnitude of a rung, in units of 2 ^ -1074 -/
def mag (r : Nat) : Nat := if r < 2 ^ 52 then r else (2 ^ 52 + r % 2 ^ 52) * 2 ^ (r / 2 ^ 52 - 1)
def sgn (s : Bool) (n : Nat) : Int := if s then -(n : Int) else n

/-- a finite number: its sign and its rung -/
def Fin (x : Nat) (s : Bool) (r : Nat) : Prop := (x / 2 ^ 63 % 2 == 1) = s ∧ x % 2 ^ 63 = r ∧ r < 2047 * 2 ^ 52

theorem consts : double.leastPlace = -1074 ∧ double.binade = 2 ^ 52 ∧ double.infRung = 2047 * 2 ^ 52 ∧ double.signWeight = 2 ^ 63 := by decide

theorem read_fin {x : Nat} {s : Bool} {r : Nat} (h : Fin x s r) :
    ∃ m e, double.read x = .number s m e ∧ -1074 ≤ e ∧ e ≤ 971 ∧ m * 2 ^ (e + 1074).toNat = mag r ∧ m < 2 ^ 53 := by
  obtain ⟨h1, h2, h3⟩ := h
  obtain ⟨c1, c2, c3, c4⟩ := consts
  unfold Format.read
  rw [c1, c2, c3, c4, h1, h2]
  by_cases hr : r < 2 ^ 52
  · simp only [if_pos hr]
    refine ⟨r, -1074, rfl, by omega, by omega, ?_, by omega⟩
    unfold mag
    rw [if_pos hr]; simp
  · simp only [if_neg hr, if_pos h3]
    have h4 : r / 2 ^ 52 ≤ 2046 := by omega
    refine ⟨_, _, rfl, by omega, by omega, ?_, by have := Nat.mod_lt r (show 0 < 2 ^ 52 by decide); omega⟩
    unfold mag
    rw [if_neg hr]
    congr 2
    omega

/-- what is kept: nearest -/
theorem cut_even (neg : Bool) (n drop : Nat) : 2 * (Toward.even.cut neg n drop * 2 ^ drop) ≤ 2 * n + 2 ^ drop ∧ 2 * n ≤ 2 * (Toward.even.cut neg n drop * 2 ^ drop) + 2 ^ drop := by
  unfold Toward.cut
  simp only
  by_cases hd : drop ≤ n.log2 + 2
  · rw [Nat.min_eq_left hd, Nat.one_shiftLeft]
    have h1 := Nat.div_add_mod n (2 ^ drop)
    have h2 := Nat.mod_lt n (show 0 < 2 ^ drop from Nat.two_pow_pos _)
    generalize 2 ^ drop = g at *
    generalize n % g = rest at *
    generalize n / g = low at *
    have e1 : (low + 1) * g = g * low + g := by rw [Nat.add_mul, Nat.one_mul, Nat.mul_comm]
    have e0 : (low + 0) * g = g * low := by rw [Nat.add_zero, Nat.mul_comm]
    cases hc : (decide (g < 2 * rest) || (g == 2 * rest && low % 2 == 1))
    · simp only [Bool.toNat_false]
      rw [e0]
      simp only [Bool.or_eq_false_iff, decide_eq_false_iff_not] at hc
      omega
    · simp only [Bool.toNat_true]
      rw [e1]
      simp only [Bool.or_eq_true, decide_eq_true_eq, Bool.and_eq_true, beq_iff_eq] at hc
      omega
  · rw [Nat.min_eq_right (by omega), Nat.one_shiftLeft]
    have hlt : n < 2 ^ (n.log2 + 1) := Nat.lt_log2_self
    have e : 2 ^ (n.log2 + 2) = 2 * 2 ^ (n.log2 + 1) := by rw [Nat.pow_succ, Nat.mul_comm]
    have hg : n < 2 ^ (n.log2 + 2) := by omega
    have hp : 2 ^ (n.log2 + 2) ≤ 2 ^ drop := Nat.pow_le_pow_right (by decide) (by omega)
    rw [Nat.div_eq_of_lt hg, Nat.mod_eq_of_lt hg]
    have hc : (decide (2 ^ (n.log2 + 2) < 2 * n) || (2 ^ (n.log2 + 2) == 2 * n && 0 % 2 == 1)) = false := by
      simp only [Bool.or_eq_false_iff, decide_eq_false_iff_not, Bool.and_eq_false_iff]
      refine ⟨by omega, .inr (by decide)⟩
    rw [hc]
    simp
    omega

/-- the rung of a kept number at a place -/
theorem mag_rung {L k : Nat} (hk : k ≤ 2 ^ 53) (h : L = 0 ∨ 2 ^ 52 ≤ k) : mag (L * 2 ^ 52 + k) = k * 2 ^ L := by
  unfold mag
  by_cases h1 : k < 2 ^ 52
  · have : L = 0 := by omega
    subst this
    rw [if_pos (by omega)]; simp
  · rw [if_neg (by omega)]
    by_cases h2 : k < 2 ^ 53
    · have e1 : (L * 2 ^ 52 + k) / 2 ^ 52 = L + 1 := by omega
      have e2 : (L * 2 ^ 52 + k) % 2 ^ 52 = k - 2 ^ 52 := by omega
      rw [e1, e2, show 2 ^ 52 + (k - 2 ^ 52) = k by omega, Nat.add_sub_cancel]
    · have hk2 : k = 2 ^ 53 := by omega
      subst hk2
      have e1 : (L * 2 ^ 52 + 2 ^ 53) / 2 ^ 52 = L + 2 := by omega
      have e2 : (L * 2 ^ 52 + 2 ^ 53) % 2 ^ 52 = 0 := by omega
      rw [e1, e2, show L + 2 - 1 = L + 1 by omega, Nat.pow_succ]
      omega
end Go.Proofs.Ytmjhhaejiabkdaa.Fl
