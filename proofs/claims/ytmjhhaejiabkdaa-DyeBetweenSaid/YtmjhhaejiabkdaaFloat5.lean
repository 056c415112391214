/- float64, plain: what is exact: nought plus a number; squares; comparisons as numbers. -/
import Derived.Test.YtmjhhaejiabkdaaFloat4
namespace Go.Proofs.Ytmjhhaejiabkdaa.Fl
open Ieee
set_option linter.unusedVariables false

theorem cut_exact (neg : Bool) (k d : Nat) : Toward.even.cut neg (k * 2 ^ d) d = k := by
  obtain ⟨h1, h2⟩ := cut_even neg (k * 2 ^ d) d
  have hu : 0 < 2 ^ d := Nat.two_pow_pos _
  generalize Toward.even.cut neg (k * 2 ^ d) d = c at *
  rcases Nat.lt_trichotomy c k with h | h | h
  · exfalso
    have : (c + 1) * 2 ^ d ≤ k * 2 ^ d := Nat.mul_le_mul_right _ h
    rw [Nat.add_mul] at this
    omega
  · exact h
  · exfalso
    have : (k + 1) * 2 ^ d ≤ c * 2 ^ d := Nat.mul_le_mul_right _ h
    rw [Nat.add_mul] at this
    omega

theorem read_small {r : Nat} (h : r < 2 ^ 52) : double.read r = .number false r (-1074) := by
  obtain ⟨c1, c2, c3, c4⟩ := consts
  unfold Format.read
  rw [c1, c2, c3, c4]
  have e1 : r / 2 ^ 63 = 0 := Nat.div_eq_of_lt (by omega)
  have e2 : r % 2 ^ 63 = r := Nat.mod_eq_of_lt (by omega)
  simp only [e1, e2, if_pos h]
  rfl

theorem read_great {r : Nat} (h : 2 ^ 52 ≤ r) (h2 : r < 2047 * 2 ^ 52) : double.read r = .number false (2 ^ 52 + r % 2 ^ 52) (-1074 + ((r / 2 ^ 52 - 1 : Nat) : Int)) := by
  obtain ⟨c1, c2, c3, c4⟩ := consts
  unfold Format.read
  rw [c1, c2, c3, c4]
  have e1 : r / 2 ^ 63 = 0 := Nat.div_eq_of_lt (by omega)
  have e2 : r % 2 ^ 63 = r := Nat.mod_eq_of_lt (by omega)
  simp only [e1, e2, if_neg (show ¬ r < 2 ^ 52 by omega), if_pos h2]
  rfl

/-- nought plus a number -/
theorem add_nought {y : Nat} (hy : FW y) (hp : y < 2 ^ 63) : double.add 0 y = some y := by
  obtain ⟨c1, c2, c3, c4⟩ := consts
  have hf : double.fractionBits = 52 := rfl
  have hlt : y < 2047 * 2 ^ 52 := by have h := hy; unfold FW at h; rw [Nat.mod_eq_of_lt hp] at h; exact h
  have r0 : double.read 0 = .number false 0 (-1074) := read_small (by decide)
  unfold Format.add
  rw [r0]
  rcases Nat.lt_or_ge y (2 ^ 52) with h | h
  · rw [read_small h]
    simp only [Datum.sum, Option.map_some, signed]
    show some (double.nearest _ _ _) = _
    by_cases hz : y = 0
    · subst hz; rfl
    · have e : (((0 <<< ((-1074 : Int) - min (-1074) (-1074)).toNat : Nat) : Int) + ((y <<< ((-1074 : Int) - min (-1074) (-1074)).toNat : Nat) : Int)) = (y : Int) := by simp
      simp only [Bool.false_eq_true, if_false]
      rw [e]
      have hl : y.log2 < 52 := by rw [Nat.log2_lt hz]; exact h
      unfold Format.nearest
      rw [Int.natAbs_natCast, if_neg hz, c1, c2, c3, hf]
      simp only [Int.min_self]
      have el : max (-1074 + (y.log2 : Int) - ((52 : Nat) : Int)) (-1074) = -1074 := by omega
      rw [el]
      have ec := cut_exact (if (y : Int) = 0 then false && false else decide ((y : Int) < 0)) y 0
      simp only [Int.sub_self, Int.toNat_zero, Nat.shiftLeft_zero, Nat.zero_mul, Nat.zero_add]
      rw [Nat.pow_zero, Nat.mul_one] at ec
      rw [ec, Nat.min_eq_left (by omega), if_neg (by omega)]
      have : decide ((y : Int) < 0) = false := by simp
      rw [this]
      rfl
  · rw [read_great h hlt]
    have hk : y = (y / 2 ^ 52 - 1) * 2 ^ 52 + (2 ^ 52 + y % 2 ^ 52) := by omega
    have hb1 : 2 ^ 52 ≤ 2 ^ 52 + y % 2 ^ 52 := by omega
    have hb2 : 2 ^ 52 + y % 2 ^ 52 < 2 ^ 53 := by omega
    generalize y / 2 ^ 52 - 1 = J at *
    generalize 2 ^ 52 + y % 2 ^ 52 = k at *
    have hm : min (-1074 : Int) (-1074 + (J : Int)) = -1074 := by omega
    simp only [Datum.sum, Option.map_some, signed, hm]
    show some (double.nearest _ _ _) = _
    have e : (((0 <<< ((-1074 : Int) - -1074).toNat : Nat) : Int) + ((k <<< ((-1074 + (J : Int)) - -1074).toNat : Nat) : Int)) = ((k * 2 ^ J : Nat) : Int) := by
      rw [show ((-1074 + (J : Int)) - -1074).toNat = J by omega, Nat.shiftLeft_eq, Nat.shiftLeft_eq, Nat.zero_mul]; simp
    simp only [Bool.false_eq_true, if_false]
    rw [e]
    have hkp : 0 < k * 2 ^ J := Nat.mul_pos (by omega) (Nat.two_pow_pos _)
    have hl : (k * 2 ^ J).log2 = 52 + J := by
      have l1 : 2 ^ (52 + J) ≤ k * 2 ^ J := by rw [Nat.pow_add]; exact Nat.mul_le_mul_right _ hb1
      have l2 : k * 2 ^ J < 2 ^ (53 + J) := by rw [Nat.pow_add]; exact Nat.mul_lt_mul_of_pos_right hb2 (Nat.two_pow_pos _)
      have a1 := (Nat.le_log2 (Nat.ne_of_gt hkp)).2 l1
      have a2 := (Nat.log2_lt (Nat.ne_of_gt hkp)).2 l2
      omega
    unfold Format.nearest
    rw [Int.natAbs_natCast, if_neg (by omega), c1, c2, c3, hf, hl]
    have el : max ((-1074 : Int) + ((52 + J : Nat) : Int) - ((52 : Nat) : Int)) (-1074) = -1074 + (J : Int) := by omega
    simp only [el]
    have ec := cut_exact (if ((k * 2 ^ J : Nat) : Int) = 0 then false && false else decide (((k * 2 ^ J : Nat) : Int) < 0)) k J
    rw [show ((-1074 : Int) - (-1074 + (J : Int))).toNat = 0 by omega, show ((-1074 : Int) + (J : Int) - -1074).toNat = J by omega, Nat.shiftLeft_zero, ec,
      if_neg (by omega), Nat.min_eq_left (by omega)]
    have : decide (((k * 2 ^ J : Nat) : Int) < 0) = false := decide_eq_false (by have : (0 : Int) ≤ ((k * 2 ^ J : Nat) : Int) := Int.natCast_nonneg _; omega)
    rw [this, ← hk]
    rfl

theorem word_plus (R : Nat) : double.word false R = R := by unfold Format.word; rw [if_neg (by simp)]
theorem nearest_plus (m : Nat) (place : Int) : double.nearest false m place < 2 ^ 63 := by
  obtain ⟨c1, c2, c3, c4⟩ := consts
  unfold Format.nearest
  simp only [word_plus]
  rw [c3]
  split
  · omega
  · refine Nat.lt_of_le_of_lt (Nat.min_le_right _ _) ?_
    omega

/-- a square is not below nought -/
theorem sq_pos {x y : Nat} (h : double.mul x x = some y) (hx : FW x) : y < 2 ^ 63 := by
  obtain ⟨s, m, i, r1, i1, _, v1⟩ := read_V hx
  unfold Format.mul at h
  rw [r1] at h
  unfold Datum.product at h
  simp only [Option.map_some, Bool.xor_self, Option.some.injEq] at h
  rw [← h]
  exact nearest_plus _ _
end Go.Proofs.Ytmjhhaejiabkdaa.Fl
