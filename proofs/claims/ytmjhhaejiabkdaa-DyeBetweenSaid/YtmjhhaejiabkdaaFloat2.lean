/- float64, plain: the nearest word. -/
import Derived.Test.YtmjhhaejiabkdaaFloat1
namespace Go.Proofs.Ytmjhhaejiabkdaa.Fl
open Ieee
set_option linter.unusedVariables false

theorem word_fin {s : Bool} {R : Nat} (h : R < 2047 * 2 ^ 52) : Fin (double.word s R) s R := by
  obtain ⟨c1, c2, c3, c4⟩ := consts
  unfold Format.word
  rw [c4]
  cases s
  · simp only [Bool.false_eq_true, if_false]
    refine ⟨?_, by omega, h⟩
    rw [show R / 2 ^ 63 = 0 by omega]; rfl
  · simp only [if_true]
    refine ⟨?_, by omega, h⟩
    rw [show (2 ^ 63 + R) / 2 ^ 63 = 1 by omega]; rfl

theorem mag_big {R n : Nat} (h : n + 1 ≤ R / 2 ^ 52) : 2 ^ 52 * 2 ^ n ≤ mag R := by
  unfold mag
  rw [if_neg (by omega)]
  exact Nat.mul_le_mul (Nat.le_add_right _ _) (Nat.pow_le_pow_right (by decide) (by omega))

theorem pow_split {a b c : Nat} (h : a = b + c) : 2 ^ a = 2 ^ b * 2 ^ c := by rw [h, Nat.pow_add]

/-- the nearest word: its rung is near -/
theorem nearest_spec {neg : Bool} {m : Nat} {place : Int} {K : Nat} (hm : 0 < m) (hK : 0 ≤ place + 1074 + K) :
    ∃ R, double.nearest neg m place = double.word neg (min R (2047 * 2 ^ 52)) ∧
      2 ^ 53 * (mag R * 2 ^ K) ≤ 2 ^ 53 * (m * 2 ^ (place + 1074 + K).toNat) + (m * 2 ^ (place + 1074 + K).toNat + 2 ^ (K + 52)) ∧
      2 ^ 53 * (m * 2 ^ (place + 1074 + K).toNat) ≤ 2 ^ 53 * (mag R * 2 ^ K) + (m * 2 ^ (place + 1074 + K).toNat + 2 ^ (K + 52)) ∧
      (K = 0 → 2 ^ 53 * mag R ≤ 2 ^ 53 * (m * 2 ^ (place + 1074).toNat) + m * 2 ^ (place + 1074).toNat ∧
        2 ^ 53 * (m * 2 ^ (place + 1074).toNat) ≤ 2 ^ 53 * mag R + m * 2 ^ (place + 1074).toNat) := by
  obtain ⟨c1, c2, c3, c4⟩ := consts
  have hf : double.fractionBits = 52 := rfl
  have hl1 : 2 ^ m.log2 ≤ m := Nat.log2_self_le (by omega)
  have hl2 : m < 2 ^ (m.log2 + 1) := Nat.lt_log2_self
  unfold Format.nearest
  rw [if_neg (by omega), c1, c2, c3, hf]
  simp only
  generalize hlast : max (place + (m.log2 : Int) - ((52 : Nat) : Int)) (-1074) = last
  obtain ⟨L, hL⟩ := Int.eq_ofNat_of_zero_le (show 0 ≤ last + 1074 by omega)
  rw [show (last - -1074).toNat = L by omega, Nat.shiftLeft_eq]
  generalize hP : (place + 1074 + K).toNat = P
  have hP' : (P : Int) = place + 1074 + K := by omega
  generalize ha : (place - last).toNat = a
  generalize hd : (last - place).toNat = d
  have hce := cut_even neg (m * 2 ^ a) d
  generalize hk : Toward.even.cut neg (m * 2 ^ a) d = k at *
  generalize hlg : m.log2 = g at *
  -- how far: 2 * |k * 2 ^ (L + K) - m * 2 ^ P| ≤ 2 ^ (L + K)
  have hnear : 2 * (k * 2 ^ (L + K)) ≤ 2 * (m * 2 ^ P) + 2 ^ (L + K) ∧ 2 * (m * 2 ^ P) ≤ 2 * (k * 2 ^ (L + K)) + 2 ^ (L + K) := by
    by_cases hc : last ≤ place
    · have hd0 : d = 0 := by omega
      subst hd0
      simp only [Nat.pow_zero, Nat.mul_one] at hce
      have e : k = m * 2 ^ a := by omega
      have e2 : m * 2 ^ P = k * 2 ^ (L + K) := by rw [e, Nat.mul_assoc, ← Nat.pow_add]; congr 2; omega
      rw [e2]
      generalize 2 ^ (L + K) = u at *
      omega
    · have ha0 : a = 0 := by omega
      subst ha0
      simp only [Nat.pow_zero, Nat.mul_one] at hce
      have e1 : 2 ^ (L + K) = 2 ^ d * 2 ^ P := pow_split (by omega)
      rw [e1, ← Nat.mul_assoc k]
      have h1 := Nat.mul_le_mul_right (2 ^ P) hce.1
      have h2 := Nat.mul_le_mul_right (2 ^ P) hce.2
      rw [Nat.add_mul, Nat.mul_assoc 2, Nat.mul_assoc 2] at h1
      rw [Nat.add_mul, Nat.mul_assoc 2, Nat.mul_assoc 2] at h2
      exact ⟨h1, h2⟩
  -- how great a unit is
  have hunit : L = 0 ∨ 2 ^ (L + K) * 2 ^ 52 ≤ m * 2 ^ P := by
    by_cases hL0 : L = 0
    · exact .inl hL0
    · right
      rw [← Nat.pow_add, pow_split (a := L + K + 52) (b := g) (c := P) (by omega)]
      exact Nat.mul_le_mul_right _ hl1
  have hbd : k ≤ 2 ^ 53 ∧ (L = 0 ∨ 2 ^ 52 ≤ k) := by
    by_cases hcase : last = place + (g : Int) - 52
    · -- a full significand
      have e1 : 2 ^ (P + g) = 2 ^ 52 * 2 ^ (L + K) := pow_split (by omega)
      have e2 : 2 ^ P * 2 ^ g = 2 ^ (P + g) := (Nat.pow_add 2 P g).symm
      have h1 : 2 ^ 52 * 2 ^ (L + K) ≤ m * 2 ^ P := by rw [← e1, ← e2, Nat.mul_comm]; exact Nat.mul_le_mul_right _ hl1
      have h2 : m * 2 ^ P < 2 ^ 53 * 2 ^ (L + K) := by
        have h3 : m * 2 ^ P < 2 ^ (g + 1) * 2 ^ P := Nat.mul_lt_mul_of_pos_right hl2 (Nat.two_pow_pos _)
        have h4 : 2 ^ (g + 1) * 2 ^ P = 2 ^ 53 * 2 ^ (L + K) := by rw [← Nat.pow_add, ← Nat.pow_add]; congr 1; omega
        omega
      have hu : 0 < 2 ^ (L + K) := Nat.two_pow_pos _
      generalize 2 ^ (L + K) = u at *
      generalize m * 2 ^ P = X at *
      constructor
      · by_cases hh : k ≤ 2 ^ 53
        · exact hh
        · exfalso
          have : (2 ^ 53 + 1) * u ≤ k * u := Nat.mul_le_mul_right _ (by omega)
          rw [Nat.add_mul] at this
          omega
      · right
        by_cases hh : 2 ^ 52 ≤ k
        · exact hh
        · exfalso
          have : (k + 1) * u ≤ 2 ^ 52 * u := Nat.mul_le_mul_right _ (by omega)
          rw [Nat.add_mul] at this
          omega
    · have hL0 : L = 0 := by omega
      refine ⟨?_, .inl hL0⟩
      subst hL0
      rw [Nat.zero_add] at hnear
      have h3 : m * 2 ^ P < 2 ^ (g + 1) * 2 ^ P := Nat.mul_lt_mul_of_pos_right hl2 (Nat.two_pow_pos _)
      have h4 : 2 ^ (g + 1) * 2 ^ P ≤ 2 ^ 52 * 2 ^ K := by rw [← Nat.pow_add, ← Nat.pow_add]; exact Nat.pow_le_pow_right (by decide) (by omega)
      have hu : 0 < 2 ^ K := Nat.two_pow_pos _
      generalize 2 ^ K = u at *
      generalize m * 2 ^ P = X at *
      generalize 2 ^ (g + 1) * 2 ^ P = Y at *
      by_cases hh : k ≤ 2 ^ 53
      · exact hh
      · exfalso
        have : (2 ^ 53 + 1) * u ≤ k * u := Nat.mul_le_mul_right _ (by omega)
        rw [Nat.add_mul] at this
        omega
  refine ⟨L * 2 ^ 52 + k, rfl, ?_⟩
  rw [mag_rung hbd.1 hbd.2, Nat.mul_assoc, ← Nat.pow_add]
  have e52 : 2 ^ (K + 52) = 2 ^ K * 2 ^ 52 := Nat.pow_add _ _ _
  rw [e52]
  have hgen : 2 ^ (L + K) * 2 ^ 52 ≤ m * 2 ^ P + 2 ^ K * 2 ^ 52 := by
    rcases hunit with h | h
    · subst h; rw [Nat.zero_add]; omega
    · omega
  refine ⟨?_, ?_, ?_⟩
  · generalize 2 ^ (L + K) = u at *
    generalize k * u = A at *
    generalize m * 2 ^ P = X at *
    omega
  · generalize 2 ^ (L + K) = u at *
    generalize k * u = A at *
    generalize m * 2 ^ P = X at *
    omega
  · intro h0
    subst h0
    have eP : (place + 1074).toNat = P := by omega
    rw [eP]
    simp only [Nat.add_zero] at hnear hunit
    rcases hunit with h | h
    · subst h
      simp only [Nat.pow_zero, Nat.mul_one] at hnear ⊢
      omega
    · generalize 2 ^ L = u at *
      generalize k * u = A at *
      generalize m * 2 ^ P = X at *
      omega
end Go.Proofs.Ytmjhhaejiabkdaa.Fl
