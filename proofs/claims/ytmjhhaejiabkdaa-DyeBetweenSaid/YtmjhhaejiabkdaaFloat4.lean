/- float64, plain: quotients. -/
import Derived.Test.YtmjhhaejiabkdaaFloat3
namespace Go.Proofs.Ytmjhhaejiabkdaa.Fl
open Ieee
set_option linter.unusedVariables false

/-- the quotient's digits, as they are cut -/
theorem quot_near {m k more : Nat} (hk : 0 < k) :
    (2 * ((m <<< more) / k) + ((m <<< more) % k != 0).toNat) * k ≤ 2 * (m * 2 ^ more) + k ∧
    2 * (m * 2 ^ more) ≤ (2 * ((m <<< more) / k) + ((m <<< more) % k != 0).toNat) * k + k ∧ 2 * ((m * 2 ^ more) / k) ≤ 2 * ((m <<< more) / k) + ((m <<< more) % k != 0).toNat := by
  rw [Nat.shiftLeft_eq]
  generalize m * 2 ^ more = d
  have h1 : d = k * (d / k) + d % k := (Nat.div_add_mod d k).symm
  have h2 : d % k < k := Nat.mod_lt _ hk
  by_cases hz : d % k = 0
  · have e : (d % k != 0).toNat = 0 := by rw [hz]; rfl
    rw [e, Nat.add_zero, Nat.mul_assoc, Nat.mul_comm (d / k) k]
    refine ⟨by omega, by omega, by omega⟩
  · have e : (d % k != 0).toNat = 1 := by rw [show (d % k != 0) = true by simpa using hz]; rfl
    rw [e, Nat.add_mul, Nat.mul_assoc, Nat.mul_comm (d / k) k]
    refine ⟨by omega, by omega, by omega⟩

theorem digits_enough {m k : Nat} (hm : 0 < m) (hk : 0 < k) : 2 ^ 53 ≤ (m * 2 ^ (54 + k.log2 - m.log2)) / k := by
  rw [Nat.le_div_iff_mul_le hk]
  have a1 : 2 ^ m.log2 ≤ m := Nat.log2_self_le (by omega)
  have a2 : k < 2 ^ (k.log2 + 1) := Nat.lt_log2_self
  have a3 : 2 ^ m.log2 * 2 ^ (54 + k.log2 - m.log2) ≤ m * 2 ^ (54 + k.log2 - m.log2) := Nat.mul_le_mul_right _ a1
  rw [← Nat.pow_add] at a3
  have a4 : 2 ^ (53 + (k.log2 + 1)) ≤ 2 ^ (m.log2 + (54 + k.log2 - m.log2)) := Nat.pow_le_pow_right (by decide) (by omega)
  rw [Nat.pow_add 2 53] at a4
  have a5 : 2 ^ 53 * k ≤ 2 ^ 53 * 2 ^ (k.log2 + 1) := Nat.mul_le_mul_left _ (Nat.le_of_lt a2)
  omega

/-- the sums of the quotient's law -/
theorem div_sums {M E u Z c Xk kc D t : Nat} (hu : 0 < u)
    (h1 : Xk ≤ Z + kc) (h2 : Z ≤ Xk + kc) (h3 : 2 ^ 54 * kc ≤ Xk) (hZ : Z = D * t * u)
    (n1 : 2 ^ 53 * (M * u * E) ≤ 2 ^ 53 * Xk + (Xk + 2 ^ 52 * (u * E))) (n2 : 2 ^ 53 * Xk ≤ 2 ^ 53 * (M * u * E) + (Xk + 2 ^ 52 * (u * E))) :
    2 ^ 53 * (M * E) ≤ 2 ^ 53 * (D * t) + (2 * (D * t) + 2 ^ 52 * E) ∧ 2 ^ 53 * (D * t) ≤ 2 ^ 53 * (M * E) + (2 * (D * t) + 2 ^ 52 * E) := by
  have e1 : M * u * E = M * E * u := by rw [Nat.mul_assoc, Nat.mul_assoc, Nat.mul_comm u E]
  have e2 : u * E = E * u := Nat.mul_comm _ _
  rw [e1, e2] at n1 n2
  constructor
  · refine Nat.le_of_mul_le_mul_right (c := u) ?_ hu
    rw [Nat.add_mul, Nat.add_mul, Nat.mul_assoc (2 ^ 53), Nat.mul_assoc (2 ^ 53), Nat.mul_assoc 2 (D * t), Nat.mul_assoc (2 ^ 52), ← hZ]
    generalize M * E * u = a at *
    generalize E * u = b at *
    omega
  · refine Nat.le_of_mul_le_mul_right (c := u) ?_ hu
    rw [Nat.add_mul, Nat.add_mul, Nat.mul_assoc (2 ^ 53), Nat.mul_assoc (2 ^ 53), Nat.mul_assoc 2 (D * t), Nat.mul_assoc (2 ^ 52), ← hZ]
    generalize M * E * u = a at *
    generalize E * u = b at *
    omega

theorem pow_line {m a P b more K T : Nat} {i j place : Int} (hp : place = i - j - more - 1) (hi : -1074 ≤ i) (hj : -1074 ≤ j) (hT : T = 1074) (hK : 0 ≤ place + 1074 + K) :
    2 * (m * 2 ^ more) * (2 ^ (place + 1074 + K).toNat * 2 ^ (j + 1074).toNat) = m * 2 ^ (i + 1074).toNat * 2 ^ T * 2 ^ K := by
  have e : 2 * (m * 2 ^ more) = m * 2 ^ (more + 1) := by rw [Nat.pow_succ, ← Nat.mul_assoc m, Nat.mul_comm (m * 2 ^ more)]
  rw [e, ← Nat.pow_add, Nat.mul_assoc, ← Nat.pow_add, Nat.mul_assoc, Nat.mul_assoc, ← Nat.pow_add, ← Nat.pow_add]
  congr 2
  omega

theorem div_spec {x y n T : Nat} (hx : FW x) (hy : FW y) (hT : T = 1074) (h0 : V y ≠ 0) (hn : n ≤ 2089) (hX : (V x).natAbs * 2 ^ T ≤ 2 ^ n * (V y).natAbs) :
    ∃ r, double.div x y = some r ∧ FW r ∧ 2 ^ 53 * (V r * V y - V x * ((2 ^ T : Nat) : Int)).natAbs ≤ 2 * ((V x).natAbs * 2 ^ T) + 2 ^ 52 * (V y).natAbs := by
  obtain ⟨s, m, i, r1, i1, _, v1⟩ := read_V hx
  obtain ⟨t, k, j, r2, j1, _, v2⟩ := read_V hy
  have hk : 0 < k := by
    rcases Nat.eq_zero_or_pos k with h | h
    · subst h; exfalso; apply h0; rw [v2]; simp [sgn]
    · exact h
  rw [v1, v2, sgn_abs, sgn_abs] at hX
  have hdig : double.div x y = (Datum.quotient 54 (double.read x) (double.read y)).map double.write := rfl
  rw [hdig, r1, r2]
  simp only [Datum.quotient]
  rw [if_neg (by omega)]
  simp only [Option.map_some]
  rcases Nat.eq_zero_or_pos m with hm | hm
  · subst hm
    have z : 2 * ((0 <<< (54 + k.log2 - Nat.log2 0)) / k) + ((0 <<< (54 + k.log2 - Nat.log2 0)) % k != 0).toNat = 0 := by simp
    rw [z]
    generalize (i - j - ((54 + k.log2 - Nat.log2 0 : Nat) : Int) - 1) = place
    have e : double.write (.number (s ^^ t) 0 place) = double.word (s ^^ t) 0 := by
      show double.nearest _ 0 _ = _
      unfold Format.nearest; rw [if_pos rfl]
    obtain ⟨h1, h2⟩ := V_of_fin (word_fin (s := (s ^^ t)) (R := 0) (by decide))
    have hz : mag 0 = 0 := by unfold mag; rw [if_pos (by decide)]
    refine ⟨_, rfl, by rw [e]; exact h2, ?_⟩
    have z1 : V (double.write (.number (s ^^ t) 0 place)) = 0 := by rw [e, h1, hz]; cases (s ^^ t) <;> simp [sgn]
    have z2 : V x = 0 := by rw [v1]; cases s <;> simp [sgn]
    rw [z1, z2]; simp
  · obtain ⟨q1, q2, q3⟩ := quot_near (m := m) (k := k) (more := 54 + k.log2 - m.log2) hk
    have q4 := digits_enough hm hk
    generalize hq : 2 * ((m <<< (54 + k.log2 - m.log2)) / k) + ((m <<< (54 + k.log2 - m.log2)) % k != 0).toNat = q at *
    have q5 : 2 ^ 54 ≤ q := by omega
    clear q3 q4 hq
    generalize 54 + k.log2 - m.log2 = more at *
    obtain ⟨place, hp⟩ : ∃ place : Int, place = i - j - (more : Int) - 1 := ⟨_, rfl⟩
    rw [← hp]
    obtain ⟨K, hK⟩ : ∃ K : Nat, 0 ≤ place + 1074 + K := ⟨(-(place + 1074)).toNat, by omega⟩
    have line := pow_line (m := m) (a := 0) (P := 0) (b := 0) hp i1 j1 hT hK
    have hc : 0 < 2 ^ (place + 1074 + K).toNat * 2 ^ (j + 1074).toNat := Nat.mul_pos (Nat.two_pow_pos _) (Nat.two_pow_pos _)
    have hb : 0 < 2 ^ (j + 1074).toNat := Nat.two_pow_pos _
    have eE : q * 2 ^ (place + 1074 + K).toNat * (k * 2 ^ (j + 1074).toNat) = q * k * (2 ^ (place + 1074 + K).toNat * 2 ^ (j + 1074).toNat) := by
      rw [Nat.mul_assoc, Nat.mul_assoc]; congr 1; rw [Nat.mul_left_comm]
    have h1 := Nat.mul_le_mul_right (2 ^ (place + 1074 + K).toNat * 2 ^ (j + 1074).toNat) q1
    have h2 := Nat.mul_le_mul_right (2 ^ (place + 1074 + K).toNat * 2 ^ (j + 1074).toNat) q2
    have h3 := Nat.mul_le_mul_right (k * (2 ^ (place + 1074 + K).toNat * 2 ^ (j + 1074).toNat)) q5
    rw [Nat.add_mul, line] at h1 h2
    rw [← Nat.mul_assoc q] at h3
    rw [← eE] at h1 h2 h3
    have hu : 0 < 2 ^ K := Nat.two_pow_pos _
    have hXw : q * 2 ^ (place + 1074 + K).toNat ≤ 2 ^ (n + 1) * 2 ^ K := by
      refine Nat.le_of_mul_le_mul_right (c := k * 2 ^ (j + 1074).toNat) ?_ (Nat.mul_pos hk hb)
      have hX2 := Nat.mul_le_mul_right (2 ^ K) hX
      have e3 : 2 ^ (n + 1) * 2 ^ K * (k * 2 ^ (j + 1074).toNat) = 2 * (2 ^ n * (k * 2 ^ (j + 1074).toNat) * 2 ^ K) := by
        rw [Nat.pow_succ]
        simp only [Nat.mul_assoc, Nat.mul_left_comm, Nat.mul_comm]
      rw [e3]
      generalize q * 2 ^ (place + 1074 + K).toNat * (k * 2 ^ (j + 1074).toNat) = Xk at *
      generalize k * (2 ^ (place + 1074 + K).toNat * 2 ^ (j + 1074).toNat) = kc at *
      omega
    obtain ⟨f, M, hV, n1, n2, _⟩ := write_near (neg := s ^^ t) (m := q) (place := place) (K := K) (n := n + 1) hK (by omega) hXw
    refine ⟨_, rfl, f, ?_⟩
    have n1' := Nat.mul_le_mul_right (k * 2 ^ (j + 1074).toNat) n1
    have n2' := Nat.mul_le_mul_right (k * 2 ^ (j + 1074).toNat) n2
    have hS := div_sums (M := M) (E := k * 2 ^ (j + 1074).toNat) (u := 2 ^ K) (c := 0) (t := 2 ^ T) (D := m * 2 ^ (i + 1074).toNat) hu h1 h2 h3 rfl
      (by
        have e4 : 2 ^ (K + 52) = 2 ^ 52 * 2 ^ K := by rw [Nat.pow_add, Nat.mul_comm]
        rw [e4] at n1'
        rw [Nat.add_mul, Nat.add_mul, Nat.mul_assoc, Nat.mul_assoc (2 ^ 53), Nat.mul_assoc (2 ^ 52)] at n1'
        exact n1')
      (by
        have e4 : 2 ^ (K + 52) = 2 ^ 52 * 2 ^ K := by rw [Nat.pow_add, Nat.mul_comm]
        rw [e4] at n2'
        rw [Nat.add_mul, Nat.add_mul, Nat.mul_assoc, Nat.mul_assoc (2 ^ 53), Nat.mul_assoc (2 ^ 52)] at n2'
        exact n2')
    rw [hV, v2, sgn_sgn, v1, sgn_abs, sgn_abs, ← sgn_mul]
    have es : (s ^^ t ^^ t) = s := by cases s <;> cases t <;> rfl
    rw [es, natAbs_sgn_sub]
    obtain ⟨a1, a2⟩ := hS
    generalize m * 2 ^ (i + 1074).toNat * 2 ^ T = A at *
    generalize k * 2 ^ (j + 1074).toNat = B at *
    generalize M * B = C at *
    omega
end Go.Proofs.Ytmjhhaejiabkdaa.Fl
