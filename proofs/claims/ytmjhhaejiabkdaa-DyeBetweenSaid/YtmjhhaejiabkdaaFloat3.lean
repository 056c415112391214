/- float64, plain: sums, products and quotients of finite numbers. -/
import Derived.Test.YtmjhhaejiabkdaaFloat2
namespace Go.Proofs.Ytmjhhaejiabkdaa.Fl
open Ieee
set_option linter.unusedVariables false

/-- what a finite word stands for, in units of 2 ^ -1074 -/
def V (x : Nat) : Int := sgn (x / 2 ^ 63 % 2 == 1) (mag (x % 2 ^ 63))
def FW (x : Nat) : Prop := x % 2 ^ 63 < 2047 * 2 ^ 52

theorem FW.fin {x : Nat} (h : FW x) : Fin x (x / 2 ^ 63 % 2 == 1) (x % 2 ^ 63) := ⟨rfl, rfl, h⟩
theorem V_of_fin {x : Nat} {s : Bool} {r : Nat} (h : Fin x s r) : V x = sgn s (mag r) ∧ FW x := by
  obtain ⟨h1, h2, h3⟩ := h
  exact ⟨by unfold V; rw [h1, h2], by unfold FW; rw [h2]; exact h3⟩

theorem read_V {x : Nat} (h : FW x) : ∃ s m e, double.read x = .number s m e ∧ -1074 ≤ e ∧ e ≤ 971 ∧ V x = sgn s (m * 2 ^ (e + 1074).toNat) := by
  obtain ⟨m, e, h1, h2, h3, h4, _⟩ := read_fin h.fin
  exact ⟨_, m, e, h1, h2, h3, by rw [h4]; rfl⟩

theorem sgn_abs (s : Bool) (n : Nat) : (sgn s n).natAbs = n := by unfold sgn; split <;> omega
theorem sgn_mul (s : Bool) (n k : Nat) : sgn s (n * k) = sgn s n * k := by unfold sgn; split <;> simp [Int.neg_mul]

/-- a number that is not too great is finite, and near -/
theorem write_near {neg : Bool} {m : Nat} {place : Int} {K n : Nat} (hK : 0 ≤ place + 1074 + K) (hn : n ≤ 2090) (hX : m * 2 ^ (place + 1074 + K).toNat ≤ 2 ^ n * 2 ^ K) :
    FW (double.write (.number neg m place)) ∧ ∃ M : Nat, V (double.write (.number neg m place)) = sgn neg M ∧
      2 ^ 53 * (M * 2 ^ K) ≤ 2 ^ 53 * (m * 2 ^ (place + 1074 + K).toNat) + (m * 2 ^ (place + 1074 + K).toNat + 2 ^ (K + 52)) ∧
      2 ^ 53 * (m * 2 ^ (place + 1074 + K).toNat) ≤ 2 ^ 53 * (M * 2 ^ K) + (m * 2 ^ (place + 1074 + K).toNat + 2 ^ (K + 52)) ∧
      (K = 0 → 2 ^ 53 * M ≤ 2 ^ 53 * (m * 2 ^ (place + 1074).toNat) + m * 2 ^ (place + 1074).toNat ∧
        2 ^ 53 * (m * 2 ^ (place + 1074).toNat) ≤ 2 ^ 53 * M + m * 2 ^ (place + 1074).toNat) := by
  have hw : double.write (.number neg m place) = double.nearest neg m place := rfl
  rw [hw]
  by_cases hm : m = 0
  · subst hm
    have e : double.nearest neg 0 place = double.word neg 0 := by unfold Format.nearest; rw [if_pos rfl]
    rw [e]
    obtain ⟨h1, h2⟩ := V_of_fin (word_fin (s := neg) (R := 0) (by decide))
    have hz : mag 0 = 0 := by unfold mag; rw [if_pos (by decide)]
    refine ⟨h2, 0, by rw [h1, hz], ?_, ?_, ?_⟩ <;> simp
  · obtain ⟨R, hR, n1, n2, n3⟩ := nearest_spec (neg := neg) (place := place) (K := K) (Nat.pos_of_ne_zero hm) hK
    have hlt : R < 2047 * 2 ^ 52 := by
      rcases Nat.lt_or_ge R (2047 * 2 ^ 52) with h | h
      · exact h
      · exfalso
        have hbig : ∀ k, k + 1 = 2047 → 2 ^ 52 * 2 ^ k ≤ mag R := fun k hk => mag_big (by omega)
        obtain ⟨k, hk⟩ : ∃ k, k + 1 = 2047 := ⟨2046, rfl⟩
        have hb := hbig k hk
        have hlt : 2 ^ (n + 2) < 2 ^ (52 + k) := Nat.pow_lt_pow_right (by decide) (by omega)
        rw [Nat.pow_add 2 52 k] at hlt
        have e1 : 2 ^ (n + 2) = 4 * 2 ^ n := by rw [Nat.pow_add, Nat.mul_comm]
        have e2 : 2 ^ (K + 52) = 2 ^ 52 * 2 ^ K := by rw [Nat.pow_add, Nat.mul_comm]
        rw [e1] at hlt
        rw [e2] at n1
        have hn1 : 1 ≤ 2 ^ n := Nat.one_le_two_pow
        have hb2 : 4 * 2 ^ n * 2 ^ K < mag R * 2 ^ K := Nat.mul_lt_mul_of_pos_right (by omega) (Nat.two_pow_pos _)
        have hb3 : 1 * 2 ^ K ≤ 2 ^ n * 2 ^ K := Nat.mul_le_mul_right _ hn1
        rw [Nat.mul_assoc] at hb2
        rw [Nat.one_mul] at hb3
        generalize 2 ^ K = u at *
        generalize 2 ^ n * u = c at *
        generalize mag R * u = M at *
        generalize m * 2 ^ (place + 1074 + K).toNat = X at *
        omega
    rw [hR, Nat.min_eq_left (by omega)]
    obtain ⟨h1, h2⟩ := V_of_fin (word_fin (s := neg) hlt)
    exact ⟨h2, mag R, h1, n1, n2, n3⟩

theorem signed_eq (s : Bool) (m up : Nat) : signed s m up = sgn s (m * 2 ^ up) := by
  unfold signed sgn; rw [Nat.shiftLeft_eq]

/-- the sum of two numbers that were read -/
theorem sum_near {s t : Bool} {m k : Nat} {i j : Int} {n : Nat} (hi : -1074 ≤ i) (hj : -1074 ≤ j) (hn : n ≤ 2090)
    (hX : (sgn s (m * 2 ^ (i + 1074).toNat) + sgn t (k * 2 ^ (j + 1074).toNat)).natAbs ≤ 2 ^ n) :
    ∃ r, ((Datum.number s m i).sum (Datum.number t k j)).map double.write = some r ∧ FW r ∧
      2 ^ 53 * (V r - (sgn s (m * 2 ^ (i + 1074).toNat) + sgn t (k * 2 ^ (j + 1074).toNat))).natAbs ≤ (sgn s (m * 2 ^ (i + 1074).toNat) + sgn t (k * 2 ^ (j + 1074).toNat)).natAbs := by
  unfold Datum.sum
  simp only [Option.map_some, signed_eq]
  generalize hb : min i j = base
  have e1 : sgn s (m * 2 ^ (i + 1074).toNat) = sgn s (m * 2 ^ (i - base).toNat) * ((2 ^ (base + 1074).toNat : Nat) : Int) := by
    rw [← sgn_mul, Nat.mul_assoc, ← Nat.pow_add]; congr 3; omega
  have e2 : sgn t (k * 2 ^ (j + 1074).toNat) = sgn t (k * 2 ^ (j - base).toNat) * ((2 ^ (base + 1074).toNat : Nat) : Int) := by
    rw [← sgn_mul, Nat.mul_assoc, ← Nat.pow_add]; congr 3; omega
  rw [e1, e2, ← Int.add_mul] at hX ⊢
  generalize sgn s (m * 2 ^ (i - base).toNat) + sgn t (k * 2 ^ (j - base).toNat) = T at *
  rw [Int.natAbs_mul, Int.natAbs_natCast] at hX ⊢
  have hw := write_near (neg := if T = 0 then s && t else decide (T < 0)) (m := T.natAbs) (place := base) (K := 0) (n := n) (by omega) hn (by simpa using hX)
  obtain ⟨f, M, hV, _, _, h3⟩ := hw
  obtain ⟨h4, h5⟩ := h3 rfl
  refine ⟨_, rfl, f, ?_⟩
  rw [hV]
  have hsg : sgn (if T = 0 then s && t else decide (T < 0)) (T.natAbs * 2 ^ (base + 1074).toNat) = T * ((2 ^ (base + 1074).toNat : Nat) : Int) := by
    by_cases hT : T = 0
    · subst hT; simp [sgn]
    · rw [if_neg hT, sgn_mul]
      congr 1
      unfold sgn
      by_cases h : T < 0
      · rw [if_pos (by simpa using h)]; omega
      · rw [if_neg (by simpa using h)]; omega
  rw [← hsg]
  clear hsg hX
  generalize (if T = 0 then s && t else decide (T < 0)) = sg at *
  generalize T.natAbs * 2 ^ (base + 1074).toNat = X at *
  cases sg
  · simp only [sgn, Bool.false_eq_true, if_false]; omega
  · simp only [sgn, if_true]; omega

theorem add_spec {x y n : Nat} (hx : FW x) (hy : FW y) (hn : n ≤ 2090) (hX : (V x + V y).natAbs ≤ 2 ^ n) :
    ∃ r, double.add x y = some r ∧ FW r ∧ 2 ^ 53 * (V r - (V x + V y)).natAbs ≤ (V x + V y).natAbs := by
  obtain ⟨s, m, i, r1, i1, _, v1⟩ := read_V hx
  obtain ⟨t, k, j, r2, j1, _, v2⟩ := read_V hy
  unfold Format.add
  rw [r1, r2, v1, v2]
  rw [v1, v2] at hX
  exact sum_near i1 j1 hn hX

theorem sgn_not (s : Bool) (n : Nat) : sgn (!s) n = -sgn s n := by cases s <;> simp [sgn]
theorem sub_spec {x y n : Nat} (hx : FW x) (hy : FW y) (hn : n ≤ 2090) (hX : (V x - V y).natAbs ≤ 2 ^ n) :
    ∃ r, double.sub x y = some r ∧ FW r ∧ 2 ^ 53 * (V r - (V x - V y)).natAbs ≤ (V x - V y).natAbs := by
  obtain ⟨s, m, i, r1, i1, _, v1⟩ := read_V hx
  obtain ⟨t, k, j, r2, j1, _, v2⟩ := read_V hy
  unfold Format.sub
  have e : V x - V y = sgn s (m * 2 ^ (i + 1074).toNat) + sgn (!t) (k * 2 ^ (j + 1074).toNat) := by rw [v1, v2, sgn_not]; omega
  rw [r1, r2, e]
  rw [e] at hX
  exact sum_near i1 j1 hn hX

theorem sgn_sgn (s t : Bool) (a b : Nat) : sgn s a * sgn t b = sgn (s ^^ t) (a * b) := by
  cases s <;> cases t <;> simp [sgn, Int.neg_mul, Int.mul_neg]
theorem natAbs_sgn_sub (s : Bool) (a b : Nat) : (sgn s a - sgn s b).natAbs = ((a : Int) - b).natAbs := by
  cases s
  · simp [sgn]
  · simp only [sgn, if_true]; omega

/-- a product, in units of 2 ^ -2148 -/
theorem mul_spec {x y n K : Nat} (hx : FW x) (hy : FW y) (hK : K = 1074) (hn : n ≤ 2090) (hX : (V x * V y).natAbs ≤ 2 ^ n * 2 ^ K) :
    ∃ r, double.mul x y = some r ∧ FW r ∧ 2 ^ 53 * (V r * ((2 ^ K : Nat) : Int) - V x * V y).natAbs ≤ (V x * V y).natAbs + 2 ^ (K + 52) := by
  obtain ⟨s, m, i, r1, i1, _, v1⟩ := read_V hx
  obtain ⟨t, k, j, r2, j1, _, v2⟩ := read_V hy
  have e : V x * V y = sgn (s ^^ t) (m * k * 2 ^ (i + j + 1074 + K).toNat) := by
    rw [v1, v2, sgn_sgn]
    congr 1
    rw [show m * 2 ^ (i + 1074).toNat * (k * 2 ^ (j + 1074).toNat) = m * k * (2 ^ (i + 1074).toNat * 2 ^ (j + 1074).toNat) by
      rw [Nat.mul_assoc, Nat.mul_assoc, Nat.mul_left_comm (2 ^ (i + 1074).toNat)], ← Nat.pow_add]
    congr 2
    omega
  rw [e, sgn_abs] at hX
  unfold Format.mul
  rw [r1, r2, e, sgn_abs]
  unfold Datum.product
  simp only [Option.map_some]
  obtain ⟨f, M, hV, h1, h2, _⟩ := write_near (neg := s ^^ t) (m := m * k) (place := i + j) (K := K) (n := n) (by omega) hn hX
  refine ⟨_, rfl, f, ?_⟩
  rw [hV, ← sgn_mul, natAbs_sgn_sub]
  generalize m * k * 2 ^ (i + j + 1074 + K).toNat = X at *
  generalize M * 2 ^ K = Y at *
  generalize 2 ^ (K + 52) = Z at *
  omega

/-- how two numbers stand to each other -/
theorem order_spec {x y : Nat} (hx : FW x) (hy : FW y) : double.order x y = some (compare (V x) (V y)) := by
  obtain ⟨s, m, i, r1, i1, _, v1⟩ := read_V hx
  obtain ⟨t, k, j, r2, j1, _, v2⟩ := read_V hy
  unfold Format.order
  rw [r1, r2]
  unfold Datum.order
  simp only [signed_eq]
  congr 1
  generalize hb : min i j = base
  have e1 : V x = sgn s (m * 2 ^ (i - base).toNat) * ((2 ^ (base + 1074).toNat : Nat) : Int) := by
    rw [v1, ← sgn_mul, Nat.mul_assoc, ← Nat.pow_add]; congr 3; omega
  have e2 : V y = sgn t (k * 2 ^ (j - base).toNat) * ((2 ^ (base + 1074).toNat : Nat) : Int) := by
    rw [v2, ← sgn_mul, Nat.mul_assoc, ← Nat.pow_add]; congr 3; omega
  rw [e1, e2]
  have hp : (0 : Int) < ((2 ^ (base + 1074).toNat : Nat) : Int) := by have := Nat.two_pow_pos (base + 1074).toNat; omega
  generalize ((2 ^ (base + 1074).toNat : Nat) : Int) = u at *
  generalize sgn s (m * 2 ^ (i - base).toNat) = a at *
  generalize sgn t (k * 2 ^ (j - base).toNat) = b at *
  rcases Int.lt_trichotomy a b with h | h | h
  · have h2 := Int.mul_lt_mul_of_pos_right h hp
    rw [Int.compare_eq_lt.2 h, Int.compare_eq_lt.2 h2]
  · subst h; rw [Int.compare_eq_eq.2 rfl, Int.compare_eq_eq.2 rfl]
  · have h2 := Int.mul_lt_mul_of_pos_right h hp
    rw [Int.compare_eq_gt.2 h, Int.compare_eq_gt.2 h2]
end Go.Proofs.Ytmjhhaejiabkdaa.Fl
