/- float64, plain: comparisons as numbers; dyes that are fair; how far they are apart. -/
import Derived.Test.YtmjhhaejiabkdaaFloat5
import Derived.Test.YtmjhhaejiabkdaaFloatWalk1
namespace Go.Proofs.Ytmjhhaejiabkdaa.Fl
open Ieee
set_option linter.unusedVariables false

theorem fw_of_number {x : Nat} {s : Bool} {m : Nat} {e : Int} (h : double.read x = .number s m e) : FW x := by
  obtain ⟨c1, c2, c3, c4⟩ := consts
  unfold Format.read at h
  rw [c1, c2, c3, c4] at h
  unfold FW
  simp only at h
  split at h
  · omega
  · split at h
    · assumption
    · split at h <;> cases h

theorem fw_between {x y z : Nat} (hy : FW y) (hz : FW z) (h1 : gteB x y = true) (h2 : leqB x z = true) : FW x := by
  obtain ⟨s, m, i, r1, _, _, _⟩ := read_V hy
  obtain ⟨t, k, j, r2, _, _, _⟩ := read_V hz
  have g1 : (double.order x y == some .gt || double.order x y == some .eq) = true := h1
  have g2 : (double.order x z == some .lt || double.order x z == some .eq) = true := h2
  unfold Format.order at g1 g2
  rw [r1] at g1
  rw [r2] at g2
  cases hr : double.read x with
  | number a b c => exact fw_of_number hr
  | infinity a =>
    rw [hr] at g1 g2
    cases a
    · simp [Datum.order] at g2
    · simp [Datum.order] at g1
  | nan a b =>
    rw [hr] at g1
    simp [Datum.order] at g1

theorem gte_spec {x y : Nat} (hx : FW x) (hy : FW y) : gteB x y = decide (V y ≤ V x) := by
  show (double.order x y == some .gt || double.order x y == some .eq) = _
  rw [order_spec hx hy]
  rcases Int.lt_trichotomy (V x) (V y) with h | h | h
  · rw [Int.compare_eq_lt.2 h, decide_eq_false (by omega)]; rfl
  · rw [Int.compare_eq_eq.2 h, decide_eq_true (by omega)]; rfl
  · rw [Int.compare_eq_gt.2 h, decide_eq_true (by omega)]; rfl
theorem leq_spec {x y : Nat} (hx : FW x) (hy : FW y) : leqB x y = decide (V x ≤ V y) := by
  show (double.order x y == some .lt || double.order x y == some .eq) = _
  rw [order_spec hx hy]
  rcases Int.lt_trichotomy (V x) (V y) with h | h | h
  · rw [Int.compare_eq_lt.2 h, decide_eq_true (by omega)]; rfl
  · rw [Int.compare_eq_eq.2 h, decide_eq_true (by omega)]; rfl
  · rw [Int.compare_eq_gt.2 h, decide_eq_false (by omega)]; rfl
theorem lt_spec {x y : Nat} (hx : FW x) (hy : FW y) : ltB x y = decide (V x < V y) := by
  show (double.order x y == some .lt) = _
  rw [order_spec hx hy]
  rcases Int.lt_trichotomy (V x) (V y) with h | h | h
  · rw [Int.compare_eq_lt.2 h, decide_eq_true (by omega)]; rfl
  · rw [Int.compare_eq_eq.2 h, decide_eq_false (by omega)]; rfl
  · rw [Int.compare_eq_gt.2 h, decide_eq_false (by omega)]; rfl

theorem fw_zero : FW 0 := by unfold FW; decide
theorem v_zero : V 0 = 0 := by unfold V mag sgn; decide
theorem fw_one : FW 4607182418800017408 := by unfold FW; decide
theorem v_word {x J k : Nat} (hx : x < 2 ^ 63) (h : x = J * 2 ^ 52 + 2 ^ 52 + k) (hk : k < 2 ^ 52) : V x = (((2 ^ 52 + k) * 2 ^ J : Nat) : Int) := by
  unfold V sgn mag
  have e1 : x / 2 ^ 63 = 0 := Nat.div_eq_of_lt hx
  have e2 : x % 2 ^ 63 = x := Nat.mod_eq_of_lt hx
  have e3 : x / 2 ^ 52 = J + 1 := by omega
  have e4 : x % 2 ^ 52 = k := by omega
  rw [e1, e2, e3, e4, if_neg (by decide), if_neg (by omega), Nat.add_sub_cancel]
theorem v_one {T : Nat} (hT : T = 1074) : V 4607182418800017408 = ((2 ^ T : Nat) : Int) := by
  obtain ⟨J, hJ⟩ : ∃ J, J = 1022 := ⟨_, rfl⟩
  rw [v_word (J := J) (k := 0) (by decide) (by rw [hJ]) (by decide)]
  have e : T = 52 + J := by omega
  rw [e, Nat.pow_add 2 52]

theorem unit_V {x T : Nat} (hT : T = 1074) (h : unitB x = true) : FW x ∧ 0 ≤ V x ∧ V x ≤ ((2 ^ T : Nat) : Int) := by
  have h' := h
  unfold unitB at h'
  rw [Bool.and_eq_true] at h'
  have f := fw_between fw_zero fw_one h'.1 h'.2
  rw [gte_spec f fw_zero, leq_spec f fw_one, v_zero, v_one hT] at h'
  simp only [decide_eq_true_eq] at h'
  exact ⟨f, h'.1, h'.2⟩

/-- how far two dyes are apart, in the program's own steps -/
def FarIs (a b : Dy) (n : Nat) : Prop := ∃ x1 x2 x3 y1 y2 y3 s,
  double.sub a.r b.r = some x1 ∧ double.sub a.g b.g = some x2 ∧ double.sub a.b b.b = some x3 ∧
  double.mul x1 x1 = some y1 ∧ double.mul x2 x2 = some y2 ∧ double.mul x3 x3 = some y3 ∧
  double.add 0 y1 = some y1 ∧ double.add y1 y2 = some s ∧ double.add s y3 = some n

theorem FarIs.inj {a b : Dy} {n m : Nat} (h : FarIs a b n) (k : FarIs a b m) : n = m := by
  obtain ⟨x1, x2, x3, y1, y2, y3, s, a1, a2, a3, a4, a5, a6, a7, a8, a9⟩ := h
  obtain ⟨z1, z2, z3, t1, t2, t3, u, b1, b2, b3, b4, b5, b6, b7, b8, b9⟩ := k
  rw [a1] at b1; cases b1
  rw [a2] at b2; cases b2
  rw [a3] at b3; cases b3
  rw [a4] at b4; cases b4
  rw [a5] at b5; cases b5
  rw [a6] at b6; cases b6
  rw [a8] at b8; cases b8
  rw [a9] at b9; cases b9
  rfl

/-- one part's square -/
theorem square_ok {x y T : Nat} (hT : T = 1074) (hx : unitB x = true) (hy : unitB y = true) :
    ∃ d q, double.sub x y = some d ∧ double.mul d d = some q ∧ FW q ∧ q < 2 ^ 63 ∧ (V q).natAbs ≤ 16 * 2 ^ T ∧ 0 ≤ V q ∧ (x = y → V q = 0) := by
  obtain ⟨fx, x0, x1⟩ := unit_V hT hx
  obtain ⟨fy, y0, y1⟩ := unit_V hT hy
  obtain ⟨d, hd, fd, nd⟩ := sub_spec (n := T) fx fy (by omega) (by omega)
  have dlt : (V d).natAbs ≤ 2 * 2 ^ T := by omega
  have hprod : (V d * V d).natAbs ≤ 2 ^ (T + 2) * 2 ^ T := by
    rw [Int.natAbs_mul]
    refine Nat.le_trans (Nat.mul_le_mul dlt dlt) (Nat.le_of_eq ?_)
    rw [Nat.pow_add]
    generalize 2 ^ T = D
    show 2 * D * (2 * D) = D * 4 * D
    rw [Nat.mul_comm D 4, Nat.mul_mul_mul_comm, Nat.mul_assoc 4]
  obtain ⟨q, hq, fq, nq⟩ := mul_spec (n := T + 2) fd fd hT (by omega) hprod
  have hqp : q < 2 ^ 63 := sq_pos hq fd
  have hq0 : 0 ≤ V q := by
    unfold V sgn
    rw [show q / 2 ^ 63 = 0 from Nat.div_eq_of_lt hqp, if_neg (by decide)]
    exact Int.natCast_nonneg _
  have e : 2 ^ (T + 52) = 2 ^ 52 * 2 ^ T := by rw [Nat.pow_add, Nat.mul_comm]
  have e2 : 2 ^ (T + 2) = 4 * 2 ^ T := by rw [Nat.pow_add, Nat.mul_comm]
  rw [e] at nq
  rw [e2] at hprod
  have hu : 0 < 2 ^ T := Nat.two_pow_pos _
  refine ⟨d, q, hd, hq, fq, hqp, ?_, hq0, ?_⟩
  · refine Nat.le_of_mul_le_mul_right (c := 2 ^ T) ?_ hu
    have e3 : (V q).natAbs * 2 ^ T = (V q * ((2 ^ T : Nat) : Int)).natAbs := by rw [Int.natAbs_mul, Int.natAbs_natCast]
    rw [e3]
    have hu2 : 2 ^ T ≤ 2 ^ T * 2 ^ T := Nat.le_mul_of_pos_left _ hu
    rw [Nat.mul_assoc] at hprod ⊢
    generalize V q * ((2 ^ T : Nat) : Int) = A at *
    generalize V d * V d = B at *
    generalize 2 ^ T * 2 ^ T = C at *
    generalize 2 ^ T = D at *
    omega
  · intro hxy
    subst hxy
    have hd0 : V d = 0 := by omega
    rw [hd0] at nq
    simp only [Int.mul_zero, Int.natAbs_zero, Int.sub_zero, Nat.zero_add] at nq
    rw [Int.natAbs_mul, Int.natAbs_natCast] at nq
    rcases Nat.eq_zero_or_pos (V q).natAbs with h | h
    · omega
    · exfalso
      have : 1 * 2 ^ T ≤ (V q).natAbs * 2 ^ T := Nat.mul_le_mul_right _ h
      generalize (V q).natAbs * 2 ^ T = A at *
      generalize 2 ^ T = D at *
      omega

theorem far_ok {a b : Dy} (ha : a.fair = true) (hb : b.fair = true) : ∃ n, FarIs a b n ∧ FW n ∧ 0 ≤ V n ∧ (a = b → V n = 0) := by
  obtain ⟨T, hT⟩ : ∃ T, T = 1074 := ⟨_, rfl⟩
  unfold Dy.fair at ha hb
  simp only [Bool.and_eq_true] at ha hb
  obtain ⟨d1, q1, h1, m1, f1, p1, b1, z1, e1⟩ := square_ok hT ha.1.1 hb.1.1
  obtain ⟨d2, q2, h2, m2, f2, p2, b2, z2, e2⟩ := square_ok hT ha.1.2 hb.1.2
  obtain ⟨d3, q3, h3, m3, f3, p3, b3, z3, e3⟩ := square_ok hT ha.2 hb.2
  have eT : 2 ^ (T + 5) = 32 * 2 ^ T := by rw [Nat.pow_add, Nat.mul_comm]
  have eT6 : 2 ^ (T + 6) = 64 * 2 ^ T := by rw [Nat.pow_add, Nat.mul_comm]
  obtain ⟨s, hs, fs, ns⟩ := add_spec (n := T + 5) f1 f2 (by omega) (by rw [eT]; omega)
  obtain ⟨n, hn, fn, nn⟩ := add_spec (n := T + 6) fs f3 (by omega) (by rw [eT6]; omega)
  refine ⟨n, ⟨d1, d2, d3, q1, q2, q3, s, h1, h2, h3, m1, m2, m3, add_nought f1 p1, hs, hn⟩, fn, by omega, ?_⟩
  intro hab
  subst hab
  have := e1 rfl
  have := e2 rfl
  have := e3 rfl
  omega
end Go.Proofs.Ytmjhhaejiabkdaa.Fl
