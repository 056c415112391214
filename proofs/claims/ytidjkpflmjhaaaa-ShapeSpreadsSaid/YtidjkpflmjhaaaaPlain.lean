/- Chapter 14, plain: where marks stand, how many stand ahead of a place. -/
import Derived.Test.YtidjkpflmjhaaaaLib
namespace Go.Proofs.Ytidjkpflmjhaaaa
open Go.RowKit

def wrongV (t m : Int) : Int := if t < 1 ∨ 1048576 < t ∨ m < 0 ∨ t < m then 3 else 0

theorem wrong_ok {t m : Int} (h : wrongV t m = 0) : 1 ≤ t ∧ t ≤ 1048576 ∧ 0 ≤ m ∧ m ≤ t := by
  unfold wrongV at h
  split at h <;> omega
theorem wrong_of {t m : Int} (h1 : 1 ≤ t) (h2 : t ≤ 1048576) (h3 : 0 ≤ m) (h4 : m ≤ t) : wrongV t m = 0 := by
  unfold wrongV; rw [if_neg]; omega
theorem wrong_cases (t m : Int) : wrongV t m = 0 ∨ wrongV t m = 3 := by
  unfold wrongV; split <;> simp

/-- where mark i stands -/
def mark (t m : Int) (i : Nat) : Int := ((2 * (i : Int) + 1) * t) / (2 * m)
def marks (t m : Int) (k : Nat) : List Int := (List.range k).map (mark t m)

theorem marks_len (t m : Int) (k : Nat) : (marks t m k).length = k := by simp [marks]
theorem marks_succ (t m : Int) (k : Nat) : marks t m (k + 1) = marks t m k ++ [mark t m k] := by simp [marks, List.range_succ]

theorem mark_bounds {t m : Int} {i : Nat} (h1 : 1 ≤ t) (h2 : t ≤ 1048576) (hi : (i : Int) < m) (h4 : m ≤ t) :
    0 ≤ (2 * (i : Int) + 1) * t ∧ (2 * (i : Int) + 1) * t ≤ 2199023255552 := by
  have a : 0 ≤ 2 * (i : Int) + 1 := by omega
  have b : 2 * (i : Int) + 1 ≤ 2097152 := by omega
  refine ⟨Int.mul_nonneg a (by omega), ?_⟩
  calc (2 * (i : Int) + 1) * t ≤ 2097152 * 1048576 := Int.mul_le_mul b h2 (by omega) (by omega)
    _ = 2199023255552 := by omega

/-- how many stand ahead of place p -/
def cnt (t m p : Int) : Int :=
  if m = 0 then 0 else if 2 * m * p - t ≤ 0 then 0 else min m ((2 * m * p - t + 2 * t - 1) / (2 * t))

theorem odd_mul (k t : Int) : (2 * k + 1) * t = 2 * (k * t) + t := by rw [Int.add_mul, Int.one_mul, Int.mul_assoc]
theorem succ_mul2 (k t : Int) : (k + 1) * (2 * t) = 2 * (k * t) + 2 * t := by rw [Int.add_mul, Int.one_mul, Int.mul_left_comm]

theorem cnt_bounds {t m p : Int} (ht : 1 ≤ t) (hm : 0 ≤ m) : 0 ≤ cnt t m p ∧ cnt t m p ≤ m := by
  unfold cnt
  split
  · omega
  · split
    · omega
    · have : 0 ≤ (2 * m * p - t + 2 * t - 1) / (2 * t) := Int.ediv_nonneg (by omega) (by omega)
      omega

theorem cnt_lt {t m p : Int} (ht : 1 ≤ t) {k : Int} (hk : 0 ≤ k) (hkm : k < m) : k < cnt t m p ↔ (2 * k + 1) * t < 2 * m * p := by
  have hkt : 0 ≤ k * t := Int.mul_nonneg hk (by omega)
  unfold cnt
  rw [if_neg (by omega), odd_mul]
  split
  · constructor <;> intro <;> omega
  · have h1 : k + 1 ≤ (2 * m * p - t + 2 * t - 1) / (2 * t) ↔ (k + 1) * (2 * t) ≤ 2 * m * p - t + 2 * t - 1 := Int.le_ediv_iff_mul_le (by omega)
    rw [succ_mul2] at h1
    constructor
    · intro h
      have := h1.1 (by omega)
      omega
    · intro h
      have := h1.2 (by omega)
      omega

theorem mark_lt {t m : Int} {i : Nat} (hi : (i : Int) < m) (p : Int) : mark t m i < p ↔ (2 * (i : Int) + 1) * t < 2 * m * p := by
  unfold mark
  rw [Int.ediv_lt_iff_lt_mul (by omega), Int.mul_comm p]

/-- mark i stands ahead of p, if it is among the first of them -/
theorem lt_cnt {t m p : Int} (ht : 1 ≤ t) {i : Nat} (hi : (i : Int) < m) : (i : Int) < cnt t m p ↔ mark t m i < p := by
  rw [cnt_lt ht (by omega) hi, mark_lt hi]

theorem mark_nonneg {t m : Int} (ht : 1 ≤ t) {i : Nat} (hi : (i : Int) < m) : 0 ≤ mark t m i :=
  Int.ediv_nonneg (Int.mul_nonneg (by omega) (by omega)) (by omega)

theorem mark_lt_total {t m : Int} (ht : 1 ≤ t) {i : Nat} (hi : (i : Int) < m) : mark t m i < t := by
  rw [mark_lt hi]
  exact Int.mul_lt_mul_of_pos_right (by omega) (by omega)

theorem mark_succ {t m : Int} (hmt : m ≤ t) {i : Nat} (hi : (i : Int) + 1 < m) : mark t m i + 1 ≤ mark t m (i + 1) := by
  unfold mark
  rw [Int.le_ediv_iff_mul_le (by omega)]
  have h1 : (2 * (i : Int) + 1) * t / (2 * m) * (2 * m) ≤ (2 * (i : Int) + 1) * t := Int.ediv_mul_le _ (by omega)
  generalize (2 * (i : Int) + 1) * t / (2 * m) = q at h1 ⊢
  have e1 := odd_mul (i : Int) t
  have e2 := odd_mul ((i : Int) + 1) t
  have e3 : ((i : Int) + 1) * t = (i : Int) * t + t := by rw [Int.add_mul, Int.one_mul]
  have e4 : ((i + 1 : Nat) : Int) = (i : Int) + 1 := by omega
  have e5 : (q + 1) * (2 * m) = q * (2 * m) + 2 * m := by rw [Int.add_mul, Int.one_mul]
  rw [e4, e5, e2, e3]
  rw [e1] at h1
  omega

theorem mark_mono {t m : Int} (hmt : m ≤ t) {i j : Nat} (hij : i < j) (hj : (j : Int) < m) : mark t m i < mark t m j := by
  induction j with
  | zero => omega
  | succ j ih =>
    have h1 := mark_succ (t := t) (m := m) hmt (i := j) (by omega)
    by_cases h : i = j
    · subst h; omega
    · have := ih (by omega) (by omega)
      omega

theorem cnt_mark {t m : Int} (ht : 1 ≤ t) (hm : 0 ≤ m) (hmt : m ≤ t) {i : Nat} (hi : (i : Int) < m) : cnt t m (mark t m i) = i := by
  obtain ⟨h1, h2⟩ := cnt_bounds (p := mark t m i) ht hm
  obtain ⟨c, hc⟩ := Int.eq_ofNat_of_zero_le h1
  rw [hc] at h2 ⊢
  have h3 := (lt_cnt (p := mark t m i) ht hi)
  have h4 : ¬ (i : Int) < c := by rw [← hc, h3]; omega
  by_cases h5 : c < i
  · have h6 := (lt_cnt (t := t) (m := m) (p := mark t m i) ht (i := c) (by omega)).2 (mark_mono hmt h5 hi)
    omega
  · omega

/-- as near as can be: twice as many, times total, is twice marks times the place, or not half of total off -/
theorem cnt_near {t m p : Int} (ht : 1 ≤ t) (hm : 0 ≤ m) (h0 : 0 ≤ p) (hp : p ≤ t) :
    2 * (cnt t m p * t) - t < 2 * m * p ∧ 2 * m * p ≤ 2 * (cnt t m p * t) + t := by
  obtain ⟨h1, h2⟩ := cnt_bounds (p := p) ht hm
  have hmp : 0 ≤ m * p := Int.mul_nonneg hm h0
  have hmt : m * p ≤ m * t := Int.mul_le_mul_of_nonneg_left hp hm
  have e0 : 2 * m * p = 2 * (m * p) := Int.mul_assoc _ _ _
  generalize hc : cnt t m p = c at *
  constructor
  · by_cases hz : c = 0
    · subst hz; simp; omega
    · have h3 := (cnt_lt (p := p) ht (k := c - 1) (by omega) (by omega : c - 1 < m)).1 (by omega)
      rw [odd_mul, Int.sub_mul, Int.one_mul] at h3
      omega
  · by_cases hz : c < m
    · have h3 : ¬ (2 * c + 1) * t < 2 * m * p := by
        rw [← cnt_lt ht (by omega) hz]
        omega
      rw [odd_mul] at h3
      omega
    · have : c = m := by omega
      subst this
      omega

theorem cnt_all {t m : Int} (ht : 1 ≤ t) (hm : 0 ≤ m) : cnt t m t = m := by
  obtain ⟨h1, h2⟩ := cnt_bounds (p := t) ht hm
  by_cases h : cnt t m t < m
  · exfalso
    have h3 : ¬ (2 * cnt t m t + 1) * t < 2 * m * t := by
      rw [← cnt_lt ht (by omega) h]
      omega
    exact h3 (Int.mul_lt_mul_of_pos_right (by omega) (by omega))
  · omega

theorem cnt_zero {t m : Int} (ht : 1 ≤ t) : cnt t m 0 = 0 := by
  unfold cnt
  split
  · rfl
  · rw [if_pos]; simp; omega

/-- AS EVENLY AS CAN BE -/
theorem cnt_even {t m a b l : Int} (ht : 1 ≤ t) (hm : 0 ≤ m) (ha : 0 ≤ a) (hb : 0 ≤ b) (hl : 0 ≤ l) (hal : a + l ≤ t) (hbl : b + l ≤ t) :
    -1 ≤ cnt t m (a + l) - cnt t m a - (cnt t m (b + l) - cnt t m b) ∧ cnt t m (a + l) - cnt t m a - (cnt t m (b + l) - cnt t m b) ≤ 1 := by
  have h1 := cnt_near (p := a) ht hm ha (by omega)
  have h2 := cnt_near (p := b) ht hm hb (by omega)
  have h3 := cnt_near (p := a + l) ht hm (by omega) hal
  have h4 := cnt_near (p := b + l) ht hm (by omega) hbl
  generalize cnt t m (a + l) = x at *
  generalize cnt t m a = y at *
  generalize cnt t m (b + l) = z at *
  generalize cnt t m b = u at *
  rw [Int.mul_add] at h3 h4
  have e : (x - y - (z - u)) * t = x * t - y * t - (z * t - u * t) := by rw [Int.sub_mul, Int.sub_mul, Int.sub_mul]
  have h5 : (x - y - (z - u)) * t < 2 * t := by omega
  have h6 : -2 * t < (x - y - (z - u)) * t := by omega
  have h7 := Int.lt_of_mul_lt_mul_right h5 (by omega)
  have h8 := Int.lt_of_mul_lt_mul_right h6 (by omega)
  omega

/-- one place on there is no mark more, or one -/
theorem cnt_step {t m p : Int} (ht : 1 ≤ t) (hm : 0 ≤ m) (hmt : m ≤ t) (h0 : 0 ≤ p) (hp : p + 1 ≤ t) : cnt t m p ≤ cnt t m (p + 1) ∧ cnt t m (p + 1) ≤ cnt t m p + 1 := by
  by_cases hz : m = 0
  · subst hz; simp [cnt]
  have h1 := cnt_near (p := p) ht hm h0 (by omega)
  have h3 := cnt_near (p := p + 1) ht hm (by omega) hp
  generalize cnt t m (p + 1) = x at *
  generalize cnt t m p = y at *
  rw [Int.mul_add, Int.mul_one] at h3
  have e : (x - y) * t = x * t - y * t := by rw [Int.sub_mul]
  have h5 : (x - y) * t < 2 * t := by omega
  have h6 : -1 * t < (x - y) * t := by omega
  have h7 := Int.lt_of_mul_lt_mul_right h5 (by omega)
  have h8 := Int.lt_of_mul_lt_mul_right h6 (by omega)
  omega

/-- row y's width -/
def rowAt (f b each more r : Int) (y : Nat) : Int := f + b * (each * y + cnt r more y)
def rowsL (f b each more r : Int) (k : Nat) : List Int := (List.range k).map fun y => rowAt f b each more r (y + 1)
theorem rowsL_len (f b each more r : Int) (k : Nat) : (rowsL f b each more r k).length = k := by simp [rowsL]
theorem rowsL_succ (f b each more r : Int) (k : Nat) : rowsL f b each more r (k + 1) = rowsL f b each more r k ++ [rowAt f b each more r (k + 1)] := by simp [rowsL, List.range_succ]

/-- at place p the next mark stands just there, if there is one more behind it -/
theorem cnt_here {t m p : Int} (ht : 1 ≤ t) (hm : 0 ≤ m) (hmt : m ≤ t) (h0 : 0 ≤ p) (hp : p + 1 ≤ t) {j : Nat} (hj : cnt t m p = j) :
    cnt t m (p + 1) = if (j : Int) < m ∧ mark t m j = p then (j : Int) + 1 else j := by
  obtain ⟨h1, h2⟩ := cnt_step ht hm hmt h0 hp
  obtain ⟨h3, h4⟩ := cnt_bounds (p := p) ht hm
  obtain ⟨h5, h6⟩ := cnt_bounds (p := p + 1) ht hm
  rw [hj] at h1 h2 h4
  by_cases hjm : (j : Int) < m
  · have a1 := lt_cnt (p := p) ht hjm
    have a2 := lt_cnt (p := p + 1) ht hjm
    have b1 : ¬ mark t m j < p := by rw [← a1]; omega
    by_cases hh : mark t m j = p
    · rw [if_pos ⟨hjm, hh⟩]
      have := a2.2 (by omega)
      omega
    · rw [if_neg (fun h => hh h.2)]
      have : ¬ (j : Int) < cnt t m (p + 1) := by rw [a2]; omega
      omega
  · rw [if_neg (fun h => hjm h.1)]
    omega
end Go.Proofs.Ytidjkpflmjhaaaa
