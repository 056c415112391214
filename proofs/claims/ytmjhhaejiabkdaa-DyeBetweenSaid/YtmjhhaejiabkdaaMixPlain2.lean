/- Chapter 15, plain: the sums of a mix are numbers, and what is mixed lies between what is mixed. -/
import Derived.Test.YtmjhhaejiabkdaaMixPlain
namespace Go.Proofs.Ytmjhhaejiabkdaa
open Go.Proofs.Ytmjhhaejiabkdaa.Fl
set_option linter.unusedVariables false

def su (f : Nat → Int) : Nat → Int
  | 0 => 0
  | k + 1 => su f k + f k
theorem su_mul (f : Nat → Int) (c : Int) (k : Nat) : su (fun i => f i * c) k = su f k * c := by
  induction k with
  | zero => simp [su]
  | succ k ih => simp only [su]; rw [ih, Int.add_mul]
theorem su_le {f g : Nat → Int} {n : Nat} (h : ∀ i, i < n → f i ≤ g i) : ∀ k, k ≤ n → su f k ≤ su g k
  | 0, _ => Int.le_refl _
  | k + 1, hk => by
    have := su_le h k (by omega)
    have := h k (by omega)
    simp only [su]; omega
theorem su_pos {f : Nat → Int} {n : Nat} (h : ∀ i, i < n → 0 ≤ f i) : ∀ k, k ≤ n → 0 ≤ su f k
  | 0, _ => Int.le_refl _
  | k + 1, hk => by
    have := su_pos h k (by omega)
    have := h k (by omega)
    simp only [su]; omega
/-- the error of k additions, times 2^53 -/
def er (W : Nat → Int) : Nat → Int
  | 0 => 0
  | k + 1 => er W k + 4 * su W (k + 1)
theorem er_le {W : Nat → Int} {n : Nat} (h : ∀ i, i < n → 0 ≤ W i) : ∀ k, k ≤ n → 0 ≤ er W k ∧ er W k ≤ 4 * ((k : Int) * su W k)
  | 0, _ => by simp [er]
  | k + 1, hk => by
    obtain ⟨h1, h2⟩ := er_le h k (by omega)
    have h3 := su_pos h k (by omega)
    have h4 := h k (by omega)
    have h5 : 0 ≤ (k : Int) * W k := Int.mul_nonneg (by omega) h4
    have h6 : ((k : Int) + 1) * (su W k + W k) = (k : Int) * su W k + (k : Int) * W k + (su W k + W k) := by rw [Int.add_mul, Int.one_mul, Int.mul_add]
    simp only [er, su]
    rw [show ((k + 1 : Nat) : Int) = (k : Int) + 1 from by omega, h6]
    omega
theorem er_le64 {W : Nat → Int} {n k : Nat} (h : ∀ i, i < n → 0 ≤ W i) (hk : k ≤ n) (hn : n ≤ 64) : 0 ≤ er W k ∧ er W k ≤ 256 * su W k := by
  obtain ⟨h1, h2⟩ := er_le h k hk
  have h3 : (k : Int) * su W k ≤ 64 * su W k := Int.mul_le_mul_of_nonneg_right (by omega) (su_pos h k hk)
  omega

theorem step_arith {P Q P' SY SZ SW Y Z W E : Int} (a1 : 0 ≤ SY) (a2 : SY ≤ SZ) (a3 : SZ ≤ SW) (b1 : 0 ≤ Y) (b2 : Y ≤ Z) (b3 : Z ≤ W) (e1 : 0 ≤ E) (e2 : E ≤ 256 * SW)
    (p1 : 2 ^ 53 * P ≤ 2 ^ 53 * SZ + E) (p2 : 2 ^ 53 * SY - E ≤ 2 ^ 53 * P) (q1 : 2 ^ 53 * Q ≤ 2 ^ 53 * Z + 2 * W) (q2 : 2 ^ 53 * Y - 2 * W ≤ 2 ^ 53 * Q) :
    (P + Q).natAbs ≤ 2 * (SW + W) ∧ (2 ^ 53 * (P' - (P + Q)).natAbs ≤ (P + Q).natAbs → 2 ^ 53 * P' ≤ 2 ^ 53 * (SZ + Z) + (E + 4 * (SW + W)) ∧ 2 ^ 53 * (SY + Y) - (E + 4 * (SW + W)) ≤ 2 ^ 53 * P') := by
  constructor
  · omega
  · intro h; omega

theorem abs_mul_le {a b : Int} {D : Nat} (h : 2 ^ 53 * a.natAbs ≤ b.natAbs) : 2 ^ 53 * (a * (D : Int)).natAbs ≤ (b * (D : Int)).natAbs := by
  rw [Int.natAbs_mul, Int.natAbs_mul, Int.natAbs_natCast, ← Nat.mul_assoc]
  exact Nat.mul_le_mul_right _ h

theorem quot_arith {RA PD A SZ SY SW HA LA DA : Int} (hA : 0 < A)
    (r1 : 2 ^ 53 * (RA - PD).natAbs ≤ 2 * PD.natAbs + 2 ^ 52 * A.natAbs)
    (p1 : 2 ^ 53 * PD ≤ 2 ^ 53 * SZ + 256 * SW) (p2 : 2 ^ 53 * SY - 256 * SW ≤ 2 ^ 53 * PD) (a1 : 0 ≤ SY) (a2 : SY ≤ SZ) (a3 : SZ ≤ SW)
    (h1 : 2 ^ 53 * (SZ - HA).natAbs ≤ 256 * SW) (h2 : 2 ^ 53 * (SY - LA).natAbs ≤ 256 * SW) (h3 : SW ≤ 2 * DA) :
    2 ^ 53 * RA ≤ 2 ^ 53 * HA + 2 ^ 11 * DA + 2 ^ 53 * A ∧ 2 ^ 53 * LA - 2 ^ 11 * DA - 2 ^ 53 * A ≤ 2 ^ 53 * RA := by
  omega

theorem abs_mul_le2 {a b c h : Int} (h0 : 0 ≤ h) (k1 : 2 ^ 53 * a.natAbs ≤ b) (k2 : b * h ≤ c) : 2 ^ 53 * ((a * h).natAbs : Int) ≤ c := by
  have := Int.mul_le_mul_of_nonneg_right k1 h0
  rw [Int.natAbs_mul, Int.natCast_mul, Int.natAbs_of_nonneg h0, ← Int.mul_assoc]
  exact Int.le_trans this k2

theorem share_V {x T : Nat} (hT : T = 1074) (h1 : gteB x 4517110426252607488 = true) (h2 : leqB x 4697254411347427328 = true) :
    FW x ∧ ((2 ^ T : Nat) : Int) ≤ V x * 2 ^ 20 ∧ V x ≤ ((2 ^ T : Nat) : Int) * 2 ^ 20 := by
  have f1 : FW 4517110426252607488 := by unfold FW; decide
  have f2 : FW 4697254411347427328 := by unfold FW; decide
  have f := fw_between f1 f2 h1 h2
  obtain ⟨J, hJ⟩ : ∃ J, J = 1002 := ⟨_, rfl⟩
  obtain ⟨K, hK⟩ : ∃ K, K = 1042 := ⟨_, rfl⟩
  have v1 : V 4517110426252607488 = (((2 ^ 52 + 0) * 2 ^ J : Nat) : Int) := v_word (by decide) (by rw [hJ]) (by decide)
  have v2 : V 4697254411347427328 = (((2 ^ 52 + 0) * 2 ^ K : Nat) : Int) := v_word (by decide) (by rw [hK]) (by decide)
  rw [gte_spec f f1, v1] at h1
  rw [leq_spec f f2, v2] at h2
  simp only [decide_eq_true_eq] at h1 h2
  have e1 : 2 ^ T = 2 ^ J * 2 ^ 72 := by rw [← Nat.pow_add]; congr 1; omega
  have e2 : 2 ^ K = 2 ^ J * 2 ^ 40 := by rw [← Nat.pow_add]; congr 1; omega
  rw [e1]
  rw [e2] at h2
  generalize 2 ^ J = B at *
  refine ⟨f, ?_, ?_⟩ <;> omega

theorem prod_ok {s p T : Nat} (hT : T = 1074) (h1 : gteB s 4517110426252607488 = true) (h2 : leqB s 4697254411347427328 = true) (hp : unitB p = true) :
    ∃ q, Ieee.double.mul s p = some q ∧ FW q ∧ 2 ^ 53 * (V q * ((2 ^ T : Nat) : Int) - V s * V p).natAbs ≤ 2 * (V s * ((2 ^ T : Nat) : Int)) := by
  obtain ⟨fs, s1, s2⟩ := share_V hT h1 h2
  obtain ⟨fp, p0, p1⟩ := unit_V hT hp
  have hD : 2 ^ 72 ≤ 2 ^ T := Nat.pow_le_pow_right (by decide) (by omega)
  have hs0 : 0 ≤ V s := by omega
  have m1 : V s * V p ≤ V s * ((2 ^ T : Nat) : Int) := Int.mul_le_mul_of_nonneg_left p1 hs0
  have m0 : 0 ≤ V s * V p := Int.mul_nonneg hs0 p0
  have m2 : V s * ((2 ^ T : Nat) : Int) ≤ (((2 ^ T : Nat) : Int) * 2 ^ 20) * ((2 ^ T : Nat) : Int) := Int.mul_le_mul_of_nonneg_right s2 (by omega)
  have m3 : (2 ^ 52 : Int) * ((2 ^ T : Nat) : Int) ≤ V s * ((2 ^ T : Nat) : Int) := Int.mul_le_mul_of_nonneg_right (by omega) (by omega)
  have e1 : 2 ^ (T + 20) * 2 ^ T = (2 ^ T * 2 ^ 20) * 2 ^ T := by rw [Nat.pow_add]
  have e2 : 2 ^ (T + 52) = 2 ^ 52 * 2 ^ T := by rw [Nat.pow_add, Nat.mul_comm]
  have m2' : V s * ((2 ^ T : Nat) : Int) ≤ (((2 ^ T * 2 ^ 20) * 2 ^ T : Nat) : Int) := by
    rw [Int.natCast_mul, Int.natCast_mul]; exact m2
  obtain ⟨q, hq, fq, nq⟩ := mul_spec (n := T + 20) fs fp hT (by omega) (by
    rw [e1]
    generalize V s * V p = A at *
    generalize V s * ((2 ^ T : Nat) : Int) = B at *
    generalize (2 ^ T * 2 ^ 20) * 2 ^ T = C at *
    omega)
  refine ⟨q, hq, fq, ?_⟩
  rw [e2] at nq
  clear m2 m2' e1 e2
  generalize V q * ((2 ^ T : Nat) : Int) - V s * V p = X at *
  generalize V s * V p = A at *
  generalize V s * ((2 ^ T : Nat) : Int) = B at *
  generalize 2 ^ T = D at *
  omega

theorem getD_get {xs : List Dr} {k : Nat} (h : k < xs.length) : xs.getD k noDr = xs[k] := by simp [h]

section
variable {xs : List Dr} (h2 : xs.length ≤ 64) (hok : ∀ i (h : i < xs.length), xs[i].ok = true)
include h2 hok

/-- a drop's share, as a number -/
def sV (xs : List Dr) (k : Nat) : Int := V (xs.getD k noDr).s

omit h2 in
theorem sV_ok {T : Nat} (hT : T = 1074) {k : Nat} (hk : k < xs.length) : FW (xs.getD k noDr).s ∧ ((2 ^ T : Nat) : Int) ≤ sV xs k * 2 ^ 20 ∧ sV xs k ≤ ((2 ^ T : Nat) : Int) * 2 ^ 20 := by
  obtain ⟨_, _, g, l⟩ | ⟨ho, _⟩ := (xs[k]).ok_cases
  · unfold sV; rw [getD_get hk]; exact share_V hT g l
  · rw [hok k hk] at ho; cases ho

theorem all_ok {T : Nat} (hT : T = 1074) : ∀ k, k ≤ xs.length → FW (allAt xs k) ∧ 2 ^ 53 * V (allAt xs k) ≤ 2 ^ 53 * su (sV xs) k + er (sV xs) k ∧ 2 ^ 53 * su (sV xs) k - er (sV xs) k ≤ 2 ^ 53 * V (allAt xs k) ∧
    (∀ j, j < k → Ieee.double.add (allAt xs j) (xs.getD j noDr).s = some (allAt xs (j + 1)))
  | 0, _ => ⟨by exact fw_zero, by simp [allAt, su, er, v_zero], by simp [allAt, su, er, v_zero], fun j h => absurd h (by omega)⟩
  | k + 1, hk => by
    obtain ⟨f, u, l, hadd⟩ := all_ok hT k (by omega)
    obtain ⟨fs, s1, s2⟩ := sV_ok hok hT (k := k) (by omega)
    have hpos : ∀ i, i < xs.length → 0 ≤ sV xs i := fun i hi => by have := (sV_ok hok hT hi).2.1; omega
    have hD : 2 ^ 72 ≤ 2 ^ T := Nat.pow_le_pow_right (by decide) (by omega)
    have hmax : ∀ j, j ≤ xs.length → su (sV xs) j ≤ ((2 ^ T : Nat) : Int) * 2 ^ 20 * j := by
      intro j
      induction j with
      | zero => intro _; simp [su]
      | succ j ih =>
        intro hj
        have := ih (by omega)
        have := (sV_ok hok hT (k := j) (by omega)).2.2
        simp only [su]
        rw [show ((j + 1 : Nat) : Int) = (j : Int) + 1 from by omega, Int.mul_add, Int.mul_one]
        omega
    have hS0 := su_pos hpos k (by omega)
    obtain ⟨e1, e2⟩ := er_le64 hpos (k := k) (by omega) h2
    have hp0 := hpos k (by omega)
    obtain ⟨a, b⟩ := step_arith (P := V (allAt xs k)) (Q := sV xs k) (P' := V (allAt xs (k + 1))) hS0 (Int.le_refl _) (Int.le_refl _) hp0 (Int.le_refl _) (Int.le_refl _) e1 e2 u l (by omega) (by omega)
    have hm := hmax (k + 1) (by omega)
    have hm2 : ((2 ^ T : Nat) : Int) * 2 ^ 20 * ((k + 1 : Nat) : Int) ≤ ((2 ^ T : Nat) : Int) * 2 ^ 20 * 64 := Int.mul_le_mul_of_nonneg_left (by omega) (by omega)
    have e27 : 2 ^ (T + 27) = 2 ^ 27 * 2 ^ T := by rw [Nat.pow_add, Nat.mul_comm]
    obtain ⟨r, hr, fr, nr⟩ := add_spec (x := allAt xs k) (y := (xs.getD k noDr).s) (n := T + 27) f fs (by omega) (by
      have hm3 : su (sV xs) k + sV xs k ≤ ((2 ^ T : Nat) : Int) * 2 ^ 20 * 64 := Int.le_trans hm hm2
      show (V (allAt xs k) + sV xs k).natAbs ≤ _
      rw [e27]
      clear hm hm2 u l e1 e2 b s1 s2 hmax
      generalize su (sV xs) k = A at *
      generalize sV xs k = B at *
      generalize V (allAt xs k) = C at *
      generalize 2 ^ T = D at *
      omega)
    have er1 : allAt xs (k + 1) = r := by simp only [allAt]; rw [hr]; rfl
    rw [er1] at b ⊢
    obtain ⟨b1, b2⟩ := b nr
    refine ⟨fr, by simpa only [su, er] using b1, by simpa only [su, er] using b2, fun j hj => ?_⟩
    rcases Nat.lt_or_eq_of_le (Nat.le_of_lt_succ hj) with h | h
    · exact hadd j h
    · subst h; rw [hr, er1]

omit h2 in
theorem bound_su {T : Nat} (hT : T = 1074) : ∀ j, j ≤ xs.length → su (sV xs) j ≤ ((2 ^ T : Nat) : Int) * 2 ^ 20 * j := by
  intro j
  induction j with
  | zero => intro _; simp [su]
  | succ j ih =>
    intro hj
    have := ih (by omega)
    have := (sV_ok hok hT (k := j) (by omega)).2.2
    simp only [su]
    rw [show ((j + 1 : Nat) : Int) = (j : Int) + 1 from by omega, Int.mul_add, Int.mul_one]
    omega

theorem acc_ok {T : Nat} (hT : T = 1074) {p : Dy → Nat} (hp : ∀ i (h : i < xs.length), unitB (p xs[i].d) = true) {lo hi : Int} (h0 : 0 ≤ lo) (hD : hi ≤ ((2 ^ T : Nat) : Int))
    (hlh : ∀ i (h : i < xs.length), lo ≤ V (p xs[i].d) ∧ V (p xs[i].d) ≤ hi) :
    ∀ k, k ≤ xs.length → FW (accAt p xs k) ∧ 2 ^ 53 * (V (accAt p xs k) * ((2 ^ T : Nat) : Int)) ≤ 2 ^ 53 * (su (sV xs) k * hi) + er (fun i => sV xs i * ((2 ^ T : Nat) : Int)) k ∧
      2 ^ 53 * (su (sV xs) k * lo) - er (fun i => sV xs i * ((2 ^ T : Nat) : Int)) k ≤ 2 ^ 53 * (V (accAt p xs k) * ((2 ^ T : Nat) : Int)) ∧
      (∀ j, j < k → Ieee.double.mul (xs.getD j noDr).s (p (xs.getD j noDr).d) = some (prodAt p xs j) ∧ Ieee.double.add (accAt p xs j) (prodAt p xs j) = some (accAt p xs (j + 1)))
  | 0, _ => ⟨by exact fw_zero, by simp [accAt, su, er, v_zero], by simp [accAt, su, er, v_zero], fun j h => absurd h (by omega)⟩
  | k + 1, hk => by
    obtain ⟨f, u, l, hadd⟩ := acc_ok hT hp h0 hD hlh k (by omega)
    have hkl : k < xs.length := by omega
    obtain ⟨fs, s1, s2⟩ := sV_ok hok hT hkl
    obtain ⟨q, hq, fq, nq⟩ : ∃ q, Ieee.double.mul (xs.getD k noDr).s (p (xs.getD k noDr).d) = some q ∧ FW q ∧ 2 ^ 53 * (V q * ((2 ^ T : Nat) : Int) - sV xs k * V (p (xs.getD k noDr).d)).natAbs ≤ 2 * (sV xs k * ((2 ^ T : Nat) : Int)) := by
      obtain ⟨_, _, g, l⟩ | ⟨ho, _⟩ := (xs[k]).ok_cases
      · unfold sV; rw [getD_get hkl]; exact prod_ok hT g l (hp k hkl)
      · rw [hok k hkl] at ho; cases ho
    have hq1 : prodAt p xs k = q := by unfold prodAt; rw [hq]; rfl
    obtain ⟨l1, l2⟩ := hlh k hkl
    rw [← getD_get hkl] at l1 l2
    have hspos : ∀ i, i < xs.length → 0 ≤ sV xs i := fun i hi => by have := (sV_ok hok hT hi).2.1; omega
    have hDp : (0 : Int) < ((2 ^ T : Nat) : Int) := by have : 0 < 2 ^ T := Nat.two_pow_pos _; omega
    have hpos : ∀ i, i < xs.length → 0 ≤ sV xs i * ((2 ^ T : Nat) : Int) := fun i hi => Int.mul_nonneg (hspos i hi) (by omega)
    obtain ⟨e1, e2⟩ := er_le64 hpos (k := k) (by omega) h2
    rw [su_mul] at e2
    have hS0 := su_pos hspos k (by omega)
    have hp0 := hspos k hkl
    have a1 : 0 ≤ su (sV xs) k * lo := Int.mul_nonneg hS0 h0
    have hlohi : lo ≤ hi := Int.le_trans l1 l2
    have a2 : su (sV xs) k * lo ≤ su (sV xs) k * hi := Int.mul_le_mul_of_nonneg_left hlohi hS0
    have a3 : su (sV xs) k * hi ≤ su (sV xs) k * ((2 ^ T : Nat) : Int) := Int.mul_le_mul_of_nonneg_left hD hS0
    have b1 : 0 ≤ sV xs k * lo := Int.mul_nonneg hp0 h0
    have b2 : sV xs k * lo ≤ sV xs k * hi := Int.mul_le_mul_of_nonneg_left hlohi hp0
    have b3 : sV xs k * hi ≤ sV xs k * ((2 ^ T : Nat) : Int) := Int.mul_le_mul_of_nonneg_left hD hp0
    have c1 : sV xs k * V (p (xs.getD k noDr).d) ≤ sV xs k * hi := Int.mul_le_mul_of_nonneg_left l2 hp0
    have c2 : sV xs k * lo ≤ sV xs k * V (p (xs.getD k noDr).d) := Int.mul_le_mul_of_nonneg_left l1 hp0
    have q1 : 2 ^ 53 * (V q * ((2 ^ T : Nat) : Int)) ≤ 2 ^ 53 * (sV xs k * hi) + 2 * (sV xs k * ((2 ^ T : Nat) : Int)) := by omega
    have q2 : 2 ^ 53 * (sV xs k * lo) - 2 * (sV xs k * ((2 ^ T : Nat) : Int)) ≤ 2 ^ 53 * (V q * ((2 ^ T : Nat) : Int)) := by omega
    obtain ⟨a, b⟩ := step_arith (P := V (accAt p xs k) * ((2 ^ T : Nat) : Int)) (Q := V q * ((2 ^ T : Nat) : Int)) (P' := V (accAt p xs (k + 1)) * ((2 ^ T : Nat) : Int)) a1 a2 a3 b1 b2 b3 e1 e2 u l q1 q2
    have hm := bound_su hok hT (k + 1) (by omega)
    have hm2 : ((2 ^ T : Nat) : Int) * 2 ^ 20 * ((k + 1 : Nat) : Int) ≤ ((2 ^ T : Nat) : Int) * 2 ^ 20 * 64 := Int.mul_le_mul_of_nonneg_left (by omega) (by omega)
    have e27 : 2 ^ (T + 27) = 2 ^ 27 * 2 ^ T := by rw [Nat.pow_add, Nat.mul_comm]
    have hsum : (V (accAt p xs k) + V q).natAbs ≤ 2 ^ (T + 27) := by
      have a' : ((V (accAt p xs k) + V q).natAbs : Int) * ((2 ^ T : Nat) : Int) ≤ (2 * (su (sV xs) k + sV xs k)) * ((2 ^ T : Nat) : Int) := by
        rw [← Int.add_mul, ← Int.add_mul] at a
        rw [Int.natAbs_mul, Int.natAbs_natCast, Int.natCast_mul, ← Int.mul_assoc] at a
        exact a
      have a'' := Int.le_of_mul_le_mul_right a' hDp
      have hm3 : su (sV xs) k + sV xs k ≤ ((2 ^ T : Nat) : Int) * 2 ^ 20 * 64 := Int.le_trans hm hm2
      rw [e27]
      clear hm hm2 nq u l e1 e2 b a a' s1 s2 q1 q2 c1 c2 b1 b2 b3 a1 a2 a3 l1 l2
      generalize su (sV xs) k = A at *
      generalize sV xs k = B at *
      generalize V (accAt p xs k) + V q = C at *
      generalize 2 ^ T = D at *
      omega
    obtain ⟨r, hr, fr, nr⟩ := add_spec (x := accAt p xs k) (y := q) (n := T + 27) f fq (by omega) hsum
    have er1 : accAt p xs (k + 1) = r := by simp only [accAt]; rw [hq1, hr]; rfl
    rw [er1] at b ⊢
    have nr' := abs_mul_le (D := 2 ^ T) nr
    rw [Int.sub_mul, Int.add_mul] at nr'
    obtain ⟨b4, b5⟩ := b nr'
    refine ⟨fr, ?_, ?_, fun j hj => ?_⟩
    · simp only [su, er]
      rw [su_mul, Int.add_mul, ]
      exact b4
    · simp only [su, er]
      rw [su_mul, Int.add_mul]
      exact b5
    · rcases Nat.lt_or_eq_of_le (Nat.le_of_lt_succ hj) with h | h
      · exact hadd j h
      · subst h; rw [hq1, hr, er1]; exact ⟨hq, rfl⟩



theorem quot_ok (h1 : 1 ≤ xs.length) {T : Nat} (hT : T = 1074) {p : Dy → Nat} (hp : ∀ i (h : i < xs.length), unitB (p xs[i].d) = true) {lo hi : Int} (h0 : 0 ≤ lo) (hD : hi ≤ ((2 ^ T : Nat) : Int))
    (hlh : ∀ i (h : i < xs.length), lo ≤ V (p xs[i].d) ∧ V (p xs[i].d) ≤ hi) :
    ∃ r, Ieee.double.div (accAt p xs xs.length) (allAt xs xs.length) = some r ∧ FW r ∧ 2 ^ 41 * V r ≤ 2 ^ 41 * hi + ((2 ^ T : Nat) : Int) ∧ 2 ^ 41 * lo - ((2 ^ T : Nat) : Int) ≤ 2 ^ 41 * V r := by
  obtain ⟨fa, ua, la, _⟩ := all_ok h2 hok hT xs.length (Nat.le_refl _)
  obtain ⟨fp, up, lp, _⟩ := acc_ok h2 hok hT hp h0 hD hlh xs.length (Nat.le_refl _)
  have hDp : (2 ^ 72 : Int) ≤ ((2 ^ T : Nat) : Int) := by have : 2 ^ 72 ≤ 2 ^ T := Nat.pow_le_pow_right (by decide) (by omega); omega
  have hspos : ∀ i, i < xs.length → 0 ≤ sV xs i := fun i hi => by have := (sV_ok hok hT hi).2.1; omega
  have hpos : ∀ i, i < xs.length → 0 ≤ sV xs i * ((2 ^ T : Nat) : Int) := fun i hi => Int.mul_nonneg (hspos i hi) (by omega)
  obtain ⟨e1, e2⟩ := er_le64 hpos (k := xs.length) (by omega) h2
  obtain ⟨g1, g2⟩ := er_le64 hspos (k := xs.length) (by omega) h2
  rw [su_mul] at e2
  have hlohi : lo ≤ hi := Int.le_trans (hlh 0 (by omega)).1 (hlh 0 (by omega)).2
  have hS1 : ∀ k, 1 ≤ k → k ≤ xs.length → ((2 ^ T : Nat) : Int) ≤ su (sV xs) k * 2 ^ 20 := by
    intro k
    induction k with
    | zero => intro h; omega
    | succ k ih =>
      intro _ hk
      have a := (sV_ok hok hT (k := k) (by omega)).2.1
      have b := su_pos hspos k (by omega)
      simp only [su]
      rw [Int.add_mul]
      omega
  have hS := hS1 xs.length h1 (Nat.le_refl _)
  clear hS1 hspos hpos hlh hp
  generalize su (sV xs) xs.length = S at *
  generalize er (sV xs) xs.length = E at *
  generalize er (fun i => sV xs i * ((2 ^ T : Nat) : Int)) xs.length = F at *
  generalize allAt xs xs.length = a at *
  generalize accAt p xs xs.length = x at *
  have hT2 : 2 ^ (T + 2) = 4 * 2 ^ T := by rw [Nat.pow_add, Nat.mul_comm]
  have hDc : (((2 ^ T : Nat)) : Int) = ((2 ^ T : Nat) : Int) := rfl
  have hS0 : 0 ≤ S := by omega
  have hA : 0 < V a := by omega
  have hSA : S ≤ 2 * V a := by omega
  have hh0 : 0 ≤ hi := by omega
  have a1 : 0 ≤ S * lo := Int.mul_nonneg hS0 h0
  have a2 : S * lo ≤ S * hi := Int.mul_le_mul_of_nonneg_left hlohi hS0
  have a3 : S * hi ≤ S * ((2 ^ T : Nat) : Int) := Int.mul_le_mul_of_nonneg_left hD hS0
  have k1 : (2 : Int) ^ 53 * ((S - V a).natAbs : Int) ≤ 256 * S := by omega
  have b1 := abs_mul_le2 hh0 k1 (c := 256 * (S * ((2 ^ T : Nat) : Int))) (by rw [Int.mul_assoc]; omega)
  have b2 := abs_mul_le2 h0 k1 (c := 256 * (S * ((2 ^ T : Nat) : Int))) (by rw [Int.mul_assoc]; omega)
  rw [Int.sub_mul] at b1 b2
  have b3 : S * ((2 ^ T : Nat) : Int) ≤ 2 * (((2 ^ T : Nat) : Int) * V a) := by
    rw [Int.mul_comm ((2 ^ T : Nat) : Int), ← Int.mul_assoc]
    exact Int.mul_le_mul_of_nonneg_right hSA (by omega)
  have hX : (V x).natAbs * 2 ^ T ≤ 2 ^ (T + 2) * (V a).natAbs := by
    have : ((V x) * ((2 ^ T : Nat) : Int)).natAbs ≤ 4 * (((2 ^ T : Nat) : Int) * V a) := by
      clear b1 b2 k1 hT2
      generalize V x * ((2 ^ T : Nat) : Int) = PD at *
      generalize ((2 ^ T : Nat) : Int) * V a = DA at *
      generalize S * ((2 ^ T : Nat) : Int) = SW at *
      generalize S * hi = SZ at *
      generalize S * lo = SY at *
      omega
    rw [Int.natAbs_mul, Int.natAbs_natCast] at this
    have e : (((2 ^ T : Nat) : Int) * V a) = ((2 ^ T * (V a).natAbs : Nat) : Int) := by
      rw [Int.natCast_mul, Int.natAbs_of_nonneg (by omega)]
    rw [e] at this
    rw [hT2, Nat.mul_assoc]
    omega
  obtain ⟨r, hr, fr, nr⟩ := div_spec (n := T + 2) fp fa hT (by omega) (by omega) hX
  refine ⟨r, hr, fr, ?_⟩
  have nr' : 2 ^ 53 * (V r * V a - V x * ((2 ^ T : Nat) : Int)).natAbs ≤ 2 * (V x * ((2 ^ T : Nat) : Int)).natAbs + 2 ^ 52 * (V a).natAbs := by
    rw [Int.natAbs_mul (V x), Int.natAbs_natCast]; exact nr
  have up' : 2 ^ 53 * (V x * ((2 ^ T : Nat) : Int)) ≤ 2 ^ 53 * (S * hi) + 256 * (S * ((2 ^ T : Nat) : Int)) := by omega
  have lp' : 2 ^ 53 * (S * lo) - 256 * (S * ((2 ^ T : Nat) : Int)) ≤ 2 ^ 53 * (V x * ((2 ^ T : Nat) : Int)) := by omega
  obtain ⟨c1, c2⟩ := quot_arith hA nr' up' lp' a1 a2 a3 (by omega) (by omega) b3 (HA := V a * hi) (LA := V a * lo)
  have d1 : (2 ^ 53 * V r) * V a ≤ (2 ^ 53 * hi + 2 ^ 11 * ((2 ^ T : Nat) : Int) + 2 ^ 53) * V a := by
    rw [Int.add_mul, Int.add_mul, Int.mul_assoc, Int.mul_assoc, Int.mul_assoc, Int.mul_comm hi]; exact c1
  have d2 : (2 ^ 53 * lo - 2 ^ 11 * ((2 ^ T : Nat) : Int) - 2 ^ 53) * V a ≤ (2 ^ 53 * V r) * V a := by
    rw [Int.sub_mul, Int.sub_mul, Int.mul_assoc, Int.mul_assoc, Int.mul_assoc, Int.mul_comm lo]; exact c2
  have d3 := Int.le_of_mul_le_mul_right d1 hA
  have d4 := Int.le_of_mul_le_mul_right d2 hA
  constructor <;> omega

theorem mix_is (h1 : 1 ≤ xs.length) : ∃ d, MixIs xs d := by
  obtain ⟨T, hT⟩ : ∃ T, T = 1074 := ⟨_, rfl⟩
  have hf : ∀ i (h : i < xs.length), unitB xs[i].d.r = true ∧ unitB xs[i].d.g = true ∧ unitB xs[i].d.b = true := by
    intro i h
    obtain ⟨_, f, _⟩ | ⟨ho, _⟩ := (xs[i]).ok_cases
    · unfold Dy.fair at f; simp only [Bool.and_eq_true] at f; exact ⟨f.1.1, f.1.2, f.2⟩
    · rw [hok i h] at ho; cases ho
  have go : ∀ p : Dy → Nat, (∀ i (h : i < xs.length), unitB (p xs[i].d) = true) → SumIs p xs ∧ ∃ r, Ieee.double.div (accAt p xs xs.length) (allAt xs xs.length) = some r := by
    intro p hp
    have hb : ∀ i (h : i < xs.length), 0 ≤ V (p xs[i].d) ∧ V (p xs[i].d) ≤ ((2 ^ T : Nat) : Int) := fun i h => (unit_V hT (hp i h)).2
    obtain ⟨_, _, _, ha⟩ := acc_ok h2 hok hT hp (Int.le_refl 0) (Int.le_refl _) hb xs.length (Nat.le_refl _)
    obtain ⟨r, hr, _⟩ := quot_ok h2 hok h1 hT hp (Int.le_refl 0) (Int.le_refl _) hb
    refine ⟨fun k h => ?_, r, hr⟩
    have := ha k h
    rwa [getD_get h] at this
  obtain ⟨s1, r1, q1⟩ := go Dy.r (fun i h => (hf i h).1)
  obtain ⟨s2, r2, q2⟩ := go Dy.g (fun i h => (hf i h).2.1)
  obtain ⟨s3, r3, q3⟩ := go Dy.b (fun i h => (hf i h).2.2)
  obtain ⟨_, _, _, hal⟩ := all_ok h2 hok hT xs.length (Nat.le_refl _)
  refine ⟨⟨r1, r2, r3⟩, s1, s2, s3, fun k h => ?_, q1, q2, q3⟩
  have := hal k h
  rwa [getD_get h] at this
end
end Go.Proofs.Ytmjhhaejiabkdaa
