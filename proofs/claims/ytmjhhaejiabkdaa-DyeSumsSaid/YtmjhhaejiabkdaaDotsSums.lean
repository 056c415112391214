/- Chapter 15, plain: no light is lost. -/
import Derived.Test.YtmjhhaejiabkdaaDotsPlain3
namespace Go.Proofs.Ytmjhhaejiabkdaa
set_option linter.unusedVariables false

def sumR (f : Nat → Int) (a : Nat) : Nat → Int
  | 0 => 0
  | n + 1 => sumR f a n + f (a + n)
theorem sumR_left (f : Nat → Int) (a n : Nat) : sumR f a (n + 1) = f a + sumR f (a + 1) n := by
  induction n with
  | zero => simp [sumR]
  | succ n ih =>
    rw [sumR, ih]
    simp only [sumR]
    rw [show a + (n + 1) = a + 1 + n by omega]
    omega
theorem sumR_congr {f g : Nat → Int} {a n : Nat} (h : ∀ k, a ≤ k → k < a + n → f k = g k) : sumR f a n = sumR g a n := by
  induction n with
  | zero => rfl
  | succ n ih => rw [sumR, sumR, ih fun k h1 h2 => h k h1 (by omega), h (a + n) (by omega) (by omega)]
theorem sumR_add (f g : Nat → Int) (a n : Nat) : sumR (fun k => f k + g k) a n = sumR f a n + sumR g a n := by
  induction n with
  | zero => rfl
  | succ n ih => simp only [sumR]; rw [ih]; omega
theorem sumR_zero {f : Nat → Int} {a n : Nat} (h : ∀ k, a ≤ k → k < a + n → f k = 0) : sumR f a n = 0 := by
  induction n with
  | zero => rfl
  | succ n ih => rw [sumR, ih fun k h1 h2 => h k h1 (by omega), h (a + n) (by omega) (by omega)]; rfl
theorem sumR_one {f : Nat → Int} {a n c : Nat} {v : Int} (h1 : a ≤ c) (h2 : c < a + n) (hc : f c = v) (h : ∀ k, k ≠ c → f k = 0) : sumR f a n = v := by
  induction n with
  | zero => omega
  | succ n ih =>
    rw [sumR]
    by_cases e : c = a + n
    · rw [sumR_zero fun k h3 h4 => h k (by omega), ← e, hc]; omega
    · rw [ih (by omega), h (a + n) (by omega)]; omega

section
variable (W N : Nat) (L : Nat → Int)
theorem given (hW : 0 < W) (hN : N % W = 0) {i : Nat} (hi : i < N) :
    sumR (Dg W L (i + 1)) (i + 1) (N - (i + 1)) = sumR (Dg W L i) (i + 1) (N - (i + 1)) + (L i - lostAt W N L i) := by
  have hx := Nat.mod_lt i hW
  have e : sumR (Dg W L (i + 1)) (i + 1) (N - (i + 1)) = sumR (fun k => Dg W L i k + (if k = i + 1 ∧ i % W + 1 < W then s0 (L i) else 0) + (if k + 1 = i + W ∧ 1 ≤ i % W then s1 (L i) else 0) +
      (if k = i + W then s2 (L i) else 0) + (if k = i + W + 1 ∧ i % W + 1 < W then s3 (L i) else 0)) (i + 1) (N - (i + 1)) :=
    sumR_congr fun k h1 h2 => Dg_succ W L hW (by omega)
  rw [e, sumR_add, sumR_add, sumR_add, sumR_add]
  have t0 : sumR (fun k => if k = i + 1 ∧ i % W + 1 < W then s0 (L i) else 0) (i + 1) (N - (i + 1)) = s0 (L i) - (if i % W + 1 = W then s0 (L i) else 0) := by
    by_cases h : i % W + 1 < W
    · have := edge0 W N hW hN hi h
      rw [if_neg (by omega), sumR_one (c := i + 1) (v := s0 (L i)) (by omega) (by omega) (by rw [if_pos ⟨rfl, h⟩]) (fun k hk => by rw [if_neg (by omega)])]; omega
    · rw [if_pos (by omega), sumR_zero fun k h1 h2 => by rw [if_neg (by omega)]]; omega
  have t1 : sumR (fun k => if k + 1 = i + W ∧ 1 ≤ i % W then s1 (L i) else 0) (i + 1) (N - (i + 1)) = s1 (L i) - (if i % W = 0 ∨ N ≤ i + W then s1 (L i) else 0) := by
    by_cases h : i % W = 0 ∨ N ≤ i + W
    · rw [if_pos h, sumR_zero fun k h1 h2 => by rw [if_neg (by have hz : 1 ≤ i % W → i + W ≠ N := edge1 W N hN; omega)]]; omega
    · rw [if_neg h, sumR_one (c := i + W - 1) (v := s1 (L i)) (by omega) (by omega) (by rw [if_pos (by omega)]) (fun k hk => by rw [if_neg (by omega)])]; omega
  have t2 : sumR (fun k => if k = i + W then s2 (L i) else 0) (i + 1) (N - (i + 1)) = s2 (L i) - (if N ≤ i + W then s2 (L i) else 0) := by
    by_cases h : N ≤ i + W
    · rw [if_pos h, sumR_zero fun k h1 h2 => by rw [if_neg (by omega)]]; omega
    · rw [if_neg h, sumR_one (c := i + W) (v := s2 (L i)) (by omega) (by omega) (by rw [if_pos rfl]) (fun k hk => by rw [if_neg (by omega)])]; omega
  have t3 : sumR (fun k => if k = i + W + 1 ∧ i % W + 1 < W then s3 (L i) else 0) (i + 1) (N - (i + 1)) = s3 (L i) - (if i % W + 1 = W ∨ N ≤ i + W then s3 (L i) else 0) := by
    by_cases h : i % W + 1 = W ∨ N ≤ i + W
    · rw [if_pos h, sumR_zero fun k h1 h2 => by rw [if_neg (by omega)]]; omega
    · have := edge3 W N hW hN (i := i) (by omega)
      rw [if_neg h, sumR_one (c := i + W + 1) (v := s3 (L i)) (by omega) (by omega) (by rw [if_pos (by omega)]) (fun k hk => by rw [if_neg (by omega)])]; omega
  rw [t0, t1, t2, t3]
  unfold lostAt s3
  omega
end

/-- 16 times the picture's numbers; 16 times the dots -/
def tot (f : Nat → Int) : Nat → Int
  | 0 => 0
  | k + 1 => tot f k + 16 * f k
theorem conserve (W N : Nat) (G : Nat → Int) (hW : 0 < W) (hN : N % W = 0) (i : Nat) (hi : i ≤ N) :
    tot G i = tot (fun j => dotOf (vv W G j)) i + lostS W N (lef W G) i + sumR (Dg W (lef W G) i) i (N - i) := by
  induction i with
  | zero => rw [sumR_zero fun k _ _ => Dg_zero W _ k]; simp [tot, lostS]
  | succ i ih =>
    have h1 := ih (by omega)
    have h2 := given W N (lef W G) hW hN (i := i) (by omega)
    have h3 : sumR (Dg W (lef W G) i) i (N - i) = Dg W (lef W G) i i + sumR (Dg W (lef W G) i) (i + 1) (N - (i + 1)) := by
      rw [show N - i = (N - (i + 1)) + 1 by omega, sumR_left]
    have h4 := Dg_at W (lef W G) hW i
    have h5 := lef_eq W G hW i
    have h6 : vv W G i = 16 * G i + (r0 W (lef W G) i + r1 W (lef W G) i + r2 W (lef W G) i + r3 W (lef W G) i) := rfl
    unfold lft at h5
    rw [h2]
    simp only [tot, lostS]
    omega
theorem conserved (W N : Nat) (G : Nat → Int) (hW : 0 < W) (hN : N % W = 0) : tot G N = tot (fun j => dotOf (vv W G j)) N + lostS W N (lef W G) N := by
  have h := conserve W N G hW hN N (Nat.le_refl _)
  rw [Nat.sub_self] at h
  simpa [sumR] using h
end Go.Proofs.Ytmjhhaejiabkdaa
