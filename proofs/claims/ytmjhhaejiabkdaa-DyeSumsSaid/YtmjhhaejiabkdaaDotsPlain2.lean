/- Chapter 15, plain: what is given to the neighbours, and what is lost. -/
import Derived.Test.YtmjhhaejiabkdaaDotsPlain
namespace Go.Proofs.Ytmjhhaejiabkdaa
set_option linter.unusedVariables false

theorem mod_succ' {W i : Nat} (hW : 0 < W) : (i + 1) % W = if i % W + 1 = W then 0 else i % W + 1 := by
  have h1 := Nat.mod_lt i hW
  have e : (i + 1) % W = (i % W + 1) % W := by rw [Nat.add_mod, Nat.add_mod (i % W) 1, Nat.mod_mod]
  rw [e]
  split
  · rename_i h; rw [h]; exact Nat.mod_self W
  · exact Nat.mod_eq_of_lt (by omega)
theorem mod_back {W i : Nat} (hW : 0 < W) (hi : 1 ≤ i) : (i + W - 1) % W = if i % W = 0 then W - 1 else i % W - 1 := by
  have h1 := mod_succ' (W := W) (i := i - 1) hW
  rw [Nat.sub_add_cancel hi] at h1
  have h2 : (i + W - 1) % W = (i - 1) % W := by
    rw [show i + W - 1 = (i - 1) + W by omega, Nat.add_mod_right]
  have h3 := Nat.mod_lt (i - 1) hW
  rw [h2]
  split at h1
  · rw [if_pos h1]; omega
  · rw [if_neg (by omega)]; omega

section
variable (W N : Nat) (L : Nat → Int)

/-- what has been given to place k, by the dots ahead of i -/
def Dg (i k : Nat) : Int :=
  (if i = k ∧ 0 < k % W then s0 (L (k - 1)) else 0) + (if W ≤ k ∧ k % W + 1 < W ∧ k - W + 1 < i then s1 (L (k - W + 1)) else 0) +
  (if W ≤ k ∧ k - W < i then s2 (L (k - W)) else 0) + (if W ≤ k ∧ 0 < k % W ∧ k - W - 1 < i then s3 (L (k - W - 1)) else 0)

theorem Dg_at (hW : 0 < W) (i : Nat) : Dg W L i i = r0 W L i + r1 W L i + r2 W L i + r3 W L i := by
  unfold Dg r0 r1 r2 r3
  congr 1
  · congr 1
    · congr 1
      · simp
      · by_cases h : W ≤ i ∧ i % W + 1 < W
        · rw [if_pos h, if_pos ⟨h.1, h.2, by omega⟩]
        · rw [if_neg h, if_neg (fun k => h ⟨k.1, k.2.1⟩)]
    · by_cases h : W ≤ i
      · rw [if_pos h, if_pos ⟨h, by omega⟩]
      · rw [if_neg h, if_neg (fun k => h k.1)]
  · by_cases h : W ≤ i ∧ 0 < i % W
    · have := mod_pos_W W hW h.2 h.1
      rw [if_pos h, if_pos ⟨h.1, h.2, by omega⟩]
    · rw [if_neg h, if_neg (fun k => h ⟨k.1, k.2.1⟩)]

theorem Dg_zero (k : Nat) : Dg W L 0 k = 0 := by
  unfold Dg
  rw [if_neg (by rintro ⟨rfl, h⟩; simp at h), if_neg (by omega), if_neg (by omega), if_neg (by omega)]
  rfl

/-- what the dot at i gives to k -/
theorem Dg_succ (hW : 0 < W) {i k : Nat} (hik : i < k) :
    Dg W L (i + 1) k = Dg W L i k + (if k = i + 1 ∧ i % W + 1 < W then s0 (L i) else 0) + (if k + 1 = i + W ∧ 1 ≤ i % W then s1 (L i) else 0) +
      (if k = i + W then s2 (L i) else 0) + (if k = i + W + 1 ∧ i % W + 1 < W then s3 (L i) else 0) := by
  have hx := Nat.mod_lt i hW
  have t0 : (if i + 1 = k ∧ 0 < k % W then s0 (L (k - 1)) else 0) = (if i = k ∧ 0 < k % W then s0 (L (k - 1)) else 0) + (if k = i + 1 ∧ i % W + 1 < W then s0 (L i) else 0) := by
    rw [if_neg (c := i = k ∧ 0 < k % W) (by omega)]
    by_cases h : k = i + 1
    · subst h
      have hm := mod_succ' (W := W) (i := i) hW
      by_cases h2 : i % W + 1 = W
      · rw [if_pos h2] at hm
        rw [if_neg (by omega), if_neg (by omega)]; rfl
      · rw [if_neg h2] at hm
        rw [if_pos ⟨rfl, by omega⟩, if_pos ⟨rfl, by omega⟩]; simp
    · rw [if_neg (by omega), if_neg (by omega)]; rfl
  have t2 : (if W ≤ k ∧ k - W < i + 1 then s2 (L (k - W)) else 0) = (if W ≤ k ∧ k - W < i then s2 (L (k - W)) else 0) + (if k = i + W then s2 (L i) else 0) := by
    by_cases h : k = i + W
    · subst h
      rw [if_pos ⟨by omega, by omega⟩, if_neg (by omega), if_pos rfl, Nat.add_sub_cancel]; omega
    · rw [if_neg h]
      by_cases h2 : W ≤ k ∧ k - W < i
      · rw [if_pos h2, if_pos ⟨h2.1, by omega⟩]; omega
      · rw [if_neg h2, if_neg (by omega)]; rfl
  have t1 : (if W ≤ k ∧ k % W + 1 < W ∧ k - W + 1 < i + 1 then s1 (L (k - W + 1)) else 0) = (if W ≤ k ∧ k % W + 1 < W ∧ k - W + 1 < i then s1 (L (k - W + 1)) else 0) + (if k + 1 = i + W ∧ 1 ≤ i % W then s1 (L i) else 0) := by
    by_cases h : k + 1 = i + W
    · have hk : k = i + W - 1 := by omega
      by_cases h1 : 1 ≤ i
      · have hm := mod_back hW h1
        rw [← hk] at hm
        by_cases h2 : i % W = 0
        · rw [if_pos h2] at hm
          rw [if_neg (by omega), if_neg (by omega), if_neg (by omega)]; rfl
        · rw [if_neg h2] at hm
          rw [if_pos ⟨by omega, by omega, by omega⟩, if_neg (by omega), if_pos ⟨h, by omega⟩, show k - W + 1 = i by omega]; omega
      · have h0 : i = 0 := by omega
        subst h0
        rw [if_neg (by omega), if_neg (by omega), if_neg (by simp)]; rfl
    · rw [if_neg (c := k + 1 = i + W ∧ 1 ≤ i % W) (by omega)]
      by_cases h2 : W ≤ k ∧ k % W + 1 < W ∧ k - W + 1 < i
      · rw [if_pos h2, if_pos ⟨h2.1, h2.2.1, by omega⟩]; omega
      · rw [if_neg h2, if_neg (by omega)]; rfl
  have t3 : (if W ≤ k ∧ 0 < k % W ∧ k - W - 1 < i + 1 then s3 (L (k - W - 1)) else 0) = (if W ≤ k ∧ 0 < k % W ∧ k - W - 1 < i then s3 (L (k - W - 1)) else 0) + (if k = i + W + 1 ∧ i % W + 1 < W then s3 (L i) else 0) := by
    by_cases h : k = i + W + 1
    · have hm : k % W = (i + 1) % W := by rw [h, show i + W + 1 = (i + 1) + W by omega, Nat.add_mod_right]
      rw [mod_succ' hW] at hm
      by_cases h2 : i % W + 1 = W
      · rw [if_pos h2] at hm
        rw [if_neg (by omega), if_neg (by omega), if_neg (by omega)]; rfl
      · rw [if_neg h2] at hm
        rw [if_pos ⟨by omega, by omega, by omega⟩, if_neg (by omega), if_pos ⟨h, by omega⟩, show k - W - 1 = i by omega]; omega
    · rw [if_neg (c := k = i + W + 1 ∧ i % W + 1 < W) (by omega)]
      by_cases h2 : W ≤ k ∧ 0 < k % W ∧ k - W - 1 < i
      · rw [if_pos h2, if_pos ⟨h2.1, h2.2.1, by omega⟩]; omega
      · rw [if_neg h2]
        by_cases h3 : W ≤ k ∧ 0 < k % W
        · have h4 := mod_pos_W W hW h3.2 h3.1
          rw [if_neg (by omega)]; rfl
        · rw [if_neg (fun z => h3 ⟨z.1, z.2.1⟩)]; rfl
  unfold Dg
  rw [t0, t1, t2, t3]
  omega

/-- what is lost of dot i -/
def lostAt (i : Nat) : Int :=
  (if i % W + 1 = W then s0 (L i) else 0) + (if i % W = 0 ∨ N ≤ i + W then s1 (L i) else 0) + (if N ≤ i + W then s2 (L i) else 0) + (if i % W + 1 = W ∨ N ≤ i + W then s3 (L i) else 0)
def lostS : Nat → Int
  | 0 => 0
  | k + 1 => lostS k + lostAt W N L k

/-- the row's end, and the picture's -/
theorem edge0 (hW : 0 < W) (hN : N % W = 0) {i : Nat} (hi : i < N) (h : i % W + 1 < W) : i + 1 < N := by
  rcases Nat.lt_or_ge (i + 1) N with h1 | h1
  · exact h1
  · have e : i + 1 = N := by omega
    have := mod_succ' (W := W) (i := i) hW
    rw [e, hN, if_neg (by omega)] at this
    omega
theorem edge1 (hN : N % W = 0) {i : Nat} (h : 1 ≤ i % W) : i + W ≠ N := by
  intro e
  rw [← e, Nat.add_mod_right] at hN
  omega
theorem edge3 (hW : 0 < W) (hN : N % W = 0) {i : Nat} (h : i % W + 1 < W) : i + W + 1 ≠ N := by
  intro e
  have := mod_succ' (W := W) (i := i) hW
  rw [if_neg (by omega)] at this
  rw [← e, show i + W + 1 = (i + 1) + W by omega, Nat.add_mod_right] at hN
  omega
theorem last_row (hW : 0 < W) (hN : N % W = 0) {i : Nat} (hi : i < N) : i / W + 1 = N / W ↔ N ≤ i + W := by
  have h1 := Nat.div_add_mod i W
  have h2 := Nat.div_add_mod N W
  have h3 := Nat.mod_lt i hW
  rw [hN, Nat.add_zero] at h2
  generalize i / W = y at *
  generalize N / W = q at *
  constructor
  · intro e
    subst e
    rw [Nat.mul_add, Nat.mul_one] at h2
    omega
  · intro h
    have h4 : W * q ≤ W * (y + 2) - 1 := by rw [Nat.mul_add]; omega
    have h5 : W * y < W * q := by omega
    have h6 := Nat.lt_of_mul_lt_mul_left h5
    have h7 : W * q < W * (y + 2) := by omega
    have h8 := Nat.lt_of_mul_lt_mul_left h7
    omega
theorem first_row (hW : 0 < W) {i : Nat} : 0 < i / W ↔ W ≤ i := by
  rw [Nat.div_pos_iff]; omega

end
end Go.Proofs.Ytmjhhaejiabkdaa
