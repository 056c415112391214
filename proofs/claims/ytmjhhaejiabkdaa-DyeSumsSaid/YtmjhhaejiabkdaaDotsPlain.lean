/- Chapter 15, plain: pictures made of two: what is left of each dot, and where it goes. -/
import Derived.Test.YtmjhhaejiabkdaaLib
namespace Go.Proofs.Ytmjhhaejiabkdaa
set_option linter.unusedVariables false

def s0 (l : Int) : Int := (l * 7).tdiv 16
def s1 (l : Int) : Int := (l * 3).tdiv 16
def s2 (l : Int) : Int := (l * 5).tdiv 16
def s3 (l : Int) : Int := l - s0 l - s1 l - s2 l

theorem tdiv16 (x : Int) : (0 ≤ x ∧ 0 ≤ x.tdiv 16 ∧ 16 * x.tdiv 16 ≤ x ∧ x ≤ 16 * x.tdiv 16 + 15) ∨ (x < 0 ∧ x.tdiv 16 ≤ 0 ∧ x ≤ 16 * x.tdiv 16 ∧ 16 * x.tdiv 16 ≤ x + 15) := by
  by_cases h : 0 ≤ x
  · have e := Int.tdiv_eq_ediv_of_nonneg (b := 16) h
    exact .inl (by omega)
  · have e := Int.neg_tdiv x 16
    rw [Int.tdiv_eq_ediv_of_nonneg (by omega)] at e
    exact .inr (by omega)

/-- how much the shares are: E bounds what is left -/
theorem share_bounds {l E : Int} (h1 : -E ≤ l) (h2 : l ≤ E) :
    (-(7 * E) ≤ 16 * s0 l ∧ 16 * s0 l ≤ 7 * E) ∧ (-(3 * E) ≤ 16 * s1 l ∧ 16 * s1 l ≤ 3 * E) ∧ (-(5 * E) ≤ 16 * s2 l ∧ 16 * s2 l ≤ 5 * E) ∧
    (-(E + 45) ≤ 16 * s3 l ∧ 16 * s3 l ≤ E + 45) := by
  have a := tdiv16 (l * 7)
  have b := tdiv16 (l * 3)
  have c := tdiv16 (l * 5)
  unfold s3 s0 s1 s2
  generalize (l * 7).tdiv 16 = x at *
  generalize (l * 3).tdiv 16 = y at *
  generalize (l * 5).tdiv 16 = z at *
  omega

def dotOf (v : Int) : Int := if 4080 ≤ 2 * v then 255 else 0
def lft (v : Int) : Int := v - 16 * dotOf v

theorem lft_bounds {v R : Int} (hR : 2040 ≤ R) (h1 : -R ≤ v) (h2 : v ≤ 4080 + R) : -R ≤ lft v ∧ lft v ≤ R := by
  unfold lft dotOf
  split <;> omega
theorem dot_01 (v : Int) : dotOf v = 0 ∨ dotOf v = 255 := by unfold dotOf; split <;> simp

section
variable (W : Nat) (G : Nat → Int)

def r0 (L : Nat → Int) (i : Nat) : Int := if 0 < i % W then s0 (L (i - 1)) else 0
def r1 (L : Nat → Int) (i : Nat) : Int := if W ≤ i ∧ i % W + 1 < W then s1 (L (i - W + 1)) else 0
def r2 (L : Nat → Int) (i : Nat) : Int := if W ≤ i then s2 (L (i - W)) else 0
def r3 (L : Nat → Int) (i : Nat) : Int := if W ≤ i ∧ 0 < i % W then s3 (L (i - W - 1)) else 0
/-- 16 times the number, and what its neighbours give -/
def vG (L : Nat → Int) (i : Nat) : Int := 16 * G i + (r0 W L i + r1 W L i + r2 W L i + r3 W L i)

def lefs : Nat → List Int
  | 0 => []
  | k + 1 => lefs k ++ [lft (vG W G (fun j => (lefs k).getD j 0) k)]
/-- what is left of dot i -/
def lef (i : Nat) : Int := (lefs W G (i + 1)).getD i 0
/-- its v -/
def vv (i : Nat) : Int := vG W G (lef W G) i

theorem lefs_len (k : Nat) : (lefs W G k).length = k := by
  induction k with
  | zero => rfl
  | succ k ih => simp [lefs, ih]
theorem lefs_getD {k j : Nat} (h : j < k) : (lefs W G k).getD j 0 = lef W G j := by
  induction k with
  | zero => omega
  | succ k ih =>
    by_cases e : j = k
    · subst e; rfl
    · have := ih (by omega)
      rw [← this]
      simp only [lefs, List.getD_eq_getElem?_getD]
      rw [List.getElem?_append_left (by rw [lefs_len]; omega)]
theorem lefs_eq (k : Nat) : lefs W G k = (List.range k).map (lef W G) := by
  apply List.ext_getElem?
  intro j
  by_cases h : j < k
  · have h1 := lefs_getD W G h
    rw [List.getD_eq_getElem?_getD, List.getElem?_eq_getElem (by rw [lefs_len]; exact h)] at h1
    simp at h1
    rw [List.getElem?_eq_getElem (by rw [lefs_len]; exact h), h1]
    simp [h]
  · rw [List.getElem?_eq_none (by rw [lefs_len]; omega), List.getElem?_eq_none (by simp; omega)]

theorem mod_pos_le {i : Nat} (h : 0 < i % W) : 1 ≤ i := by
  rcases Nat.eq_zero_or_pos i with rfl | h'
  · simp at h
  · exact h'
theorem mod_pos_W {i : Nat} (hW : 0 < W) (h : 0 < i % W) (hi : W ≤ i) : W + 1 ≤ i := by
  rcases Nat.lt_or_ge W i with h' | h'
  · exact h'
  · have : i = W := by omega
    subst this; simp at h

theorem vG_congr {L L' : Nat → Int} {i : Nat} (hW : 0 < W) (h : ∀ j, j < i → L j = L' j) : vG W G L i = vG W G L' i := by
  unfold vG r0 r1 r2 r3
  have e0 : (if 0 < i % W then s0 (L (i - 1)) else 0) = if 0 < i % W then s0 (L' (i - 1)) else 0 := by
    split
    · rename_i hc; have := mod_pos_le W hc; rw [h _ (by omega)]
    · rfl
  have e1 : (if W ≤ i ∧ i % W + 1 < W then s1 (L (i - W + 1)) else 0) = if W ≤ i ∧ i % W + 1 < W then s1 (L' (i - W + 1)) else 0 := by
    split
    · rename_i hc; rw [h _ (by omega)]
    · rfl
  have e2 : (if W ≤ i then s2 (L (i - W)) else 0) = if W ≤ i then s2 (L' (i - W)) else 0 := by
    split
    · rename_i hc; rw [h _ (by omega)]
    · rfl
  have e3 : (if W ≤ i ∧ 0 < i % W then s3 (L (i - W - 1)) else 0) = if W ≤ i ∧ 0 < i % W then s3 (L' (i - W - 1)) else 0 := by
    split
    · rename_i hc; rw [h _ (by omega)]
    · rfl
  rw [e0, e1, e2, e3]

theorem lef_eq (hW : 0 < W) (i : Nat) : lef W G i = lft (vv W G i) := by
  have : lef W G i = lft (vG W G (fun j => (lefs W G i).getD j 0) i) := by
    unfold lef
    rw [lefs, List.getD_eq_getElem?_getD, List.getElem?_append_right (by rw [lefs_len]; omega)]
    simp [lefs_len]
  rw [this]
  unfold vv
  rw [vG_congr W G hW (L' := lef W G) (fun j hj => lefs_getD W G hj)]

/-- what is left stays small -/
theorem lef_bounds (hW : 0 < W) (hG : ∀ i, 0 ≤ G i ∧ G i ≤ 255) (i : Nat) : -(2040 + 3 * (i : Int)) ≤ lef W G i ∧ lef W G i ≤ 2040 + 3 * (i : Int) := by
  induction i using Nat.strongRecOn with
  | _ i ih =>
    rw [lef_eq W G hW]
    have hg := hG i
    have key : ∀ j, j < i → -(2040 + 3 * ((i : Int) - 1)) ≤ lef W G j ∧ lef W G j ≤ 2040 + 3 * ((i : Int) - 1) := fun j hj => by
      have := ih j hj
      omega
    have b0 : -(7 * (2040 + 3 * ((i : Int) - 1))) ≤ 16 * r0 W (lef W G) i ∧ 16 * r0 W (lef W G) i ≤ 7 * (2040 + 3 * ((i : Int) - 1)) ∨ r0 W (lef W G) i = 0 := by
      unfold r0; split
      · rename_i hc; have := mod_pos_le W hc
        obtain ⟨k1, k2⟩ := key (i - 1) (by omega)
        exact .inl (share_bounds k1 k2).1
      · exact .inr rfl
    have b1 : -(3 * (2040 + 3 * ((i : Int) - 1))) ≤ 16 * r1 W (lef W G) i ∧ 16 * r1 W (lef W G) i ≤ 3 * (2040 + 3 * ((i : Int) - 1)) ∨ r1 W (lef W G) i = 0 := by
      unfold r1; split
      · rename_i hc
        obtain ⟨k1, k2⟩ := key (i - W + 1) (by omega)
        exact .inl (share_bounds k1 k2).2.1
      · exact .inr rfl
    have b2 : -(5 * (2040 + 3 * ((i : Int) - 1))) ≤ 16 * r2 W (lef W G) i ∧ 16 * r2 W (lef W G) i ≤ 5 * (2040 + 3 * ((i : Int) - 1)) ∨ r2 W (lef W G) i = 0 := by
      unfold r2; split
      · rename_i hc
        obtain ⟨k1, k2⟩ := key (i - W) (by omega)
        exact .inl (share_bounds k1 k2).2.2.1
      · exact .inr rfl
    have b3 : -((2040 + 3 * ((i : Int) - 1)) + 45) ≤ 16 * r3 W (lef W G) i ∧ 16 * r3 W (lef W G) i ≤ (2040 + 3 * ((i : Int) - 1)) + 45 ∨ r3 W (lef W G) i = 0 := by
      unfold r3; split
      · rename_i hc
        have := mod_pos_W W hW hc.2 hc.1
        obtain ⟨k1, k2⟩ := key (i - W - 1) (by omega)
        exact .inl (share_bounds k1 k2).2.2.2
      · exact .inr rfl
    apply lft_bounds (by omega)
    · unfold vv vG; omega
    · unfold vv vG; omega

end
end Go.Proofs.Ytmjhhaejiabkdaa
