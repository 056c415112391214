/- Sorting in place, plain: what stands where, as a function of the place. -/
import Derived.Test.YtaacfjeddoekfaaLib
namespace Go.Proofs.Ytaacfjeddoekfaa
set_option linter.unusedVariables false

/-- places i and j exchanged -/
def swp (f : Nat → Int) (i j : Nat) : Nat → Int := fun k => if k = i then f j else if k = j then f i else f k
/-- n places from a on exchanged with those from b on -/
def swpR (f : Nat → Int) (a b n : Nat) : Nat → Int := fun k => if a ≤ k ∧ k < a + n then f (k - a + b) else if b ≤ k ∧ k < b + n then f (k - b + a) else f k
theorem swpR_zero (f : Nat → Int) (a b : Nat) : swpR f a b 0 = f := by
  funext k
  unfold swpR
  rw [if_neg (by omega), if_neg (by omega)]
theorem swpR_succ (f : Nat → Int) {a b n : Nat} (h : a + n < b) : swp (swpR f a b n) (a + n) (b + n) = swpR f a b (n + 1) := by
  funext k
  unfold swp swpR
  by_cases h1 : k = a + n
  · subst h1
    rw [if_pos rfl, if_neg (by omega), if_neg (by omega), if_pos (by omega)]
    congr 1; omega
  · rw [if_neg h1]
    by_cases h2 : k = b + n
    · subst h2
      rw [if_pos rfl, if_neg (by omega), if_neg (by omega), if_neg (by omega), if_pos (by omega)]
      congr 1; omega
    · rw [if_neg h2]
      by_cases h3 : a ≤ k ∧ k < a + n
      · rw [if_pos h3, if_pos (by omega)]
      · rw [if_neg h3, if_neg (show ¬ (a ≤ k ∧ k < a + (n + 1)) by omega)]
        by_cases h4 : b ≤ k ∧ k < b + n
        · rw [if_pos h4, if_pos (by omega)]
        · rw [if_neg h4, if_neg (by omega)]
/-- what stands in [a, m) goes behind what stands in [m, b) -/
def rot (f : Nat → Int) (a m b : Nat) : Nat → Int := fun k => if a ≤ k ∧ k < a + (b - m) then f (k + (m - a)) else if a + (b - m) ≤ k ∧ k < b then f (k - (b - m)) else f k
theorem rot_gt (f : Nat → Int) {m i j : Nat} (hi : i ≤ m) (hij : j < i) : rot (swpR f (m - i) m j) (m - (i - j)) m (m + j) = rot f (m - i) m (m + j) := by
  funext k
  unfold rot swpR
  rw [show m + j - m = j by omega, show m - (m - (i - j)) = i - j by omega, show m - (m - i) = i by omega]
  by_cases h1 : m - i ≤ k ∧ k < m - i + j
  · rw [if_neg (by omega), if_neg (show ¬ (m - (i - j) + j ≤ k ∧ k < m + j) by omega), if_pos h1, if_pos h1]
    congr 1; omega
  · rw [if_neg (show ¬ (m - i ≤ k ∧ k < m - i + j) by omega)]
    by_cases h2 : m - i + j ≤ k ∧ k < m + j
    · rw [if_pos (show m - i + j ≤ k ∧ k < m + j by omega)]
      by_cases h3 : m - (i - j) ≤ k ∧ k < m - (i - j) + j
      · rw [if_pos h3]
        by_cases h4 : m ≤ k + (i - j) ∧ k + (i - j) < m + j
        · rw [if_neg (by omega), if_pos h4, if_neg h1]; congr 1; omega
        · exact absurd h3 (by omega)
      · rw [if_neg h3, if_pos (by omega)]
        by_cases h4 : m ≤ k - j ∧ k - j < m + j
        · exact absurd h2 (by omega)
        · rw [if_neg h4]
          by_cases h5 : m - i ≤ k - j ∧ k - j < m - i + j
          · exact absurd h3 (by omega)
          · rw [if_neg h5, if_neg h1]
    · rw [if_neg h2, if_neg (by omega), if_neg (by omega), if_neg (by omega), if_neg (by omega)]
theorem rot_lt (f : Nat → Int) {m i j : Nat} (hi : i ≤ m) (hij : i < j) : rot (swpR f (m - i) (m + j - i) i) (m - i) m (m + (j - i)) = rot f (m - i) m (m + j) := by
  funext k
  unfold rot swpR
  rw [show m + (j - i) - m = j - i by omega, show m + j - m = j by omega, show m - (m - i) = i by omega]
  by_cases h1 : m - i ≤ k ∧ k < m - i + (j - i)
  · rw [if_pos h1, if_pos (show m - i ≤ k ∧ k < m - i + j by omega)]
    by_cases h2 : m + j - i ≤ k + i ∧ k + i < m + j - i + i
    · rw [if_neg (by omega), if_pos h2]; omega
    · rw [if_neg (by omega), if_neg h2]
  · rw [if_neg h1]
    by_cases h2 : m - i + (j - i) ≤ k ∧ k < m + (j - i)
    · rw [if_pos h2]
      by_cases h3 : m - i ≤ k - (j - i) ∧ k - (j - i) < m - i + i
      · rw [if_pos h3]
        rw [if_pos (by omega)]
        congr 1; omega
      · omega
    · rw [if_neg h2]
      by_cases h3 : m + j - i ≤ k ∧ k < m + j - i + i
      · rw [if_neg (by omega), if_pos h3, if_neg (by omega), if_pos (by omega)]
        congr 1; omega
      · rw [if_neg (by omega), if_neg h3, if_neg (by omega), if_neg (by omega)]
theorem rot_eq (f : Nat → Int) {m i : Nat} (hi : i ≤ m) : swpR f (m - i) m i = rot f (m - i) m (m + i) := by
  funext k
  unfold rot swpR
  rw [show m + i - m = i by omega, show m - (m - i) = i by omega]
  by_cases h1 : m - i ≤ k ∧ k < m - i + i
  · rw [if_pos h1, if_pos h1]; congr 1; omega
  · rw [if_neg h1, if_neg h1]
    by_cases h2 : m ≤ k ∧ k < m + i
    · rw [if_pos h2, if_pos (by omega)]; congr 1; omega
    · rw [if_neg h2, if_neg (by omega)]

/-- g is f, with what stands in [a, b) put in another order -/
def Rear (f g : Nat → Int) (a b : Nat) : Prop := ∃ σ τ : Nat → Nat, (∀ k, σ (τ k) = k) ∧ (∀ k, τ (σ k) = k) ∧ (∀ k, k < a ∨ b ≤ k → σ k = k) ∧ ∀ k, g k = f (σ k)
theorem Rear.refl (f : Nat → Int) (a b : Nat) : Rear f f a b := ⟨id, id, fun _ => rfl, fun _ => rfl, fun _ _ => rfl, fun _ => rfl⟩
theorem Rear.trans {f g h : Nat → Int} {a b : Nat} (p : Rear f g a b) (q : Rear g h a b) : Rear f h a b := by
  obtain ⟨σ, τ, h1, h2, h3, h4⟩ := p
  obtain ⟨σ', τ', k1, k2, k3, k4⟩ := q
  exact ⟨fun k => σ (σ' k), fun k => τ' (τ k), fun k => by show σ (σ' (τ' (τ k))) = k; rw [k1, h1], fun k => by show τ' (τ (σ (σ' k))) = k; rw [h2, k2], fun k hk => by show σ (σ' k) = k; rw [k3 k hk, h3 k hk], fun k => by show h k = f (σ (σ' k)); rw [k4, h4]⟩
theorem Rear.mono {f g : Nat → Int} {a b a' b' : Nat} (p : Rear f g a b) (ha : a' ≤ a) (hb : b ≤ b') : Rear f g a' b' := by
  obtain ⟨σ, τ, h1, h2, h3, h4⟩ := p
  exact ⟨σ, τ, h1, h2, fun k hk => h3 k (by omega), h4⟩
theorem Rear.out {f g : Nat → Int} {a b k : Nat} (p : Rear f g a b) (hk : k < a ∨ b ≤ k) : g k = f k := by
  obtain ⟨σ, τ, h1, h2, h3, h4⟩ := p
  rw [h4, h3 k hk]
theorem Rear.in_ {f g : Nat → Int} {a b k : Nat} (p : Rear f g a b) (h1 : a ≤ k) (h2 : k < b) : ∃ j, a ≤ j ∧ j < b ∧ g k = f j := by
  obtain ⟨σ, τ, q1, q2, q3, q4⟩ := p
  refine ⟨σ k, ?_, ?_, q4 k⟩
  · rcases Nat.lt_or_ge (σ k) a with h | h
    · have := q3 (σ k) (.inl h)
      have e : σ k = k := by have := congrArg τ this; rw [q2, q2] at this; exact this
      omega
    · exact h
  · rcases Nat.lt_or_ge (σ k) b with h | h
    · exact h
    · have := q3 (σ k) (.inr h)
      have e : σ k = k := by have := congrArg τ this; rw [q2, q2] at this; exact this
      omega
theorem Rear.swp (f : Nat → Int) {a b i j : Nat} (hi : a ≤ i ∧ i < b) (hj : a ≤ j ∧ j < b) : Rear f (swp f i j) a b := by
  refine ⟨fun k => if k = i then j else if k = j then i else k, fun k => if k = i then j else if k = j then i else k, ?_, ?_, ?_, ?_⟩
  · intro k
    by_cases h1 : k = i
    · subst h1
      simp only [if_true]
      by_cases h2 : j = k
      · simp [h2]
      · simp [h2]
    · simp only [h1, if_false]
      by_cases h2 : k = j
      · simp [h2]
      · simp [h1, h2]
  · intro k
    by_cases h1 : k = i
    · subst h1
      simp only [if_true]
      by_cases h2 : j = k
      · simp [h2]
      · simp [h2]
    · simp only [h1, if_false]
      by_cases h2 : k = j
      · simp [h2]
      · simp [h1, h2]
  · intro k hk
    dsimp only
    rw [if_neg (by omega), if_neg (by omega)]
  · intro k
    unfold Go.Proofs.Ytaacfjeddoekfaa.swp
    dsimp only
    split
    · rfl
    · split <;> rfl
theorem Rear.swpR (f : Nat → Int) {a b c d : Nat} (n : Nat) (h1 : c ≤ a) (h2 : a + n ≤ b) (h3 : b + n ≤ d) : Rear f (swpR f a b n) c d := by
  induction n with
  | zero => rw [swpR_zero]; exact .refl _ _ _
  | succ n ih =>
    rw [← swpR_succ f (by omega)]
    exact (ih (by omega) (by omega)).trans (Rear.swp _ (by omega) (by omega))
theorem Rear.rot (f : Nat → Int) {a m b : Nat} (h1 : a ≤ m) (h2 : m ≤ b) : Rear f (rot f a m b) a b := by
  refine ⟨fun k => if a ≤ k ∧ k < a + (b - m) then k + (m - a) else if a + (b - m) ≤ k ∧ k < b then k - (b - m) else k,
    fun k => if a ≤ k ∧ k < m then k + (b - m) else if m ≤ k ∧ k < b then k - (m - a) else k, ?_, ?_, ?_, ?_⟩
  · intro k
    by_cases c1 : a ≤ k ∧ k < m
    · simp only [if_pos c1]; rw [if_neg (by omega), if_pos (by omega)]; omega
    · simp only [if_neg c1]
      by_cases c2 : m ≤ k ∧ k < b
      · simp only [if_pos c2]; rw [if_pos (by omega)]; omega
      · simp only [if_neg c2]; rw [if_neg (by omega), if_neg (by omega)]
  · intro k
    by_cases c1 : a ≤ k ∧ k < a + (b - m)
    · simp only [if_pos c1]; rw [if_neg (by omega), if_pos (by omega)]; omega
    · simp only [if_neg c1]
      by_cases c2 : a + (b - m) ≤ k ∧ k < b
      · simp only [if_pos c2]; rw [if_pos (by omega)]; omega
      · simp only [if_neg c2]; rw [if_neg (by omega), if_neg (by omega)]
  · intro k hk
    dsimp only
    rw [if_neg (by omega), if_neg (by omega)]
  · intro k
    unfold Go.Proofs.Ytaacfjeddoekfaa.rot
    dsimp only
    split
    · rfl
    · split <;> rfl
end Go.Proofs.Ytaacfjeddoekfaa
