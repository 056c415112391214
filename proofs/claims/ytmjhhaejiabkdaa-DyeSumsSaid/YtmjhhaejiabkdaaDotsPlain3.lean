/- Chapter 15, plain: giving to the neighbours, dot by dot. -/
import Derived.Test.YtmjhhaejiabkdaaDotsPlain2
namespace Go.Proofs.Ytmjhhaejiabkdaa
set_option linter.unusedVariables false

def hit (W i N : Nat) (x y : Int) : Prop := 0 ≤ ((i % W : Nat) : Int) + x ∧ ((i % W : Nat) : Int) + x < W ∧ (i : Int) + y * W + x < N
instance (W i N : Nat) (x y : Int) : Decidable (hit W i N x y) := by unfold hit; infer_instance
def goal (W i : Nat) (x y : Int) : Nat := ((i : Int) + y * W + x).toNat
def gvD (W i : Nat) (x y n : Int) (due : List Int) : List Int :=
  if hit W i due.length x y then due.set (goal W i x y) (due.getD (goal W i x y) 0 + n) else due
def gvL (W i : Nat) (x y n : Int) (due : List Int) : Int := if hit W i due.length x y then 0 else n

theorem gvD_len (W i : Nat) (x y n : Int) (due : List Int) : (gvD W i x y n due).length = due.length := by unfold gvD; split <;> simp

theorem gvD_get (W i : Nat) (x y n : Int) (due : List Int) {k : Nat} (hk : k < due.length) :
    (gvD W i x y n due).getD k 0 = due.getD k 0 + (if hit W i due.length x y ∧ k = goal W i x y then n else 0) := by
  unfold gvD
  by_cases h : hit W i due.length x y
  · rw [if_pos h]
    by_cases e : k = goal W i x y
    · rw [if_pos ⟨h, e⟩, ← e]
      simp [List.getD_eq_getElem?_getD, hk]
    · rw [if_neg (fun z => e z.2)]
      simp [List.getD_eq_getElem?_getD, Ne.symm e]
  · rw [if_neg h, if_neg (fun z => h z.1)]; simp

/-- all numbers of the list lie between -E and E -/
def Small (E : Int) (l : List Int) : Prop := ∀ k, k < l.length → -E ≤ l.getD k 0 ∧ l.getD k 0 ≤ E
theorem gvD_small {W i : Nat} {x y n E F : Int} {due : List Int} (h : Small E due) (hn : -F ≤ n ∧ n ≤ F) (hF : 0 ≤ F) : Small (E + F) (gvD W i x y n due) := by
  intro k hk
  rw [gvD_len] at hk
  rw [gvD_get W i x y n due hk]
  have := h k hk
  split <;> omega

section
variable (W N : Nat) (L : Nat → Int)
theorem Dg_small {W : Nat} {L : Nat → Int} {i k N : Nat} (hk : k < N) (h : ∀ j, j < N → -262144 ≤ L j ∧ L j ≤ 262144) : -1048576 ≤ Dg W L i k ∧ Dg W L i k ≤ 1048576 := by
  have b0 := share_bounds (h (k - 1) (by omega)).1 (h (k - 1) (by omega)).2
  have b2 := share_bounds (h (k - W) (by omega)).1 (h (k - W) (by omega)).2
  have b3 := share_bounds (h (k - W - 1) (by omega)).1 (h (k - W - 1) (by omega)).2
  unfold Dg
  by_cases h1 : W ≤ k ∧ k % W + 1 < W
  · have b1 := share_bounds (h (k - W + 1) (by omega)).1 (h (k - W + 1) (by omega)).2
    (repeat' split) <;> omega
  · rw [if_neg (c := W ≤ k ∧ k % W + 1 < W ∧ k - W + 1 < i) (fun z => h1 ⟨z.1, z.2.1⟩)]
    (repeat' split) <;> omega

/-- the four neighbours of i are given what is theirs, and the rest is lost -/
theorem four (hW : 0 < W) (hN : N % W = 0) {i : Nat} (hi : i < N) {due : List Int} (hl : due.length = N) (h : ∀ k, i ≤ k → k < N → due.getD k 0 = Dg W L i k) :
    (∀ k, i + 1 ≤ k → k < N → (gvD W i 1 1 (s3 (L i)) (gvD W i 0 1 (s2 (L i)) (gvD W i (-1) 1 (s1 (L i)) (gvD W i 1 0 (s0 (L i)) due)))).getD k 0 = Dg W L (i + 1) k) ∧
    gvL W i 1 0 (s0 (L i)) due + gvL W i (-1) 1 (s1 (L i)) (gvD W i 1 0 (s0 (L i)) due) + gvL W i 0 1 (s2 (L i)) (gvD W i (-1) 1 (s1 (L i)) (gvD W i 1 0 (s0 (L i)) due)) +
      gvL W i 1 1 (s3 (L i)) (gvD W i 0 1 (s2 (L i)) (gvD W i (-1) 1 (s1 (L i)) (gvD W i 1 0 (s0 (L i)) due))) = lostAt W N L i := by
  have hx := Nat.mod_lt i hW
  have e0 := @edge0 W N hW hN i hi
  have e1 := @edge1 W N hN i
  have e3 := @edge3 W N hW hN i
  have q0 : hit W i N 1 0 ↔ i % W + 1 < W := by
    unfold hit
    constructor
    · intro h; omega
    · intro h; have := e0 h; omega
  have q1 : hit W i N (-1) 1 ↔ 1 ≤ i % W ∧ i + W < N + 1 ∧ i + W ≠ N := by
    unfold hit
    constructor
    · intro h; refine ⟨by omega, by omega, e1 (by omega)⟩
    · intro h; omega
  have q2 : hit W i N 0 1 ↔ i + W < N := by
    unfold hit
    omega
  have q3 : hit W i N 1 1 ↔ i % W + 1 < W ∧ i + W < N := by
    unfold hit
    constructor
    · intro h; omega
    · intro h; have := e3 h.1; omega
  have g0 : goal W i 1 0 = i + 1 := by unfold goal; omega
  have g1 : 1 ≤ i % W → goal W i (-1) 1 + 1 = i + W := by intro h; have := mod_pos_le W (i := i) (by omega); unfold goal; omega
  have g2 : goal W i 0 1 = i + W := by unfold goal; omega
  have g3 : goal W i 1 1 = i + W + 1 := by unfold goal; omega
  constructor
  · intro k hik hk
    rw [gvD_get _ _ _ _ _ _ (by simp only [gvD_len]; omega), gvD_get _ _ _ _ _ _ (by simp only [gvD_len]; omega), gvD_get _ _ _ _ _ _ (by simp only [gvD_len]; omega), gvD_get _ _ _ _ _ _ (by omega)]
    simp only [gvD_len, hl]
    rw [h k (by omega) hk, Dg_succ W L hW (by omega)]
    have t0 : (if hit W i N 1 0 ∧ k = goal W i 1 0 then s0 (L i) else 0) = if k = i + 1 ∧ i % W + 1 < W then s0 (L i) else 0 := by
      by_cases c : k = i + 1 ∧ i % W + 1 < W
      · rw [if_pos c, if_pos ⟨q0.2 c.2, by omega⟩]
      · rw [if_neg c, if_neg (fun z => c ⟨by omega, q0.1 z.1⟩)]
    have t1 : (if hit W i N (-1) 1 ∧ k = goal W i (-1) 1 then s1 (L i) else 0) = if k + 1 = i + W ∧ 1 ≤ i % W then s1 (L i) else 0 := by
      by_cases c : k + 1 = i + W ∧ 1 ≤ i % W
      · have a1 := g1 c.2
        have a2 := e1 c.2
        rw [if_pos c, if_pos ⟨q1.2 ⟨c.2, by omega, a2⟩, by omega⟩]
      · rw [if_neg c, if_neg]
        rintro ⟨z1, z2⟩
        have z3 := q1.1 z1
        have a1 := g1 z3.1
        exact c ⟨by omega, z3.1⟩
    have t2 : (if hit W i N 0 1 ∧ k = goal W i 0 1 then s2 (L i) else 0) = if k = i + W then s2 (L i) else 0 := by
      by_cases c : k = i + W
      · rw [if_pos c, if_pos ⟨q2.2 (by omega), by omega⟩]
      · rw [if_neg c, if_neg (fun z => c (by omega))]
    have t3 : (if hit W i N 1 1 ∧ k = goal W i 1 1 then s3 (L i) else 0) = if k = i + W + 1 ∧ i % W + 1 < W then s3 (L i) else 0 := by
      by_cases c : k = i + W + 1 ∧ i % W + 1 < W
      · rw [if_pos c, if_pos ⟨q3.2 ⟨c.2, by omega⟩, by omega⟩]
      · rw [if_neg c, if_neg (fun z => c ⟨by omega, (q3.1 z.1).1⟩)]
    rw [t0, t1, t2, t3]
  · unfold gvL
    simp only [gvD_len, hl]
    unfold lostAt
    have t0 : (if hit W i N 1 0 then 0 else s0 (L i)) = if i % W + 1 = W then s0 (L i) else 0 := by
      by_cases c : i % W + 1 = W
      · rw [if_pos c, if_neg (by rw [q0]; omega)]
      · rw [if_neg c, if_pos (by rw [q0]; omega)]
    have t1 : (if hit W i N (-1) 1 then 0 else s1 (L i)) = if i % W = 0 ∨ N ≤ i + W then s1 (L i) else 0 := by
      by_cases c : i % W = 0 ∨ N ≤ i + W
      · rw [if_pos c, if_neg (by rw [q1]; omega)]
      · rw [if_neg c, if_pos (by rw [q1]; omega)]
    have t2 : (if hit W i N 0 1 then 0 else s2 (L i)) = if N ≤ i + W then s2 (L i) else 0 := by
      by_cases c : N ≤ i + W
      · rw [if_pos c, if_neg (by rw [q2]; omega)]
      · rw [if_neg c, if_pos (by rw [q2]; omega)]
    have t3 : (if hit W i N 1 1 then 0 else s3 (L i)) = if i % W + 1 = W ∨ N ≤ i + W then s3 (L i) else 0 := by
      by_cases c : i % W + 1 = W ∨ N ≤ i + W
      · rw [if_pos c, if_neg (by rw [q3]; omega)]
      · rw [if_neg c, if_pos (by rw [q3]; omega)]
    rw [t0, t1, t2, t3]
end

/-- behind j of the three neighbours: the list, what is lost, what is left to be given -/
def dJ (W i : Nat) (l : Int) (due : List Int) : Nat → List Int
  | 0 => due
  | 1 => gvD W i 1 0 (s0 l) due
  | 2 => gvD W i (-1) 1 (s1 l) (gvD W i 1 0 (s0 l) due)
  | _ => gvD W i 0 1 (s2 l) (gvD W i (-1) 1 (s1 l) (gvD W i 1 0 (s0 l) due))
def lJ (W i : Nat) (l : Int) (due : List Int) : Nat → Int
  | 0 => 0
  | 1 => gvL W i 1 0 (s0 l) due
  | 2 => gvL W i 1 0 (s0 l) due + gvL W i (-1) 1 (s1 l) (gvD W i 1 0 (s0 l) due)
  | _ => gvL W i 1 0 (s0 l) due + gvL W i (-1) 1 (s1 l) (gvD W i 1 0 (s0 l) due) + gvL W i 0 1 (s2 l) (gvD W i (-1) 1 (s1 l) (gvD W i 1 0 (s0 l) due))
def vJ (v l : Int) : Nat → Int
  | 0 => v
  | 1 => v - s0 l
  | 2 => v - s0 l - s1 l
  | _ => v - s0 l - s1 l - s2 l
theorem gvL_small {W i : Nat} {x y n F : Int} {due : List Int} (hn : -F ≤ n ∧ n ≤ F) (hF : 0 ≤ F) : -F ≤ gvL W i x y n due ∧ gvL W i x y n due ≤ F := by
  unfold gvL; split <;> omega
theorem Small.mono {E F : Int} {l : List Int} (h : Small E l) (hF : E ≤ F) : Small F l := fun k hk => by have := h k hk; omega
end Go.Proofs.Ytmjhhaejiabkdaa
