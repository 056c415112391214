/- Sorting in place, plain: blocks in order. -/
import Derived.Test.YtaacfjeddoekfaaSortPlain2
namespace Go.Proofs.Ytaacfjeddoekfaa
set_option linter.unusedVariables false

/-- the block of s places from a on is in order, and what stands there is what stood there -/
structure Good (key : Int → Int) (h : Nat → Int) (n s a : Nat) : Prop where
  sd : Sd key h a (min (a + s) n)
  inb : ∀ p, a ≤ p → p < min (a + s) n → (a : Int) ≤ h p ∧ h p < (a : Int) + (s : Int)
section
variable {key : Int → Int} {n : Nat}
theorem Good.congr {h g : Nat → Int} {s a : Nat} (k : Good key h n s a) (e : ∀ p, a ≤ p → p < a + s → p < n → g p = h p) : Good key g n s a :=
  ⟨k.sd.congr fun p h1 h2 => e p h1 (by omega) (by omega), fun p h1 h2 => by rw [e p h1 (by omega) (by omega)]; exact k.inb p h1 h2⟩
theorem Good.empty (h : Nat → Int) {s a : Nat} (ha : n ≤ a) : Good key h n s a := ⟨fun i j p q r => by omega, fun p h1 h2 => by omega⟩
/-- one block alone, put in order by insertion -/
theorem Good.one {f h : Nat → Int} {s a b : Nat} (hf : ∀ p, a ≤ p → p < b → f p = p) (hb : b = min (a + s) n) (hr : Rear f h a b) (hs : Sd key h a b) : Good key h n s a := by
  refine ⟨hb ▸ hs, fun p h1 h2 => ?_⟩
  obtain ⟨j, k1, k2, e⟩ := hr.in_ h1 (show p < b by omega)
  rw [e, hf j k1 k2]
  omega
theorem Good.pre {h : Nat → Int} {s a b : Nat} (k1 : Good key h n s a) (k2 : Good key h n s (a + s)) (hab : a + s < b) (hb : b = min (a + 2 * s) n) : Pre key h a (a + s) b := by
  refine ⟨k1.sd.mono (Nat.le_refl _) (by omega), k2.sd.mono (Nat.le_refl _) (by omega), fun i j p q r t => ?_⟩
  have h1 := k1.inb i p (by omega)
  have h2 := k2.inb j r (by omega)
  omega
theorem Good.both {h g : Nat → Int} {s a b : Nat} (k1 : Good key h n s a) (k2 : Good key h n s (a + s)) (hb : b = min (a + 2 * s) n) (hr : Rear h g a b) (hs : Sd key g a b) : Good key g n (2 * s) a := by
  refine ⟨hb ▸ hs, fun p h1 h2 => ?_⟩
  obtain ⟨j, q1, q2, e⟩ := hr.in_ h1 (show p < b by omega)
  rw [e]
  by_cases hj : j < a + s
  · have := k1.inb j q1 (by omega)
    omega
  · have := k2.inb j (by omega) (by omega)
    omega
theorem Good.wide {h : Nat → Int} {s a : Nat} (k : Good key h n s a) (hn : n ≤ a + s) : Good key h n (2 * s) a := by
  refine ⟨k.sd.mono (Nat.le_refl _) (by omega), fun p h1 h2 => ?_⟩
  have := k.inb p h1 (by omega)
  omega

/-- all blocks of s places -/
def AllGood (key : Int → Int) (h : Nat → Int) (n s : Nat) : Prop := ∀ t, Good key h n s (t * s)
/-- the first u blocks of 2 s places; behind them blocks of s places -/
def Half (key : Int → Int) (h : Nat → Int) (n s a : Nat) : Prop := ∃ u, a = u * (2 * s) ∧ (∀ t, t < u → Good key h n (2 * s) (t * (2 * s))) ∧ ∀ t, 2 * u ≤ t → Good key h n s (t * s)
theorem AllGood.half {h : Nat → Int} {s : Nat} (k : AllGood key h n s) : Half key h n s 0 := ⟨0, by simp, fun t ht => by omega, fun t _ => k t⟩
theorem two_mul_blk (u s : Nat) : (2 * u) * s = u * (2 * s) := by rw [Nat.mul_comm 2 u, Nat.mul_assoc]
theorem Half.at_ {h : Nat → Int} {s a : Nat} (k : Half key h n s a) : Good key h n s a ∧ Good key h n s (a + s) := by
  obtain ⟨u, rfl, h1, h2⟩ := k
  have e1 := h2 (2 * u) (Nat.le_refl _)
  have e2 := h2 (2 * u + 1) (by omega)
  rw [two_mul_blk] at e1
  rw [Nat.add_mul, Nat.one_mul, two_mul_blk] at e2
  exact ⟨e1, e2⟩
theorem Half.next {h g : Nat → Int} {s a b : Nat} (k : Half key h n s a) (hb : b = min (a + 2 * s) n) (hr : Rear h g a b) (hs : Sd key g a b) : Half key g n s (a + 2 * s) := by
  obtain ⟨k1, k2⟩ := k.at_
  obtain ⟨u, ha, h1, h2⟩ := k
  refine ⟨u + 1, by rw [Nat.add_mul, Nat.one_mul, ha], fun t ht => ?_, fun t ht => ?_⟩
  · rcases Nat.lt_or_eq_of_le (Nat.le_of_lt_succ ht) with h3 | rfl
    · have h4 : (t + 1) * (2 * s) ≤ u * (2 * s) := Nat.mul_le_mul_right _ h3
      rw [Nat.add_mul, Nat.one_mul, ← ha] at h4
      exact (h1 t h3).congr fun p _ h5 _ => hr.out (.inl (by omega))
    · rw [← ha]; exact Good.both k1 k2 hb hr hs
  · have h4 : (2 * (u + 1)) * s ≤ t * s := Nat.mul_le_mul_right _ ht
    rw [two_mul_blk, Nat.add_mul, Nat.one_mul, ← ha] at h4
    exact (h2 t (by omega)).congr fun p h5 _ h6 => hr.out (.inr (by omega))
theorem Half.done {h : Nat → Int} {s a : Nat} (k : Half key h n s a) (hn : n ≤ a) : AllGood key h n (2 * s) := by
  obtain ⟨u, ha, h1, h2⟩ := k
  intro t
  rcases Nat.lt_or_ge t u with h3 | h3
  · exact h1 t h3
  · have h4 : u * (2 * s) ≤ t * (2 * s) := Nat.mul_le_mul_right _ h3
    exact Good.empty h (by omega)
theorem Half.last {h : Nat → Int} {s a : Nat} (k : Half key h n s a) (hn : n ≤ a + s) : AllGood key h n (2 * s) := by
  have k1 := k.at_.1
  obtain ⟨u, ha, h1, h2⟩ := k
  intro t
  rcases Nat.lt_trichotomy t u with h3 | rfl | h3
  · exact h1 t h3
  · rw [← ha]; exact k1.wide hn
  · have h4 : (u + 1) * (2 * s) ≤ t * (2 * s) := Nat.mul_le_mul_right _ h3
    rw [Nat.add_mul, Nat.one_mul, ← ha] at h4
    exact Good.empty h (by omega)
theorem AllGood.end_ {h : Nat → Int} {s : Nat} (k : AllGood key h n s) (hn : n ≤ s) : Sd key h 0 n := by
  have := (k 0).sd
  rw [Nat.zero_mul] at this
  exact this.mono (Nat.le_refl _) (by omega)

/-- the first u blocks of 20 are in order; what is behind them stands as it stood -/
def Part (key : Int → Int) (h : Nat → Int) (n a : Nat) : Prop := ∃ u, a = u * 20 ∧ (∀ t, t < u → Good key h n 20 (t * 20)) ∧ ∀ p, a ≤ p → p < n → h p = p
theorem Part.start {f : Nat → Int} (hf : ∀ p, p < n → f p = p) : Part key f n 0 := ⟨0, by simp, fun t ht => by omega, fun p _ h => hf p h⟩
theorem Part.next {h g : Nat → Int} {a b : Nat} (k : Part key h n a) (hb : b = min (a + 20) n) (hr : Rear h g a b) (hs : Sd key g a b) : Part key g n (a + 20) := by
  obtain ⟨u, ha, h1, h2⟩ := k
  refine ⟨u + 1, by omega, fun t ht => ?_, fun p h3 h4 => by rw [hr.out (.inr (by omega))]; exact h2 p (by omega) h4⟩
  rcases Nat.lt_or_eq_of_le (Nat.le_of_lt_succ ht) with h3 | rfl
  · exact (h1 t h3).congr fun p _ h5 _ => hr.out (.inl (by omega))
  · rw [← ha]; exact Good.one (fun p h3 h4 => h2 p h3 (by omega)) hb hr hs
theorem Part.done {h : Nat → Int} {a : Nat} (k : Part key h n a) (hn : n ≤ a) : AllGood key h n 20 := by
  obtain ⟨u, ha, h1, h2⟩ := k
  intro t
  rcases Nat.lt_or_ge t u with h3 | h3
  · exact h1 t h3
  · exact Good.empty h (by omega)
end
end Go.Proofs.Ytaacfjeddoekfaa
