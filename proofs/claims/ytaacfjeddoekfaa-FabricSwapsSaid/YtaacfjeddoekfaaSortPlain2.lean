/- Sorting in place, plain: order by a key, what came first first; insertion; merging. -/
import Derived.Test.YtaacfjeddoekfaaSortPlain
namespace Go.Proofs.Ytaacfjeddoekfaa
set_option linter.unusedVariables false

def ltK (key : Int → Int) (x y : Int) : Prop := key x < key y ∨ key x = key y ∧ x < y
def Sd (key : Int → Int) (f : Nat → Int) (a b : Nat) : Prop := ∀ i j, a ≤ i → i < j → j < b → ltK key (f i) (f j)
/-- what stands in [a, m) came ahead of what stands in [m, b) -/
def Lo (f : Nat → Int) (a m b : Nat) : Prop := ∀ i j, a ≤ i → i < m → m ≤ j → j < b → f i < f j
def Asc (f : Nat → Int) (a b : Nat) : Prop := ∀ i j, a ≤ i → i < j → j < b → f i < f j
section
variable {key : Int → Int}
theorem ltK.trans {x y z : Int} (h : ltK key x y) (k : ltK key y z) : ltK key x z := by unfold ltK at *; omega
theorem ltK.le {x y : Int} (h : ltK key x y) : key x ≤ key y := by unfold ltK at *; omega
theorem Sd.le {f : Nat → Int} {a b i j : Nat} (h : Sd key f a b) (h1 : a ≤ i) (h2 : i ≤ j) (h3 : j < b) : key (f i) ≤ key (f j) := by
  rcases Nat.lt_or_eq_of_le h2 with h4 | rfl
  · exact (h i j h1 h4 h3).le
  · exact Int.le_refl _
theorem Sd.mono {f : Nat → Int} {a b a' b' : Nat} (h : Sd key f a b) (h1 : a ≤ a') (h2 : b' ≤ b) : Sd key f a' b' := fun i j p q r => h i j (by omega) q (by omega)
theorem Sd.small (f : Nat → Int) {a b : Nat} (h : b ≤ a + 1) : Sd key f a b := fun i j p q r => by omega
theorem Sd.congr {f g : Nat → Int} {a b : Nat} (h : Sd key f a b) (e : ∀ k, a ≤ k → k < b → g k = f k) : Sd key g a b := fun i j p q r => by rw [e i p (by omega), e j (by omega) r]; exact h i j p q r
theorem Lo.congr {f g : Nat → Int} {a m b : Nat} (h : Lo f a m b) (e : ∀ k, a ≤ k → k < b → g k = f k) (hm : m ≤ b) : Lo g a m b := fun i j p q r s => by rw [e i p (by omega), e j (by omega) s]; exact h i j p q r s

/-! ### insertion -/
structure Ins (key : Int → Int) (f g : Nat → Int) (a i j : Nat) (x : Int) : Prop where
  at_ : g j = x
  sd1 : ∀ p q, a ≤ p → p < q → q ≤ i → p ≠ j → q ≠ j → ltK key (g p) (g q)
  sd2 : ∀ q, j < q → q ≤ i → ltK key x (g q)
  lt : ∀ p, a ≤ p → p ≤ i → p ≠ j → g p < x
  rear : Rear f g a (i + 1)
theorem Ins.start {f h : Nat → Int} {a b i : Nat} (hf : Asc f a b) (hs : Sd key h a i) (hr : Rear f h a i) (hai : a ≤ i) (hib : i < b) : Ins key f h a i i (h i) := by
  refine ⟨rfl, fun p q h1 h2 h3 h4 h5 => hs p q h1 h2 (by omega), fun q h1 h2 => by omega, fun p h1 h2 h3 => ?_, hr.mono (Nat.le_refl _) (by omega)⟩
  obtain ⟨p', k1, k2, e⟩ := hr.in_ h1 (show p < i by omega)
  rw [e, hr.out (.inr (Nat.le_refl _))]
  exact hf p' i k1 k2 hib
theorem Ins.step {f g : Nat → Int} {a i j : Nat} {x : Int} (h : Ins key f g a i j x) (haj : a < j) (hji : j ≤ i) (hk : key x < key (g (j - 1))) : Ins key f (swp g j (j - 1)) a i (j - 1) x := by
  have v : ∀ p, p ≠ j → p ≠ j - 1 → swp g j (j - 1) p = g p := fun p h1 h2 => by unfold swp; rw [if_neg h1, if_neg h2]
  have vj : swp g j (j - 1) j = g (j - 1) := by unfold swp; rw [if_pos rfl]
  have vi : swp g j (j - 1) (j - 1) = x := by unfold swp; rw [if_neg (by omega), if_pos rfl]; exact h.at_
  refine ⟨vi, fun p q h1 h2 h3 h4 h5 => ?_, fun q h1 h2 => ?_, fun p h1 h2 h3 => ?_, h.rear.trans (Rear.swp _ (by omega) (by omega))⟩
  · by_cases hq : q = j
    · subst hq
      rw [vj, v p (by omega) h4]
      exact h.sd1 p (q - 1) h1 (by omega) (by omega) (by omega) (by omega)
    · by_cases hp : p = j
      · subst hp
        rw [vj, v q hq h5]
        exact h.sd1 (p - 1) q (by omega) (by omega) h3 (by omega) hq
      · rw [v p hp h4, v q hq h5]
        exact h.sd1 p q h1 h2 h3 hp hq
  · by_cases hq : q = j
    · subst hq; rw [vj]; exact .inl hk
    · rw [v q hq (by omega)]; exact h.sd2 q (by omega) h2
  · by_cases hp : p = j
    · subst hp; rw [vj]; exact h.lt (p - 1) (by omega) (by omega) (by omega)
    · rw [v p hp h3]; exact h.lt p h1 h2 hp
theorem Ins.stop {f g : Nat → Int} {a i j : Nat} {x : Int} (h : Ins key f g a i j x) (haj : a ≤ j) (hji : j ≤ i) (hk : a < j → ¬ key x < key (g (j - 1))) : Sd key g a (i + 1) := by
  intro p q h1 h2 h3
  by_cases hp : p = j
  · subst hp; rw [h.at_]; exact h.sd2 q h2 (by omega)
  · by_cases hq : q = j
    · subst hq
      rw [h.at_]
      have k := hk (by omega)
      have l := h.lt (q - 1) (by omega) (by omega) (by omega)
      have t : ltK key (g (q - 1)) x := by unfold ltK; omega
      by_cases hpq : p = q - 1
      · rw [hpq]; exact t
      · exact (h.sd1 p (q - 1) h1 (by omega) (by omega) (by omega) (by omega)).trans t
    · exact h.sd1 p q h1 h2 (by omega) hp hq

/-! ### merging -/
theorem rot_lo (f : Nat → Int) {s m e p : Nat} (h : p < s) : rot f s m e p = f p := by unfold rot; rw [if_neg (by omega), if_neg (by omega)]
theorem rot_r (f : Nat → Int) {s m e p : Nat} (h1 : s ≤ p) (h2 : p < s + (e - m)) : rot f s m e p = f (p + (m - s)) := by unfold rot; rw [if_pos ⟨h1, h2⟩]
theorem rot_l (f : Nat → Int) {s m e p : Nat} (h1 : s + (e - m) ≤ p) (h2 : p < e) : rot f s m e p = f (p - (e - m)) := by unfold rot; rw [if_neg (by omega), if_pos ⟨h1, h2⟩]
theorem rot_hi (f : Nat → Int) {s m e p : Nat} (h0 : s ≤ m) (h00 : m ≤ e) (h : e ≤ p) : rot f s m e p = f p := by unfold rot; rw [if_neg (by omega), if_neg (by omega)]

structure Pre (key : Int → Int) (f : Nat → Int) (a m b : Nat) : Prop where
  l : Sd key f a m
  r : Sd key f m b
  lo : Lo f a m b
structure Cut (key : Int → Int) (f : Nat → Int) (a s m e b : Nat) : Prop where
  hs : a ≤ s
  sm : s ≤ m
  me : m ≤ e
  eb : e ≤ b
  A : ∀ x y, a ≤ x → x < s → e ≤ y → y < b → ¬ key (f y) < key (f x)
  B : ∀ x y, s ≤ x → x < m → m ≤ y → y < e → key (f y) < key (f x)
section
variable {f : Nat → Int} {a s m e b : Nat} (h : Pre key f a m b) (c : Cut key f a s m e b)
include h c
theorem cut_cross {p q : Nat} (h1 : a ≤ p) (h2 : p < s + (e - m)) (h3 : s + (e - m) ≤ q) (h4 : q < b) : ltK key (rot f s m e p) (rot f s m e q) := by
  obtain ⟨hs, sm, me, eb, A, B⟩ := c
  by_cases hp : p < s
  · rw [rot_lo f hp]
    by_cases hq : q < e
    · rw [rot_l f h3 hq]
      exact h.l p (q - (e - m)) h1 (by omega) (by omega)
    · rw [rot_hi f sm me (by omega)]
      have k := A p q h1 hp (by omega) h4
      have l := h.lo p q h1 (by omega) (by omega) h4
      unfold ltK; omega
  · rw [rot_r f (by omega) h2]
    by_cases hq : q < e
    · rw [rot_l f h3 hq]
      exact .inl (B _ _ (by omega) (by omega) (by omega) (by omega))
    · rw [rot_hi f sm me (by omega)]
      exact h.r _ _ (by omega) (by omega) h4
theorem cut_left : Pre key (rot f s m e) a s (s + (e - m)) := by
  obtain ⟨hs, sm, me, eb, A, B⟩ := c
  refine ⟨fun i j p q r => ?_, fun i j p q r => ?_, fun i j p q r t => ?_⟩
  · rw [rot_lo f (by omega), rot_lo f r]; exact h.l i j p q (by omega)
  · rw [rot_r f p (by omega), rot_r f (by omega) r]; exact h.r _ _ (by omega) (by omega) (by omega)
  · rw [rot_lo f q, rot_r f r t]; exact h.lo _ _ p (by omega) (by omega) (by omega)
theorem cut_right : Pre key (rot f s m e) (s + (e - m)) e b := by
  obtain ⟨hs, sm, me, eb, A, B⟩ := c
  refine ⟨fun i j p q r => ?_, fun i j p q r => ?_, fun i j p q r t => ?_⟩
  · rw [rot_l f p (by omega), rot_l f (by omega) r]; exact h.l _ _ (by omega) (by omega) (by omega)
  · rw [rot_hi f sm me p, rot_hi f sm me (by omega)]; exact h.r i j (by omega) q r
  · rw [rot_l f p q, rot_hi f sm me r]; exact h.lo _ _ (by omega) (by omega) (by omega) t
/-- both halves put in order: the whole is -/
theorem cut_done {g1 g2 : Nat → Int} (r1 : Rear (rot f s m e) g1 a (s + (e - m))) (d1 : Sd key g1 a (s + (e - m))) (r2 : Rear g1 g2 (s + (e - m)) b) (d2 : Sd key g2 (s + (e - m)) b) :
    Sd key g2 a b ∧ Rear f g2 a b := by
  have c' := c
  obtain ⟨hs, sm, me, eb, A, B⟩ := c'
  refine ⟨fun p q h1 h2 h3 => ?_, ((Rear.rot f sm me).mono hs eb).trans ((r1.mono (Nat.le_refl _) (by omega)).trans (r2.mono (by omega) (Nat.le_refl _)))⟩
  by_cases hq : q < s + (e - m)
  · rw [r2.out (.inl (by omega)), r2.out (.inl hq)]
    exact d1 p q h1 h2 hq
  · by_cases hp : p < s + (e - m)
    · obtain ⟨q', k1, k2, e1⟩ := r2.in_ (show s + (e - m) ≤ q by omega) h3
      obtain ⟨p', k3, k4, e2⟩ := r1.in_ h1 hp
      rw [r2.out (.inl hp), e2, e1, r1.out (.inr k1)]
      exact cut_cross h c k3 k4 k1 k2
    · exact d2 p q (by omega) h2 h3
end
theorem Pre.left {f : Nat → Int} {a m b : Nat} (h : Pre key f a m b) (hn : ¬ (a < m ∧ m < b)) (h1 : a ≤ m) (h2 : m ≤ b) : Sd key f a b := by
  by_cases hm : a < m
  · obtain rfl : m = b := by omega
    exact h.l
  · obtain rfl : a = m := by omega
    exact h.r

/-- the first way: one element on the left -/
theorem one_left {f : Nat → Int} {a b i : Nat} (h : Pre key f a (a + 1) b) (h1 : a + 1 ≤ i) (h2 : i ≤ b) (k1 : ∀ y, a + 1 ≤ y → y < i → key (f y) < key (f a)) (k2 : ∀ y, i ≤ y → y < b → ¬ key (f y) < key (f a)) :
    Sd key (rot f a (a + 1) i) a b ∧ Rear f (rot f a (a + 1) i) a b := by
  have c : Cut key f a a (a + 1) i b := by
    refine ⟨Nat.le_refl _, by omega, h1, h2, fun x y _ _ _ _ => by omega, fun x y p q r t => ?_⟩
    have e : x = a := by omega
    rw [e]
    exact k1 y r t
  refine cut_done h c (.refl _ _ _) ((cut_left h c).left (by omega) (by omega) (by omega)) (.refl _ _ _) ?_
  intro p q p1 p2 p3
  by_cases hp : p < i
  · rw [rot_l f p1 hp, rot_hi f (by omega) h1 (by omega)]
    obtain e : p - (i - (a + 1)) = a := by omega
    rw [e]
    have := k2 q (by omega) p3
    have := h.lo a q (Nat.le_refl _) (by omega) (by omega) p3
    unfold ltK; omega
  · rw [rot_hi f (by omega) h1 (by omega), rot_hi f (by omega) h1 (by omega)]
    exact h.r p q (by omega) p2 p3
/-- the second way: one element on the right -/
theorem one_right {f : Nat → Int} {a m i : Nat} (h : Pre key f a m (m + 1)) (h1 : a ≤ i) (h2 : i ≤ m) (k1 : ∀ x, a ≤ x → x < i → ¬ key (f m) < key (f x)) (k2 : ∀ x, i ≤ x → x < m → key (f m) < key (f x)) :
    Sd key (rot f i m (m + 1)) a (m + 1) ∧ Rear f (rot f i m (m + 1)) a (m + 1) := by
  have c : Cut key f a i m (m + 1) (m + 1) := by
    refine ⟨h1, h2, by omega, Nat.le_refl _, fun x y _ _ _ _ => by omega, fun x y p q r t => ?_⟩
    have e : y = m := by omega
    rw [e]
    exact k2 x p q
  refine cut_done h c (.refl _ _ _) ?_ (.refl _ _ _) ((cut_right h c).left (by omega) (by omega) (by omega))
  intro p q p1 p2 p3
  by_cases hq : q < i
  · rw [rot_lo f (by omega), rot_lo f hq]; exact h.l p q p1 p2 (by omega)
  · rw [rot_lo f (by omega), rot_r f (by omega) p3]
    obtain e : q + (m - i) = m := by omega
    rw [e]
    have := k1 p p1 (by omega)
    have := h.lo p m p1 (by omega) (Nat.le_refl _) (by omega)
    unfold ltK; omega
theorem rot_none (f : Nat → Int) {s m e : Nat} (h1 : s ≤ m) (h2 : m ≤ e) (h : s = m ∨ m = e) : rot f s m e = f := by
  funext p
  unfold rot
  split
  · rcases h with rfl | rfl
    · congr 1; omega
    · omega
  · split
    · rcases h with rfl | rfl
      · omega
      · congr 1; omega
    · rfl
theorem rot_up (f : Nat → Int) {a k : Nat} (h : a ≤ k) : swp (rot f a (a + 1) (k + 1)) k (k + 1) = rot f a (a + 1) (k + 2) := by
  funext p
  unfold swp
  by_cases h1 : p = k
  · subst h1; rw [if_pos rfl, rot_hi f (by omega) (by omega) (by omega), rot_r f h (by omega)]; congr 1; omega
  · rw [if_neg h1]
    by_cases h2 : p = k + 1
    · subst h2; rw [if_pos rfl, rot_l f (by omega) (by omega), rot_l f (by omega) (by omega)]; congr 1; omega
    · rw [if_neg h2]
      by_cases h3 : p < a
      · rw [rot_lo f h3, rot_lo f h3]
      · by_cases h4 : p < k
        · rw [rot_r f (by omega) (by omega), rot_r f (by omega) (by omega)]
        · rw [rot_hi f (by omega) (by omega) (by omega), rot_hi f (by omega) (by omega) (by omega)]
theorem rot_down (f : Nat → Int) {m k : Nat} (h0 : 0 < k) (h : k ≤ m) : swp (rot f k m (m + 1)) k (k - 1) = rot f (k - 1) m (m + 1) := by
  funext p
  unfold swp
  by_cases h1 : p = k
  · subst h1; rw [if_pos rfl, rot_lo f (by omega), rot_l f (by omega) (by omega)]; congr 1; omega
  · rw [if_neg h1]
    by_cases h2 : p = k - 1
    · subst h2; rw [if_pos rfl, rot_r f (by omega) (by omega), rot_r f (by omega) (by omega)]; congr 1; omega
    · rw [if_neg h2]
      by_cases h3 : p < k - 1
      · rw [rot_lo f (by omega), rot_lo f h3]
      · by_cases h4 : p < m + 1
        · rw [rot_l f (by omega) (by omega), rot_l f (by omega) (by omega)]
        · rw [rot_hi f (by omega) (by omega) (by omega), rot_hi f (by omega) (by omega) (by omega)]

/-- the search of the third way, ended -/
theorem search_cut {f : Nat → Int} {a m b mid start s0 r0 : Nat} (h : Pre key f a m b) (hm : mid = (a + b) / 2) (ham : a < m) (hmb : m < b) (h0 : (m > mid ∧ s0 = mid + m - b ∧ r0 = mid) ∨ (m ≤ mid ∧ s0 = a ∧ r0 = m))
    (h1 : s0 ≤ start) (h2 : start ≤ r0) (k1 : ∀ c, s0 ≤ c → c < start → ¬ key (f (mid + m - 1 - c)) < key (f c)) (k2 : ∀ c, start ≤ c → c < r0 → key (f (mid + m - 1 - c)) < key (f c)) :
    Cut key f a start m (mid + m - start) b := by
  refine ⟨by omega, by omega, by omega, by omega, fun x y p q r t => ?_, fun x y p q r t => ?_⟩
  · have k := k1 (start - 1) (by omega) (by omega)
    have e : mid + m - 1 - (start - 1) = mid + m - start := by omega
    rw [e] at k
    have l1 := h.l.le p (show x ≤ start - 1 by omega) (by omega)
    have l2 := h.r.le (show m ≤ mid + m - start by omega) r t
    omega
  · have k := k2 start (Nat.le_refl _) (by omega)
    have l1 := h.l.le (show a ≤ start by omega) p q
    have l2 := h.r.le r (show y ≤ mid + m - 1 - start by omega) (by omega)
    omega
end
end Go.Proofs.Ytaacfjeddoekfaa
