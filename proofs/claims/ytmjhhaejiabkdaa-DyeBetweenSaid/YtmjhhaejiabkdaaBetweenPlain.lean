/- Chapter 15, plain: the least and the greatest of dyes; a little slack. -/
import Derived.Test.YtmjhhaejiabkdaaMixPlain2
namespace Go.Proofs.Ytmjhhaejiabkdaa
open Go.Proofs.Ytmjhhaejiabkdaa.Fl
set_option linter.unusedVariables false

noncomputable def minF (x y : Nat) : Nat := if V x < V y then x else if V y < V x then y else if (FloatKind.f64.decode x).neg then x else y
noncomputable def maxF (x y : Nat) : Nat := if V x < V y then y else if V y < V x then x else if (FloatKind.f64.decode x).neg then y else x
section
variable {P : Program}
theorem run_minF {x y : Nat} (hx : FW x) (hy : FW y) (ts : Array TypeId) (t : TypeId) (w : World) : (Builtin.min_ ts t #[.float .f64 x, .float .f64 y]).run P w = .ok (.float .f64 (minF x y)) w := by
  have ho : FloatKind.f64.format.order x y = some (compare (V x) (V y)) := order_spec hx hy
  unfold minF
  simp only [Builtin.min_, List.foldlM, Builtin.min2, ho]
  rcases Int.lt_trichotomy (V x) (V y) with h | h | h
  · rw [Int.compare_eq_lt.2 h, if_pos h]; simp
  · have n1 : ¬ V x < V y := by omega
    have n2 : ¬ V y < V x := by omega
    rw [Int.compare_eq_eq.2 h, if_neg n1, if_neg n2]; simp
  · have n1 : ¬ V x < V y := by omega
    rw [Int.compare_eq_gt.2 h, if_neg n1, if_pos h]; simp
theorem run_maxF {x y : Nat} (hx : FW x) (hy : FW y) (ts : Array TypeId) (t : TypeId) (w : World) : (Builtin.max_ ts t #[.float .f64 x, .float .f64 y]).run P w = .ok (.float .f64 (maxF x y)) w := by
  have ho : FloatKind.f64.format.order x y = some (compare (V x) (V y)) := order_spec hx hy
  unfold maxF
  simp only [Builtin.max_, List.foldlM, Builtin.max2, ho]
  rcases Int.lt_trichotomy (V x) (V y) with h | h | h
  · rw [Int.compare_eq_lt.2 h, if_pos h]; simp
  · have n1 : ¬ V x < V y := by omega
    have n2 : ¬ V y < V x := by omega
    rw [Int.compare_eq_eq.2 h, if_neg n1, if_neg n2]; simp
  · have n1 : ¬ V x < V y := by omega
    rw [Int.compare_eq_gt.2 h, if_neg n1, if_pos h]; simp
end
theorem minF_ok {x y : Nat} (hx : FW x) (hy : FW y) : FW (minF x y) ∧ V (minF x y) ≤ V x ∧ V (minF x y) ≤ V y ∧ (V (minF x y) = V x ∨ V (minF x y) = V y) := by
  unfold minF
  split
  · exact ⟨hx, by omega, by omega, .inl rfl⟩
  · split
    · exact ⟨hy, by omega, by omega, .inr rfl⟩
    · split
      · exact ⟨hx, by omega, by omega, .inl rfl⟩
      · exact ⟨hy, by omega, by omega, .inr rfl⟩
theorem maxF_ok {x y : Nat} (hx : FW x) (hy : FW y) : FW (maxF x y) ∧ V x ≤ V (maxF x y) ∧ V y ≤ V (maxF x y) ∧ (V (maxF x y) = V x ∨ V (maxF x y) = V y) := by
  unfold maxF
  split
  · exact ⟨hy, by omega, by omega, .inr rfl⟩
  · split
    · exact ⟨hx, by omega, by omega, .inl rfl⟩
    · split
      · exact ⟨hy, by omega, by omega, .inr rfl⟩
      · exact ⟨hx, by omega, by omega, .inl rfl⟩

/-- a word from 0 to 1 -/
def In01 (T x : Nat) : Prop := FW x ∧ 0 ≤ V x ∧ V x ≤ ((2 ^ T : Nat) : Int)
theorem In01.min {T x y : Nat} (hx : In01 T x) (hy : In01 T y) : In01 T (minF x y) := by
  obtain ⟨a, b, c, d⟩ := minF_ok hx.1 hy.1
  have := hx.2; have := hy.2
  refine ⟨a, ?_, ?_⟩ <;> omega
theorem In01.max {T x y : Nat} (hx : In01 T x) (hy : In01 T y) : In01 T (maxF x y) := by
  obtain ⟨a, b, c, d⟩ := maxF_ok hx.1 hy.1
  have := hx.2; have := hy.2
  refine ⟨a, ?_, ?_⟩ <;> omega

/-- lo is below, hi above the first k -/
structure Held (T : Nat) (p : Dy → Nat) (xs : List Dr) (k lo hi : Nat) : Prop where
  inLo : In01 T lo
  inHi : In01 T hi
  all : ∀ j (h : j < xs.length), j < k → V lo ≤ V (p xs[j].d) ∧ V (p xs[j].d) ≤ V hi
theorem Held.start {T : Nat} (hT : T = 1074) (p : Dy → Nat) (xs : List Dr) : Held T p xs 0 4607182418800017408 0 := by
  have h1 := v_one hT
  have h0 : (0 : Int) ≤ ((2 ^ T : Nat) : Int) := Int.natCast_nonneg _
  refine ⟨⟨fw_one, ?_, ?_⟩, ⟨fw_zero, ?_, ?_⟩, fun j _ h => absurd h (by omega)⟩
  · rw [h1]; exact h0
  · rw [h1]; exact Int.le_refl _
  · rw [v_zero]; exact Int.le_refl _
  · rw [v_zero]; exact h0
theorem Held.next {T : Nat} {p : Dy → Nat} {xs : List Dr} {k lo hi : Nat} (h : Held T p xs k lo hi) (hk : k < xs.length) (hx : In01 T (p xs[k].d)) : Held T p xs (k + 1) (minF lo (p xs[k].d)) (maxF hi (p xs[k].d)) := by
  obtain ⟨_, b1, c1, _⟩ := minF_ok h.inLo.1 hx.1
  obtain ⟨_, b2, c2, _⟩ := maxF_ok h.inHi.1 hx.1
  refine ⟨h.inLo.min hx, h.inHi.max hx, fun j hj hjk => ?_⟩
  rcases Nat.lt_or_eq_of_le (Nat.le_of_lt_succ hjk) with h1 | rfl
  · have := h.all j hj h1; omega
  · omega

theorem slack_ok {T lo hi r : Nat} (hT : T = 1074) (hl : In01 T lo) (hh : In01 T hi) (hr : FW r) (h1 : 2 ^ 41 * V r ≤ 2 ^ 41 * V hi + ((2 ^ T : Nat) : Int)) (h2 : 2 ^ 41 * V lo - ((2 ^ T : Nat) : Int) ≤ 2 ^ 41 * V r) :
    ∃ a b, Ieee.double.sub lo 4427038433705197568 = some a ∧ Ieee.double.add hi 4427038433705197568 = some b ∧ gteB r a = true ∧ leqB r b = true := by
  obtain ⟨J, hJ⟩ : ∃ J, J = 982 := ⟨_, rfl⟩
  have fc : FW 4427038433705197568 := by unfold FW; decide
  have vc : V 4427038433705197568 = (((2 ^ 52 + 0) * 2 ^ J : Nat) : Int) := v_word (by decide) (by rw [hJ]) (by decide)
  have eT : 2 ^ T = 2 ^ J * 2 ^ 92 := by rw [← Nat.pow_add]; congr 1; omega
  have eT1 : 2 ^ (T + 1) = 2 ^ T * 2 := Nat.pow_succ ..
  have hB : 0 < 2 ^ J := Nat.two_pow_pos _
  obtain ⟨_, l0, l1⟩ := hl
  obtain ⟨_, g0, g1⟩ := hh
  obtain ⟨a, ha, fa, na⟩ := sub_spec (n := T + 1) (x := lo) (y := 4427038433705197568) (by assumption) fc (by omega) (by rw [vc, eT1, eT]; rw [eT] at l1; generalize 2 ^ J = B at *; omega)
  obtain ⟨b, hb, fb, nb⟩ := add_spec (n := T + 1) (x := hi) (y := 4427038433705197568) (by assumption) fc (by omega) (by rw [vc, eT1, eT]; rw [eT] at g1; generalize 2 ^ J = B at *; omega)
  refine ⟨a, b, ha, hb, ?_, ?_⟩
  · rw [gte_spec hr fa, decide_eq_true_eq]
    rw [vc] at na
    rw [eT] at h2 l1
    generalize 2 ^ J = B at *
    omega
  · rw [leq_spec hr fb, decide_eq_true_eq]
    rw [vc] at nb
    rw [eT] at h1 g1
    generalize 2 ^ J = B at *
    omega

theorem mix_between {T : Nat} (hT : T = 1074) {xs : List Dr} (h2 : xs.length ≤ 64) (hok : ∀ i (h : i < xs.length), xs[i].ok = true) (h1 : 1 ≤ xs.length) {p : Dy → Nat} (hp : ∀ i (h : i < xs.length), unitB (p xs[i].d) = true) {lo hi r : Nat} (hh : Held T p xs xs.length lo hi)
    (hr : Ieee.double.div (accAt p xs xs.length) (allAt xs xs.length) = some r) :
    ∃ a b, Ieee.double.sub lo 4427038433705197568 = some a ∧ Ieee.double.add hi 4427038433705197568 = some b ∧ gteB r a = true ∧ leqB r b = true := by
  obtain ⟨r', hr', fr, q1, q2⟩ := quot_ok h2 hok h1 hT hp hh.inLo.2.1 hh.inHi.2.2 (fun i h => hh.all i h h)
  rw [hr] at hr'
  cases hr'
  exact slack_ok hT hh.inLo hh.inHi fr q1 q2
end Go.Proofs.Ytmjhhaejiabkdaa
