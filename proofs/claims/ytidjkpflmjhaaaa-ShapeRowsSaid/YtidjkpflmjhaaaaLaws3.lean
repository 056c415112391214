/- Chapter 14: the walk of ShapeRows. -/
import Derived.Test.YtidjkpflmjhaaaaLaws2
namespace Go.Proofs.Ytidjkpflmjhaaaa
open Go.RowKit
set_option linter.unusedVariables false

theorem rowAt_zero {f b E M r : Int} (h : 1 ≤ r) : rowAt f b E M r 0 = f := by
  unfold rowAt
  simp [cnt_zero h]
theorem rowAt_succ {f b E M r : Int} (h : 1 ≤ r) (hM : 0 ≤ M) (hMr : M ≤ r) {k : Nat} (hk : (k : Int) + 1 ≤ r) :
    ∃ δ : Int, 0 ≤ δ ∧ δ ≤ 1 ∧ rowAt f b E M r (k + 1) = rowAt f b E M r k + b * (E + δ) := by
  obtain ⟨h1, h2⟩ := cnt_step (t := r) (m := M) (p := k) h hM hMr (by omega) hk
  refine ⟨cnt r M ((k : Int) + 1) - cnt r M k, by omega, by omega, ?_⟩
  unfold rowAt
  rw [show ((k + 1 : Nat) : Int) = (k : Int) + 1 by omega, Int.add_assoc, ← Int.mul_add]
  congr 2
  rw [Int.mul_add, Int.mul_one]
  omega
theorem rows_get {f b E M r : Int} {R k : Nat} (h : k < R) : ((rowsL f b E M r R).map (Value.int .i64))[k]? = some (.int .i64 (rowAt f b E M r (k + 1))) := by simp [rowsL, h]

theorem rowAt_in {f b E M r : Int} {k : Nat} (hb : b = 1 ∨ b = -1) (h1 : 1 ≤ r) (hE : 0 ≤ E) (hM : 0 ≤ M) (hk : (k : Int) ≤ r) (hEM : E * r + M ≤ 1048576) (hf : 0 ≤ f ∧ f ≤ 1048576) :
    -1048576 ≤ rowAt f b E M r k ∧ rowAt f b E M r k ≤ 2097152 := by
  have := @rowAt_bounds f b E M r k h1 hE hM hk
  unfold rowAt
  rcases hb with rfl | rfl <;> omega

set_option maxRecDepth 100000 in
set_option maxHeartbeats 1000000 in
theorem rows_up {f t r : Int} (a1 : 0 ≤ f) (a2 : 0 ≤ t) (a3 : f ≤ 1048576) (a4 : t ≤ 1048576) (a5 : 1 ≤ r) (a6 : r ≤ 4096) (hft : f ≤ t) (w : World) :
    Calls Try.prog 4 #[.int .i64 f, .int .i64 t, .int .i64 r] w fun e w' => e = .returned (.bool true) ∧ Below w.heap.size w w' := by
  have Ha := fun w => alive_any w
  have HA := Lib.hid Ha
  have Hr := fun w => Rows_ok a1 a2 a3 a4 a5 a6 hft w
  have HR := Lib.hid Hr
  clear Ha Hr
  obtain ⟨R, rfl⟩ := Int.eq_ofNat_of_zero_le (show 0 ≤ r by omega)
  have hE0 : 0 ≤ (t - f) / (R : Int) := Int.ediv_nonneg (by omega) (by omega)
  have hM0 : 0 ≤ (t - f) % (R : Int) := Int.emod_nonneg _ (by omega)
  have hM1 : (t - f) % (R : Int) < R := Int.emod_lt_of_pos _ (by omega)
  have hEM : (t - f) / (R : Int) * R + (t - f) % (R : Int) = t - f := by rw [Int.mul_comm]; exact Int.mul_ediv_add_emod _ _
  have hE1 : (t - f) / (R : Int) ≤ t - f := by
    have := Int.mul_le_mul_of_nonneg_left a5 hE0
    omega
  generalize (t - f) / (R : Int) = E at *
  generalize (t - f) % (R : Int) = M at *
  have hlast : rowAt f 1 E M R R = t := by
    unfold rowAt
    rw [cnt_all a5 hM0]
    omega
  have HL := Lib.hid hlast
  have HEM := Lib.hid hEM
  simp only [Int.toNat_natCast] at HR
  clear hlast hEM
  have hR1 : 1 ≤ R := by omega
  go_enter Try.func4, Try.ntmps4
  go_wp2_with (first
    | (go_at_call 6; refine (HA.out _).mono ?_; rintro e w1 ⟨rfl, hb1⟩)
    | (go_at_call 9; refine (HR.out _).mono ?_; rintro e w2 ⟨v, rfl, ho, hb2⟩
       obtain ⟨A, c, rfl, hc1, hc2⟩ := own_form ho
       obtain ⟨bb, o, rfl, _, hcell⟩ := (Row.of_own ho).at_ (by omega)
       have hx0 : w2.cell? ⟨bb, o + (R - 1), none⟩ = some (.int .i64 t) := by
         rw [hcell (R - 1) _ (rows_get (by omega)), show R - 1 + 1 = R by omega, HL.out]
       have er : ((R : Int) - 1).toNat = R - 1 := by omega
       have er1 : (0 : Int) ≤ (R : Int) - 1 := by omega
       have er2 : (1 : Int) ≤ (R : Int) := by omega
       have HB := Lib.hid (hb1.trans (hb2.mono hb1.size))
       have HC := Lib.hid hcell
       unfold maxLen at hc2
       clear ho hb1 hb2 hcell))
  clear hx0
  go_loop [9, 10, 11, 42] (fun last least most i => ∃ (k : Nat) (p q : Int), k ≤ R ∧ i = .int .i64 k ∧ last = .int .i64 (rowAt f 1 E M R k) ∧ least = .int .i64 p ∧ most = .int .i64 q ∧
      (k = 0 ∧ p = 0 ∧ q = 0 ∨ 0 < k ∧ E ≤ p ∧ p ≤ q ∧ q ≤ E + 1)) (fun _ _ _ i => R - (intOf i).toNat)
  case atStart => exact ⟨0, 0, 0, Nat.zero_le _, rfl, by rw [rowAt_zero a5], rfl, rfl, .inl ⟨rfl, rfl, rfl⟩⟩
  case round =>
    obtain ⟨k, p, q, hk, rfl, rfl, rfl, rfl, hpq⟩ := hrel
    by_cases hlt : k < R
    · have hx : w2.cell? ⟨bb, o + k, none⟩ = some (.int .i64 (rowAt f 1 E M R (k + 1))) := HC.out k _ (rows_get hlt)
      obtain ⟨δ, d1, d2, hs⟩ := rowAt_succ (f := f) (b := 1) (E := E) a5 hM0 (Int.le_of_lt hM1) (k := k) (by omega)
      have z1 := rowAt_in (f := f) (b := 1) (E := E) (M := M) (r := R) (k := k) (by simp) a5 hE0 hM0 (by omega) (by rw [HEM.out]; omega) ⟨a1, a3⟩
      have z2 := rowAt_in (f := f) (b := 1) (E := E) (M := M) (r := R) (k := k + 1) (by simp) a5 hE0 hM0 (by omega) (by rw [HEM.out]; omega) ⟨a1, a3⟩
      generalize hX : rowAt f 1 E M R (k + 1) = X at *
      generalize rowAt f 1 E M R k = Y at *
      have HX := Lib.hid hX
      have hs1 : X ≤ Y + 1 * (E + δ) := by omega
      have hs2 : Y + 1 * (E + δ) ≤ X := by omega
      clear hX hs
      by_cases h0 : k = 0
      · obtain ⟨rfl, rfl⟩ : p = 0 ∧ q = 0 := by omega
        subst h0
        rw [Nat.add_zero] at hx
        go_wp2_with fail
        all_goals
          go_round
          case rel => exact ⟨1, _, _, by omega, rfl, by rw [HX.out], rfl, rfl, .inr ⟨by omega, by omega, by omega, by omega⟩⟩
          case measure => simp [intOf]; omega
      · have hk0 : ((k : Int) == 0) = false := by simpa using h0
        have hpq' : 0 < k ∧ E ≤ p ∧ p ≤ q ∧ q ≤ E + 1 := by omega
        clear hpq h0
        go_wp2_with fail
        all_goals
          go_round
          case rel => exact ⟨k + 1, _, _, by omega, by go_num, by rw [HX.out], rfl, rfl, .inr ⟨by omega, by omega, by omega, by omega⟩⟩
          case measure => simp [intOf]; omega
    · have hpq' : E ≤ p ∧ p ≤ q ∧ q ≤ E + 1 := by omega
      have hp0 : 0 ≤ p := by omega
      have hq1 : q - p ≤ 1 := by omega
      clear hpq
      go_wp2_with fail
      go_ret
      exact ⟨rfl, HB.out⟩
end Go.Proofs.Ytidjkpflmjhaaaa
