/- Chapter 14: the walk of ShapeRows where the rows get narrower; the whole of it. -/
import Derived.Test.YtidjkpflmjhaaaaLaws3
namespace Go.Proofs.Ytidjkpflmjhaaaa
open Go.RowKit
set_option linter.unusedVariables false

set_option maxRecDepth 100000 in
set_option maxHeartbeats 1000000 in
theorem rows_down {f t r : Int} (a1 : 0 ≤ f) (a2 : 0 ≤ t) (a3 : f ≤ 1048576) (a4 : t ≤ 1048576) (a5 : 1 ≤ r) (a6 : r ≤ 4096) (hft : t < f) (w : World) :
    Calls Try.prog 4 #[.int .i64 f, .int .i64 t, .int .i64 r] w fun e w' => e = .returned (.bool true) ∧ Below w.heap.size w w' := by
  have Ha := fun w => alive_any w
  have HA := Lib.hid Ha
  have Hr := fun w => Rows_down a1 a2 a3 a4 a5 a6 hft w
  have HR := Lib.hid Hr
  clear Ha Hr
  obtain ⟨R, rfl⟩ := Int.eq_ofNat_of_zero_le (show 0 ≤ r by omega)
  have hE0 : 0 ≤ (f - t) / (R : Int) := Int.ediv_nonneg (by omega) (by omega)
  have hM0 : 0 ≤ (f - t) % (R : Int) := Int.emod_nonneg _ (by omega)
  have hM1 : (f - t) % (R : Int) < R := Int.emod_lt_of_pos _ (by omega)
  have hEM : (f - t) / (R : Int) * R + (f - t) % (R : Int) = f - t := by rw [Int.mul_comm]; exact Int.mul_ediv_add_emod _ _
  have hE1 : (f - t) / (R : Int) ≤ f - t := by
    have := Int.mul_le_mul_of_nonneg_left a5 hE0
    omega
  generalize (f - t) / (R : Int) = E at *
  generalize (f - t) % (R : Int) = M at *
  have hlast : rowAt f (-1) E M R R = t := by
    unfold rowAt
    rw [cnt_all a5 hM0]
    omega
  have HL := Lib.hid hlast
  have HEM := Lib.hid hEM
  simp only [Int.toNat_natCast] at HR
  clear hlast hEM
  have hR1 : 1 ≤ R := by omega
  go_enter Try.func4, Try.ntmps4
  go_wp2_with (first
    | (go_at_call 6; refine (HA.out _).mono ?_; rintro e w1 ⟨rfl, hb1⟩)
    | (go_at_call 9; refine (HR.out _).mono ?_; rintro e w2 ⟨v, rfl, ho, hb2⟩
       obtain ⟨A, c, rfl, hc1, hc2⟩ := own_form ho
       obtain ⟨bb, o, rfl, _, hcell⟩ := (Row.of_own ho).at_ (by omega)
       have hx0 : w2.cell? ⟨bb, o + (R - 1), none⟩ = some (.int .i64 t) := by
         rw [hcell (R - 1) _ (rows_get (by omega)), show R - 1 + 1 = R by omega, HL.out]
       have er : ((R : Int) - 1).toNat = R - 1 := by omega
       have er1 : (0 : Int) ≤ (R : Int) - 1 := by omega
       have er2 : (1 : Int) ≤ (R : Int) := by omega
       have HB := Lib.hid (hb1.trans (hb2.mono hb1.size))
       have HC := Lib.hid hcell
       unfold maxLen at hc2
       clear ho hb1 hb2 hcell))
  clear hx0
  go_loop [9, 10, 11, 42] (fun last least most i => ∃ (k : Nat) (p q : Int), k ≤ R ∧ i = .int .i64 k ∧ last = .int .i64 (rowAt f (-1) E M R k) ∧ least = .int .i64 p ∧ most = .int .i64 q ∧
      (k = 0 ∧ p = 0 ∧ q = 0 ∨ 0 < k ∧ E ≤ p ∧ p ≤ q ∧ q ≤ E + 1)) (fun _ _ _ i => R - (intOf i).toNat)
  case atStart => exact ⟨0, 0, 0, Nat.zero_le _, rfl, by rw [rowAt_zero a5], rfl, rfl, .inl ⟨rfl, rfl, rfl⟩⟩
  case round =>
    obtain ⟨k, p, q, hk, rfl, rfl, rfl, rfl, hpq⟩ := hrel
    by_cases hlt : k < R
    · have hx : w2.cell? ⟨bb, o + k, none⟩ = some (.int .i64 (rowAt f (-1) E M R (k + 1))) := HC.out k _ (rows_get hlt)
      obtain ⟨δ, d1, d2, hs⟩ := rowAt_succ (f := f) (b := -1) (E := E) a5 hM0 (Int.le_of_lt hM1) (k := k) (by omega)
      have z1 := rowAt_in (f := f) (b := -1) (E := E) (M := M) (r := R) (k := k) (by simp) a5 hE0 hM0 (by omega) (by rw [HEM.out]; omega) ⟨a1, a3⟩
      have z2 := rowAt_in (f := f) (b := -1) (E := E) (M := M) (r := R) (k := k + 1) (by simp) a5 hE0 hM0 (by omega) (by rw [HEM.out]; omega) ⟨a1, a3⟩
      generalize hX : rowAt f (-1) E M R (k + 1) = X at *
      generalize rowAt f (-1) E M R k = Y at *
      have HX := Lib.hid hX
      have hs1 : X ≤ Y + -1 * (E + δ) := by omega
      have hs2 : Y + -1 * (E + δ) ≤ X := by omega
      clear hX hs
      by_cases h0 : k = 0
      · obtain ⟨rfl, rfl⟩ : p = 0 ∧ q = 0 := by omega
        subst h0
        rw [Nat.add_zero] at hx
        go_wp2_with fail
        all_goals
          go_round
          case rel => exact ⟨1, _, _, by omega, rfl, by rw [HX.out], rfl, rfl, .inr ⟨by omega, by omega, by omega, by omega⟩⟩
          case measure => simp [intOf]; omega
      · have hk0 : ((k : Int) == 0) = false := by simpa using h0
        have hpq' : 0 < k ∧ E ≤ p ∧ p ≤ q ∧ q ≤ E + 1 := by omega
        clear hpq h0
        go_wp2_with fail
        all_goals
          go_round
          case rel => exact ⟨k + 1, _, _, by omega, by go_num, by rw [HX.out], rfl, rfl, .inr ⟨by omega, by omega, by omega, by omega⟩⟩
          case measure => simp [intOf]; omega
    · have hpq' : E ≤ p ∧ p ≤ q ∧ q ≤ E + 1 := by omega
      have hp0 : 0 ≤ p := by omega
      have hq1 : q - p ≤ 1 := by omega
      clear hpq
      go_wp2_with fail
      go_ret
      exact ⟨rfl, HB.out⟩

set_option maxRecDepth 100000 in
set_option maxHeartbeats 1000000 in
theorem rows_none {f t r : Int} (h : badRows f t r) (w : World) :
    Calls Try.prog 4 #[.int .i64 f, .int .i64 t, .int .i64 r] w fun e w' => e = .returned (.bool true) ∧ Below w.heap.size w w' := by
  have Ha := fun w => alive_any w
  have HA := Lib.hid Ha
  have Hr := fun w => Rows_bad h w
  have HR := Lib.hid Hr
  clear Ha Hr h
  go_enter Try.func4, Try.ntmps4
  go_wp2_with (first
    | (go_at_call 6; refine (HA.out _).mono ?_; rintro e w1 ⟨rfl, hb1⟩)
    | (go_at_call 9; refine (HR.out _).mono ?_; rintro e w2 ⟨rfl, rfl⟩))
  go_ret
  exact ⟨rfl, hb1⟩

theorem rows_walk (f t r : Int) (w : World) :
    Calls Try.prog 4 #[.int .i64 f, .int .i64 t, .int .i64 r] w fun e w' => e = .returned (.bool true) ∧ Below w.heap.size w w' := by
  by_cases h : badRows f t r
  · exact rows_none h w
  · unfold badRows at h
    by_cases hft : f ≤ t
    · exact rows_up (by omega) (by omega) (by omega) (by omega) (by omega) (by omega) hft w
    · exact rows_down (by omega) (by omega) (by omega) (by omega) (by omega) (by omega) (by omega) w
end Go.Proofs.Ytidjkpflmjhaaaa
