/- Chapter 14: the walk of the reference's Rows. -/
import Derived.Test.YtidjkpflmjhaaaaWalk4
import Derived.Deep.RegionHeld3
namespace Go.Proofs.Ytidjkpflmjhaaaa
open Go.RowKit
set_option linter.unusedVariables false

set_option maxHeartbeats 1000000 in
theorem refRows_ok {f t r : Int} (a1 : 0 ≤ f) (a2 : 0 ≤ t) (a3 : f ≤ 1048576) (a4 : t ≤ 1048576) (a5 : 1 ≤ r) (a6 : r ≤ 4096) (hft : f ≤ t) (w : World) :
    Calls Try.prog 13 #[.int .i64 f, .int .i64 t, .int .i64 r] w fun e w' => ∃ v, e = .returned (.tuple #[v, .int .i64 0]) ∧
      w'.ownsRow w.heap.size 3 1 v r.toNat ((rowsL f 1 ((t - f) / r) ((t - f) % r) r r.toNat).map (Value.int .i64)) ∧ Below w.heap.size w w' := by
  obtain ⟨R, rfl⟩ := Int.eq_ofNat_of_zero_le (show 0 ≤ r by omega)
  have hE0 : 0 ≤ (t - f) / (R : Int) := Int.ediv_nonneg (by omega) (by omega)
  have hM0 : 0 ≤ (t - f) % (R : Int) := Int.emod_nonneg _ (by omega)
  have hM1 : (t - f) % (R : Int) < R := Int.emod_lt_of_pos _ (by omega)
  have hEM : (t - f) / (R : Int) * R + (t - f) % (R : Int) = t - f := by rw [Int.mul_comm]; exact Int.mul_ediv_add_emod _ _
  have hE1 : (t - f) / (R : Int) ≤ t - f := by
    have := Int.mul_le_mul_of_nonneg_left a5 hE0
    omega
  obtain ⟨M, hM⟩ := Int.eq_ofNat_of_zero_le hM0
  obtain ⟨E, hE⟩ : ∃ E, E = (t - f) / (R : Int) := ⟨_, rfl⟩
  rw [hM] at hEM hM0 hM1 ⊢
  rw [← hE] at hEM hE0 hE1 ⊢
  have hrb := fun k hk => @rowAt_bounds f 1 E M R k a5 hE0 hM0 hk
  have hEk := fun (k : Nat) (hk : (k : Int) ≤ R) => Int.mul_le_mul_of_nonneg_left hk hE0
  rw [hEM] at hrb
  have HEM := Lib.hid hEM
  have HRB := Lib.hid hrb
  have HEK := Lib.hid hEk
  have hE' := hE.symm
  clear hEM hrb hE hEk
  simp only [Int.toNat_natCast]
  go_enter Try.func13, Try.ntmps13
  go_wp2_with fail
  go_loopw [10, 11] (fun out i wr => ∃ k : Nat, k ≤ R ∧ i = .int .i64 ((k : Int) + 1) ∧
      wr.ownsRow w.heap.size 3 1 out k ((rowsL f 1 E M R k).map (Value.int .i64)) ∧ Below w.heap.size w wr)
    (fun _ i _ => R + 1 - (intOf i).toNat)
  case atStart => exact ⟨0, Nat.zero_le _, by simp, World.ownsRow_nil _ _ _ _, Below.refl _ _⟩
  case round =>
    obtain ⟨k, hk, rfl, hout, hbw⟩ := hrel
    by_cases hkR : k < R
    · have c := fun w => Ahead_any (t := R) (m := M) (p := (k : Int) + 1) a5 (by omega) hM0 (by omega) (by omega) (by omega) w
      have H := Lib.hid c
      clear c
      have hr2 := HRB.out (k + 1) (by omega)
      have e1 : ((k + 1 : Nat) : Int) = (k : Int) + 1 := by omega
      have hE2 : 0 ≤ E * ((k : Int) + 1) := Int.mul_nonneg hE0 (by omega)
      have hE3 := HEK.out (k + 1) (by omega)
      rw [e1] at hr2 hE3
      have hEr := HEM.out
      have Hat : Hid (rowAt f 1 E M R (k + 1) = f + (E * ((k : Int) + 1) + cnt R M ((k : Int) + 1))) := by
        show _ = _
        unfold rowAt
        rw [e1, Int.one_mul]
      have hE4 : E * ((k : Int) + 1) ≤ 1048576 := by omega
      clear e1 hE3 hEr
      obtain ⟨c1, c2⟩ := cnt_bounds (p := (k : Int) + 1) a5 hM0
      generalize cnt R M ((k : Int) + 1) = C at *
      have hR0 : ¬ R = 0 := by omega
      go_wp2_with fail
      have q1 : IntKind.i64.wrap ((t - f).tdiv (R : Int)) = E := by rw [Int.tdiv_eq_ediv_of_nonneg (by omega), hE']; exact wrap_in (by omega) (by omega)
      have q2 : (t - f).tmod (R : Int) = M := by rw [Int.tmod_eq_emod_of_nonneg (by omega), hM]
      have q3 : IntKind.i64.wrap (E * ((k : Int) + 1)) = E * ((k : Int) + 1) := wrap_in (by omega) (by omega)
      have q4 : IntKind.i64.wrap (E * ((k : Int) + 1) + C) = E * ((k : Int) + 1) + C := wrap_in (by omega) (by omega)
      have q5 : IntKind.i64.wrap (f + (E * ((k : Int) + 1) + C)) = f + (E * ((k : Int) + 1) + C) := wrap_in (by omega) (by omega)
      clear hE' hM
      go_region_held3 (fun _ => True) (trivial)
        (first
          | (go_at_call 16; refine (H.out _).mono ?_; rintro e w' ⟨rfl, rfl⟩)
          | (refine step_app_el T23 [.int .i64 (f + (E * ((k : Int) + 1) + C))] hout hbw (Nat.le_refl _) rfl rfl rfl rfl rfl (by simp [Value.oneCell']) (by omega) ?_; intro v1 w3 hown1 hb1 hg1 ho1))
      clear q1 q2 q3 q4 q5
      go_wp2_with fail
      go_roundw
      case rel => exact ⟨k + 1, by omega, by go_num, by rw [rowsL_succ, List.map_append, Hat.out]; exact hown1, hb1⟩
      case measure => simp [intOf]; omega
    · have e : k = R := by omega
      subst e
      go_wp2_with fail
      go_ret2
      exact ⟨_, rfl, hout, hbw⟩
end Go.Proofs.Ytidjkpflmjhaaaa
