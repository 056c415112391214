/- Chapter 14: walks of wrong, Spread, Count, and of the reference's Wrong and Ahead. -/
import Derived.Test.YtidjkpflmjhaaaaPlain
namespace Go.Proofs.Ytidjkpflmjhaaaa
open Go.RowKit

theorem T23 : SliceT Try.prog 23 3 (.int .i64 0) 1 8 := ⟨Try.underlying23, by kernel_rfl, rfl, by decide, by decide⟩

set_option maxHeartbeats 400000 in
theorem wrong_any (t m : Int) (w : World) :
    Calls Try.prog 14 #[.int .i64 t, .int .i64 m] w fun e w' => e = .returned (.int .i64 (wrongV t m)) ∧ w = w' := by
  go_enter Try.func14, Try.ntmps14
  go_wp2
  all_goals go_ret
  all_goals exact ⟨ret_int (by unfold wrongV; first | rw [if_pos (by omega)] | rw [if_neg (by omega)]), rfl⟩

set_option maxHeartbeats 400000 in
theorem refWrong_any (t m : Int) (w : World) :
    Calls Try.prog 15 #[.int .i64 t, .int .i64 m] w fun e w' => e = .returned (.int .i64 (wrongV t m)) ∧ w = w' := by
  go_enter Try.func15, Try.ntmps15
  go_wp2
  all_goals go_ret
  all_goals exact ⟨ret_int (by unfold wrongV; first | rw [if_pos (by omega)] | rw [if_neg (by omega)]), rfl⟩

theorem wrong_yes {t m : Int} (h : wrongV t m = 3) (w : World) :
    Calls Try.prog 14 #[.int .i64 t, .int .i64 m] w fun e w' => e = .returned (.int .i64 3) ∧ w = w' := by
  have := wrong_any t m w
  rwa [h] at this
theorem wrong_no {t m : Int} (h : wrongV t m = 0) (w : World) :
    Calls Try.prog 14 #[.int .i64 t, .int .i64 m] w fun e w' => e = .returned (.int .i64 0) ∧ w = w' := by
  have := wrong_any t m w
  rwa [h] at this
theorem refWrong_yes {t m : Int} (h : wrongV t m = 3) (w : World) :
    Calls Try.prog 15 #[.int .i64 t, .int .i64 m] w fun e w' => e = .returned (.int .i64 3) ∧ w = w' := by
  have := refWrong_any t m w
  rwa [h] at this
theorem refWrong_no {t m : Int} (h : wrongV t m = 0) (w : World) :
    Calls Try.prog 15 #[.int .i64 t, .int .i64 m] w fun e w' => e = .returned (.int .i64 0) ∧ w = w' := by
  have := refWrong_any t m w
  rwa [h] at this

set_option maxHeartbeats 400000 in
theorem Spread_bad {t m : Int} (h : wrongV t m = 3) (w : World) :
    Calls Try.prog 7 #[.int .i64 t, .int .i64 m] w fun e w' => e = .returned (.tuple #[.slice none 0 0, .int .i64 3]) ∧ w = w' := by
  have c := fun w => wrong_yes h w
  have H := Lib.hid c
  clear c h
  go_enter Try.func7, Try.ntmps7
  go_wp2_with (go_at_call 14; refine (H.out _).mono ?_; rintro e w' ⟨rfl, rfl⟩)
  go_ret2
  exact ⟨rfl, rfl⟩

set_option maxHeartbeats 400000 in
theorem Spread_ok {t m : Int} (h : wrongV t m = 0) (w : World) :
    Calls Try.prog 7 #[.int .i64 t, .int .i64 m] w fun e w' => ∃ v, e = .returned (.tuple #[v, .int .i64 0]) ∧
      w'.ownsRow w.heap.size 3 1 v m.toNat ((marks t m m.toNat).map (Value.int .i64)) ∧ Below w.heap.size w w' := by
  obtain ⟨h1, h2, h3, h4⟩ := wrong_ok h
  have c := fun w => wrong_no h w
  have H := Lib.hid c
  clear c h
  obtain ⟨n, rfl⟩ := Int.eq_ofNat_of_zero_le h3
  go_enter Try.func7, Try.ntmps7
  go_wp2_with (go_at_call 14; refine (H.out _).mono ?_; rintro e w' ⟨rfl, rfl⟩)
  go_loopw [7, 16] (fun out i wr => ∃ k : Nat, k ≤ n ∧ i = .int .i64 k ∧ wr.ownsRow w.heap.size 3 1 out k ((marks t n k).map (Value.int .i64)) ∧ Below w.heap.size w wr)
    (fun _ i _ => n - (intOf i).toNat)
  case atStart => exact ⟨0, Nat.zero_le _, rfl, World.ownsRow_nil _ _ _ _, Below.refl _ _⟩
  case round =>
    obtain ⟨k, hk, rfl, hown, hb⟩ := hrel
    by_cases hlt : k < n
    · have mb := mark_bounds (i := k) h1 h2 (by omega) h4
      go_wp2_with (at_builtin
                   refine app_el T23 [.int .i64 (mark t n k)] hown hb (Nat.le_refl _) rfl rfl rfl rfl rfl ?_ ?_ ?_
                   rotate_right
                   intro v1 w1 hown1 hb1 hg1 ho1)
      case refine_1 => simp [Value.oneCell']
      case refine_2 => omega
      go_roundw
      case rel => exact ⟨k + 1, by omega, by go_num, by rw [marks_succ, List.map_append]; exact hown1, hb1⟩
      case measure => simp [intOf]; omega
    · have : k = n := by omega
      subst this
      go_wp2_with fail
      go_ret2
      exact ⟨_, rfl, by simpa using hown, hb⟩
end Go.Proofs.Ytidjkpflmjhaaaa
