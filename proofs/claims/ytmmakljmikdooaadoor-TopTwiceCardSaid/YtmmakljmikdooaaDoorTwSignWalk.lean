import Derived.Test.YtmmakljmikdooaaDoorTw1
import Derived.Test.YtmmakljmikdooaaDoorTw3
/- Chapter 2: the program's sign, skipped, colour. -/
namespace Go.Proofs.YtmmakljmikdooaaDoor
open Go.RowKit
set_option linter.unusedVariables false
set_option linter.unusedSimpArgs false

theorem skipped_any (n : Nat) (w : World) (hn : n ≤ 100) : Calls Tryd.prog 21 #[.int .i64 (n : Int)] w fun e w' => e = .returned (.int .i64 (skipF n : Nat)) ∧ w' = w := by
  have HE : Hid (skipF n = if 17 ≤ n then n + 1 else n) := rfl
  generalize skipF n = r at *
  go_enter Tryd.func21, Tryd.ntmps21
  by_cases h : 17 ≤ n
  · have q : decide ((n : Int) ≥ 17) = true := decide_eq_true (by omega)
    go_wp2_with fail
    go_ret
    rw [HE.out, if_pos h]
    exact ⟨rfl, rfl⟩
  · have q : decide ((n : Int) ≥ 17) = false := decide_eq_false (by omega)
    go_wp2_with fail
    go_ret
    rw [HE.out, if_neg h]
    exact ⟨rfl, rfl⟩
theorem sign_any (c : Nat) (w : World) (hc : c < 62) : Calls Tryd.prog 10 #[.int .i64 (c : Int)] w fun e w' => e = .returned (.int .i32 (signF c : Nat)) ∧ w' = w := by
  have HE : Hid (signF c = if c = 0 then 183 else if c = 1 then 9608 else if c < 12 then 46 + c else if c < 36 then 945 + skipF (c - 12) else 61 + c) := rfl
  generalize signF c = r at *
  go_enter Tryd.func10, Tryd.ntmps10
  by_cases h0 : c = 0
  · subst h0
    go_wp2_with fail
    go_ret
    rw [HE.out]
    exact ⟨rfl, rfl⟩
  have q0 : ((c : Int) == 0) = false := by rw [beq_eq_false_iff_ne]; omega
  by_cases h1 : c = 1
  · subst h1
    go_wp2_with fail
    go_ret
    rw [HE.out]
    exact ⟨rfl, rfl⟩
  have q1 : ((c : Int) == 1) = false := by rw [beq_eq_false_iff_ne]; omega
  rw [if_neg h0, if_neg h1] at HE
  by_cases h2 : c < 12
  · have q2 : decide ((c : Int) < 12) = true := decide_eq_true (by omega)
    rw [if_pos h2] at HE
    have e : IntKind.i32.wrap (48 + (c : Int) - 2) = ((46 + c : Nat) : Int) := by rw [IntWalk.i32_in _ (by omega)]; omega
    go_wp2_with fail
    go_ret
    rw [HE.out]
    refine ⟨?_, rfl⟩
    exact ret_int (by first | exact e | omega)
  have q2 : decide ((c : Int) < 12) = false := decide_eq_false (by omega)
  rw [if_neg h2] at HE
  by_cases h3 : c < 36
  · have q3 : decide ((c : Int) < 36) = true := decide_eq_true (by omega)
    rw [if_pos h3] at HE
    have hs : skipF (c - 12) ≤ 100 := by unfold skipF; split <;> omega
    have e : IntKind.i32.wrap (945 + ((skipF (c - 12) : Nat) : Int)) = ((945 + skipF (c - 12) : Nat) : Int) := by rw [IntWalk.i32_in _ (by omega)]; omega
    have ec : ((c : Int) - 12) = ((c - 12 : Nat) : Int) := by omega
    have HC := Lib.hid (fun w => skipped_any (c - 12) w (by omega))
    generalize skipF (c - 12) = s at *
    go_wp2_with fail
    refine (HC.out _).mono ?_
    rintro e2 w' ⟨rfl, rfl⟩
    go_wp2_with fail
    go_ret
    rw [HE.out]
    refine ⟨?_, rfl⟩
    exact ret_int (by first | exact e | omega)
  have q3 : decide ((c : Int) < 36) = false := decide_eq_false (by omega)
  rw [if_neg h3] at HE
  have e : IntKind.i32.wrap (97 + (c : Int) - 36) = ((61 + c : Nat) : Int) := by rw [IntWalk.i32_in _ (by omega)]; omega
  go_wp2_with fail
  go_ret
  rw [HE.out]
  refine ⟨?_, rfl⟩
  exact ret_int (by first | exact e | omega)
theorem colour_any (r : Int) (w : World) : Calls Tryd.prog 40 #[.int .i32 r] w fun e w' => e = .returned (.tuple #[.int .i64 ((colourF r).getD 0 : Nat), .bool (colourF r).isSome]) ∧ w' = w := by
  have HF : Hid (∀ c, c < 62 → (∀ d, d < c → ((signF d : Nat) : Int) ≠ r) → ((signF c : Nat) : Int) = r → colourF r = some c) := by
    intro c hc _ h
    rw [← h]
    exact colourF_sign hc
  have HN : Hid ((∀ d, d < 62 → ((signF d : Nat) : Int) ≠ r) → colourF r = none) := by
    intro h
    unfold colourF
    rw [List.find?_eq_none]
    intro x hx
    simpa using h x (List.mem_range.1 hx)
  generalize colourF r = R at *
  go_enter Tryd.func40, Tryd.ntmps40
  go_wp2_with fail
  go_loopg [5] 62 (fun gg ctr wr => ∃ i : Nat, i ≤ 62 ∧ gg = 62 - i ∧ ctr = .int .i64 i ∧ wr = w ∧ (∀ d, d < i → ((signF d : Nat) : Int) ≠ r))
  case atStart => exact ⟨0, by omega, rfl, rfl, rfl, fun d hd => absurd hd (Nat.not_lt_zero _)⟩
  case round =>
    obtain ⟨i, hi, rfl, rfl, rfl, ha⟩ := hrel
    have HA := Lib.hid ha
    clear ha
    by_cases hlt : i < 62
    case neg =>
      obtain rfl : i = 62 := by omega
      have HE := Lib.hid (HN.out HA.out)
      go_wp2_with fail
      go_ret2
      rw [HE.out]
      exact ⟨rfl, rfl⟩
    have hl : decide ((i : Int) < 62) = true := decide_eq_true (by omega)
    go_wp2_with fail
    refine (sign_any i _ hlt).mono ?_
    rintro e w' ⟨rfl, rfl⟩
    by_cases he : ((signF i : Nat) : Int) = r
    · have HE := Lib.hid (HF.out i hlt HA.out he)
      have q : (((signF i : Nat) : Int) == r) = true := by rw [beq_iff_eq]; exact he
      clear he
      generalize signF i = s at *
      go_wp2_with fail
      go_ret2
      rw [HE.out]
      exact ⟨rfl, rfl⟩
    · have HX : Hid (∀ d, d < i + 1 → ((signF d : Nat) : Int) ≠ r) := by
        intro d hd
        rcases Nat.lt_or_ge d i with k | k
        · exact HA.out d k
        · obtain rfl : d = i := by omega
          exact he
      have q : (((signF i : Nat) : Int) == r) = false := by rw [beq_eq_false_iff_ne]; exact he
      clear he
      generalize hs : signF i = s at *
      go_wp2_with fail
      go_roundg (62 - (i + 1))
      case measure => omega
      case rel => exact ⟨i + 1, by omega, rfl, by go_num, rfl, HX.out⟩
end Go.Proofs.YtmmakljmikdooaaDoor
