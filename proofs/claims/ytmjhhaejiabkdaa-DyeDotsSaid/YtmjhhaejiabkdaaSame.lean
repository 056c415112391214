/- The walk of SameNumbers. -/
import Derived.Test.YtmjhhaejiabkdaaLib
import Derived.Deep.QuietTactic
import Derived.BigQuiet
namespace Go.Proofs.Ytmjhhaejiabkdaa
open Go.RowKit
set_option linter.unusedVariables false

theorem take_succ_iff {xs ys : List Int} {k : Nat} (h1 : k < xs.length) (h2 : k < ys.length) (h : xs.take k = ys.take k) : xs.take (k + 1) = ys.take (k + 1) ↔ xs[k] = ys[k] := by
  constructor
  · intro e
    have e1 : (xs.take (k + 1))[k]? = (ys.take (k + 1))[k]? := by rw [e]
    simpa [h1, h2] using e1
  · intro e
    rw [List.take_succ_eq_append_getElem h1, List.take_succ_eq_append_getElem h2, h, e]

set_option maxHeartbeats 400000 in
theorem Same_any {S : Nat → Prop} {a b : Value} {xs ys : List Int} (w : World) (ha : Ints w S a xs) (hb : Ints w S b ys) :
    Calls Try.prog 9 #[a, b] w fun e w' => e = .returned (.bool (decide (xs = ys))) ∧ ∃ n, w' = w.drewN n := by
  obtain ⟨A, c, rfl, h1, h2, ra⟩ := ha
  obtain ⟨B, d, rfl, h3, h4, rb⟩ := hb
  unfold maxLen at h2 h4
  by_cases hl : xs.length = ys.length
  · have hl1 : xs.length ≤ ys.length := by omega
    have hl2 : ys.length ≤ xs.length := by omega
    have Hl := Lib.hid hl
    clear hl
    go_enter Try.func9, Try.ntmps9
    go_wp2_with fail
    go_loopw [13] (fun i wr => ∃ k n : Nat, k ≤ xs.length ∧ i = .int .i64 k ∧ wr = w.drewN n ∧ xs.take k = ys.take k) (fun i _ => xs.length - (intOf i).toNat)
    case atStart => exact ⟨0, 0, Nat.zero_le _, rfl, rfl, rfl⟩
    case round =>
      obtain ⟨k, n, hk, rfl, rfl, htk⟩ := hrel
      have Ht := Lib.hid htk
      clear htk
      by_cases hlt : k < xs.length
      · have hlt' : k < ys.length := by omega
        have Hs : Hid (xs.take (k + 1) = ys.take (k + 1) ↔ xs[k] = ys[k]) := by
          exact take_succ_iff hlt hlt' Ht.out
        obtain ⟨b, o, rfl, _, hx⟩ := ints_cell ra hlt
        obtain ⟨b', o', rfl, _, hy⟩ := ints_cell rb hlt'
        have Hx : Hid (xs ≠ ys ∨ xs[k] = ys[k]) := by
          show _ ∨ _
          by_cases h : xs = ys
          · right; subst h; rfl
          · left; exact h
        generalize xs[k] = x at *
        generalize ys[k] = y at *
        by_cases hxy : x = y
        · subst hxy
          have hne : (x != x) = false := by simp
          go_wp2_with (go_quiet (fail))
          go_roundw
          case rel => exact ⟨k + 1, _, by omega, by go_num, rfl, Hs.out.2 rfl⟩
          case measure => simp [intOf]; omega
        · have hne : (x != y) = true := by simpa using hxy
          have Hd : Hid (decide (xs = ys) = false) := by
            rcases Hx.out with h | h
            · simpa [Hid] using h
            · exact absurd h hxy
          clear hxy
          go_wp2_with (go_quiet (fail))
          go_ret
          exact ⟨by rw [Hd.out]; rfl, _, World.drewN_drewN _ _ _⟩
      · go_wp2_with fail
        go_ret
        have e : xs = ys := by
          have h := Ht.out
          rwa [List.take_of_length_le (by omega), List.take_of_length_le (by omega)] at h
        exact ⟨by rw [decide_eq_true e]; rfl, _, rfl⟩
  · have Hd : Hid (decide (xs = ys) = false) := by
      have : xs ≠ ys := fun h => hl (by rw [h])
      simpa [Hid] using this
    go_enter Try.func9, Try.ntmps9
    go_wp2_with fail
    go_ret
    exact ⟨by rw [Hd.out]; rfl, 0, rfl⟩
end Go.Proofs.Ytmjhhaejiabkdaa
