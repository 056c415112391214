/- Chapter 14: walks of Count, of the reference's Ahead, Count and Spread, and of SameNumbers. -/
import Derived.Test.YtidjkpflmjhaaaaWalk1
import Derived.Deep.QuietTactic
import Derived.BigQuiet
namespace Go.Proofs.Ytidjkpflmjhaaaa
open Go.RowKit

/-- what Count tells -/
def cntV (t m p : Int) : Int := if wrongV t m = 3 ∨ p < 0 ∨ t < p then 0 else cnt t m p
def cntE (t m p : Int) : Int := if wrongV t m = 3 ∨ p < 0 ∨ t < p then 3 else 0

theorem mp_bounds {t m p : Int} (h2 : t ≤ 1048576) (h3 : 0 ≤ m) (h4 : m ≤ t) (h5 : 0 ≤ p) (h6 : p ≤ t) :
    0 ≤ 2 * m * p ∧ 2 * m * p ≤ 2199023255552 := by
  refine ⟨Int.mul_nonneg (by omega) (by omega), ?_⟩
  calc 2 * m * p ≤ 2097152 * 1048576 := Int.mul_le_mul (by omega) (by omega) (by omega) (by omega)
    _ = 2199023255552 := by omega

set_option maxHeartbeats 400000 in
theorem Count_any (t m p : Int) (w : World) :
    Calls Try.prog 8 #[.int .i64 t, .int .i64 m, .int .i64 p] w fun e w' => e = .returned (.tuple #[.int .i64 (cntV t m p), .int .i64 (cntE t m p)]) ∧ w = w' := by
  rcases wrong_cases t m with h | h
  · obtain ⟨h1, h2, h3, h4⟩ := wrong_ok h
    have c := fun w => wrong_no h w
    have H := Lib.hid c
    have Hv : Hid (cntV t m p = if p < 0 ∨ t < p then 0 else cnt t m p) := by simp [Hid, cntV, h]
    have He : Hid (cntE t m p = if p < 0 ∨ t < p then 3 else 0) := by simp [Hid, cntE, h]
    clear c h
    by_cases hp : 0 ≤ p ∧ p ≤ t
    · obtain ⟨h5, h6⟩ := hp
      have hb := mp_bounds h2 h3 h4 h5 h6
      go_enter Try.func8, Try.ntmps8
      go_wp2_with (go_at_call 14; refine (H.out _).mono ?_; rintro e w' ⟨rfl, rfl⟩)
      all_goals go_ret2
      all_goals refine ⟨?_, rfl⟩
      all_goals rw [Hv.out, He.out, if_neg (by omega), if_neg (by omega)]
      · have hm : m = 0 := by simpa using ‹(m == 0) = true›
        refine ret_two ?_ rfl
        rw [hm]; simp [cnt]
      · have hm : m ≠ 0 := by simpa using ‹(m == 0) = false›
        have hn : 2 * m * p - t ≤ 0 := ‹_›
        refine ret_two ?_ rfl
        unfold cnt; rw [if_neg hm, if_pos hn]
      all_goals
        have hm : m ≠ 0 := by simpa using ‹(m == 0) = false›
        refine ret_two ?_ rfl
        unfold cnt; rw [if_neg hm, if_neg (by omega)]
        omega
    · have hp' : p < 0 ∨ t < p := by omega
      clear hp
      go_enter Try.func8, Try.ntmps8
      go_wp2_with (go_at_call 14; refine (H.out _).mono ?_; rintro e w' ⟨rfl, rfl⟩)
      all_goals go_ret2
      all_goals exact ⟨by rw [Hv.out, He.out, if_pos (by omega), if_pos (by omega)]; rfl, rfl⟩
  · have c := fun w => wrong_yes h w
    have H := Lib.hid c
    have Hv : Hid (cntV t m p = 0) := by simp [Hid, cntV, h]
    have He : Hid (cntE t m p = 3) := by simp [Hid, cntE, h]
    clear c h
    go_enter Try.func8, Try.ntmps8
    go_wp2_with (go_at_call 14; refine (H.out _).mono ?_; rintro e w' ⟨rfl, rfl⟩)
    go_ret2
    exact ⟨by rw [Hv.out, He.out]; rfl, rfl⟩

set_option maxHeartbeats 400000 in
theorem Ahead_any {t m p : Int} (h1 : 1 ≤ t) (h2 : t ≤ 1048576) (h3 : 0 ≤ m) (h4 : m ≤ t) (h5 : 0 ≤ p) (h6 : p ≤ t) (w : World) :
    Calls Try.prog 16 #[.int .i64 t, .int .i64 m, .int .i64 p] w fun e w' => e = .returned (.int .i64 (cnt t m p)) ∧ w = w' := by
  have hb := mp_bounds h2 h3 h4 h5 h6
  obtain ⟨c1, c2⟩ := cnt_bounds (p := p) h1 h3
  have hc : ∀ k : Int, 0 ≤ k → k < m → (k < cnt t m p ↔ (2 * k + 1) * t < 2 * m * p) := fun k a b => cnt_lt h1 a b
  generalize cnt t m p = c at *
  have Hc := Lib.hid hc
  clear hc
  go_enter Try.func16, Try.ntmps16
  go_wp2_with fail
  go_loop [7] (fun n => ∃ k : Nat, (k : Int) ≤ c ∧ n = .int .i64 k) (fun n => m.toNat - (intOf n).toNat)
  case atStart => exact ⟨0, by omega, rfl⟩
  case round =>
    obtain ⟨k, hk, rfl⟩ := hrel
    by_cases hkm : (k : Int) < m
    · have mb := mark_bounds (i := k) h1 h2 hkm h4
      have hi := Hc.out k (by omega) hkm
      by_cases hlt : (k : Int) < c
      · have hq := hi.1 hlt
        clear hi
        go_wp2_with fail
        go_round
        case rel => exact ⟨k + 1, by omega, by go_num⟩
        case measure => simp [intOf]; omega
      · have hq : ¬ (2 * (k : Int) + 1) * t < 2 * m * p := fun h => hlt (hi.2 h)
        clear hi
        go_wp2_with fail
        go_ret
        exact ⟨ret_int (by omega), rfl⟩
    · go_wp2_with fail
      go_ret
      exact ⟨ret_int (by omega), rfl⟩

set_option maxHeartbeats 400000 in
theorem refCount_any (t m p : Int) (w : World) :
    Calls Try.prog 12 #[.int .i64 t, .int .i64 m, .int .i64 p] w fun e w' => e = .returned (.tuple #[.int .i64 (cntV t m p), .int .i64 (cntE t m p)]) ∧ w = w' := by
  rcases wrong_cases t m with h | h
  · obtain ⟨h1, h2, h3, h4⟩ := wrong_ok h
    have c := fun w => refWrong_no h w
    have H := Lib.hid c
    have Hv : Hid (cntV t m p = if p < 0 ∨ t < p then 0 else cnt t m p) := by simp [Hid, cntV, h]
    have He : Hid (cntE t m p = if p < 0 ∨ t < p then 3 else 0) := by simp [Hid, cntE, h]
    clear c h
    by_cases hp : 0 ≤ p ∧ p ≤ t
    · obtain ⟨h5, h6⟩ := hp
      go_enter Try.func12, Try.ntmps12
      go_wp2_with (first
        | (go_at_call 15; refine (H.out _).mono ?_; rintro e w' ⟨rfl, rfl⟩)
        | (go_at_call 16; refine (Ahead_any h1 h2 h3 h4 h5 h6 _).mono ?_; rintro e w' ⟨rfl, rfl⟩))
      go_ret2
      exact ⟨by rw [Hv.out, He.out, if_neg (by omega), if_neg (by omega)]; rfl, rfl⟩
    · have hp' : p < 0 ∨ t < p := by omega
      clear hp
      go_enter Try.func12, Try.ntmps12
      go_wp2_with (go_at_call 15; refine (H.out _).mono ?_; rintro e w' ⟨rfl, rfl⟩)
      all_goals go_ret2
      all_goals exact ⟨by rw [Hv.out, He.out, if_pos (by omega), if_pos (by omega)]; rfl, rfl⟩
  · have c := fun w => refWrong_yes h w
    have H := Lib.hid c
    have Hv : Hid (cntV t m p = 0) := by simp [Hid, cntV, h]
    have He : Hid (cntE t m p = 3) := by simp [Hid, cntE, h]
    clear c h
    go_enter Try.func12, Try.ntmps12
    go_wp2_with (go_at_call 15; refine (H.out _).mono ?_; rintro e w' ⟨rfl, rfl⟩)
    go_ret2
    exact ⟨by rw [Hv.out, He.out]; rfl, rfl⟩

theorem take_succ_iff {xs ys : List Int} {k : Nat} (h1 : k < xs.length) (h2 : k < ys.length) (h : xs.take k = ys.take k) : xs.take (k + 1) = ys.take (k + 1) ↔ xs[k] = ys[k] := by
  constructor
  · intro e
    have e1 : (xs.take (k + 1))[k]? = (ys.take (k + 1))[k]? := by rw [e]
    simpa [h1, h2] using e1
  · intro e
    rw [List.take_succ_eq_append_getElem h1, List.take_succ_eq_append_getElem h2, h, e]

set_option maxHeartbeats 400000 in
theorem Same_any {S : Nat → Prop} {a b : Value} {xs ys : List Int} (w : World) (ha : Ints w S a xs) (hb : Ints w S b ys) :
    Calls Try.prog 11 #[a, b] w fun e w' => e = .returned (.bool (decide (xs = ys))) ∧ ∃ n, w' = w.drewN n := by
  obtain ⟨A, c, rfl, h1, h2, ra⟩ := ha
  obtain ⟨B, d, rfl, h3, h4, rb⟩ := hb
  unfold maxLen at h2 h4
  by_cases hl : xs.length = ys.length
  · have hl1 : xs.length ≤ ys.length := by omega
    have hl2 : ys.length ≤ xs.length := by omega
    have Hl := Lib.hid hl
    clear hl
    go_enter Try.func11, Try.ntmps11
    go_wp2_with fail
    go_loopw [13] (fun i wr => ∃ k n : Nat, k ≤ xs.length ∧ i = .int .i64 k ∧ wr = w.drewN n ∧ xs.take k = ys.take k) (fun i _ => xs.length - (intOf i).toNat)
    case atStart => exact ⟨0, 0, Nat.zero_le _, rfl, rfl, rfl⟩
    case round =>
      obtain ⟨k, n, hk, rfl, rfl, htk⟩ := hrel
      have Ht := Lib.hid htk
      clear htk
      by_cases hlt : k < xs.length
      · have hlt' : k < ys.length := by omega
        have Hs : Hid (xs.take (k + 1) = ys.take (k + 1) ↔ xs[k] = ys[k]) := by
          exact take_succ_iff hlt hlt' Ht.out
        obtain ⟨b, o, rfl, _, hx⟩ := ints_cell ra hlt
        obtain ⟨b', o', rfl, _, hy⟩ := ints_cell rb hlt'
        have Hx : Hid (xs ≠ ys ∨ xs[k] = ys[k]) := by
          show _ ∨ _
          by_cases h : xs = ys
          · right; subst h; rfl
          · left; exact h
        generalize xs[k] = x at *
        generalize ys[k] = y at *
        by_cases hxy : x = y
        · subst hxy
          have hne : (x != x) = false := by simp
          go_wp2_with (go_quiet (fail))
          go_roundw
          case rel => exact ⟨k + 1, _, by omega, by go_num, rfl, Hs.out.2 rfl⟩
          case measure => simp [intOf]; omega
        · have hne : (x != y) = true := by simpa using hxy
          have Hd : Hid (decide (xs = ys) = false) := by
            rcases Hx.out with h | h
            · simpa [Hid] using h
            · exact absurd h hxy
          clear hxy
          go_wp2_with (go_quiet (fail))
          go_ret
          exact ⟨by rw [Hd.out]; rfl, _, World.drewN_drewN _ _ _⟩
      · go_wp2_with fail
        go_ret
        have e : xs = ys := by
          have h := Ht.out
          rwa [List.take_of_length_le (by omega), List.take_of_length_le (by omega)] at h
        exact ⟨by rw [decide_eq_true e]; rfl, _, rfl⟩
  · have Hd : Hid (decide (xs = ys) = false) := by
      have : xs ≠ ys := fun h => hl (by rw [h])
      simpa [Hid] using this
    go_enter Try.func11, Try.ntmps11
    go_wp2_with fail
    go_ret
    exact ⟨by rw [Hd.out]; rfl, 0, rfl⟩
end Go.Proofs.Ytidjkpflmjhaaaa
