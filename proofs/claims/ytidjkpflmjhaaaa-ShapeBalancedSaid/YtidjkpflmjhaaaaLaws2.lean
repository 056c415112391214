/- Chapter 14: the walk of ShapeBalanced. -/
import Derived.Test.YtidjkpflmjhaaaaLaws
namespace Go.Proofs.Ytidjkpflmjhaaaa
open Go.RowKit
set_option linter.unusedVariables false

theorem Count_ok {t m p : Int} (h : wrongV t m = 0) (h0 : 0 ≤ p) (hp : p ≤ t) (w : World) :
    Calls Try.prog 8 #[.int .i64 t, .int .i64 m, .int .i64 p] w fun e w' => e = .returned (.tuple #[.int .i64 (cnt t m p), .int .i64 0]) ∧ w = w' := by
  have := Count_any t m p w
  rwa [cntV, cntE, if_neg (by omega), if_neg (by omega)] at this

theorem marks_get {t m : Int} {M k : Nat} (h : k < M) : ((marks t m M).map (Value.int .i64))[k]? = some (.int .i64 (mark t m k)) := by simp [marks, h]

set_option maxRecDepth 100000 in
set_option maxHeartbeats 1000000 in
theorem balanced_walk (t m a b l : Int) (ia : -9223372036854775808 ≤ a ∧ a ≤ 9223372036854775807) (ib : -9223372036854775808 ≤ b ∧ b ≤ 9223372036854775807) (w : World) :
    Calls Try.prog 3 #[.int .i64 t, .int .i64 m, .int .i64 a, .int .i64 b, .int .i64 l] w fun e w' => e = .returned (.bool true) ∧ Below w.heap.size w w' := by
  have Ha := fun w => alive_any w
  have HA := Lib.hid Ha
  clear Ha
  rcases wrong_cases t m with h | h
  · obtain ⟨h1, h2, h3, h4⟩ := wrong_ok h
    have Hc : Hid (∀ p, 0 ≤ p → p ≤ t → ∀ w, Calls Try.prog 8 #[.int .i64 t, .int .i64 m, .int .i64 p] w fun e w' => e = .returned (.tuple #[.int .i64 (cnt t m p), .int .i64 0]) ∧ w = w') := fun p a b w => Count_ok h a b w
    have Hs : Hid (∀ w, Calls Try.prog 7 #[.int .i64 t, .int .i64 m] w fun e w' => ∃ v, e = .returned (.tuple #[v, .int .i64 0]) ∧
      w'.ownsRow w.heap.size 3 1 v m.toNat ((marks t m m.toNat).map (Value.int .i64)) ∧ Below w.heap.size w w') := fun w => Spread_ok h w
    clear h
    obtain ⟨M, rfl⟩ := Int.eq_ofNat_of_zero_le h3
    go_enter Try.func3, Try.ntmps3
    go_wp2_with (first
      | (go_at_call 6; refine (HA.out _).mono ?_; rintro e w1 ⟨rfl, hb1⟩)
      | (go_at_call 7; refine (Hs.out _).mono ?_; rintro e w2 ⟨v, rfl, ho, hb2⟩; obtain ⟨A, c, rfl, hc1, hc2⟩ := own_form ho; simp only [Int.toNat_natCast] at *))
    have hb : Below w.heap.size w w2 := hb1.trans (hb2.mono hb1.size)
    have hr := Row.of_own ho
    unfold maxLen at hc2
    clear hb1 hb2 ho
    have HB := Lib.hid hb
    clear hb
    go_loop [42] (fun i => ∃ k : Nat, k ≤ M ∧ i = .int .i64 k) (fun i => M - (intOf i).toNat)
    case atStart => exact ⟨0, Nat.zero_le _, rfl⟩
    case round =>
      obtain ⟨k, hk, rfl⟩ := hrel
      by_cases hlt : k < M
      · obtain ⟨bb, o, rfl, _, hcell⟩ := hr.at_ (by omega)
        have hx : w2.cell? ⟨bb, o + k, none⟩ = some (.int .i64 (mark t M k)) := hcell k _ (marks_get hlt)
        have m1 := mark_nonneg (m := M) (i := k) h1 (by omega)
        have m2 := mark_lt_total (m := M) (i := k) h1 (by omega)
        have hcm := cnt_mark (m := M) h1 h3 h4 (i := k) (by omega)
        have hc := Hc.out (mark t M k) m1 (by omega)
        rw [hcm] at hc
        have HC := Lib.hid hc
        by_cases h0 : k = 0
        · subst h0
          rw [Nat.add_zero] at hx
          clear hc hcell hcm
          generalize mark t M 0 = x at *
          go_wp2_with (go_at_call 8; refine (HC.out _).mono ?_; rintro e w3 ⟨rfl, rfl⟩)
          go_round
          case rel => exact ⟨1, by omega, by go_num⟩
          case measure => simp [intOf]; omega
        · have hy : w2.cell? ⟨bb, o + (k - 1), none⟩ = some (.int .i64 (mark t M (k - 1))) := hcell (k - 1) _ (marks_get (by omega))
          have m3 := mark_mono (t := t) (m := M) h4 (i := k - 1) (j := k) (by omega) (by omega)
          have hk0 : 0 < k := by omega
          have hk1 : (0 : Int) ≤ (k : Int) - 1 := by omega
          have hk2 : (1 : Int) ≤ (k : Int) := by omega
          have ek : ((k : Int) - 1).toNat = k - 1 := by omega
          clear hc hcell hcm h0
          generalize mark t M k = x at *
          generalize mark t M (k - 1) = y at *
          go_wp2_with (go_at_call 8; refine (HC.out _).mono ?_; rintro e w3 ⟨rfl, rfl⟩)
          go_round
          case rel => exact ⟨k + 1, by omega, by go_num⟩
          case measure => simp [intOf]; omega
      · clear hr hk
        by_cases hbad : a < 0 ∨ b < 0 ∨ l < 0 ∨ t < a ∨ t < b ∨ t - a < l ∨ t - b < l
        · go_wp2_with fail
          all_goals (go_ret; exact ⟨rfl, HB.out⟩)
        · have b1 : 0 ≤ a := by omega
          have b2 : 0 ≤ b := by omega
          have b3 : 0 ≤ l := by omega
          have b4 : a ≤ t := by omega
          have b5 : b ≤ t := by omega
          have b6 : l ≤ t - a := by omega
          have b7 : l ≤ t - b := by omega
          clear hbad
          have he := cnt_even (t := t) (m := M) h1 h3 b1 b2 b3 (by omega) (by omega)
          have c1 := cnt_bounds (p := a) h1 h3
          have c2 := cnt_bounds (p := b) h1 h3
          have c3 := cnt_bounds (p := a + l) h1 h3
          have c4 := cnt_bounds (p := b + l) h1 h3
          go_wp2_with (go_at_call 8; refine (Hc.out _ (by omega) (by omega) _).mono ?_; rintro e w3 ⟨rfl, rfl⟩)
          go_ret
          exact ⟨rfl, HB.out⟩
  · have Hs : Hid (∀ w, Calls Try.prog 7 #[.int .i64 t, .int .i64 m] w fun e w' => e = .returned (.tuple #[.slice none 0 0, .int .i64 3]) ∧ w = w') := fun w => Spread_bad h w
    clear h
    go_enter Try.func3, Try.ntmps3
    go_wp2_with (first
      | (go_at_call 6; refine (HA.out _).mono ?_; rintro e w1 ⟨rfl, hb1⟩)
      | (go_at_call 7; refine (Hs.out _).mono ?_; rintro e w2 ⟨rfl, rfl⟩))
    go_ret
    exact ⟨rfl, hb1⟩
end Go.Proofs.Ytidjkpflmjhaaaa
