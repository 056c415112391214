/- Chapter 14: the laws' walks. -/
import Derived.Test.YtidjkpflmjhaaaaWalk6
namespace Go.Proofs.Ytidjkpflmjhaaaa
open Go.RowKit
set_option linter.unusedVariables false

/-- what Spread tells -/
def spreadL (t m : Int) : List Int := if wrongV t m = 0 then marks t m m.toNat else []

theorem Spread_any (t m : Int) (w : World) :
    Calls Try.prog 7 #[.int .i64 t, .int .i64 m] w fun e w' => ∃ v, e = .returned (.tuple #[v, .int .i64 (wrongV t m)]) ∧
      w'.ownsRow w.heap.size 3 1 v (spreadL t m).length ((spreadL t m).map (Value.int .i64)) ∧ Below w.heap.size w w' := by
  rcases wrong_cases t m with h | h
  · refine (Spread_ok h w).mono fun e w' hh => ?_
    obtain ⟨v, he, ho, hb⟩ := hh
    exact ⟨v, by rw [he, h], by rw [spreadL, if_pos h, marks_len]; exact ho, hb⟩
  · refine (Spread_bad h w).mono fun e w' hh => ?_
    obtain ⟨he, rfl⟩ := hh
    exact ⟨_, by rw [he, h], by rw [spreadL, if_neg (by omega)]; exact World.ownsRow_nil _ _ _ _, Below.refl _ _⟩

theorem refSpread_any (t m : Int) (w : World) :
    Calls Try.prog 10 #[.int .i64 t, .int .i64 m] w fun e w' => ∃ v, e = .returned (.tuple #[v, .int .i64 (wrongV t m)]) ∧
      w'.ownsRow w.heap.size 3 1 v (spreadL t m).length ((spreadL t m).map (Value.int .i64)) ∧ Below w.heap.size w w' := by
  rcases wrong_cases t m with h | h
  · refine (refSpread_ok h w).mono fun e w' hh => ?_
    obtain ⟨v, he, ho, hb⟩ := hh
    exact ⟨v, by rw [he, h], by rw [spreadL, if_pos h, marks_len]; exact ho, hb⟩
  · refine (refSpread_bad h w).mono fun e w' hh => ?_
    obtain ⟨he, rfl⟩ := hh
    exact ⟨_, by rw [he, h], by rw [spreadL, if_neg (by omega)]; exact World.ownsRow_nil _ _ _ _, Below.refl _ _⟩

/-- what Rows tells -/
def rowsV (f t r : Int) : List Int :=
  if f < 0 ∨ t < 0 ∨ 1048576 < f ∨ 1048576 < t ∨ r < 1 ∨ 4096 < r then [] else
  if f ≤ t then rowsL f 1 ((t - f) / r) ((t - f) % r) r r.toNat else rowsL f (-1) ((f - t) / r) ((f - t) % r) r r.toNat
def rowsE (f t r : Int) : Int := if f < 0 ∨ t < 0 ∨ 1048576 < f ∨ 1048576 < t ∨ r < 1 ∨ 4096 < r then 3 else 0

theorem Rows_any (f t r : Int) (w : World) :
    Calls Try.prog 9 #[.int .i64 f, .int .i64 t, .int .i64 r] w fun e w' => ∃ v, e = .returned (.tuple #[v, .int .i64 (rowsE f t r)]) ∧
      w'.ownsRow w.heap.size 3 1 v (rowsV f t r).length ((rowsV f t r).map (Value.int .i64)) ∧ Below w.heap.size w w' := by
  unfold rowsE rowsV
  by_cases h : f < 0 ∨ t < 0 ∨ 1048576 < f ∨ 1048576 < t ∨ r < 1 ∨ 4096 < r
  · rw [if_pos h, if_pos h]
    refine (Rows_bad h w).mono fun e w' hh => ?_
    obtain ⟨he, rfl⟩ := hh
    exact ⟨_, he, World.ownsRow_nil _ _ _ _, Below.refl _ _⟩
  · rw [if_neg h, if_neg h]
    by_cases hft : f ≤ t
    · rw [if_pos hft, rowsL_len]
      exact Rows_ok (by omega) (by omega) (by omega) (by omega) (by omega) (by omega) hft w
    · rw [if_neg hft, rowsL_len]
      exact Rows_down (by omega) (by omega) (by omega) (by omega) (by omega) (by omega) (by omega) w

theorem refRows_any (f t r : Int) (w : World) :
    Calls Try.prog 13 #[.int .i64 f, .int .i64 t, .int .i64 r] w fun e w' => ∃ v, e = .returned (.tuple #[v, .int .i64 (rowsE f t r)]) ∧
      w'.ownsRow w.heap.size 3 1 v (rowsV f t r).length ((rowsV f t r).map (Value.int .i64)) ∧ Below w.heap.size w w' := by
  unfold rowsE rowsV
  by_cases h : f < 0 ∨ t < 0 ∨ 1048576 < f ∨ 1048576 < t ∨ r < 1 ∨ 4096 < r
  · rw [if_pos h, if_pos h]
    refine (refRows_bad h w).mono fun e w' hh => ?_
    obtain ⟨he, rfl⟩ := hh
    exact ⟨_, he, World.ownsRow_nil _ _ _ _, Below.refl _ _⟩
  · rw [if_neg h, if_neg h]
    by_cases hft : f ≤ t
    · rw [if_pos hft, rowsL_len]
      exact refRows_ok (by omega) (by omega) (by omega) (by omega) (by omega) (by omega) hft w
    · rw [if_neg hft, rowsL_len]
      exact refRows_down (by omega) (by omega) (by omega) (by omega) (by omega) (by omega) (by omega) w

theorem Below.ints {B : Nat} {w w' : World} {v : Value} {xs : List Int} (h : Below B w w') (k : Ints w (fun b => b < B) v xs) : Ints w' (fun b => b < B) v xs := k.same (.of_below h)

set_option maxHeartbeats 1000000 in
theorem spreads_walk (t m p f u r : Int) (w : World) :
    Calls Try.prog 5 #[.int .i64 t, .int .i64 m, .int .i64 p, .int .i64 f, .int .i64 u, .int .i64 r] w fun e w' => e = .returned (.bool true) ∧ Below w.heap.size w w' := by
  go_enter Try.func5, Try.ntmps5
  go_wp2_with fail
  refine (Spread_any t m w).mono ?_
  rintro e w1 ⟨v1, rfl, ho1, hb1⟩
  go_wp2_with fail
  refine (refSpread_any t m w1).mono ?_
  rintro e w2 ⟨v2, rfl, ho2, hb2⟩
  have i1 : Ints w2 (fun b => b < w2.heap.size) v1 (spreadL t m) := ((Ints.of_own ho1).same ((Same.of_below hb2).mono fun i h => h.2)).mono fun i h => by have := hb2.size; omega
  have i2 : Ints w2 (fun b => b < w2.heap.size) v2 (spreadL t m) := (Ints.of_own ho2).mono fun i h => h.2
  have hb : Below w.heap.size w w2 := hb1.trans (hb2.mono hb1.size)
  have c := Same_any w2 i1 i2
  clear ho1 ho2 hb1 hb2
  simp only [decide_true] at c
  go_wp2_with fail
  refine c.mono ?_
  rintro e w3 ⟨rfl, n3, rfl⟩
  clear c i1 i2
  go_wp2_with fail
  refine (Count_any t m p _).mono ?_
  rintro e w4 ⟨rfl, rfl⟩
  go_wp2_with fail
  refine (refCount_any t m p _).mono ?_
  rintro e w5 ⟨rfl, rfl⟩
  go_wp2_with fail
  have hb3 : Below w.heap.size w (w2.drewN n3) := ⟨hb.os, hb.tape, hb.output, hb.size, hb.block⟩
  clear hb
  generalize w2.drewN n3 = w4 at *
  refine (Rows_any f u r _).mono ?_
  rintro e w6 ⟨v6, rfl, ho6, hb6⟩
  go_wp2_with fail
  refine (refRows_any f u r _).mono ?_
  rintro e w7 ⟨v7, rfl, ho7, hb7⟩
  have i1 : Ints w7 (fun b => b < w7.heap.size) v6 (rowsV f u r) := ((Ints.of_own ho6).same ((Same.of_below hb7).mono fun i h => h.2)).mono fun i h => by have := hb7.size; omega
  have i2 : Ints w7 (fun b => b < w7.heap.size) v7 (rowsV f u r) := (Ints.of_own ho7).mono fun i h => h.2
  have hb : Below w.heap.size w w7 := hb3.trans ((hb6.mono hb3.size).trans (hb7.mono (Nat.le_trans hb3.size hb6.size)))
  have c := Same_any w7 i1 i2
  clear ho6 ho7 hb6 hb7 hb3
  simp only [decide_true] at c
  go_wp2_with fail
  refine c.mono ?_
  rintro e w8 ⟨rfl, n8, rfl⟩
  clear c i1 i2
  go_wp2_with fail
  go_ret
  exact ⟨by simp, ⟨hb.os, hb.tape, hb.output, hb.size, hb.block⟩⟩

theorem spreadL_42 : spreadL 4 2 = [1, 3] := by decide
theorem wrongV_42 : wrongV 4 2 = 0 := by decide

set_option maxHeartbeats 1000000 in
theorem alive_any (w : World) : Calls Try.prog 6 #[] w fun e w' => e = .returned (.bool true) ∧ Below w.heap.size w w' := by
  go_enter Try.func6, Try.ntmps6
  go_wp2_with fail
  refine (Spread_any 4 2 w).mono ?_
  rw [spreadL_42, wrongV_42]
  rintro e w1 ⟨v, rfl, ho, hb⟩
  obtain ⟨A, c, rfl, hc1, hc2⟩ := own_form ho
  have hr := Row.of_own ho
  obtain ⟨b, o, rfl, _, hcell⟩ := hr.at_ (by decide)
  have h0 : w1.cell? ⟨b, o, none⟩ = some (.int .i64 1) := by simpa using hcell 0 (.int .i64 1) rfl
  have h1 : w1.cell? ⟨b, o + 1, none⟩ = some (.int .i64 3) := hcell 1 (.int .i64 3) rfl
  clear hcell hr ho hc1 hc2
  simp only [List.length_cons, List.length_nil, Nat.zero_add, Nat.reduceAdd] at *
  go_wp2_with fail
  go_ret
  exact ⟨rfl, hb⟩
end Go.Proofs.Ytidjkpflmjhaaaa
