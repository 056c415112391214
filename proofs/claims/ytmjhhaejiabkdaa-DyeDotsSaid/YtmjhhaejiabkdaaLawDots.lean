/- Chapter 15: the walk of DyeDots. -/
import Derived.Test.YtmjhhaejiabkdaaDotsWalk4
import Derived.Test.YtmjhhaejiabkdaaSame
namespace Go.Proofs.Ytmjhhaejiabkdaa
open Go.RowKit
set_option linter.unusedVariables false

/-- Dots and the reference's Dots tell the same -/
theorem Dots_both (W : Int) (xs : List Int) : ∃ (ys : List Int) (l e : Int),
    (∀ (w : World) (v : Value) (S : Nat → Prop), Ints w S v xs → (∀ b, S b → b < w.heap.size) →
      Calls Try.prog 7 #[.int .i64 W, v] w fun en w' => ∃ out, en = .returned (.tuple #[out, .int .i64 l, .int .i64 e]) ∧ w'.ownsRow w.heap.size 3 1 out ys.length (ys.map (Value.int .i64)) ∧ Below w.heap.size w w') ∧
    (∀ (w : World) (v : Value) (S : Nat → Prop), Ints w S v xs → (∀ b, S b → b < w.heap.size) →
      Calls Try.prog 8 #[.int .i64 W, v] w fun en w' => ∃ out, en = .returned (.tuple #[out, .int .i64 l, .int .i64 e]) ∧ w'.ownsRow w.heap.size 3 1 out ys.length (ys.map (Value.int .i64)) ∧ Below w.heap.size w w') := by
  by_cases h : unfit W xs.length
  · refine ⟨[], 0, 8, fun w v S hv _ => (Dots_unfit w hv h).mono fun e w' hh => ?_, fun w v S hv _ => (refDots_unfit w hv h).mono fun e w' hh => ?_⟩
    all_goals
      obtain ⟨he, rfl⟩ := hh
      exact ⟨_, he, World.ownsRow_nil _ _ _ _, Below.refl _ _⟩
  · obtain ⟨k, rfl, hf⟩ := not_unfit h
    by_cases hb : badG xs
    · refine ⟨[], 0, 3, fun w v S hv _ => (Dots_bad w hv hf hb).mono fun e w' hh => ?_, fun w v S hv _ => (refDots_bad w hv hf hb).mono fun e w' hh => ?_⟩
      all_goals
        obtain ⟨he, rfl⟩ := hh
        exact ⟨_, he, World.ownsRow_nil _ _ _ _, Below.refl _ _⟩
    · refine ⟨dotsL k (gOf xs) xs.length, lostS k xs.length (lef k (gOf xs)) xs.length, 0, fun w v S hv hS => ?_, fun w v S hv hS => ?_⟩
      · rw [dotsL_len]; exact Dots_ok w hv hS hf hb
      · rw [dotsL_len]; exact refDots_ok w hv hS hf hb

set_option maxHeartbeats 1000000 in
theorem dots_walk (W : Int) {v : Value} {xs : List Int} {w : World} (hv : Ints w (fun b => b < w.heap.size) v xs) :
    Calls Try.prog 3 #[.int .i64 W, v] w fun e w' => e = .returned (.bool true) ∧ Below w.heap.size w w' := by
  obtain ⟨ys, l, er, c1, c2⟩ := Dots_both W xs
  have C1 := Lib.hid c1
  have C2 := Lib.hid c2
  have HV := Lib.hid hv
  clear c1 c2
  obtain ⟨A, c, rfl, h1, h2, hr⟩ := hv
  clear hr
  go_enter Try.func3, Try.ntmps3
  go_wp2_with fail
  refine (C1.out w _ _ HV.out (fun _ h => h)).mono ?_
  rintro e w1 ⟨o1, rfl, ho1, hb1⟩
  go_wp2_with fail
  refine (C2.out w1 _ (fun b => b < w.heap.size) (HV.out.same (.of_below hb1)) (fun b h => Nat.lt_of_lt_of_le h hb1.size)).mono ?_
  rintro e w2 ⟨o2, rfl, ho2, hb2⟩
  have i1 : Ints w2 (fun b => b < w2.heap.size) o1 ys := ((Ints.of_own ho1).same ((Same.of_below hb2).mono fun i h => h.2)).mono fun i h => by have := hb2.size; omega
  have i2 : Ints w2 (fun b => b < w2.heap.size) o2 ys := (Ints.of_own ho2).mono fun i h => h.2
  have hb : Below w.heap.size w w2 := hb1.trans (hb2.mono hb1.size)
  have c := Same_any w2 i1 i2
  clear ho1 ho2 hb1 hb2 HV
  simp only [decide_true] at c
  go_wp2_with fail
  refine c.mono ?_
  rintro e w3 ⟨rfl, n3, rfl⟩
  clear c i1 i2
  go_wp2_with fail
  go_ret
  exact ⟨by simp, below_dN hb⟩
end Go.Proofs.Ytmjhhaejiabkdaa
