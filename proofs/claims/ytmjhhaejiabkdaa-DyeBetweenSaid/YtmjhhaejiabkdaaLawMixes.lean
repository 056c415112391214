/- Chapter 15: the walk of DyeMixes. -/
import Derived.Test.YtmjhhaejiabkdaaNearWalk3
import Derived.Test.YtmjhhaejiabkdaaMixWalk3
import Derived.Test.YtmjhhaejiabkdaaMixWalk4
import Derived.Test.YtmjhhaejiabkdaaMixPlain2
namespace Go.Proofs.Ytmjhhaejiabkdaa
open Go.RowKit Go.Proofs.Ytmjhhaejiabkdaa.Fl
set_option linter.unusedVariables false
attribute [local go_sem] run_put_float

theorem mix_both (xs : List Dr) : ∃ (d : Dy) (c : Int), 0 ≤ c ∧ c ≤ 5 ∧ ∀ (S : Nat → Prop) (v : Value) (w : World), Drops w S v xs → (∀ b, S b → b < w.heap.size) →
    (Calls Try.prog 11 #[v] w fun e w' => e = .returned (.tuple #[d.val, .int .i64 c]) ∧ Below w.heap.size w w') ∧ (Calls Try.prog 14 #[v] w fun e w' => e = .returned (.tuple #[d.val, .int .i64 c]) ∧ Below w.heap.size w w') := by
  by_cases hm : xs.length = 0 ∨ 64 < xs.length
  · exact ⟨⟨0, 0, 0⟩, 5, by decide, by decide, fun S v w hv hS => ⟨Mix_many w hv hm, refMix_many w hv (by omega)⟩⟩
  · by_cases hb : ∃ i, ∃ h : i < xs.length, xs[i].ok = false
    · obtain ⟨i, h, hb⟩ := hb
      exact ⟨⟨0, 0, 0⟩, 3, by decide, by decide, fun S v w hv hS => ⟨Mix_bad w hv hS (by omega) (by omega) h hb, refMix_bad w hv hS (by omega) (by omega) h hb⟩⟩
    · have hok : ∀ i (h : i < xs.length), xs[i].ok = true := fun i h => by
        cases ho : xs[i].ok with
        | true => rfl
        | false => exact absurd ⟨i, h, ho⟩ hb
      obtain ⟨d, hd⟩ := mix_is (by omega) hok (by omega)
      exact ⟨d, 0, by decide, by decide, fun S v w hv hS => ⟨Mix_ok w hv hS (by omega) (by omega) hok hd, refMix_ok w hv hS (by omega) (by omega) hok hd⟩⟩

theorem near_both (xs : List Dy) (d : Dy) : ∃ (b : Nat) (c : Int), (0 ≤ c ∧ c ≤ 5 ∧ (c = 0 → d.fair = true ∧ (∀ i (h : i < xs.length), xs[i].fair = true) ∧ Best (farOf xs d) xs.length b)) ∧ ∀ (v : Value) (w : World), Dyes w (fun b => b < w.heap.size) v xs →
    (Calls Try.prog 12 #[v, d.val] w fun e w' => e = .returned (.tuple #[.int .i64 b, .int .i64 c]) ∧ Below w.heap.size w w') ∧ (Calls Try.prog 16 #[v, d.val] w fun e w' => e = .returned (.tuple #[.int .i64 b, .int .i64 c]) ∧ Below w.heap.size w w') := by
  by_cases hm : xs.length = 0 ∨ 256 < xs.length
  · exact ⟨0, 5, ⟨by decide, by decide, fun h => absurd h (by decide)⟩, fun v w hv => ⟨Nearest_many d w hv hm, refNearest_many d w hv hm⟩⟩
  · by_cases hb : d.fair = false ∨ d.fair = true ∧ ∃ i, ∃ h : i < xs.length, xs[i].fair = false
    · refine ⟨0, 3, ⟨by decide, by decide, fun h => absurd h (by decide)⟩, fun v w hv => ⟨?_, refNearest_bad d w hv (by omega) (by omega) hb⟩⟩
      rcases hb with hb | ⟨_, i, h, hb⟩
      · exact Nearest_bad d rfl w hv (by omega) (by omega) (i := 0) (by simp) hb
      · exact Nearest_bad d rfl w hv (by omega) (by omega) (i := i + 1) (by simpa using h) hb
    · have hd : d.fair = true := by
        cases h : d.fair with
        | true => rfl
        | false => exact absurd (.inl h) hb
      have hx : ∀ i (h : i < xs.length), xs[i].fair = true := fun i h => by
        cases ho : xs[i].fair with
        | true => rfl
        | false => exact absurd (.inr ⟨hd, i, h, ho⟩) hb
      obtain ⟨b, hbt⟩ := best_ex (farOf xs d) xs.length
      have hbest := hbt.done (by omega)
      refine ⟨b, 0, ⟨by decide, by decide, fun _ => ⟨hd, hx, hbest⟩⟩, fun v w hv => ⟨?_, refNearest_ok d w hv (by omega) (by omega) hd hx (fun k h => ⟨(farOf_is hd hx h).1, (farOf_is hd hx h).2.1⟩) hbest⟩⟩
      refine Nearest_ok d rfl w hv (by omega) (by omega) ?_ (fun k h => ⟨(farOf_is hd hx h).1, (farOf_is hd hx h).2.1⟩) hbest
      intro i h
      cases i with
      | zero => exact hd
      | succ i => exact hx i (by simpa using h)

set_option maxHeartbeats 1000000 in
theorem mixes_walk {l p : Value} {xs : List Dr} {ys : List Dy} (d : Dy) {w : World} (hl : Drops w (fun b => b < w.heap.size) l xs) (hp : Dyes w (fun b => b < w.heap.size) p ys) :
    Calls Try.prog 5 #[l, p, d.val] w fun e w' => e = .returned (.bool true) ∧ Below w.heap.size w w' := by
  obtain ⟨d1, c1, a1, a2, M⟩ := mix_both xs
  obtain ⟨b2, c2, ⟨a3, a4, _⟩, N⟩ := near_both ys d
  have HM := Lib.hid M
  have HN := Lib.hid N
  have HL := Lib.hid hl
  have HP := Lib.hid hp
  clear M N hl hp
  have hbe : Hid (Below w.heap.size w (w.alloc (.cells #[.float .f64 d.r, .float .f64 d.g, .float .f64 d.b] 33))) := (Below.refl _ _).alloc (Nat.le_refl _) _
  have hbx := Lib.hid (Arr.new w #[.float .f64 d.r, .float .f64 d.g, .float .f64 d.b] 33)
  unfold Dy.val
  go_enter Try.func5, Try.ntmps5
  go_wp2_with fail
  refine (HM.out _ _ _ (HL.out.same (Same.of_below hbe.out)) (fun b h => by simp; omega)).1.mono ?_
  rintro e w1 ⟨rfl, hb1⟩
  have HB1 := Lib.hid (hbe.out.trans (hb1.mono (by simp)))
  have HX1 := Lib.hid (hbx.out.of_eq (hb1.block _ hbx.out.lt))
  clear hb1
  unfold Dy.val
  go_wp2_with fail
  have HB2 := Lib.hid (HB1.out.alloc HB1.out.size (.cells #[.float .f64 d1.r, .float .f64 d1.g, .float .f64 d1.b] 33))
  have HX2 := Lib.hid (HX1.out.alloc (.cells #[.float .f64 d1.r, .float .f64 d1.g, .float .f64 d1.b] 33))
  have HA2 := Lib.hid (Arr.new w1 #[.float .f64 d1.r, .float .f64 d1.g, .float .f64 d1.b] 33)
  refine (HM.out _ _ _ (HL.out.same (Same.of_below HB2.out)) (fun b h => Nat.lt_of_lt_of_le h HB2.out.size)).2.mono ?_
  rintro e w2 ⟨rfl, hb2⟩
  have HB3 := Lib.hid (HB2.out.trans (hb2.mono HB2.out.size))
  have HX3 := Lib.hid (HX2.out.of_eq (hb2.block _ HX2.out.lt))
  have HA3 := Lib.hid (HA2.out.of_eq (hb2.block _ HA2.out.lt))
  clear hb2
  unfold Dy.val
  have y0 := HA3.out.cell (k := 0) rfl
  have y1 := HA3.out.cell (k := 1) rfl
  have y2 := HA3.out.cell (k := 2) rfl
  have hlt : w1.heap.size < w2.heap.size := HA3.out.lt
  have hltw : w.heap.size < w2.heap.size := HX3.out.lt
  go_wp2_with fail
  refine (Same_same d1 _).mono ?_
  rintro e w3 ⟨rfl, hb3⟩
  have HB4 := Lib.hid ((HB3.out.alloc HB3.out.size (.cells #[.float .f64 d1.r, .float .f64 d1.g, .float .f64 d1.b] 33)).trans (hb3.mono (by have := HB3.out.size; simp; omega)))
  have HX4 := Lib.hid (((HX3.out.alloc (.cells #[.float .f64 d1.r, .float .f64 d1.g, .float .f64 d1.b] 33))).of_eq (hb3.block _ (by simp; omega)))
  clear hb3 y0 y1 y2
  have x0 := HX4.out.cell (k := 0) rfl
  have x1 := HX4.out.cell (k := 1) rfl
  have x2 := HX4.out.cell (k := 2) rfl
  have e1 : (c1 == c1) = true := by simp
  have e1' : (c1 != c1) = false := by simp
  go_wp2_with fail
  refine (HN.out _ _ ((HP.out.same (Same.of_below HB4.out)).mono (fun i h => Nat.lt_of_lt_of_le h HB4.out.size))).1.mono ?_
  rintro e w5 ⟨rfl, hb5⟩
  have HB5 := Lib.hid (HB4.out.trans (hb5.mono HB4.out.size))
  have HX5 := Lib.hid (HX4.out.of_eq (hb5.block _ HX4.out.lt))
  clear hb5 x0 x1 x2
  have x0 := HX5.out.cell (k := 0) rfl
  have x1 := HX5.out.cell (k := 1) rfl
  have x2 := HX5.out.cell (k := 2) rfl
  go_wp2_with fail
  refine (HN.out _ _ ((HP.out.same (Same.of_below HB5.out)).mono (fun i h => Nat.lt_of_lt_of_le h HB5.out.size))).2.mono ?_
  rintro e w6 ⟨rfl, hb6⟩
  have HB6 := Lib.hid (HB5.out.trans (hb6.mono HB5.out.size))
  have e2 : ((b2 : Int) == b2) = true := by simp
  have e2' : (c2 == c2) = true := by simp
  go_wp2_with fail
  go_ret
  exact ⟨rfl, HB6.out⟩
theorem mixes_law {l p : Value} {xs : List Dr} {ys : List Dy} {w : World} (hl : Drops w (fun b => b < w.heap.size) l xs) (hp : Dyes w (fun b => b < w.heap.size) p ys) (d : Dy) :
    Calls Try.prog 5 #[l, p, d.val] w fun e w' => e = .returned (.bool true) ∧ Below w.heap.size w w' := mixes_walk d hl hp
end Go.Proofs.Ytmjhhaejiabkdaa
