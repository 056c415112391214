/- Chapter 16: what is wrong with pieces: both programs' walks. (Printed by gen_wrong.py.) -/
import Derived.Test.YtckciljgaddpaaaLib2
import Derived.Deep.QuietTactic
import Derived.BigQuiet
import Derived.Deep.LoopGhost
import Derived.Deep.DeepCutAuto
namespace Go.Proofs.Ytckciljgaddpaaa
open Go.RowKit
set_option linter.unusedVariables false

/-- a piece -/
structure Pc where
  w : Int
  h : Int
def Pc.cells (p : Pc) : List Value := [.int .i64 p.w, .int .i64 p.h]
theorem Pc.cells_len (p : Pc) : p.cells.length = 2 := rfl
abbrev Pieces := Els Pc.cells 2
def Pc.bad (W : Int) (p : Pc) : Prop := p.w < 1 ∨ W < p.w ∨ p.h < 1 ∨ 1048576 < p.h
/-- a struct of two cells -/
theorem pc_cells {w : World} {S : Nat → Prop} {A : Option Addr} {xs : List Pc} (hr : Row w S 2 A xs.length (xs.flatMap Pc.cells)) {k : Nat} (hk : k < xs.length) :
    ∃ b o, A = some ⟨b, o, none⟩ ∧ S b ∧ w.cell? ⟨b, o + k * 2, none⟩ = some (.int .i64 xs[k].w) ∧ w.cell? ⟨b, o + k * 2 + 1, none⟩ = some (.int .i64 xs[k].h) := by
  obtain ⟨b, o, e, hs, hc⟩ := els_at Pc.cells_len hr (by decide) hk
  exact ⟨b, o, e, hs, hc 0 _ rfl, hc 1 _ rfl⟩
theorem prow_of {w : World} {S : Nat → Prop} {A : Option Addr} {n c : Nat} {xs : List Pc} (h : Pieces w S (.slice A n c) xs) : Row w S 2 A xs.length (xs.flatMap Pc.cells) := by
  obtain ⟨A', c', e, _, _, h⟩ := h
  cases e
  exact h

set_option maxHeartbeats 1000000 in
theorem wrong_range {S : Nat → Prop} {v : Value} {xs : List Pc} (W : Int) (w : World) (hv : Pieces w S v xs) (h : W < 1 ∨ 1048576 < W) :
    Calls Try.prog 12 #[.int .i64 W, v] w fun e w' => e = .returned (.int .i64 3) ∧ Below w.heap.size w w' := by
  obtain ⟨A, c, rfl, h1, h2, hr⟩ := hv
  unfold maxLen at h2
  clear hr
  rcases h with h | h
  all_goals
    go_enter Try.func12, Try.ntmps12
    go_wp2_with fail
    go_ret
    exact ⟨rfl, Below.refl _ _⟩
set_option maxHeartbeats 1000000 in
theorem wrong_many {S : Nat → Prop} {v : Value} {xs : List Pc} (W : Int) (w : World) (hv : Pieces w S v xs) (hW1 : 1 ≤ W) (hW2 : W ≤ 1048576) (h : 256 < xs.length) :
    Calls Try.prog 12 #[.int .i64 W, v] w fun e w' => e = .returned (.int .i64 5) ∧ Below w.heap.size w w' := by
  obtain ⟨A, c, rfl, h1, h2, hr⟩ := hv
  unfold maxLen at h2
  clear hr
  go_enter Try.func12, Try.ntmps12
  go_wp2_with fail
  go_ret
  exact ⟨rfl, Below.refl _ _⟩
set_option maxHeartbeats 1000000 in
theorem wrong_bad {v : Value} {xs : List Pc} (W : Int) (w : World) (hv : Pieces w (fun b => b < w.heap.size) v xs) (hW1 : 1 ≤ W) (hW2 : W ≤ 1048576) (h : xs.length ≤ 256) {i : Nat} (hi : i < xs.length) (hbad : xs[i].bad W) :
    Calls Try.prog 12 #[.int .i64 W, v] w fun e w' => e = .returned (.int .i64 3) ∧ Below w.heap.size w w' := by
  have HB := Lib.hid hbad
  have HV := Lib.hid hv
  clear hbad
  obtain ⟨A, c, rfl, h1, h2, hr⟩ := hv
  clear hr
  unfold maxLen at h2
  go_enter Try.func12, Try.ntmps12
  go_wp2_with fail
  go_loopg [18] xs.length (fun g ctr w2 => ∃ j : Nat, j ≤ xs.length ∧ g = xs.length - j ∧ ctr = .int .i64 j ∧ j ≤ i ∧ Below w.heap.size w w2)
  case atStart => exact ⟨0, by omega, rfl, rfl, by omega, Below.refl _ _⟩
  case round =>
    obtain ⟨j, hj, rfl, rfl, hji, hb2⟩ := hrel
    have hjl : j < xs.length := by omega
    obtain ⟨b, o, rfl, _, x0, x1⟩ := pc_cells (prow_of (HV.out.same (Same.of_below hb2))) hjl
    have HX : Hid (j = i → xs[j].bad W) := fun h => by subst h; exact HB.out
    generalize xs[j] = x at *
    have HB2 := Lib.hid (hb2.alloc hb2.size (.cells #[.int .i64 x.w, .int .i64 x.h] 29))
    clear hb2
    have hcs : x.w < 1 ∨ (1 ≤ x.w ∧ W < x.w) ∨ (1 ≤ x.w ∧ x.w ≤ W ∧ x.h < 1) ∨ (1 ≤ x.w ∧ x.w ≤ W ∧ 1 ≤ x.h ∧ 1048576 < x.h) ∨ (1 ≤ x.w ∧ x.w ≤ W ∧ 1 ≤ x.h ∧ x.h ≤ 1048576) := by omega
    rcases hcs with c1 | ⟨c1, c2⟩ | ⟨c1, c2, c3⟩ | ⟨c1, c2, c3, c4⟩ | ⟨c1, c2, c3, c4⟩
    case inr.inr.inr.inr =>
      have hji' : j ≠ i := fun h => by have := HX.out h; unfold Pc.bad at this; omega
      go_wp2_with fail
      go_roundg (xs.length - (j + 1))
      case measure => omega
      case rel => exact ⟨j + 1, by omega, rfl, by go_num, by omega, HB2.out⟩
    all_goals
      go_wp2_with fail
      go_ret
      exact ⟨rfl, HB2.out⟩
set_option maxHeartbeats 1000000 in
theorem wrong_ok {v : Value} {xs : List Pc} (W : Int) (w : World) (hv : Pieces w (fun b => b < w.heap.size) v xs) (hW1 : 1 ≤ W) (hW2 : W ≤ 1048576) (h : xs.length ≤ 256) (hok : ∀ i (hi : i < xs.length), ¬ xs[i].bad W) :
    Calls Try.prog 12 #[.int .i64 W, v] w fun e w' => e = .returned (.int .i64 0) ∧ Below w.heap.size w w' := by
  have HB := Lib.hid hok
  have HV := Lib.hid hv
  clear hok
  obtain ⟨A, c, rfl, h1, h2, hr⟩ := hv
  clear hr
  unfold maxLen at h2
  go_enter Try.func12, Try.ntmps12
  go_wp2_with fail
  go_loopg [18] xs.length (fun g ctr w2 => ∃ j : Nat, j ≤ xs.length ∧ g = xs.length - j ∧ ctr = .int .i64 j ∧ Below w.heap.size w w2)
  case atStart => exact ⟨0, by omega, rfl, rfl, Below.refl _ _⟩
  case round =>
    obtain ⟨j, hj, rfl, rfl, hb2⟩ := hrel
    by_cases hjl : j < xs.length
    case neg =>
      have HB2 := Lib.hid hb2
      clear hb2
      go_wp2_with fail
      go_ret
      exact ⟨rfl, HB2.out⟩
    obtain ⟨b, o, rfl, _, x0, x1⟩ := pc_cells (prow_of (HV.out.same (Same.of_below hb2))) hjl
    have HX := HB.out j hjl
    generalize xs[j] = x at *
    have HB2 := Lib.hid (hb2.alloc hb2.size (.cells #[.int .i64 x.w, .int .i64 x.h] 29))
    clear hb2
    obtain ⟨c1, c2, c3, c4⟩ : 1 ≤ x.w ∧ x.w ≤ W ∧ 1 ≤ x.h ∧ x.h ≤ 1048576 := by unfold Pc.bad at HX; omega
    clear HX
    go_wp2_with fail
    go_roundg (xs.length - (j + 1))
    case measure => omega
    case rel => exact ⟨j + 1, by omega, rfl, by go_num, HB2.out⟩

set_option maxHeartbeats 1000000 in
theorem Wrong_range {S : Nat → Prop} {v : Value} {xs : List Pc} (W : Int) (w : World) (hv : Pieces w S v xs) (h : W < 1 ∨ 1048576 < W) :
    Calls Try.prog 16 #[.int .i64 W, v] w fun e w' => e = .returned (.int .i64 3) ∧ Below w.heap.size w w' := by
  obtain ⟨A, c, rfl, h1, h2, hr⟩ := hv
  unfold maxLen at h2
  clear hr
  rcases h with h | h
  all_goals
    go_enter Try.func16, Try.ntmps16
    go_wp2_with fail
    go_ret
    exact ⟨rfl, Below.refl _ _⟩
set_option maxHeartbeats 1000000 in
theorem Wrong_many {S : Nat → Prop} {v : Value} {xs : List Pc} (W : Int) (w : World) (hv : Pieces w S v xs) (hW1 : 1 ≤ W) (hW2 : W ≤ 1048576) (h : 256 < xs.length) :
    Calls Try.prog 16 #[.int .i64 W, v] w fun e w' => e = .returned (.int .i64 5) ∧ Below w.heap.size w w' := by
  obtain ⟨A, c, rfl, h1, h2, hr⟩ := hv
  unfold maxLen at h2
  clear hr
  go_enter Try.func16, Try.ntmps16
  go_wp2_with fail
  go_ret
  exact ⟨rfl, Below.refl _ _⟩
set_option maxHeartbeats 1000000 in
theorem Wrong_bad {v : Value} {xs : List Pc} (W : Int) (w : World) (hv : Pieces w (fun b => b < w.heap.size) v xs) (hW1 : 1 ≤ W) (hW2 : W ≤ 1048576) (h : xs.length ≤ 256) {i : Nat} (hi : i < xs.length) (hbad : xs[i].bad W) :
    Calls Try.prog 16 #[.int .i64 W, v] w fun e w' => e = .returned (.int .i64 3) ∧ Below w.heap.size w w' := by
  have HB := Lib.hid hbad
  have HV := Lib.hid hv
  clear hbad
  obtain ⟨A, c, rfl, h1, h2, hr⟩ := hv
  clear hr
  unfold maxLen at h2
  go_enter Try.func16, Try.ntmps16
  go_wp2_with fail
  go_loopg [18] xs.length (fun g ctr w2 => ∃ j : Nat, j ≤ xs.length ∧ g = xs.length - j ∧ ctr = .int .i64 j ∧ j ≤ i ∧ Below w.heap.size w w2)
  case atStart => exact ⟨0, by omega, rfl, rfl, by omega, Below.refl _ _⟩
  case round =>
    obtain ⟨j, hj, rfl, rfl, hji, hb2⟩ := hrel
    have hjl : j < xs.length := by omega
    obtain ⟨b, o, rfl, _, x0, x1⟩ := pc_cells (prow_of (HV.out.same (Same.of_below hb2))) hjl
    have HX : Hid (j = i → xs[j].bad W) := fun h => by subst h; exact HB.out
    generalize xs[j] = x at *
    have HB2 := Lib.hid (hb2.alloc hb2.size (.cells #[.int .i64 x.w, .int .i64 x.h] 29))
    clear hb2
    have hcs : x.w < 1 ∨ (1 ≤ x.w ∧ W < x.w) ∨ (1 ≤ x.w ∧ x.w ≤ W ∧ x.h < 1) ∨ (1 ≤ x.w ∧ x.w ≤ W ∧ 1 ≤ x.h ∧ 1048576 < x.h) ∨ (1 ≤ x.w ∧ x.w ≤ W ∧ 1 ≤ x.h ∧ x.h ≤ 1048576) := by omega
    rcases hcs with c1 | ⟨c1, c2⟩ | ⟨c1, c2, c3⟩ | ⟨c1, c2, c3, c4⟩ | ⟨c1, c2, c3, c4⟩
    case inr.inr.inr.inr =>
      have hji' : j ≠ i := fun h => by have := HX.out h; unfold Pc.bad at this; omega
      go_wp2_with fail
      go_roundg (xs.length - (j + 1))
      case measure => omega
      case rel => exact ⟨j + 1, by omega, rfl, by go_num, by omega, HB2.out⟩
    all_goals
      go_wp2_with fail
      go_ret
      exact ⟨rfl, HB2.out⟩
set_option maxHeartbeats 1000000 in
theorem Wrong_ok {v : Value} {xs : List Pc} (W : Int) (w : World) (hv : Pieces w (fun b => b < w.heap.size) v xs) (hW1 : 1 ≤ W) (hW2 : W ≤ 1048576) (h : xs.length ≤ 256) (hok : ∀ i (hi : i < xs.length), ¬ xs[i].bad W) :
    Calls Try.prog 16 #[.int .i64 W, v] w fun e w' => e = .returned (.int .i64 0) ∧ Below w.heap.size w w' := by
  have HB := Lib.hid hok
  have HV := Lib.hid hv
  clear hok
  obtain ⟨A, c, rfl, h1, h2, hr⟩ := hv
  clear hr
  unfold maxLen at h2
  go_enter Try.func16, Try.ntmps16
  go_wp2_with fail
  go_loopg [18] xs.length (fun g ctr w2 => ∃ j : Nat, j ≤ xs.length ∧ g = xs.length - j ∧ ctr = .int .i64 j ∧ Below w.heap.size w w2)
  case atStart => exact ⟨0, by omega, rfl, rfl, Below.refl _ _⟩
  case round =>
    obtain ⟨j, hj, rfl, rfl, hb2⟩ := hrel
    by_cases hjl : j < xs.length
    case neg =>
      have HB2 := Lib.hid hb2
      clear hb2
      go_wp2_with fail
      go_ret
      exact ⟨rfl, HB2.out⟩
    obtain ⟨b, o, rfl, _, x0, x1⟩ := pc_cells (prow_of (HV.out.same (Same.of_below hb2))) hjl
    have HX := HB.out j hjl
    generalize xs[j] = x at *
    have HB2 := Lib.hid (hb2.alloc hb2.size (.cells #[.int .i64 x.w, .int .i64 x.h] 29))
    clear hb2
    obtain ⟨c1, c2, c3, c4⟩ : 1 ≤ x.w ∧ x.w ≤ W ∧ 1 ≤ x.h ∧ x.h ≤ 1048576 := by unfold Pc.bad at HX; omega
    clear HX
    go_wp2_with fail
    go_roundg (xs.length - (j + 1))
    case measure => omega
    case rel => exact ⟨j + 1, by omega, rfl, by go_num, HB2.out⟩

/-- what is wrong, by both -/
theorem wrong_both (W : Int) (xs : List Pc) : ∃ c : Int, 0 ≤ c ∧ c ≤ 5 ∧ (c = 0 → 1 ≤ W ∧ W ≤ 1048576 ∧ xs.length ≤ 256 ∧ ∀ i (hi : i < xs.length), ¬ xs[i].bad W) ∧ ∀ (v : Value) (w : World), Pieces w (fun b => b < w.heap.size) v xs →
    (Calls Try.prog 12 #[.int .i64 W, v] w fun e w' => e = .returned (.int .i64 c) ∧ Below w.heap.size w w') ∧ (Calls Try.prog 16 #[.int .i64 W, v] w fun e w' => e = .returned (.int .i64 c) ∧ Below w.heap.size w w') := by
  by_cases h1 : W < 1 ∨ 1048576 < W
  · exact ⟨3, by decide, by decide, fun h => absurd h (by decide), fun v w hv => ⟨wrong_range W w hv h1, Wrong_range W w hv h1⟩⟩
  · by_cases h2 : 256 < xs.length
    · exact ⟨5, by decide, by decide, fun h => absurd h (by decide), fun v w hv => ⟨wrong_many W w hv (by omega) (by omega) h2, Wrong_many W w hv (by omega) (by omega) h2⟩⟩
    · by_cases h3 : ∃ i, ∃ hi : i < xs.length, xs[i].bad W
      · obtain ⟨i, hi, hb⟩ := h3
        exact ⟨3, by decide, by decide, fun h => absurd h (by decide), fun v w hv => ⟨wrong_bad W w hv (by omega) (by omega) (by omega) hi hb, Wrong_bad W w hv (by omega) (by omega) (by omega) hi hb⟩⟩
      · have hok : ∀ i (hi : i < xs.length), ¬ xs[i].bad W := fun i hi hb => h3 ⟨i, hi, hb⟩
        exact ⟨0, by decide, by decide, fun _ => ⟨by omega, by omega, by omega, hok⟩, fun v w hv => ⟨wrong_ok W w hv (by omega) (by omega) (by omega) hok, Wrong_ok W w hv (by omega) (by omega) (by omega) hok⟩⟩
end Go.Proofs.Ytckciljgaddpaaa
