/- Chapter 11: the small functions of a machine. -/
import Derived.Test.YtaacfjeddoekfaaKnitMem
import Derived.Deep.QuietTactic
import Derived.BigQuiet
import Derived.BigRegion
import Derived.RegionTactic
import Derived.Deep.LoopGhost
import Derived.Deep.DeepCutAuto
import Derived.Deep.RegionHeld3
namespace Go.Proofs.Ytaacfjeddoekfaa
open Go.RowKit
set_option linter.unusedVariables false

abbrev ptr (g o : Nat) : Value := .pointer (some ⟨g, o, none⟩)
abbrev spot (b n : Int) : Value := .agg #[.int .i64 b, .int .i64 n]
def big (n : Int) : Prop := -9223372036854775800 ≤ n ∧ n ≤ 9223372036854775800

theorem arr_new2 (w : World) (o : Obj) (cs : Array Value) (t : TypeId) : Arr ((w.alloc o).alloc (.cells cs t)) (w.heap.size + 1) t cs.toList := by
  have := Arr.new (w.alloc o) cs t
  rwa [World.size_alloc] at this

set_option maxHeartbeats 1000000 in
theorem facing_any {w0 w : World} {B p N : Nat} {m : MD} {k : KS} (h : MC w0 w B p N m k) (hr : -4 ≤ k.rack ∧ k.rack ≤ 4) (b n : Int) (hn : big n) :
    Calls Try.prog 49 #[ptr p 0, spot b n] w fun e w' => e = .returned (spot (fB b) (fN k.rack b n)) ∧ Below w.heap.size w w' := by
  have c4 := h.cell (j := 4) rfl
  have hp : p < w.heap.size := h.arr.lt
  have hb : Hid (∀ u, Below w.heap.size w ((w.alloc (.cells #[.int .i64 b, .int .i64 n] 82)).alloc u)) := fun u => ((Below.refl _ _).alloc (Nat.le_refl _) _).alloc (by simp) _
  obtain ⟨r1, r2⟩ := hr
  obtain ⟨n1, n2⟩ := hn
  clear h
  generalize k.rack = r at *
  by_cases hz : b = 0
  · subst hz
    have HE : Hid (fB 0 = 1 ∧ fN r 0 n = n - r) := ⟨rfl, rfl⟩
    go_enter Try.func49, Try.ntmps49
    go_wp2_with (go_quiet (fail))
    go_region
    go_wp2_with fail
    rw [HE.out.1, HE.out.2]
    exact bodyPost_ret (v := spot 1 (n - r)) (by simp [results, Try.results49, go_sem]) rfl ⟨rfl, below_dN (n := 1) (hb.out _)⟩
  · have hze : (b == 0) = false := by simpa using hz
    have HE : Hid (fB b = 0 ∧ fN r b n = n + r) := by show _ ∧ _; unfold fB fN; rw [if_neg hz, if_neg hz]; exact ⟨rfl, rfl⟩
    clear hz
    go_enter Try.func49, Try.ntmps49
    go_wp2_with (go_quiet (fail))
    go_region
    go_wp2_with fail
    rw [HE.out.1, HE.out.2]
    exact bodyPost_ret (v := spot 0 (n + r)) (by simp [results, Try.results49, go_sem]) rfl ⟨rfl, below_dN (n := 1) (hb.out _)⟩

set_option maxHeartbeats 1000000 in
theorem there_any {w0 w : World} {B p N : Nat} {m : MD} {k : KS} (h : MC w0 w B p N m k) (hN : N ≤ 128) (b n : Int) :
    Calls Try.prog 59 #[ptr p 0, spot b n] w fun e w' => e = .returned (.bool (decide (There N b n))) ∧ Below w.heap.size w w' := by
  have c1 := h.cell (j := 1) rfl
  have hp : p < w.heap.size := h.arr.lt
  have hb : Hid (Below w.heap.size w (w.alloc (.cells #[.int .i64 b, .int .i64 n] 82))) := (Below.refl _ _).alloc (Nat.le_refl _) _
  generalize m.gb 0 = g0 at *
  clear h
  have hcs : (b = 0 ∧ ¬ 0 ≤ n) ∨ (b = 0 ∧ 0 ≤ n ∧ n < N) ∨ (b = 0 ∧ 0 ≤ n ∧ ¬ n < N) ∨ (b = 1 ∧ ¬ 0 ≤ n) ∨ (b = 1 ∧ 0 ≤ n ∧ n < N) ∨ (b = 1 ∧ 0 ≤ n ∧ ¬ n < N) ∨ (b ≠ 0 ∧ b ≠ 1) := by omega
  have HT : Hid (There N b n ↔ (b = 0 ∨ b = 1) ∧ 0 ≤ n ∧ n < (N : Int)) := Iff.rfl
  rcases hcs with ⟨rfl, q1⟩ | ⟨rfl, q1, q2⟩ | ⟨rfl, q1, q2⟩ | ⟨rfl, q1⟩ | ⟨rfl, q1, q2⟩ | ⟨rfl, q1, q2⟩ | ⟨q1, q2⟩
  case inr.inl =>
    have HE : Hid (decide (There N 0 n) = true) := decide_eq_true (HT.out.2 ⟨.inl rfl, q1, q2⟩)
    go_enter Try.func59, Try.ntmps59
    go_wp2_with (go_quiet (fail))
    go_ret
    exact ⟨ret_bool HE.out.symm, below_dN hb.out⟩
  case inr.inr.inr.inr.inl =>
    have HE : Hid (decide (There N 1 n) = true) := decide_eq_true (HT.out.2 ⟨.inr rfl, q1, q2⟩)
    go_enter Try.func59, Try.ntmps59
    go_wp2_with (go_quiet (fail))
    go_ret
    exact ⟨ret_bool HE.out.symm, below_dN hb.out⟩
  case inr.inr.inr.inr.inr.inr =>
    have HE : Hid (decide (There N b n) = false) := decide_eq_false fun c => by have := HT.out.1 c; omega
    have q3 : (b == 0) = false := by simpa using q1
    have q4 : (b == 1) = false := by simpa using q2
    clear q1 q2
    go_enter Try.func59, Try.ntmps59
    go_wp2_with (go_quiet (fail))
    go_ret
    exact ⟨ret_bool HE.out.symm, below_dN hb.out⟩
  case inr.inr.inl =>
    have HE : Hid (decide (There N 0 n) = false) := decide_eq_false fun c => by have := HT.out.1 c; omega
    go_enter Try.func59, Try.ntmps59
    go_wp2_with (go_quiet (fail))
    go_ret
    exact ⟨ret_bool HE.out.symm, below_dN hb.out⟩
  case inr.inr.inr.inr.inr.inl =>
    have HE : Hid (decide (There N 1 n) = false) := decide_eq_false fun c => by have := HT.out.1 c; omega
    go_enter Try.func59, Try.ntmps59
    go_wp2_with (go_quiet (fail))
    go_ret
    exact ⟨ret_bool HE.out.symm, below_dN hb.out⟩
  all_goals
    have HE : Hid (decide (There N _ n) = false) := decide_eq_false fun c => by have := HT.out.1 c; omega
    have q2 : decide (0 ≤ n) = false := by simpa using q1
    have q3 : decide (n ≥ 0) = false := q2
    clear q1
    go_enter Try.func59, Try.ntmps59
    go_wp2_with (go_quiet (fail))
    go_ret
    exact ⟨ret_bool HE.out.symm, below_dN hb.out⟩

set_option maxHeartbeats 1000000 in
theorem at_any {w0 w : World} {B p N : Nat} {m : MD} {k : KS} (h : MC w0 w B p N m k) (hN : N ≤ 128) {b : Int} {j : Nat} (ht : There N b (j : Int)) :
    Calls Try.prog 47 #[ptr p 0, spot b (j : Int)] w fun e w' => e = .returned (ptr (m.gb b) j) ∧ Below w.heap.size w w' := by
  have c1 := h.cell (j := 1) rfl
  have c2 := h.cell (j := 2) rfl
  have hp : p < w.heap.size := h.arr.lt
  have hb : Hid (Below w.heap.size w (w.alloc (.cells #[.int .i64 b, .int .i64 (j : Int)] 82))) := (Below.refl _ _).alloc (Nat.le_refl _) _
  have hj : j < N := by have := ht.2.2; omega
  obtain ⟨hbb, _, _⟩ := ht
  clear h
  rcases hbb with rfl | rfl
  · generalize m.gb 0 = g0 at *
    generalize m.gb 1 = g1 at *
    go_enter Try.func47, Try.ntmps47
    go_wp2_with (go_quiet (fail))
    go_ret
    exact ⟨rfl, below_dN hb.out⟩
  · generalize m.gb 0 = g0 at *
    generalize m.gb 1 = g1 at *
    go_enter Try.func47, Try.ntmps47
    go_wp2_with (go_quiet (fail))
    go_ret
    exact ⟨rfl, below_dN hb.out⟩

theorem T23 : SliceT Try.prog 23 41 (.agg #[.int .i64 0, .slice none 0 0]) 2 32 := ⟨Try.underlying23, by kernel_rfl, rfl, by decide, by decide⟩
theorem T24 : SliceT Try.prog 24 25 (.slice none 0 0) 1 24 := ⟨Try.underlying24, by kernel_rfl, rfl, by decide, by decide⟩
theorem T25 : SliceT Try.prog 25 3 (.int .i64 0) 1 8 := ⟨Try.underlying25, by kernel_rfl, rfl, by decide, by decide⟩
theorem T34 : SliceT Try.prog 34 28 (.int .i64 0) 1 8 := ⟨Try.underlying34, by kernel_rfl, rfl, by decide, by decide⟩
theorem T22 : SliceT Try.prog 22 44 (.agg #[.int .i64 0, .int .i64 0, .int .i64 0, .int .i64 0, .int .i64 0]) 5 40 := ⟨Try.underlying22, by kernel_rfl, rfl, by decide, by decide⟩
theorem T56 : SliceT Try.prog 56 90 (.agg #[.int .i64 0, .int .i64 0, .int .i64 0]) 3 24 := ⟨Try.underlying56, by kernel_rfl, rfl, by decide, by decide⟩

end Go.Proofs.Ytaacfjeddoekfaa
