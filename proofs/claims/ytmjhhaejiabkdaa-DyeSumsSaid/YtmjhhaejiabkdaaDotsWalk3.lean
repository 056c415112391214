/- Chapter 15: the walk of give. -/
import Derived.Test.YtmjhhaejiabkdaaDotsPlain3
import Derived.Test.YtmjhhaejiabkdaaDotsWalk1
namespace Go.Proofs.Ytmjhhaejiabkdaa
open Go.RowKit
set_option linter.unusedVariables false

def ints (l : List Int) : List Value := l.map (Value.int .i64)
theorem ints_get {l : List Int} {k : Nat} (h : k < l.length) : (ints l)[k]? = some (.int .i64 (l.getD k 0)) := by
  simp [ints, List.getD_eq_getElem?_getD, h]
theorem ints_set (l : List Int) (k : Nat) (z : Int) : (ints l).set k (.int .i64 z) = ints (l.set k z) := by simp [ints, List.map_set]

set_option maxHeartbeats 1000000 in
theorem give_any {W i N : Nat} {x y n : Int} {due : List Int} (hW : 0 < W) (hW2 : W ≤ 4096) (hN : N ≤ 65536) (hi : i < N) (hl : due.length = N) (hx : -1 ≤ x ∧ x ≤ 1) (hy : y = 0 ∨ y = 1)
    (hs : Small 1099511627776 due) (hn : -8388608 ≤ n ∧ n ≤ 8388608) {g : Nat} (w : World) (ha : Arr w g 3 (ints due)) :
    Calls Try.prog 17 #[.slice (some ⟨g, 0, none⟩) N N, .int .i64 W, .int .i64 i, .int .i64 x, .int .i64 y, .int .i64 n] w fun e w' =>
      e = .returned (.int .i64 (gvL W i x y n due)) ∧ Arr w' g 3 (ints (gvD W i x y n due)) ∧ w.grownBy w' (some g) := by
  have hyw : 0 ≤ y * (W : Int) ∧ y * (W : Int) ≤ 4096 := by rcases hy with rfl | rfl <;> omega
  have hm : (i : Int) % (W : Int) = ((i % W : Nat) : Int) := by simp
  have hWi : (1 : Int) ≤ (W : Int) := by omega
  have hxm := Nat.mod_lt i hW
  have HI : Hid (hit W i N x y ↔ 0 ≤ ((i % W : Nat) : Int) + x ∧ ((i % W : Nat) : Int) + x < W ∧ (i : Int) + y * W + x < N) := Iff.rfl
  have HG : Hid (goal W i x y = ((i : Int) + y * W + x).toNat) := rfl
  have HL : Hid (gvL W i x y n due = if hit W i N x y then 0 else n) := by subst hl; rfl
  have HD : Hid (gvD W i x y n due = if hit W i N x y then due.set (goal W i x y) (due.getD (goal W i x y) 0 + n) else due) := by subst hl; rfl
  by_cases h : hit W i N x y
  · obtain ⟨h1, h2, h3⟩ := HI.out.1 h
    have hk0 : 0 ≤ (i : Int) + y * W + x := by
      rcases hy with rfl | rfl
      · rcases Nat.eq_zero_or_pos i with rfl | h0
        · simp at h1 ⊢; omega
        · omega
      · omega
    have e1 : (i : Int) + y * W + x = (goal W i x y : Int) := by rw [HG.out]; omega
    have hK : goal W i x y < N := by rw [HG.out]; omega
    have HL1 : Hid (gvL W i x y n due = 0) := by show _ = _; rw [HL.out, if_pos h]
    have HD1 : Hid (gvD W i x y n due = due.set (goal W i x y) (due.getD (goal W i x y) 0 + n)) := by show _ = _; rw [HD.out, if_pos h]
    have hc := ha.cell (ints_get (l := due) (k := goal W i x y) (by omega))
    have hf := ha.free (goal W i x y)
    have hz := hs (goal W i x y) (by omega)
    have HE := Lib.hid e1
    have h3' : (goal W i x y : Int) < N := by omega
    clear h3 hk0 h HI HG
    generalize goal W i x y = K at *
    generalize i % W = r at *
    generalize due.getD K 0 = z at *
    go_enter Try.func17, Try.ntmps17
    go_wp2_with fail
    go_ret
    refine ⟨ret_int HL1.out.symm, ?_, grownBy_set w g K _⟩
    rw [HD1.out, ← ints_set]
    exact ha.set K _
  · have hno : ((i % W : Nat) : Int) + x < 0 ∨ (W : Int) ≤ ((i % W : Nat) : Int) + x ∨ (N : Int) ≤ (i : Int) + y * W + x := by
      have : ¬ (0 ≤ ((i % W : Nat) : Int) + x ∧ ((i % W : Nat) : Int) + x < W ∧ (i : Int) + y * W + x < N) := fun z => h (HI.out.2 z)
      omega
    have HL1 : Hid (gvL W i x y n due = n) := by show _ = _; rw [HL.out, if_neg h]
    have HD1 : Hid (gvD W i x y n due = due) := by show _ = _; rw [HD.out, if_neg h]
    clear h HI HG
    generalize i % W = r at *
    go_enter Try.func17, Try.ntmps17
    go_wp2_with fail
    all_goals go_ret
    all_goals exact ⟨ret_int HL1.out.symm, by rw [HD1.out]; exact ha, World.grownBy.refl _ _⟩
end Go.Proofs.Ytmjhhaejiabkdaa
