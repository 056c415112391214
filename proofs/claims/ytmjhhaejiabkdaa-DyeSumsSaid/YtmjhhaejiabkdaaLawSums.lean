/- Chapter 15: the walk of DyeSums, given that 'alive' is true. -/
import Derived.Test.YtmjhhaejiabkdaaDotsWalk4
import Derived.Test.YtmjhhaejiabkdaaDotsSums
namespace Go.Proofs.Ytmjhhaejiabkdaa
open Go.RowKit
set_option linter.unusedVariables false

theorem tot_bounds {f : Nat → Int} (h : ∀ i, 0 ≤ f i ∧ f i ≤ 255) (k : Nat) : 0 ≤ tot f k ∧ tot f k ≤ 4080 * k := by
  induction k with
  | zero => simp [tot]
  | succ k ih => have := h k; simp only [tot]; omega

set_option maxHeartbeats 1000000 in
theorem sums_walk (HA : ∀ w, Calls Try.prog 10 #[] w fun e w' => e = .returned (.bool true) ∧ Below w.heap.size w w') (W : Int) {v : Value} {xs : List Int} {w : World} (hv : Ints w (fun b => b < w.heap.size) v xs) :
    Calls Try.prog 6 #[.int .i64 W, v] w fun e w' => e = .returned (.bool true) ∧ Below w.heap.size w w' := by
  have HV := Lib.hid hv
  have HH := Lib.hid HA
  clear HA
  obtain ⟨A, c, rfl, h1, h2, hr⟩ := hv
  clear hr
  unfold maxLen at h2
  by_cases h : unfit W xs.length
  · go_enter Try.func6, Try.ntmps6
    go_wp2_with fail
    refine (HH.out w).mono ?_
    rintro e w1 ⟨rfl, hb1⟩
    go_wp2_with fail
    refine (Dots_unfit w1 (HV.out.same (.of_below hb1)) h).mono ?_
    rintro e w2 ⟨rfl, rfl⟩
    go_wp2_with fail
    go_ret
    exact ⟨rfl, hb1⟩
  · obtain ⟨k, rfl, hf⟩ := not_unfit h
    clear h
    by_cases hb : badG xs
    · go_enter Try.func6, Try.ntmps6
      go_wp2_with fail
      refine (HH.out w).mono ?_
      rintro e w1 ⟨rfl, hb1⟩
      go_wp2_with fail
      refine (Dots_bad w1 (HV.out.same (.of_below hb1)) hf hb).mono ?_
      rintro e w2 ⟨rfl, rfl⟩
      go_wp2_with fail
      go_ret
      exact ⟨rfl, hb1⟩
    · have HF := Lib.hid hf
      have hN : xs.length ≤ 65536 := by have := hf.3; omega
      have HC : Hid (tot (gOf xs) xs.length = tot (fun j => dotOf (vv k (gOf xs) j)) xs.length + lostS k xs.length (lef k (gOf xs)) xs.length) :=
        conserved k xs.length (gOf xs) hf.1 hf.m
      have HG := Lib.hid (gOf_ok hb)
      clear hf
      go_enter Try.func6, Try.ntmps6
      go_wp2_with fail
      refine (HH.out w).mono ?_
      rintro e w1 ⟨rfl, hb1⟩
      have HV1 := Lib.hid (HV.out.same (.of_below hb1))
      go_wp2_with fail
      refine (Dots_ok w1 HV1.out (fun b h => Nat.lt_of_lt_of_le h hb1.size) HF.out hb).mono ?_
      rintro e w2 ⟨out, rfl, ho, hb2⟩
      have i2 := Ints.of_own (w := w2) (xs := dotsL k (gOf xs) xs.length) ho
      obtain ⟨A2, c2, rfl, g1, g2, r2⟩ := i2
      have HR2 := Lib.hid r2
      have HV2 := Lib.hid (HV1.out.same (.of_below (hb2.mono hb1.size)))
      have HB : Hid (Below w.heap.size w w2) := hb1.trans (hb2.mono hb1.size)
      have HT := Lib.hid (tot_bounds HG.out)
      have HT2 := Lib.hid (tot_bounds (f := fun j => dotOf (vv k (gOf xs) j)) (fun i => by rcases dot_01 (vv k (gOf xs) i) with h | h <;> rw [h] <;> decide))
      have hlo := HC.out
      clear ho hb1 hb2 r2
      rw [dotsL_len] at g1 ⊢
      unfold maxLen at g2
      generalize hL : lostS k xs.length (lef k (gOf xs)) xs.length = L at *
      go_wp2_with fail
      clear hlo hL
      go_loopw [8, 9, 30] (fun a b i wr => ∃ j : Nat, j ≤ xs.length ∧ a = .int .i64 (tot (gOf xs) j) ∧ b = .int .i64 (tot (fun j => dotOf (vv k (gOf xs) j)) j) ∧ i = .int .i64 j ∧ wr = w2) (fun _ _ i _ => xs.length - (intOf i).toNat)
      case atStart => exact ⟨0, Nat.zero_le _, rfl, rfl, rfl, rfl⟩
      case round =>
        obtain ⟨j, hj, rfl, rfl, rfl, rfl⟩ := hrel
        by_cases hlt : j < xs.length
        · obtain ⟨A1, c1, e1, _, _, r1⟩ := HV2.out
          cases e1
          obtain ⟨b, o, rfl, _, hx⟩ := ints_cell r1 hlt
          have hlt2 : j < (dotsL k (gOf xs) xs.length).length := by rw [dotsL_len]; exact hlt
          obtain ⟨b', o', rfl, _, hy⟩ := ints_cell HR2.out hlt2
          have ey : (dotsL k (gOf xs) xs.length)[j] = dotOf (vv k (gOf xs) j) := by simp [dotsL]
          rw [ey] at hy
          rw [gOf_get hlt] at hx
          have t1 := HT.out j
          have t2 := HT2.out j
          have hg := HG.out j
          have s1 : Hid (tot (gOf xs) (j + 1) = tot (gOf xs) j + 16 * gOf xs j) := rfl
          have s2 : Hid (tot (fun j => dotOf (vv k (gOf xs) j)) (j + 1) = tot (fun j => dotOf (vv k (gOf xs) j)) j + 16 * dotOf (vv k (gOf xs) j)) := rfl
          have hd := dot_01 (vv k (gOf xs) j)
          generalize tot (gOf xs) j = T1 at *
          generalize tot (fun j => dotOf (vv k (gOf xs) j)) j = T2 at *
          generalize gOf xs j = x at *
          generalize dotOf (vv k (gOf xs) j) = y at *
          clear r1 ey hlt2
          rcases hd with rfl | rfl
          · go_wp2_with fail
            go_roundw
            case rel => exact ⟨j + 1, by omega, by rw [s1.out], by rw [s2.out]; first | rfl | (congr 1; omega), by go_num, trivial⟩
            case measure => simp [intOf]; omega
          · go_wp2_with fail
            go_roundw
            case rel => exact ⟨j + 1, by omega, by rw [s1.out], by rw [s2.out]; first | rfl | (congr 1; omega), by go_num, trivial⟩
            case measure => simp [intOf]; omega
        · obtain rfl : j = xs.length := by omega
          have hc := HC.out
          have t1 := HT.out xs.length
          have t2 := HT2.out xs.length
          generalize tot (gOf xs) xs.length = T1 at *
          generalize tot (fun j => dotOf (vv k (gOf xs) j)) xs.length = T2 at *
          have q2 : (T1 == T2 + L) = true := by simpa using hc
          have q : -1000000000000 ≤ T2 + L ∧ T2 + L ≤ 1000000000000 := by omega
          clear hc
          go_wp2_with fail
          go_ret
          exact ⟨rfl, HB.out⟩
end Go.Proofs.Ytmjhhaejiabkdaa
