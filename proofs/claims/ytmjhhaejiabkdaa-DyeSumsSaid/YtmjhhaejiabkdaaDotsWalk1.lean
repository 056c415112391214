/- Chapter 15: walks of the reference's Share, and of its Dots where a number is wrong. -/
import Derived.Test.YtmjhhaejiabkdaaDotsPlain2
import Derived.Deep.QuietTactic
import Derived.BigQuiet
import Derived.Deep.DeepCutAuto
namespace Go.Proofs.Ytmjhhaejiabkdaa
open Go.RowKit
set_option linter.unusedVariables false

theorem T22 : SliceT Try.prog 22 3 (.int .i64 0) 1 8 := ⟨Try.underlying22, by kernel_rfl, rfl, by decide, by decide⟩

/-- the block that Share lays -/
def shObj (l : Int) : Obj := .cells #[.int .i64 (s0 l), .int .i64 (s1 l), .int .i64 (s2 l), .int .i64 (s3 l)] 3

set_option maxHeartbeats 400000 in
theorem Share0 {l : Int} (h1 : -1099511627776 ≤ l) (h2 : l ≤ 1099511627776) (w : World) :
    Calls Try.prog 18 #[.int .i64 l, .int .i64 0] w fun e w' => e = .returned (.int .i64 (s0 l)) ∧ w.alloc (shObj l) = w' := by
  have hs := share_bounds (l := l) (E := 1099511627776) (by omega) (by omega)
  unfold shObj
  unfold s3 s0 s1 s2 at *
  go_enter Try.func18, Try.ntmps18
  go_wp2_with fail
  go_ret
  exact ⟨rfl, rfl⟩
set_option maxHeartbeats 400000 in
theorem Share1 {l : Int} (h1 : -1099511627776 ≤ l) (h2 : l ≤ 1099511627776) (w : World) :
    Calls Try.prog 18 #[.int .i64 l, .int .i64 1] w fun e w' => e = .returned (.int .i64 (s1 l)) ∧ w.alloc (shObj l) = w' := by
  have hs := share_bounds (l := l) (E := 1099511627776) (by omega) (by omega)
  unfold shObj
  unfold s3 s0 s1 s2 at *
  go_enter Try.func18, Try.ntmps18
  go_wp2_with fail
  go_ret
  exact ⟨rfl, rfl⟩
set_option maxHeartbeats 400000 in
theorem Share2 {l : Int} (h1 : -1099511627776 ≤ l) (h2 : l ≤ 1099511627776) (w : World) :
    Calls Try.prog 18 #[.int .i64 l, .int .i64 2] w fun e w' => e = .returned (.int .i64 (s2 l)) ∧ w.alloc (shObj l) = w' := by
  have hs := share_bounds (l := l) (E := 1099511627776) (by omega) (by omega)
  unfold shObj
  unfold s3 s0 s1 s2 at *
  go_enter Try.func18, Try.ntmps18
  go_wp2_with fail
  go_ret
  exact ⟨rfl, rfl⟩
set_option maxHeartbeats 400000 in
theorem Share3 {l : Int} (h1 : -1099511627776 ≤ l) (h2 : l ≤ 1099511627776) (w : World) :
    Calls Try.prog 18 #[.int .i64 l, .int .i64 3] w fun e w' => e = .returned (.int .i64 (s3 l)) ∧ w.alloc (shObj l) = w' := by
  have hs := share_bounds (l := l) (E := 1099511627776) (by omega) (by omega)
  unfold shObj
  unfold s3 s0 s1 s2 at *
  go_enter Try.func18, Try.ntmps18
  go_wp2_with fail
  go_ret
  exact ⟨rfl, rfl⟩

/-- the picture does not fit -/
def unfit (W : Int) (N : Nat) : Prop := W < 1 ∨ 4096 < W ∨ 65536 < N ∨ (N : Int).tmod W ≠ 0

set_option maxRecDepth 100000 in
set_option maxHeartbeats 1000000 in
theorem refDots_unfit {W : Int} {xs : List Int} {v : Value} {S : Nat → Prop} (w : World) (hv : Ints w S v xs) (h : unfit W xs.length) :
    Calls Try.prog 8 #[.int .i64 W, v] w fun e w' => e = .returned (.tuple #[.slice none 0 0, .int .i64 0, .int .i64 8]) ∧ w = w' := by
  obtain ⟨A, c, rfl, hc1, hc2, hr⟩ := hv
  clear hr
  unfold maxLen at hc2
  unfold unfit at h
  by_cases h1 : W < 1
  · go_enter Try.func8, Try.ntmps8
    go_wp2_with fail
    go_ret3
    exact ⟨rfl, rfl⟩
  · by_cases h2 : 4096 < W
    · go_enter Try.func8, Try.ntmps8
      go_wp2_with fail
      go_ret3
      exact ⟨rfl, rfl⟩
    · by_cases h3 : 65536 < xs.length
      · go_enter Try.func8, Try.ntmps8
        go_wp2_with fail
        go_ret3
        exact ⟨rfl, rfl⟩
      · have h4 : ((xs.length : Int) % W != 0) = true := by
          have : (xs.length : Int).tmod W ≠ 0 := by omega
          rw [Int.tmod_eq_emod_of_nonneg (by omega)] at this
          simpa using this
        clear h
        go_enter Try.func8, Try.ntmps8
        go_wp2_with fail
        go_ret3
        exact ⟨rfl, rfl⟩
end Go.Proofs.Ytmjhhaejiabkdaa
