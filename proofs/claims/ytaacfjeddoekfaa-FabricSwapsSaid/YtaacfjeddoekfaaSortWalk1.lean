/- Sorting in place: rotation; insertion. -/
import Derived.Test.YtaacfjeddoekfaaSortMem
namespace Go.Proofs.Ytaacfjeddoekfaa
open Go.RowKit
set_option linter.unusedVariables false

set_option maxHeartbeats 1000000 in
theorem rotate_any {base g cap n : Nat} {f : Nat → Int} (a m b : Nat) (cv : Value) (w : World) (h : IR w base g cap n f) (ham : a < m) (hmb : m < b) (hbn : b ≤ n) :
    Calls Try.prog 80 #[.slice (some ⟨g, 0, none⟩) n cap, .int .i64 a, .int .i64 m, .int .i64 b, cv] w fun e w' => e = .returned (.tuple #[]) ∧ Srt w w' base g cap n (rot f a m b) := by
  obtain ⟨hc1, hc2⟩ := h.caps
  unfold maxLen at hc2
  have H := Lib.hid h
  clear h
  go_enter Try.func80, Try.ntmps80
  go_wp2_with fail
  go_loopg [10, 11] ((m - a) + (b - m)) (fun gg si sj wr => ∃ (i j : Nat) (h : Nat → Int), 0 < i ∧ 0 < j ∧ i ≤ m ∧ m + j ≤ n ∧ gg = i + j ∧ si = .int .i64 i ∧ sj = .int .i64 j ∧ Srt w wr base g cap n h ∧ rot h (m - i) m (m + j) = rot f a m b)
  case atStart =>
    refine ⟨m - a, b - m, f, by omega, by omega, by omega, by omega, rfl, ?_, ?_, Srt.refl H.out, ?_⟩
    · show Value.int .i64 _ = _; congr 1; omega
    · show Value.int .i64 _ = _; congr 1; omega
    · rw [show m - (m - a) = a by omega, show m + (b - m) = b by omega]
  case round =>
    obtain ⟨i, j, h, hi, hj, him, hjn, rfl, rfl, rfl, hs, hr⟩ := hrel
    have HS := Lib.hid hs
    have HR := Lib.hid hr
    clear hs hr
    rcases Nat.lt_trichotomy i j with hij | hij | hij
    · have hne : ((i : Int) != (j : Int)) = true := by simp; omega
      have HE : Hid (rot (swpR h (m - i) (m + j - i) i) (m - i) m (m + (j - i)) = rot f a m b) := (rot_lt h him hij).trans HR.out
      go_wp2_with fail
      rw [show ((m : Int) - (i : Int)) = ((m - i : Nat) : Int) by omega, show ((m : Int) + (j : Int) - (i : Int)) = ((m + j - i : Nat) : Int) by omega]
      refine (swapRange_any (m - i) (m + j - i) i cv wr HS.out.2.2 (by omega) (by omega)).mono ?_
      rintro e w1 ⟨rfl, hs1⟩
      have HS1 := Lib.hid (HS.out.trans hs1)
      clear hs1
      go_wp2_with fail
      go_roundg (i + (j - i))
      case measure => omega
      case rel => exact ⟨i, j - i, _, hi, by omega, him, by omega, rfl, rfl, by show Value.int .i64 _ = _; congr 1; omega, HS1.out, HE.out⟩
    · obtain rfl : i = j := hij
      have hne : ((i : Int) != (i : Int)) = false := by simp
      have HE : Hid (swpR h (m - i) m i = rot f a m b) := (rot_eq h him).trans HR.out
      go_wp2_with fail
      rw [show ((m : Int) - (i : Int)) = ((m - i : Nat) : Int) by omega]
      refine (swapRange_any (m - i) m i cv wr HS.out.2.2 (by omega) (by omega)).mono ?_
      rintro e w1 ⟨rfl, hs1⟩
      have HS1 := Lib.hid (HS.out.trans hs1)
      clear hs1
      go_wp2_with fail
      go_end0
      exact ⟨rfl, HS1.out.of_eq HE.out⟩
    · have hne : ((i : Int) != (j : Int)) = true := by simp; omega
      have HE : Hid (rot (swpR h (m - i) m j) (m - (i - j)) m (m + j) = rot f a m b) := (rot_gt h him hij).trans HR.out
      go_wp2_with fail
      rw [show ((m : Int) - (i : Int)) = ((m - i : Nat) : Int) by omega]
      refine (swapRange_any (m - i) m j cv wr HS.out.2.2 (by omega) (by omega)).mono ?_
      rintro e w1 ⟨rfl, hs1⟩
      have HS1 := Lib.hid (HS.out.trans hs1)
      clear hs1
      go_wp2_with fail
      go_roundg ((i - j) + j)
      case measure => omega
      case rel => exact ⟨i - j, j, _, by omega, hj, by omega, hjn, rfl, by show Value.int .i64 _ = _; congr 1; omega, rfl, HS1.out, HE.out⟩
end Go.Proofs.Ytaacfjeddoekfaa
