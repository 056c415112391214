/- Sorting in place: slices.SortStableFunc of the numbers 0, 1, .. . -/
import Derived.Test.YtaacfjeddoekfaaSortWalk4
import Derived.Test.YtaacfjeddoekfaaSortPlain3
namespace Go.Proofs.Ytaacfjeddoekfaa
open Go.RowKit
set_option linter.unusedVariables false

theorem merge_any {base g cap n N : Nat} {key : Int → Int} {w0 : World} {cv : Value} (hC : Cmp w0 base N cv key) (hnb : n ≤ 4611686018427387904) : ∀ z, MergeOK w0 base g cap n N cv key z
  | 0 => fun a m b f w hz => by omega
  | z + 1 => fun a m b f w hz h1 h2 h3 h4 h5 h6 h7 => by
    by_cases c1 : m = a + 1
    · exact merge_one_left a m b w h4 hC h5 c1 h2 h3 hnb h6 h7
    · by_cases c2 : b = m + 1
      · exact merge_one_right a m b w h4 hC h5 (by omega) c2 h3 hnb h6 h7
      · exact merge_many a m b w h4 hC h5 (by omega) (by omega) h3 hnb h6 (fun a' m' b' f' w' k1 => merge_any hC hnb z a' m' b' f' w' (by omega)) h7

set_option maxHeartbeats 4000000 in
theorem stable_any {base g cap n : Nat} {f : Nat → Int} {key : Int → Int} {w0 : World} {cv : Value} (w : World) (h : IR w base g cap n f) (hC : Cmp w0 base n cv key) (hw : Below base w0 w) (hnb : n ≤ 1099511627776) (hf : ∀ p, p < n → f p = p) :
    Calls Try.prog 60 #[.slice (some ⟨g, 0, none⟩) n cap, .int .i64 n, cv] w fun e w' => e = .returned (.tuple #[]) ∧ SrtTo w w' base g cap n key f 0 n := by
  have hbg := h.le.1
  obtain ⟨hc1, hc2⟩ := h.caps
  unfold maxLen at hc2
  have H := Lib.hid h
  have HC := Lib.hid hC
  have HW := Lib.hid hw
  have HF := Lib.hid hf
  have HRAN : Hid (∀ k, k < n → 0 ≤ f k ∧ f k < n) := fun k hk => by rw [HF.out k hk]; omega
  clear h hC hw hf
  go_enter Try.func60, Try.ntmps60
  go_wp2_with fail
  go_loopg [7, 8] n (fun gg sa sb wr => ∃ (a : Nat) (h : Nat → Int), a ≤ n ∧ gg = n - a ∧ sa = .int .i64 a ∧ sb = .int .i64 ((a : Int) + 20) ∧ Srt w wr base g cap n h ∧ Rear f h 0 n ∧ Part key h n a)
  case atStart => exact ⟨0, f, by omega, rfl, rfl, rfl, Srt.refl H.out, .refl _ _ _, Part.start HF.out⟩
  case round =>
    obtain ⟨a, h, han, rfl, rfl, rfl, hs, hr, hp⟩ := hrel
    have HS := Lib.hid hs
    have HR := Lib.hid hr
    have HP := Lib.hid hp
    clear hs hr hp
    have HASC : Hid (Asc h a n) := fun i j h1 h2 h3 => by
      obtain ⟨u, _, _, k⟩ := HP.out
      rw [k i h1 (by omega), k j (by omega) h3]; omega
    by_cases hlt : a + 20 ≤ n
    · have hb20 : (a : Int) + 20 = ((a + 20 : Nat) : Int) := by omega
      have HB20 := Lib.hid hb20
      clear hb20
      go_wp2_with fail
      rw [HB20.out]
      refine (insertion_any a (a + 20) wr HS.out.2.2 HC.out (HS.out.below HW.out hbg) (by omega) hlt (by omega) (fun i j h1 h2 h3 => HASC.out i j h1 h2 (by omega)) (HR.out.range (Nat.le_refl _) HRAN.out)).mono ?_
      rintro e w1 ⟨rfl, h', hs', hr', hd'⟩
      have HS1 := Lib.hid (HS.out.trans hs')
      have HR1 := Lib.hid (HR.out.trans (hr'.mono (Nat.zero_le _) hlt))
      have HP1 := Lib.hid (HP.out.next (by omega) hr' hd')
      clear hs' hr' hd'
      rw [← HB20.out]
      go_wp2_with fail
      go_roundg (n - (a + 20))
      case measure => omega
      case rel => exact ⟨a + 20, h', hlt, rfl, by go_num, by show Value.int .i64 _ = _; congr 1, HS1.out, HR1.out, HP1.out⟩
    · go_wp2_with fail
      refine (insertion_any a n wr HS.out.2.2 HC.out (HS.out.below HW.out hbg) han (Nat.le_refl _) (by omega) HASC.out (HR.out.range (Nat.le_refl _) HRAN.out)).mono ?_
      rintro e w1 ⟨rfl, h', hs', hr', hd'⟩
      have HS1 := Lib.hid (HS.out.trans hs')
      have HR1 := Lib.hid (HR.out.trans (hr'.mono (Nat.zero_le _) (Nat.le_refl _)))
      have HP1 := Lib.hid ((HP.out.next (b := n) (by omega) hr' hd').done (by omega))
      clear hs' hr' hd' HS HR HP HASC
      go_wp2_with fail
      go_loopg [6] (n - 20) (fun gg ss wr => ∃ (s : Nat) (h : Nat → Int), 0 < s ∧ s ≤ 2 * n + 20 ∧ gg = n - s ∧ ss = .int .i64 s ∧ Srt w wr base g cap n h ∧ Rear f h 0 n ∧ AllGood key h n s)
      case atStart => exact ⟨20, h', by omega, by omega, rfl, rfl, HS1.out, HR1.out, HP1.out⟩
      case round =>
        clear HS1 HR1 HP1
        obtain ⟨s, h, hs0, hs1, rfl, rfl, hs, hr, hp⟩ := hrel
        have HS := Lib.hid hs
        have HR := Lib.hid hr
        have HP := Lib.hid hp
        clear hs hr hp
        by_cases hlt2 : s < n
        · go_wp2_with fail
          go_loopg [7, 8] n (fun gg sa sb wr => ∃ (a : Nat) (h : Nat → Int), a ≤ n ∧ gg = n - a ∧ sa = .int .i64 a ∧ sb = .int .i64 ((a : Int) + 2 * (s : Int)) ∧ Srt w wr base g cap n h ∧ Rear f h 0 n ∧ Half key h n s a)
          case atStart => exact ⟨0, h, by omega, rfl, rfl, by show Value.int .i64 _ = _; congr 1; omega, HS.out, HR.out, HP.out.half⟩
          case round =>
            clear HS HR HP
            obtain ⟨a, h, han, rfl, rfl, rfl, hs, hr, hp⟩ := hrel
            have HS := Lib.hid hs
            have HR := Lib.hid hr
            have HP := Lib.hid hp
            clear hs hr hp
            by_cases hlt3 : a + 2 * s ≤ n
            · have hb1 : Hid ((a : Int) + (s : Int) = ((a + s : Nat) : Int)) := by show _ = _; omega
              have hb2 : Hid ((a : Int) + 2 * (s : Int) = ((a + 2 * s : Nat) : Int)) := by show _ = _; omega
              have HPRE := Lib.hid (Good.pre HP.out.at_.1 HP.out.at_.2 (b := a + 2 * s) (by omega) (by omega))
              go_wp2_with fail
              rw [hb1.out, hb2.out]
              refine (merge_any HC.out (by omega) (2 * s + 1) a (a + s) (a + 2 * s) h wr (by omega) (by omega) (by omega) hlt3 HS.out.2.2 (HS.out.below HW.out hbg) HPRE.out (HR.out.range (Nat.le_refl _) HRAN.out)).mono ?_
              rintro e w1 ⟨rfl, h2, hs', hr', hd'⟩
              have HS1 := Lib.hid (HS.out.trans hs')
              have HR1 := Lib.hid (HR.out.trans (hr'.mono (Nat.zero_le _) hlt3))
              have HP1 := Lib.hid (HP.out.next (by omega) hr' hd')
              clear hs' hr' hd'
              rw [← hb1.out, ← hb2.out]
              go_wp2_with fail
              go_roundg (n - (a + 2 * s))
              case measure => omega
              case rel => exact ⟨a + 2 * s, h2, hlt3, rfl, by go_num, by show Value.int .i64 _ = _; congr 1, HS1.out, HR1.out, HP1.out⟩
            · by_cases hlt4 : a + s < n
              · have hb1 : Hid ((a : Int) + (s : Int) = ((a + s : Nat) : Int)) := by show _ = _; omega
                have HPRE := Lib.hid (Good.pre HP.out.at_.1 HP.out.at_.2 (b := n) (by omega) (by omega))
                go_wp2_with fail
                rw [hb1.out]
                refine (merge_any HC.out (by omega) (2 * s + 1) a (a + s) n h wr (by omega) (by omega) (by omega) (Nat.le_refl _) HS.out.2.2 (HS.out.below HW.out hbg) HPRE.out (HR.out.range (Nat.le_refl _) HRAN.out)).mono ?_
                rintro e w1 ⟨rfl, h2, hs', hr', hd'⟩
                have HS1 := Lib.hid (HS.out.trans hs')
                have HR1 := Lib.hid (HR.out.trans (hr'.mono (Nat.zero_le _) (Nat.le_refl _)))
                have HP1 := Lib.hid ((HP.out.next (by omega) hr' hd').done (by omega))
                clear hs' hr' hd'
                rw [← hb1.out]
                go_wp2_with fail
                go_roundg (n - 2 * s)
                case measure => omega
                case rel => exact ⟨2 * s, h2, by omega, by omega, rfl, by show Value.int .i64 _ = _; congr 1; omega, HS1.out, HR1.out, HP1.out⟩
              · have HP1 := Lib.hid (HP.out.last (by omega))
                go_wp2_with fail
                go_roundg (n - 2 * s)
                case measure => omega
                case rel => exact ⟨2 * s, h, by omega, by omega, rfl, by show Value.int .i64 _ = _; congr 1; omega, HS.out, HR.out, HP1.out⟩
        · go_wp2_with fail
          go_end0
          exact ⟨rfl, h, HS.out, HR.out, HP.out.end_ (by omega)⟩

set_option maxHeartbeats 1000000 in
theorem sort_any {base g cap n : Nat} {f : Nat → Int} {key : Int → Int} {w0 : World} {cv : Value} (w : World) (h : IR w base g cap n f) (hC : Cmp w0 base n cv key) (hw : Below base w0 w) (hnb : n ≤ 1099511627776) (hf : ∀ p, p < n → f p = p) :
    Calls Try.prog 54 #[.slice (some ⟨g, 0, none⟩) n cap, cv] w fun e w' => e = .returned (.tuple #[]) ∧ SrtTo w w' base g cap n key f 0 n := by
  have H := Lib.hid (stable_any w h hC hw hnb hf)
  obtain ⟨hc1, hc2⟩ := h.caps
  unfold maxLen at hc2
  clear h hC hw hf
  go_enter Try.func54, Try.ntmps54
  go_wp2_with fail
  refine H.out.mono ?_
  rintro e w1 ⟨rfl, h2⟩
  go_wp2_with fail
  go_end0
  exact ⟨rfl, h2⟩
end Go.Proofs.Ytaacfjeddoekfaa
