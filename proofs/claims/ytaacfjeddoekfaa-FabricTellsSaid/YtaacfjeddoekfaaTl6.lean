/- Texts of the seat, put together: SortPlain3, SortWalk5, FabWalk1, FabWalk2, FabSwap, FabRun, FabShelf. -/
import Derived.Test.YtaacfjeddoekfaaTl4
import Derived.Test.YtaacfjeddoekfaaTlSortWalk4
import Derived.Test.YtaacfjeddoekfaaTl2
import Derived.Test.YtaacfjeddoekfaaTlFabBuild
import Derived.Test.YtaacfjeddoekfaaTl1
import Derived.Ground.NamesProg
import Derived.Shelf.Slices.In.SortNone
import Derived.Shelf.Sort.Plain
import Derived.Sort.OwnSortedInts
/- Sorting in place, plain: blocks in order. -/
namespace Go.Proofs.Ytaacfjeddoekfaa
set_option linter.unusedVariables false

/-- the block of s places from a on is in order, and what stands there is what stood there -/
structure Good (key : Int → Int) (h : Nat → Int) (n s a : Nat) : Prop where
  sd : Sd key h a (min (a + s) n)
  inb : ∀ p, a ≤ p → p < min (a + s) n → (a : Int) ≤ h p ∧ h p < (a : Int) + (s : Int)
section
variable {key : Int → Int} {n : Nat}
theorem Good.congr {h g : Nat → Int} {s a : Nat} (k : Good key h n s a) (e : ∀ p, a ≤ p → p < a + s → p < n → g p = h p) : Good key g n s a :=
  ⟨k.sd.congr fun p h1 h2 => e p h1 (by omega) (by omega), fun p h1 h2 => by rw [e p h1 (by omega) (by omega)]; exact k.inb p h1 h2⟩
theorem Good.empty (h : Nat → Int) {s a : Nat} (ha : n ≤ a) : Good key h n s a := ⟨fun i j p q r => by omega, fun p h1 h2 => by omega⟩
/-- one block alone, put in order by insertion -/
theorem Good.one {f h : Nat → Int} {s a b : Nat} (hf : ∀ p, a ≤ p → p < b → f p = p) (hb : b = min (a + s) n) (hr : Rear f h a b) (hs : Sd key h a b) : Good key h n s a := by
  refine ⟨hb ▸ hs, fun p h1 h2 => ?_⟩
  obtain ⟨j, k1, k2, e⟩ := hr.in_ h1 (show p < b by omega)
  rw [e, hf j k1 k2]
  omega
theorem Good.pre {h : Nat → Int} {s a b : Nat} (k1 : Good key h n s a) (k2 : Good key h n s (a + s)) (hab : a + s < b) (hb : b = min (a + 2 * s) n) : Pre key h a (a + s) b := by
  refine ⟨k1.sd.mono (Nat.le_refl _) (by omega), k2.sd.mono (Nat.le_refl _) (by omega), fun i j p q r t => ?_⟩
  have h1 := k1.inb i p (by omega)
  have h2 := k2.inb j r (by omega)
  omega
theorem Good.both {h g : Nat → Int} {s a b : Nat} (k1 : Good key h n s a) (k2 : Good key h n s (a + s)) (hb : b = min (a + 2 * s) n) (hr : Rear h g a b) (hs : Sd key g a b) : Good key g n (2 * s) a := by
  refine ⟨hb ▸ hs, fun p h1 h2 => ?_⟩
  obtain ⟨j, q1, q2, e⟩ := hr.in_ h1 (show p < b by omega)
  rw [e]
  by_cases hj : j < a + s
  · have := k1.inb j q1 (by omega)
    omega
  · have := k2.inb j (by omega) (by omega)
    omega
theorem Good.wide {h : Nat → Int} {s a : Nat} (k : Good key h n s a) (hn : n ≤ a + s) : Good key h n (2 * s) a := by
  refine ⟨k.sd.mono (Nat.le_refl _) (by omega), fun p h1 h2 => ?_⟩
  have := k.inb p h1 (by omega)
  omega

/-- all blocks of s places -/
def AllGood (key : Int → Int) (h : Nat → Int) (n s : Nat) : Prop := ∀ t, Good key h n s (t * s)
/-- the first u blocks of 2 s places; behind them blocks of s places -/
def Half (key : Int → Int) (h : Nat → Int) (n s a : Nat) : Prop := ∃ u, a = u * (2 * s) ∧ (∀ t, t < u → Good key h n (2 * s) (t * (2 * s))) ∧ ∀ t, 2 * u ≤ t → Good key h n s (t * s)
theorem AllGood.half {h : Nat → Int} {s : Nat} (k : AllGood key h n s) : Half key h n s 0 := ⟨0, by simp, fun t ht => by omega, fun t _ => k t⟩
theorem two_mul_blk (u s : Nat) : (2 * u) * s = u * (2 * s) := by rw [Nat.mul_comm 2 u, Nat.mul_assoc]
theorem Half.at_ {h : Nat → Int} {s a : Nat} (k : Half key h n s a) : Good key h n s a ∧ Good key h n s (a + s) := by
  obtain ⟨u, rfl, h1, h2⟩ := k
  have e1 := h2 (2 * u) (Nat.le_refl _)
  have e2 := h2 (2 * u + 1) (by omega)
  rw [two_mul_blk] at e1
  rw [Nat.add_mul, Nat.one_mul, two_mul_blk] at e2
  exact ⟨e1, e2⟩
theorem Half.next {h g : Nat → Int} {s a b : Nat} (k : Half key h n s a) (hb : b = min (a + 2 * s) n) (hr : Rear h g a b) (hs : Sd key g a b) : Half key g n s (a + 2 * s) := by
  obtain ⟨k1, k2⟩ := k.at_
  obtain ⟨u, ha, h1, h2⟩ := k
  refine ⟨u + 1, by rw [Nat.add_mul, Nat.one_mul, ha], fun t ht => ?_, fun t ht => ?_⟩
  · rcases Nat.lt_or_eq_of_le (Nat.le_of_lt_succ ht) with h3 | rfl
    · have h4 : (t + 1) * (2 * s) ≤ u * (2 * s) := Nat.mul_le_mul_right _ h3
      rw [Nat.add_mul, Nat.one_mul, ← ha] at h4
      exact (h1 t h3).congr fun p _ h5 _ => hr.out (.inl (by omega))
    · rw [← ha]; exact Good.both k1 k2 hb hr hs
  · have h4 : (2 * (u + 1)) * s ≤ t * s := Nat.mul_le_mul_right _ ht
    rw [two_mul_blk, Nat.add_mul, Nat.one_mul, ← ha] at h4
    exact (h2 t (by omega)).congr fun p h5 _ h6 => hr.out (.inr (by omega))
theorem Half.done {h : Nat → Int} {s a : Nat} (k : Half key h n s a) (hn : n ≤ a) : AllGood key h n (2 * s) := by
  obtain ⟨u, ha, h1, h2⟩ := k
  intro t
  rcases Nat.lt_or_ge t u with h3 | h3
  · exact h1 t h3
  · have h4 : u * (2 * s) ≤ t * (2 * s) := Nat.mul_le_mul_right _ h3
    exact Good.empty h (by omega)
theorem Half.last {h : Nat → Int} {s a : Nat} (k : Half key h n s a) (hn : n ≤ a + s) : AllGood key h n (2 * s) := by
  have k1 := k.at_.1
  obtain ⟨u, ha, h1, h2⟩ := k
  intro t
  rcases Nat.lt_trichotomy t u with h3 | rfl | h3
  · exact h1 t h3
  · rw [← ha]; exact k1.wide hn
  · have h4 : (u + 1) * (2 * s) ≤ t * (2 * s) := Nat.mul_le_mul_right _ h3
    rw [Nat.add_mul, Nat.one_mul, ← ha] at h4
    exact Good.empty h (by omega)
theorem AllGood.end_ {h : Nat → Int} {s : Nat} (k : AllGood key h n s) (hn : n ≤ s) : Sd key h 0 n := by
  have := (k 0).sd
  rw [Nat.zero_mul] at this
  exact this.mono (Nat.le_refl _) (by omega)

/-- the first u blocks of 20 are in order; what is behind them stands as it stood -/
def Part (key : Int → Int) (h : Nat → Int) (n a : Nat) : Prop := ∃ u, a = u * 20 ∧ (∀ t, t < u → Good key h n 20 (t * 20)) ∧ ∀ p, a ≤ p → p < n → h p = p
theorem Part.start {f : Nat → Int} (hf : ∀ p, p < n → f p = p) : Part key f n 0 := ⟨0, by simp, fun t ht => by omega, fun p _ h => hf p h⟩
theorem Part.next {h g : Nat → Int} {a b : Nat} (k : Part key h n a) (hb : b = min (a + 20) n) (hr : Rear h g a b) (hs : Sd key g a b) : Part key g n (a + 20) := by
  obtain ⟨u, ha, h1, h2⟩ := k
  refine ⟨u + 1, by omega, fun t ht => ?_, fun p h3 h4 => by rw [hr.out (.inr (by omega))]; exact h2 p (by omega) h4⟩
  rcases Nat.lt_or_eq_of_le (Nat.le_of_lt_succ ht) with h3 | rfl
  · exact (h1 t h3).congr fun p _ h5 _ => hr.out (.inl (by omega))
  · rw [← ha]; exact Good.one (fun p h3 h4 => h2 p h3 (by omega)) hb hr hs
theorem Part.done {h : Nat → Int} {a : Nat} (k : Part key h n a) (hn : n ≤ a) : AllGood key h n 20 := by
  obtain ⟨u, ha, h1, h2⟩ := k
  intro t
  rcases Nat.lt_or_ge t u with h3 | h3
  · exact h1 t h3
  · exact Good.empty h (by omega)
end
end Go.Proofs.Ytaacfjeddoekfaa
/- Sorting in place: slices.SortStableFunc of the numbers 0, 1, .. . -/
namespace Go.Proofs.Ytaacfjeddoekfaa
open Go.RowKit
set_option linter.unusedVariables false

theorem merge_any {base g cap n N : Nat} {key : Int → Int} {w0 : World} {cv : Value} (hC : Cmp w0 base N cv key) (hnb : n ≤ 4611686018427387904) : ∀ z, MergeOK w0 base g cap n N cv key z
  | 0 => fun a m b f w hz => by omega
  | z + 1 => fun a m b f w hz h1 h2 h3 h4 h5 h6 h7 => by
    by_cases c1 : m = a + 1
    · exact merge_one_left a m b w h4 hC h5 c1 h2 h3 hnb h6 h7
    · by_cases c2 : b = m + 1
      · exact merge_one_right a m b w h4 hC h5 (by omega) c2 h3 hnb h6 h7
      · exact merge_many a m b w h4 hC h5 (by omega) (by omega) h3 hnb h6 (fun a' m' b' f' w' k1 => merge_any hC hnb z a' m' b' f' w' (by omega)) h7

set_option maxHeartbeats 4000000 in
theorem stable_any {base g cap n : Nat} {f : Nat → Int} {key : Int → Int} {w0 : World} {cv : Value} (w : World) (h : IR w base g cap n f) (hC : Cmp w0 base n cv key) (hw : Below base w0 w) (hnb : n ≤ 1099511627776) (hf : ∀ p, p < n → f p = p) :
    Calls Try.prog 60 #[.slice (some ⟨g, 0, none⟩) n cap, .int .i64 n, cv] w fun e w' => e = .returned (.tuple #[]) ∧ SrtTo w w' base g cap n key f 0 n := by
  have hbg := h.le.1
  obtain ⟨hc1, hc2⟩ := h.caps
  unfold maxLen at hc2
  have H := Lib.hid h
  have HC := Lib.hid hC
  have HW := Lib.hid hw
  have HF := Lib.hid hf
  have HRAN : Hid (∀ k, k < n → 0 ≤ f k ∧ f k < n) := fun k hk => by rw [HF.out k hk]; omega
  clear h hC hw hf
  go_enter Try.func60, Try.ntmps60
  go_wp2_with fail
  go_loopg [7, 8] n (fun gg sa sb wr => ∃ (a : Nat) (h : Nat → Int), a ≤ n ∧ gg = n - a ∧ sa = .int .i64 a ∧ sb = .int .i64 ((a : Int) + 20) ∧ Srt w wr base g cap n h ∧ Rear f h 0 n ∧ Part key h n a)
  case atStart => exact ⟨0, f, by omega, rfl, rfl, rfl, Srt.refl H.out, .refl _ _ _, Part.start HF.out⟩
  case round =>
    obtain ⟨a, h, han, rfl, rfl, rfl, hs, hr, hp⟩ := hrel
    have HS := Lib.hid hs
    have HR := Lib.hid hr
    have HP := Lib.hid hp
    clear hs hr hp
    have HASC : Hid (Asc h a n) := fun i j h1 h2 h3 => by
      obtain ⟨u, _, _, k⟩ := HP.out
      rw [k i h1 (by omega), k j (by omega) h3]; omega
    by_cases hlt : a + 20 ≤ n
    · have hb20 : (a : Int) + 20 = ((a + 20 : Nat) : Int) := by omega
      have HB20 := Lib.hid hb20
      clear hb20
      go_wp2_with fail
      rw [HB20.out]
      refine (insertion_any a (a + 20) wr HS.out.2.2 HC.out (HS.out.below HW.out hbg) (by omega) hlt (by omega) (fun i j h1 h2 h3 => HASC.out i j h1 h2 (by omega)) (HR.out.range (Nat.le_refl _) HRAN.out)).mono ?_
      rintro e w1 ⟨rfl, h', hs', hr', hd'⟩
      have HS1 := Lib.hid (HS.out.trans hs')
      have HR1 := Lib.hid (HR.out.trans (hr'.mono (Nat.zero_le _) hlt))
      have HP1 := Lib.hid (HP.out.next (by omega) hr' hd')
      clear hs' hr' hd'
      rw [← HB20.out]
      go_wp2_with fail
      go_roundg (n - (a + 20))
      case measure => omega
      case rel => exact ⟨a + 20, h', hlt, rfl, by go_num, by show Value.int .i64 _ = _; congr 1, HS1.out, HR1.out, HP1.out⟩
    · go_wp2_with fail
      refine (insertion_any a n wr HS.out.2.2 HC.out (HS.out.below HW.out hbg) han (Nat.le_refl _) (by omega) HASC.out (HR.out.range (Nat.le_refl _) HRAN.out)).mono ?_
      rintro e w1 ⟨rfl, h', hs', hr', hd'⟩
      have HS1 := Lib.hid (HS.out.trans hs')
      have HR1 := Lib.hid (HR.out.trans (hr'.mono (Nat.zero_le _) (Nat.le_refl _)))
      have HP1 := Lib.hid ((HP.out.next (b := n) (by omega) hr' hd').done (by omega))
      clear hs' hr' hd' HS HR HP HASC
      go_wp2_with fail
      go_loopg [6] (n - 20) (fun gg ss wr => ∃ (s : Nat) (h : Nat → Int), 0 < s ∧ s ≤ 2 * n + 20 ∧ gg = n - s ∧ ss = .int .i64 s ∧ Srt w wr base g cap n h ∧ Rear f h 0 n ∧ AllGood key h n s)
      case atStart => exact ⟨20, h', by omega, by omega, rfl, rfl, HS1.out, HR1.out, HP1.out⟩
      case round =>
        clear HS1 HR1 HP1
        obtain ⟨s, h, hs0, hs1, rfl, rfl, hs, hr, hp⟩ := hrel
        have HS := Lib.hid hs
        have HR := Lib.hid hr
        have HP := Lib.hid hp
        clear hs hr hp
        by_cases hlt2 : s < n
        · go_wp2_with fail
          go_loopg [7, 8] n (fun gg sa sb wr => ∃ (a : Nat) (h : Nat → Int), a ≤ n ∧ gg = n - a ∧ sa = .int .i64 a ∧ sb = .int .i64 ((a : Int) + 2 * (s : Int)) ∧ Srt w wr base g cap n h ∧ Rear f h 0 n ∧ Half key h n s a)
          case atStart => exact ⟨0, h, by omega, rfl, rfl, by show Value.int .i64 _ = _; congr 1; omega, HS.out, HR.out, HP.out.half⟩
          case round =>
            clear HS HR HP
            obtain ⟨a, h, han, rfl, rfl, rfl, hs, hr, hp⟩ := hrel
            have HS := Lib.hid hs
            have HR := Lib.hid hr
            have HP := Lib.hid hp
            clear hs hr hp
            by_cases hlt3 : a + 2 * s ≤ n
            · have hb1 : Hid ((a : Int) + (s : Int) = ((a + s : Nat) : Int)) := by show _ = _; omega
              have hb2 : Hid ((a : Int) + 2 * (s : Int) = ((a + 2 * s : Nat) : Int)) := by show _ = _; omega
              have HPRE := Lib.hid (Good.pre HP.out.at_.1 HP.out.at_.2 (b := a + 2 * s) (by omega) (by omega))
              go_wp2_with fail
              rw [hb1.out, hb2.out]
              refine (merge_any HC.out (by omega) (2 * s + 1) a (a + s) (a + 2 * s) h wr (by omega) (by omega) (by omega) hlt3 HS.out.2.2 (HS.out.below HW.out hbg) HPRE.out (HR.out.range (Nat.le_refl _) HRAN.out)).mono ?_
              rintro e w1 ⟨rfl, h2, hs', hr', hd'⟩
              have HS1 := Lib.hid (HS.out.trans hs')
              have HR1 := Lib.hid (HR.out.trans (hr'.mono (Nat.zero_le _) hlt3))
              have HP1 := Lib.hid (HP.out.next (by omega) hr' hd')
              clear hs' hr' hd'
              rw [← hb1.out, ← hb2.out]
              go_wp2_with fail
              go_roundg (n - (a + 2 * s))
              case measure => omega
              case rel => exact ⟨a + 2 * s, h2, hlt3, rfl, by go_num, by show Value.int .i64 _ = _; congr 1, HS1.out, HR1.out, HP1.out⟩
            · by_cases hlt4 : a + s < n
              · have hb1 : Hid ((a : Int) + (s : Int) = ((a + s : Nat) : Int)) := by show _ = _; omega
                have HPRE := Lib.hid (Good.pre HP.out.at_.1 HP.out.at_.2 (b := n) (by omega) (by omega))
                go_wp2_with fail
                rw [hb1.out]
                refine (merge_any HC.out (by omega) (2 * s + 1) a (a + s) n h wr (by omega) (by omega) (by omega) (Nat.le_refl _) HS.out.2.2 (HS.out.below HW.out hbg) HPRE.out (HR.out.range (Nat.le_refl _) HRAN.out)).mono ?_
                rintro e w1 ⟨rfl, h2, hs', hr', hd'⟩
                have HS1 := Lib.hid (HS.out.trans hs')
                have HR1 := Lib.hid (HR.out.trans (hr'.mono (Nat.zero_le _) (Nat.le_refl _)))
                have HP1 := Lib.hid ((HP.out.next (by omega) hr' hd').done (by omega))
                clear hs' hr' hd'
                rw [← hb1.out]
                go_wp2_with fail
                go_roundg (n - 2 * s)
                case measure => omega
                case rel => exact ⟨2 * s, h2, by omega, by omega, rfl, by show Value.int .i64 _ = _; congr 1; omega, HS1.out, HR1.out, HP1.out⟩
              · have HP1 := Lib.hid (HP.out.last (by omega))
                go_wp2_with fail
                go_roundg (n - 2 * s)
                case measure => omega
                case rel => exact ⟨2 * s, h, by omega, by omega, rfl, by show Value.int .i64 _ = _; congr 1; omega, HS.out, HR.out, HP1.out⟩
        · go_wp2_with fail
          go_end0
          exact ⟨rfl, h, HS.out, HR.out, HP.out.end_ (by omega)⟩

set_option maxHeartbeats 1000000 in
theorem sort_any {base g cap n : Nat} {f : Nat → Int} {key : Int → Int} {w0 : World} {cv : Value} (w : World) (h : IR w base g cap n f) (hC : Cmp w0 base n cv key) (hw : Below base w0 w) (hnb : n ≤ 1099511627776) (hf : ∀ p, p < n → f p = p) :
    Calls Try.prog 54 #[.slice (some ⟨g, 0, none⟩) n cap, cv] w fun e w' => e = .returned (.tuple #[]) ∧ SrtTo w w' base g cap n key f 0 n := by
  have H := Lib.hid (stable_any w h hC hw hnb hf)
  obtain ⟨hc1, hc2⟩ := h.caps
  unfold maxLen at hc2
  clear h hC hw hf
  go_enter Try.func54, Try.ntmps54
  go_wp2_with fail
  refine H.out.mono ?_
  rintro e w1 ⟨rfl, h2⟩
  go_wp2_with fail
  go_end0
  exact ⟨rfl, h2⟩
end Go.Proofs.Ytaacfjeddoekfaa
/- Chapter 12: the program's closures and its sorted. -/
namespace Go.Proofs.Ytaacfjeddoekfaa
open Go.RowKit
set_option linter.unusedVariables false
set_option linter.unusedSimpArgs false

theorem IR_new (w : World) (n : Nat) (hn : n ≤ maxLen) : IR (w.alloc (.cells (madeCells #[.int .i64 0] n) 3)) w.heap.size w.heap.size n n (fun _ => 0) := by
  have h := World.ownsRow_lit (base := w.heap.size) (e := 3) (size := 1) w (madeCells #[.int .i64 0] n) n (Nat.le_refl _) hn (by rw [size_madeCells, Nat.mul_one])
  have e : (madeCells #[.int .i64 0] n).toList = fRow (fun _ => 0) n := by
    apply List.ext_getElem?
    intro m
    by_cases hm : m < n
    · rw [fRow_get _ hm]; unfold madeCells; simp [hm, Nat.mod_one]
    · rw [List.getElem?_eq_none (by rw [Array.length_toList, size_madeCells]; omega), List.getElem?_eq_none (by simp [fRow]; omega)]
  rw [e] at h
  exact h

theorem ints_fRow (f : Nat → Int) (n : Nat) : ints ((List.range n).map f) = fRow f n := by
  unfold ints fRow
  rw [List.map_map]
  rfl
theorem IR.ints {w : World} {base g cap n : Nat} {f : Nat → Int} (h : IR w base g cap n f) : Ints w (fun b => base ≤ b ∧ b < w.heap.size) (.slice (some ⟨g, 0, none⟩) n cap) ((List.range n).map f) := by
  refine Ints.of_own (n := n) (e := 3) ?_
  have := ints_fRow f n
  unfold Go.Proofs.Ytaacfjeddoekfaa.ints at this
  rw [this]
  exact h

/-! ### the comparison that sorted hands over -/
def keyC (ls : List Lop) (x : Int) : Int := (ls.getD x.toNat noLop).car
theorem enters55 (args : Array Value) (w : World) : (callFunc 55 args).run Try.prog w = .ok (.enter 55 args) w := by
  have h1 : Try.f55.name ≠ "runtime.NumGoroutine" := by
    have : (Try.f55.name == "runtime.NumGoroutine") = false := by kernel_rfl
    simpa using this
  have h2 : Try.f55.body.isSome = true := by kernel_rfl
  obtain ⟨c, hc⟩ := Option.isSome_iff_exists.1 h2
  have h3 : Try.prog.funcs[55]? = some Try.f55 := by kernel_rfl
  simp [callFunc, h3, h1, hc, mark]
theorem cmp55_any {S : Nat → Prop} {vl : Value} {ls : List Lop} {B : Nat} (x y : Int) (w : World) (hl : LoopsRd w S vl ls) (hB : w.cell? ⟨B, 0, none⟩ = some vl) (hcar : ∀ l ∈ ls, 0 ≤ l.car ∧ l.car ≤ 7)
    (x0 : 0 ≤ x) (x1 : x < ls.length) (y0 : 0 ≤ y) (y1 : y < ls.length) :
    Calls Try.prog 55 #[.int .i64 x, .int .i64 y, .pointer (some ⟨B, 0, none⟩)] w fun e w' => e = .returned (.int .i64 (keyC ls x - keyC ls y)) ∧ ∃ k, w' = w.drewN k := by
  obtain ⟨A, c, tv, rfl, h1, h2, hr, _⟩ := hl
  obtain ⟨i, rfl⟩ : ∃ i : Nat, x = (i : Int) := ⟨x.toNat, by omega⟩
  obtain ⟨j, rfl⟩ : ∃ j : Nat, y = (j : Int) := ⟨y.toNat, by omega⟩
  have hi : i < ls.length := by omega
  have hj : j < ls.length := by omega
  have hmem : ∀ i, i < ls.length → 0 ≤ (ls.getD i noLop).car ∧ (ls.getD i noLop).car ≤ 7 := fun i hi => by
    rw [List.getD_eq_getElem?_getD, List.getElem?_eq_getElem hi]
    exact hcar _ (List.getElem_mem hi)
  have hci := hmem i hi
  have hcj := hmem j hj
  obtain ⟨b, o, e, _, u0, _⟩ := loop_cells hr hi
  cases e
  obtain ⟨b', o', e, _, v0, _⟩ := loop_cells hr hj
  cases e
  unfold keyC
  rw [Int.toNat_natCast, Int.toNat_natCast]
  generalize (ls.getD i noLop).car = p at *
  generalize (ls.getD j noLop).car = q at *
  clear hr hmem hcar
  unfold maxLen at h2
  go_enter Try.func55, Try.ntmps55
  go_wp2_with (go_quiet (fail))
  go_ret
  exact ⟨rfl, _, rfl⟩
theorem cmp_cars {vl : Value} {ls : List Lop} {B base : Nat} {w0 : World} (hl : LoopsRd w0 (fun b => b < base) vl ls) (hB : w0.cell? ⟨B, 0, none⟩ = some vl) (hBb : B < base) (hb : base ≤ w0.heap.size) (hcar : ∀ l ∈ ls, 0 ≤ l.car ∧ l.car ≤ 7) :
    Cmp w0 base ls.length (.func (.func 55) #[] #[.pointer (some ⟨B, 0, none⟩)]) (keyC ls) := by
  refine ⟨55, #[.pointer (some ⟨B, 0, none⟩)], fun x y => keyC ls x - keyC ls y, rfl, enters55, fun x y _ _ _ _ => (by show keyC ls x - keyC ls y < 0 ↔ _; omega), fun W x y hW x0 x1 y0 y1 => ?_⟩
  exact cmp55_any x y W (hl.same (Same.of_below hW)) ((hW.cell (p := ⟨B, 0, none⟩) hBb).trans hB) hcar x0 x1 y0 y1

/-! ### sorting nothing -/
theorem insertion_none (w : World) (cv : Value) : Calls Try.prog 72 #[.slice none 0 0, .int .i64 0, .int .i64 0, cv] w fun e w' => e = .returned (.tuple #[]) ∧ w' = w := by
  go_enter Try.func72, Try.ntmps72
  go_wp2_with fail
  go_loopg [8] 0 (fun gg ctr wr => ctr = .int .i64 1 ∧ gg = 0 ∧ wr = w)
  case atStart => exact ⟨rfl, rfl, rfl⟩
  case round =>
    obtain ⟨rfl, rfl, rfl⟩ := hrel
    go_wp2_with fail
    go_end0
    exact ⟨rfl, rfl⟩
theorem stable_none (w : World) (cv : Value) : Calls Try.prog 60 #[.slice none 0 0, .int .i64 0, cv] w fun e w' => e = .returned (.tuple #[]) ∧ w' = w := by
  go_enter Try.func60, Try.ntmps60
  go_wp2_with fail
  go_loopg [7, 8] 0 (fun gg a b wr => a = .int .i64 0 ∧ b = .int .i64 20 ∧ gg = 0 ∧ wr = w)
  case atStart => exact ⟨rfl, rfl, rfl, rfl⟩
  case round =>
    obtain ⟨rfl, rfl, rfl, rfl⟩ := hrel
    go_wp2_with fail
    refine (insertion_none _ _).mono ?_
    rintro e w' ⟨rfl, rfl⟩
    go_wp2_with fail
    go_loopg [6, 7, 8] 0 (fun gg a b c wr => a = .int .i64 20 ∧ b = .int .i64 0 ∧ c = .int .i64 20 ∧ gg = 0 ∧ wr = w')
    case atStart => exact ⟨rfl, rfl, rfl, rfl, rfl⟩
    case round =>
      obtain ⟨rfl, rfl, rfl, rfl, rfl⟩ := hrel
      go_wp2_with fail
      go_end0
      exact ⟨rfl, rfl⟩
theorem sort_none (w : World) (cv : Value) : Calls Try.prog 54 #[.slice none 0 0, cv] w fun e w' => e = .returned (.tuple #[]) ∧ w' = w := by
  go_enter Try.func54, Try.ntmps54
  go_wp2_with fail
  refine (stable_none _ _).mono ?_
  rintro e w' ⟨rfl, rfl⟩
  go_wp2_with fail
  go_end0
  exact ⟨rfl, rfl⟩

/-! ### loops renamed -/
set_option maxHeartbeats 1000000 in
theorem renamed_any {S T : Nat → Prop} {lv tv : Value} {l ts : List Int} {B : Nat} (w : World) (hl : Ints w S lv l) (ht : Ints w T tv ts) (hS : ∀ b, S b → b < w.heap.size) (hT : ∀ b, T b → b < w.heap.size) (hB : w.cell? ⟨B, 0, none⟩ = some tv) (hBl : B < w.heap.size)
    (hlow : ∀ x ∈ l, 0 ≤ x ∧ x < (ts.length : Int)) (hn : l.length ≤ 1000000) :
    Calls Try.prog 34 #[lv, .pointer (some ⟨B, 0, none⟩)] w fun e w' => ∃ u, e = .returned u ∧ w'.ownsRow w.heap.size 3 1 u l.length (ints (l.map fun x => ts.getD x.toNat 0)) ∧ Below w.heap.size w w' := by
  have HLOW := Lib.hid hlow
  clear hlow
  obtain ⟨A, c, rfl, h1, h2, hr⟩ := hl
  obtain ⟨At, ct, rfl, g1, g2, hq⟩ := ht
  have HR := Lib.hid hr
  have HQ := Lib.hid hq
  have HS := Lib.hid hS
  have HT := Lib.hid hT
  have HBC := Lib.hid hB
  have HBL := Lib.hid hBl
  clear hr hq hB hS hT hBl
  unfold maxLen at h2 g2
  go_enter Try.func34, Try.ntmps34
  go_wp2_with fail
  go_loopg [4, 9] l.length (fun gg out ctr wr => ∃ i : Nat, i ≤ l.length ∧ gg = l.length - i ∧ ctr = .int .i64 i ∧ wr.ownsRow w.heap.size 3 1 out i (ints ((l.take i).map fun x => ts.getD x.toNat 0)) ∧ Below w.heap.size w wr)
  case atStart => exact ⟨0, by omega, rfl, rfl, World.ownsRow_nil _ _ _ _, Below.refl _ _⟩
  case round =>
    obtain ⟨i, hi, rfl, rfl, ho, hb⟩ := hrel
    have HO := Lib.hid ho
    have HB := Lib.hid hb
    clear ho hb
    by_cases hlt : i < l.length
    case neg =>
      obtain rfl : i = l.length := by omega
      rw [List.take_length] at HO
      go_wp2_with fail
      go_ret
      exact ⟨_, rfl, HO.out, HB.out⟩
    obtain ⟨b, o, e, hb, x0⟩ := ints_cell (HR.out.same (w' := wr) fun b hb => HB.out.block b (HS.out b hb)) hlt
    cases e
    have hx := HLOW.out _ (List.getElem_mem hlt)
    have HN : Hid ((l.take (i + 1)).map (fun x => ts.getD x.toNat 0) = (l.take i).map (fun x => ts.getD x.toNat 0) ++ [ts.getD l[i].toNat 0]) := by
      show _ = _
      rw [List.take_succ_eq_append_getElem hlt, List.map_append]; rfl
    generalize l[i] = x at *
    obtain ⟨m, rfl⟩ : ∃ m : Nat, x = (m : Int) := ⟨x.toNat, by omega⟩
    have hm : m < ts.length := by omega
    rw [Int.toNat_natCast] at HN
    obtain ⟨b', o', e, hb', y0⟩ := ints_cell (HQ.out.same (w' := wr) fun b hb => HB.out.block b (HT.out b hb)) hm
    cases e
    have e2 : ts.getD m 0 = ts[m] := by rw [List.getD_eq_getElem?_getD, List.getElem?_eq_getElem hm]; rfl
    rw [e2] at HN
    generalize ts[m] = y at *
    have z0 := (HB.out.cell (p := ⟨B, 0, none⟩) HBL.out).trans HBC.out
    generalize (l.take i).map (fun x => ts.getD x.toNat 0) = L at *
    clear e2
    go_wp2_with (at_builtin
                 refine app_el T25 [.int .i64 y] HO.out HB.out (Nat.le_refl _) rfl rfl rfl rfl rfl ?_ ?_ ?_
                 rotate_right
                 intro v1 w1 hown1 hb1 hg1 ho1
                 have HF := Lib.hid (And.intro hown1 hb1)
                 clear hown1 hb1 hg1 ho1)
    case refine_1 => simp [Value.oneCell']
    case refine_2 => omega
    go_roundg (l.length - (i + 1))
    case measure => omega
    case rel => exact ⟨i + 1, by omega, rfl, by go_num, by rw [HN.out, ints_app]; exact HF.out.1, HF.out.2⟩
end Go.Proofs.Ytaacfjeddoekfaa
/- Chapter 12: the program's sorted: loops numbered along their yarns. -/
namespace Go.Proofs.Ytaacfjeddoekfaa
open Go.RowKit
set_option linter.unusedVariables false
set_option linter.unusedSimpArgs false

theorem keyC_cars (ls : List Lop) (x : Int) : keyC ls x = (cars ls).getD x.toNat 0 := (cars_get ls x.toNat).symm
/-- an order of n things by a key, those of one key as they were -/
theorem sortF_own {base n : Nat} {v cv : Value} {ls : List Lop} (w : World) (h : w.ownsRow base 3 1 v n (fRow (fun k => (k : Int)) n)) (hn : n = ls.length) (hn2 : n ≤ 1000000) (hC : Cmp w base n cv (keyC ls)) :
    Calls Try.prog 54 #[v, cv] w fun e w' => e = .returned (.tuple #[]) ∧ w'.ownsRow base 3 1 v n (fRow (fun k => (inv (cars ls) k : Int)) n) ∧ w.grownBy w' v.ownBlock := by
  have h0 := h
  subst hn
  rcases h.2 with ⟨rfl, h1⟩ | ⟨g, cap, cur, rfl, hbase, hb, h1, h2, h3, h4⟩
  · refine (sort_none w cv).mono ?_
    rintro e w' ⟨rfl, rfl⟩
    rw [h1] at h0 ⊢
    exact ⟨rfl, h0, ⟨rfl, rfl, rfl, Nat.le_refl _, fun _ _ _ => rfl⟩⟩
  · refine (sort_any w (g := g) (cap := cap) (f := fun k => (k : Int)) h0 hC (Below.refl _ _) (by omega) (fun _ _ => rfl)).mono ?_
    rintro e w' ⟨rfl, f, hs, hr, hd⟩
    obtain ⟨σ, τ, s1, s2, s3, s4⟩ := hr
    have hl : (cars ls).length = ls.length := cars_len ls
    have lt1 : ∀ k, k < ls.length → σ k < ls.length := fun k hk => by
      refine Nat.lt_of_not_le fun c => ?_
      have e1 := s3 (σ k) (.inr c)
      have e2 := congrArg τ e1
      rw [s2, s2] at e2
      omega
    have lt2 : ∀ k, k < ls.length → τ k < ls.length := fun k hk => by
      refine Nat.lt_of_not_le fun c => ?_
      have e1 := s3 (τ k) (.inr c)
      rw [s1] at e1
      omega
    refine ⟨rfl, ?_, hs.1⟩
    have he : ∀ k, k < ls.length → f k = (inv (cars ls) k : Int) := fun k hk => by
      have hm : num (cars ls) (σ k) = k := num_sorted s1 s2 (by rw [hl]; exact lt1) (by rw [hl]; exact lt2) (fun s t hst ht => by
        rw [hl] at ht
        have := hd s t (Nat.zero_le _) hst ht
        rw [ahead_iff]
        unfold ltK at this
        rw [keyC_cars, keyC_cars, s4, s4] at this
        simp only [Int.toNat_natCast] at this
        omega) (by rw [hl]; exact hk)
      rw [s4, inv_eq (by rw [hl]; exact lt1 k hk) hm]
    exact IR.congr hs.2.2 he

set_option maxRecDepth 100000 in
set_option maxHeartbeats 2000000 in
theorem sorted_any {S : Nat → Prop} {kv : Value} {k : Kn} (w : World) (hk : KnR w S kv k) (hS : ∀ b, S b → b < w.heap.size) (hn : k.loops.length ≤ 4096) (hcar : ∀ l ∈ k.loops, 0 ≤ l.car ∧ l.car ≤ 7) :
    Calls Try.prog 33 #[kv] w fun e w' => ∃ u v, e = .returned (.tuple #[u, v]) ∧ Ints w' (fun b => w.heap.size ≤ b ∧ b < w'.heap.size) u ((List.range k.loops.length).map fun t => (inv (cars k.loops) t : Int)) ∧
      Ints w' (fun b => w.heap.size ≤ b ∧ b < w'.heap.size) v ((List.range k.loops.length).map fun x => (num (cars k.loops) x : Int)) ∧ Below w.heap.size w w' := by
  obtain ⟨vl, vf, vb, vo, rfl, hl', hf', hb', ho'⟩ := hk
  have HL := Lib.hid hl'
  have HSB := Lib.hid hS
  have HCAR := Lib.hid hcar
  obtain ⟨Aq, cq, tq, rfl, _⟩ := hl'
  obtain ⟨Af, cf, tf, rfl, _⟩ := hf'
  obtain ⟨Ab, cb, tb, rfl, _⟩ := hb'
  obtain ⟨Ap, cp, rfl, _⟩ := ho'
  clear hS hcar
  generalize hls : k.loops = ls at *
  have HX0 := Lib.hid (Arr.new w #[.slice Aq ls.length cq, .slice Af k.front.length cf, .slice Ab k.back.length cb, .slice Ap k.loose.length cp, .int .i64 k.rack] 27)
  have HB0 : Hid (Below w.heap.size w (w.alloc (.cells #[.slice Aq ls.length cq, .slice Af k.front.length cf, .slice Ab k.back.length cb, .slice Ap k.loose.length cp, .int .i64 k.rack] 27))) := (Below.refl _ _).alloc (Nat.le_refl _) _
  have HZ0 : Hid ((w.alloc (.cells #[.slice Aq ls.length cq, .slice Af k.front.length cf, .slice Ab k.back.length cb, .slice Ap k.loose.length cp, .int .i64 k.rack] 27)).heap.size = w.heap.size + 1) := by show _ = _; simp
  have mk1 := fun w => run_mk T25 ls.length ls.length (Nat.le_refl _) (by omega) w
  go_enter Try.func33, Try.ntmps33
  go_upto_region 1 with fail
  generalize w.alloc (.cells #[.slice Aq ls.length cq, .slice Af k.front.length cf, .slice Ab k.back.length cb, .slice Ap k.loose.length cp, .int .i64 k.rack] 27) = w0 at *
  have x0 := HX0.out.cell (k := 0) rfl
  go_wp2_with fail
  clear x0
  go_loopg [2, 10] ls.length (fun gg out ctr wr => ∃ i : Nat, i ≤ ls.length ∧ gg = ls.length - i ∧ ctr = .int .i64 i ∧ wr.ownsRow (w.heap.size + 1) 3 1 out i (fRow (fun k => (k : Int)) i) ∧ Below (w.heap.size + 1) w0 wr)
  case atStart => exact ⟨0, by omega, rfl, rfl, World.ownsRow_nil _ _ _ _, Below.refl _ _⟩
  case round =>
    obtain ⟨i, hi, rfl, rfl, ho, hb⟩ := hrel
    have HO := Lib.hid ho
    have HB := Lib.hid hb
    clear hb
    by_cases hlt : i < ls.length
    case pos =>
      have HN : Hid (fRow (fun k => (k : Int)) (i + 1) = fRow (fun k => (k : Int)) i ++ [.int .i64 (i : Int)]) := by
        show _ = _
        unfold fRow
        rw [List.range_succ, List.map_append]; rfl
      clear ho
      go_wp2_with (at_builtin
                   refine app_el T25 [.int .i64 (i : Int)] HO.out HB.out (by rw [HZ0.out]; omega) rfl rfl rfl rfl rfl ?_ ?_ ?_
                   rotate_right
                   intro v1 w1 hown1 hb1 hg1 ho1
                   have HF := Lib.hid (And.intro hown1 hb1)
                   clear hown1 hb1 hg1 ho1)
      case refine_1 => simp [Value.oneCell']
      case refine_2 => omega
      go_roundg (ls.length - (i + 1))
      case measure => omega
      case rel => exact ⟨i + 1, by omega, rfl, by go_num, by rw [HN.out]; exact HF.out.1, HF.out.2⟩
    obtain rfl : i = ls.length := by omega
    have HX1 := Lib.hid (HX0.out.of_eq (HB.out.block _ (by omega)))
    have hszr := HB.out.size
    rw [HZ0.out] at hszr
    have HLr : Hid (LoopsRd wr (fun b => b < w.heap.size + 1) (.slice Aq ls.length cq) ls) := ((HL.out.same fun b hb => HB0.out.block b (HSB.out b hb)).same fun b hb => HB.out.block b (by have := HSB.out b hb; omega)).mono fun b hb => by have := HSB.out b hb; show b < w.heap.size + 1; omega
    have HC : Hid (Cmp wr (w.heap.size + 1) ls.length (.func (.func 55) #[] #[.pointer (some ⟨w.heap.size, 0, none⟩)]) (keyC ls)) :=
      cmp_cars HLr.out (HX1.out.cell (k := 0) rfl) (by omega) hszr HCAR.out
    obtain ⟨Ao, co, rfl, _, _⟩ := own_form ho
    clear ho
    go_wp2_with fail
    refine (sortF_own _ HO.out rfl (by omega) HC.out).mono ?_
    rintro e w3 ⟨rfl, ho3, hg3⟩
    have HO3 := Lib.hid ho3
    have HB3 : Hid (Below (w.heap.size + 1) w0 w3) := below_owned HB.out HO.out hg3 (by rw [HZ0.out]; omega)
    have hsz3 := HB3.out.size
    rw [HZ0.out] at hsz3
    obtain ⟨Ao', co', e, _, _⟩ := own_form ho3
    cases e
    clear ho3 hg3
    have HI0 := Lib.hid (IR_new w3 ls.length (by unfold maxLen; omega))
    have HF0 : Hid (Below w3.heap.size w3 (w3.alloc (.cells (madeCells #[.int .i64 0] ls.length) 3))) := (Below.refl _ _).alloc (Nat.le_refl _) _
    go_wp2_with fail
    go_loopg [26] ls.length (fun gg ctr wr => ∃ i : Nat, i ≤ ls.length ∧ gg = ls.length - i ∧ ctr = .int .i64 i ∧ Below w3.heap.size w3 wr ∧ IR wr w3.heap.size w3.heap.size ls.length ls.length (fun x => if num (cars ls) x < i then (num (cars ls) x : Int) else 0))
    case atStart => exact ⟨0, by omega, rfl, rfl, HF0.out, HI0.out.congr fun k _ => by simp⟩
    case round =>
      clear HF0 HI0
      obtain ⟨i, hi, rfl, rfl, hb4, hir⟩ := hrel
      have HB4 := Lib.hid hb4
      have HI := Lib.hid hir
      clear hb4 hir
      by_cases hlt : i < ls.length
      case neg =>
        obtain rfl : i = ls.length := by omega
        have HI' : Hid (IR wr w3.heap.size w3.heap.size ls.length ls.length (fun x => (num (cars ls) x : Int))) := HI.out.congr fun k hk => by
          rw [if_pos]
          have := num_lt (cs := cars ls) (x := k) (by rw [cars_len]; exact hk)
          rw [cars_len] at this
          exact this
        have HOr := Lib.hid (own_below HO3.out HB4.out (Nat.le_refl _))
        go_wp2_with fail
        go_ret2
        refine ⟨_, _, rfl, ?_, ?_, ?_⟩
        · rw [← ints_fRow] at HOr
          exact (Ints.of_own HOr.out).mono fun b hb => ⟨by omega, hb.2⟩
        · exact HI'.out.ints.mono fun b hb => ⟨by omega, hb.2⟩
        · exact (HB0.out.trans (HB3.out.mono (by omega))).trans (HB4.out.mono (by omega))
      have hlc : (cars ls).length = ls.length := cars_len ls
      obtain ⟨v1, v2⟩ := inv_spec (cs := cars ls) (t := i) (by omega)
      rw [hlc] at v1
      have HOr := Lib.hid (own_below HO3.out HB4.out (Nat.le_refl _))
      have HOI := HOr.out
      rw [← ints_fRow] at HOI
      obtain ⟨A', c', e, _, _, hr⟩ := Ints.of_own HOI
      rw [List.length_map, List.length_range] at e
      cases e
      obtain ⟨b, o, e, _, y0⟩ := ints_cell hr (k := i) (by rw [List.length_map, List.length_range]; exact hlt)
      cases e
      have e3 : ((List.range ls.length).map fun t => (inv (cars ls) t : Int))[i]'(by rw [List.length_map, List.length_range]; exact hlt) = (inv (cars ls) i : Int) := by simp
      rw [e3] at y0
      clear hr HOI e3
      have HN : Hid (IR (wr.setCell ⟨w3.heap.size, inv (cars ls) i, none⟩ (.int .i64 (i : Int))) w3.heap.size w3.heap.size ls.length ls.length (fun x => if num (cars ls) x < i + 1 then (num (cars ls) x : Int) else 0)) := (HI.out.set v1 (i : Int)).congr fun k hk => by
        by_cases h : k = inv (cars ls) i
        · subst h; rw [if_pos rfl, v2, if_pos (by omega)]
        · rw [if_neg h]
          have hne : num (cars ls) k ≠ i := fun e => h (inv_eq (by rw [hlc]; exact hk) e).symm
          by_cases h2 : num (cars ls) k < i
          · rw [if_pos h2, if_pos (by omega)]
          · rw [if_neg h2, if_neg (by omega)]
      have z0 := HI.out.free (inv (cars ls) i)
      have z1 := HI.out.cell v1
      have HBN := Lib.hid (HB4.out.setCell (p := ⟨w3.heap.size, inv (cars ls) i, none⟩) (Nat.le_refl _) (.int .i64 (i : Int)))
      generalize inv (cars ls) i = m at *
      generalize (if num (cars ls) m < i then (num (cars ls) m : Int) else 0) = old at *
      clear v2
      go_wp2_with fail
      go_roundg (ls.length - (i + 1))
      case measure => omega
      case rel => exact ⟨i + 1, by omega, rfl, by go_num, HBN.out, HN.out⟩
end Go.Proofs.Ytaacfjeddoekfaa
/- Chapter 12, plain: what has nothing to do with one another may come in either order. -/
namespace Go.Proofs.Ytaacfjeddoekfaa
set_option linter.unusedVariables false
set_option linter.unusedSimpArgs false

/-- the needles that a stitch has to do with -/
def touchK (x : Sti) (r : Int) : List (Int × Int) := if x.d = 3 then [] else if x.d = 4 then [(x.b, x.n), (fB x.b, fN r x.b x.n)] else [(x.b, x.n)]
def mayK (x y : Sti) (r : Int) : Prop := x.d ≠ 6 ∧ y.d ≠ 6 ∧ ¬ (yarnK x = true ∧ yarnK y = true ∧ x.c = y.c) ∧ ∀ a ∈ touchK x r, a ∉ touchK y r
/-- loops bear other numbers -/
def rn (π : Nat → Nat) (x : Int) : Int := (π x.toNat : Int)
structure SimK (π : Nat → Nat) (k k' : KS) : Prop where
  ππ : ∀ i, π (π i) = i
  hi : ∀ i, k.loops.length ≤ i → π i = i
  len : k'.loops.length = k.loops.length
  car : ∀ i, i < k.loops.length → (k'.loops.getD (π i) noLop).car = (k.loops.getD i noLop).car
  thr : ∀ i, i < k.loops.length → (k'.loops.getD (π i) noLop).thr = (k.loops.getD i noLop).thr.map (rn π)
  ord : ∀ i j, i < k.loops.length → j < k.loops.length → (k.loops.getD i noLop).car = (k.loops.getD j noLop).car → (i < j ↔ π i < π j)
  on : ∀ b n, k'.on b n = (k.on b n).map (rn π)
  loose : k'.loose.Perm (k.loose.map (rn π))
  rack : k'.rack = k.rack
  done : k'.done = k.done
theorem SimK.lt {π : Nat → Nat} {k k' : KS} (h : SimK π k k') {i : Nat} (hi : i < k.loops.length) : π i < k.loops.length := by
  refine Nat.lt_of_not_le fun c => ?_
  have h1 := h.hi _ c
  rw [h.ππ] at h1
  omega
theorem getD_left {l m : List Lop} {i : Nat} (h : i < l.length) : (l ++ m).getD i noLop = l.getD i noLop := by
  rw [List.getD_eq_getElem?_getD, List.getD_eq_getElem?_getD, List.getElem?_append_left h]
theorem getD_at {l m : List Lop} {i : Nat} (h : i = l.length) {x : Lop} : (l ++ x :: m).getD i noLop = x := by
  subst h
  rw [List.getD_eq_getElem?_getD, List.getElem?_append_right (Nat.le_refl _), Nat.sub_self]; rfl
theorem getD_next {l m : List Lop} {i : Nat} (h : i = l.length + 1) {x y : Lop} : (l ++ x :: y :: m).getD i noLop = y := by
  subst h
  rw [List.getD_eq_getElem?_getD, List.getElem?_append_right (by omega), show l.length + 1 - l.length = 1 by omega]; rfl
theorem put_rn {π : Nat → Nat} {on on' : Int → Int → List Int} (h : ∀ b n, on' b n = (on b n).map (rn π)) (b n : Int) {l l' : List Int} (hl : l' = l.map (rn π)) (b' n' : Int) : put on' b n l' b' n' = (put on b n l b' n').map (rn π) := by
  unfold put
  split
  · exact hl
  · exact h _ _
theorem SimK.more {π : Nat → Nat} {k k' : KS} (h : SimK π k k') (c : Int) {t t' : List Int} (ht : t' = t.map (rn π)) {on on' : Int → Int → List Int} (ho : ∀ b n, on' b n = (on b n).map (rn π)) :
    SimK π { k with loops := k.loops ++ [⟨c, t⟩], on := on, done := k.done + 1 } { k' with loops := k'.loops ++ [⟨c, t'⟩], on := on', done := k'.done + 1 } := by
  have hL : (k.loops ++ [(⟨c, t⟩ : Lop)]).length = k.loops.length + 1 := by simp
  have hpl : π k.loops.length = k.loops.length := h.hi _ (Nat.le_refl _)
  refine ⟨h.ππ, fun i hi => h.hi i (by dsimp only at hi; omega), by simp [h.len], fun i hi => ?_, fun i hi => ?_, fun i j hi hj hc => ?_, ho, h.loose, h.rack, by dsimp only; rw [h.done]⟩
  · dsimp only at hi ⊢
    rcases Nat.lt_or_ge i k.loops.length with c1 | c1
    · rw [getD_left c1, getD_left (by rw [h.len]; exact h.lt c1)]; exact h.car i c1
    · have e : i = k.loops.length := by omega
      rw [getD_at e, getD_at (by rw [e, hpl, h.len])]
  · dsimp only at hi ⊢
    rcases Nat.lt_or_ge i k.loops.length with c1 | c1
    · rw [getD_left c1, getD_left (by rw [h.len]; exact h.lt c1)]; exact h.thr i c1
    · have e : i = k.loops.length := by omega
      rw [getD_at e, getD_at (by rw [e, hpl, h.len])]; exact ht
  · dsimp only at hi hj hc
    rcases Nat.lt_or_ge i k.loops.length with c1 | c1
    · rcases Nat.lt_or_ge j k.loops.length with c2 | c2
      · rw [getD_left c1, getD_left c2] at hc; exact h.ord i j c1 c2 hc
      · have e : j = k.loops.length := by omega
        have := h.lt c1
        rw [e, hpl]; omega
    · have e : i = k.loops.length := by omega
      rcases Nat.lt_or_ge j k.loops.length with c2 | c2
      · have := h.lt c2
        rw [e, hpl]; omega
      · have e2 : j = k.loops.length := by omega
        rw [e, e2]; omega
theorem wrong_sim {π : Nat → Nat} {N : Nat} {k k' : KS} (h : SimK π k k') (x : Sti) : wrongK N k' x = wrongK N k x := by
  have e1 : k'.ln x = k.ln x := by unfold KS.ln; rw [h.on, List.length_map]
  have e2 : k'.lf x = k.lf x := by unfold KS.lf; rw [h.on, h.rack, List.length_map]
  unfold wrongK
  rw [e1, e2, h.done, h.rack]
theorem step_sim {π : Nat → Nat} {k k' : KS} (h : SimK π k k') (x : Sti) : SimK π (stepK k x) (stepK k' x) := by
  have hn : [(k'.loops.length : Int)] = [(k.loops.length : Int)].map (rn π) := by
    show _ = [rn π _]
    unfold rn
    rw [Int.toNat_natCast, h.hi _ (Nat.le_refl _), h.len]
  unfold stepK
  split
  · exact ⟨h.ππ, h.hi, h.len, h.car, h.thr, h.ord, h.on, h.loose, rfl, by dsimp only; rw [h.done]⟩
  split
  · exact h.more x.c (h.on _ _) (put_rn h.on _ _ hn)
  split
  · exact h.more x.c (by rfl) (put_rn h.on _ _ (by rw [h.on, List.map_append, hn]))
  split
  · exact ⟨h.ππ, h.hi, h.len, h.car, h.thr, h.ord, put_rn (by rw [h.rack]; exact put_rn h.on _ _ (by rw [h.on, h.on, List.map_append])) _ _ rfl, h.loose, h.rack, by dsimp only; rw [h.done]⟩
  split
  · exact ⟨h.ππ, h.hi, h.len, h.car, h.thr, h.ord, put_rn h.on _ _ rfl, by dsimp only; rw [h.on, List.map_append]; exact h.loose.append_right _, h.rack, by dsimp only; rw [h.done]⟩
  · exact ⟨h.ππ, h.hi, h.len, h.car, h.thr, h.ord, h.on, h.loose, h.rack, by dsimp only; rw [h.done]⟩
theorem run_sim {π : Nat → Nat} {N : Nat} : ∀ (l : List Sti) (k k' : KS), SimK π k k' → errsK N k' l = errsK N k l ∧ SimK π (l.foldl (doK N) k) (l.foldl (doK N) k')
  | [], k, k', h => ⟨rfl, h⟩
  | x :: l, k, k', h => by
    have hw := wrong_sim (N := N) h x
    have hd : SimK π (doK N k x) (doK N k' x) := by
      unfold doK
      rw [hw]
      split
      · exact step_sim h x
      · exact h
    have := run_sim (N := N) l _ _ hd
    rw [errsK, errsK, hw, this.1, List.foldl_cons, List.foldl_cons]
    exact ⟨rfl, this.2⟩
theorem ren_of_sim {π : Nat → Nat} {N : Nat} {k k' : KS} (h : SimK π k k') : Ren π k.loops.length (told N k) (told N k') := by
  refine ⟨h.ππ, fun i hi => h.lt hi, rfl, h.len, h.car, h.thr, h.ord, ?_, ?_, h.loose, h.rack⟩
  · show List.map _ _ = List.map _ (List.map _ _)
    rw [List.map_map]
    exact List.map_congr_left fun n _ => h.on _ _
  · show List.map _ _ = List.map _ (List.map _ _)
    rw [List.map_map]
    exact List.map_congr_left fun n _ => h.on _ _
theorem told_after (N : Nat) (l : List Sti) : Told (told N (afterK N l)) := by
  have ho := once_after N l
  have hf : ∀ b : Int, b = 0 ∨ b = 1 → ∀ m ∈ (List.range N).map (fun n : Nat => (afterK N l).on b (n : Int)), ∀ x ∈ m, 0 ≤ x ∧ x < ((afterK N l).loops.length : Int) := fun b hb m hm x hx => by
    obtain ⟨n, hn, rfl⟩ := List.mem_map.1 hm
    exact ho.mem ⟨hb, by omega, by have := List.mem_range.1 hn; omega⟩ hx
  refine ⟨fun i hi x hx => ?_, hf 0 (.inl rfl), hf 1 (.inr rfl), fun x hx => ?_⟩
  · have hi' : i < (afterK N l).loops.length := hi
    have e : (told N (afterK N l)).loops.getD i noLop = (afterK N l).loops[i] := by
      show (afterK N l).loops.getD i noLop = _
      rw [List.getD_eq_getElem?_getD, List.getElem?_eq_getElem hi']; rfl
    rw [e] at hx
    have := ho.back i hi' x hx
    refine ⟨this.1, ?_⟩
    show x < ((afterK N l).loops.length : Int)
    omega
  · have h1 := ho.one x
    have h2 : 0 < (afterK N l).loose.count x := List.count_pos_iff.2 hx
    refine Classical.byContradiction fun c => ?_
    have c' : ¬ (0 ≤ x ∧ x < ((afterK N l).loops.length : Int)) := c
    rw [if_neg c'] at h1
    unfold cntK at h1
    have h3 : (told N (afterK N l)).loose = (afterK N l).loose := rfl
    omega

/-! ### two stitches in the other order -/
def onS (r : Int) (x : Sti) (id : Int) (on : Int → Int → List Int) : Int → Int → List Int :=
  if x.d = 1 then put on x.b x.n [id] else
  if x.d = 2 then put on x.b x.n (on x.b x.n ++ [id]) else
  if x.d = 4 then put (put on (fB x.b) (fN r x.b x.n) (on (fB x.b) (fN r x.b x.n) ++ on x.b x.n)) x.b x.n [] else
  if x.d = 5 then put on x.b x.n [] else on
def newL (x : Sti) (on : Int → Int → List Int) : List Lop := if x.d = 1 then [⟨x.c, on x.b x.n⟩] else if x.d = 2 then [⟨x.c, []⟩] else []
def newO (x : Sti) (on : Int → Int → List Int) : List Int := if x.d = 5 then on x.b x.n else []
theorem step_parts {k : KS} {x : Sti} (h : x.d ≠ 6) : stepK k x = ⟨k.loops ++ newL x k.on, onS k.rack x k.loops.length k.on, k.loose ++ newO x k.on, k.rack, k.done + 1⟩ := by
  unfold stepK newL onS newO
  rw [if_neg h]
  by_cases h1 : x.d = 1
  · have h5 : ¬ x.d = 5 := by omega
    simp only [if_pos h1, if_neg h5, List.append_nil]
  by_cases h2 : x.d = 2
  · have h5 : ¬ x.d = 5 := by omega
    simp only [if_neg h1, if_pos h2, if_neg h5, List.append_nil]
  by_cases h4 : x.d = 4
  · have h5 : ¬ x.d = 5 := by omega
    simp only [if_neg h1, if_neg h2, if_pos h4, if_neg h5, List.append_nil]
  by_cases h5 : x.d = 5
  · simp only [if_neg h1, if_neg h2, if_neg h4, if_pos h5, List.append_nil]
  · simp only [if_neg h1, if_neg h2, if_neg h4, if_neg h5, List.append_nil]
theorem on_far {r : Int} {x : Sti} {id : Int} {on : Int → Int → List Int} {b n : Int} (h : (b, n) ∉ touchK x r) (h3 : 1 ≤ x.d) (h6 : x.d < 6) : onS r x id on b n = on b n := by
  unfold touchK at h
  unfold onS
  by_cases h1 : x.d = 1
  · rw [if_pos h1]
    rw [if_neg (by omega), if_neg (by omega)] at h
    exact put_ne _ _ fun c => h (by simp [c.1, c.2])
  rw [if_neg h1]
  by_cases h2 : x.d = 2
  · rw [if_pos h2]
    rw [if_neg (by omega), if_neg (by omega)] at h
    exact put_ne _ _ fun c => h (by simp [c.1, c.2])
  rw [if_neg h2]
  by_cases h4 : x.d = 4
  · rw [if_pos h4]
    rw [if_neg (by omega), if_pos h4] at h
    rw [put_ne _ _ (fun c => h (by simp [c.1, c.2])), put_ne _ _ (fun c => h (by simp [c.1, c.2]))]
  rw [if_neg h4]
  by_cases h5 : x.d = 5
  · rw [if_pos h5]
    rw [if_neg (by omega), if_neg (by omega)] at h
    exact put_ne _ _ fun c => h (by simp [c.1, c.2])
  rw [if_neg h5]
theorem touch_own {x : Sti} {r : Int} (h3 : x.d ≠ 3) : (x.b, x.n) ∈ touchK x r := by
  unfold touchK
  rw [if_neg h3]
  split <;> simp
theorem touch_faced {x : Sti} {r : Int} (h4 : x.d = 4) : (fB x.b, fN r x.b x.n) ∈ touchK x r := by
  unfold touchK
  rw [if_neg (by omega), if_pos h4]
  simp
theorem on_near {π : Nat → Nat} {r : Int} {x : Sti} {id id' : Int} {on on' : Int → Int → List Int} (h : ∀ b n, (b, n) ∈ touchK x r → on' b n = (on b n).map (rn π)) (hid : yarnK x = true → id' = rn π id) {b n : Int} (hb : (b, n) ∈ touchK x r) :
    onS r x id' on' b n = (onS r x id on b n).map (rn π) := by
  have hp : ∀ (o o' : Int → Int → List Int) (b0 n0 : Int) (l l' : List Int), (∀ b n, (b, n) ∈ touchK x r → o' b n = (o b n).map (rn π)) → l' = l.map (rn π) → ∀ b n, (b, n) ∈ touchK x r → put o' b0 n0 l' b n = (put o b0 n0 l b n).map (rn π) := fun o o' b0 n0 l l' h1 h2 b n h3 => by
    unfold put
    split
    · exact h2
    · exact h1 b n h3
  unfold onS
  by_cases h1 : x.d = 1
  · rw [if_pos h1, if_pos h1]
    exact hp _ _ _ _ _ _ h (by rw [hid (by unfold yarnK; simp [h1])]; rfl) _ _ hb
  rw [if_neg h1, if_neg h1]
  by_cases h2 : x.d = 2
  · rw [if_pos h2, if_pos h2]
    exact hp _ _ _ _ _ _ h (by rw [hid (by unfold yarnK; simp [h2]), h _ _ (touch_own (by omega)), List.map_append]; rfl) _ _ hb
  rw [if_neg h2, if_neg h2]
  by_cases h4 : x.d = 4
  · rw [if_pos h4, if_pos h4]
    refine hp _ _ _ _ _ _ (hp _ _ _ _ _ _ h ?_) (List.map_nil).symm _ _ hb
    rw [h _ _ (touch_own (by omega)), h _ _ (touch_faced h4), List.map_append]
  rw [if_neg h4, if_neg h4]
  by_cases h5 : x.d = 5
  · rw [if_pos h5, if_pos h5]
    exact hp _ _ _ _ _ _ h (List.map_nil).symm _ _ hb
  rw [if_neg h5, if_neg h5]
  exact h _ _ hb
/-- what a stitch may do hangs on its needles -/
theorem wrong_loc {N : Nat} {k k' : KS} {x : Sti} (hr : k'.rack = k.rack) (ho : ∀ b n, (b, n) ∈ touchK x k.rack → k'.on b n = k.on b n) (hd : k'.done < 4096) (h : wrongK N k x = 0) : wrongK N k' x = 0 := by
  have hdk := (wrong_bounds h).2.2.1
  unfold wrongK at h ⊢
  rw [if_neg (by omega : ¬ 4096 ≤ k'.done)]
  rw [if_neg (by omega : ¬ 4096 ≤ k.done)] at h
  by_cases h3 : x.d = 3
  · rw [hr]
    rw [if_neg (by omega), if_neg (by omega)] at h ⊢
    by_cases c1 : ¬ There N x.b x.n
    · rw [if_pos c1] at h ⊢; exact h
    rw [if_neg c1] at h ⊢
    by_cases c2 : x.d ≤ 3 ∧ (x.c < 0 ∨ 7 < x.c)
    · rw [if_pos c2] at h ⊢; exact h
    rw [if_neg c2, if_neg (by omega), if_pos h3]
  · have e1 : k'.ln x = k.ln x := by unfold KS.ln; rw [ho _ _ (touch_own h3)]
    by_cases h4 : x.d = 4
    · have e2 : k'.lf x = k.lf x := by unfold KS.lf; rw [hr, ho _ _ (touch_faced h4)]
      rw [e1, e2, hr]; exact h
    · rw [e1, hr]
      have c : ∀ z, ¬ (x.d = 4 ∧ z) := fun z e => h4 e.1
      rw [if_neg (c _), if_neg (c _)] at h
      rw [if_neg (c _), if_neg (c _)]
      exact h
/-- the two loops laid last change their numbers -/
def swapN (L i : Nat) : Nat := if i = L then L + 1 else if i = L + 1 then L else i
theorem swapN_two (L i : Nat) : swapN L (swapN L i) = i := by unfold swapN; (repeat' split) <;> omega
theorem rn_id (x : Int) (h : 0 ≤ x) : rn (fun i => i) x = x := by unfold rn; dsimp only; omega
theorem map_low {π : Nat → Nat} {L : Nat} (hp : ∀ i, i < L → π i = i) {l : List Int} (h : ∀ x ∈ l, 0 ≤ x ∧ x < (L : Int)) : l = l.map (rn π) := by
  have : l.map (rn π) = l.map id := List.map_congr_left fun x hx => by
    have := h x hx
    unfold rn
    rw [hp _ (by omega)]
    show _ = x
    omega
  rw [this, List.map_id]
theorem newL_congr {x : Sti} {r : Int} {on on' : Int → Int → List Int} (h : ∀ b n, (b, n) ∈ touchK x r → on' b n = on b n) : newL x on' = newL x on := by
  unfold newL
  split
  · rw [h _ _ (touch_own (by omega))]
  · rfl
theorem newO_congr {x : Sti} {r : Int} {on on' : Int → Int → List Int} (h : ∀ b n, (b, n) ∈ touchK x r → on' b n = on b n) : newO x on' = newO x on := by
  unfold newO
  split
  · rw [h _ _ (touch_own (by omega))]
  · rfl
theorem newL_len (x : Sti) (on : Int → Int → List Int) : (newL x on).length = if yarnK x = true then 1 else 0 := by
  unfold newL yarnK
  by_cases h1 : x.d = 1
  · simp [h1]
  by_cases h2 : x.d = 2
  · simp [h1, h2]
  · simp [h1, h2]
theorem newL_one {x : Sti} {on : Int → Int → List Int} (h : yarnK x = true) : ∃ t, newL x on = [⟨x.c, t⟩] ∧ (t = on x.b x.n ∨ t = []) := by
  unfold yarnK at h
  rw [decide_eq_true_iff] at h
  unfold newL
  by_cases h1 : x.d = 1
  · exact ⟨_, by rw [if_pos h1], .inl rfl⟩
  · exact ⟨_, by rw [if_neg h1, if_pos (by omega)], .inr rfl⟩
theorem newL_no {x : Sti} {on : Int → Int → List Int} (h : ¬ yarnK x = true) : newL x on = [] := by
  unfold yarnK at h
  rw [decide_eq_true_iff] at h
  unfold newL
  rw [if_neg (by omega), if_neg (by omega)]
end Go.Proofs.Ytaacfjeddoekfaa
/- Chapter 12: what the program's Run answers, for any number of needles; what cloth is made of it. -/
namespace Go.Proofs.Ytaacfjeddoekfaa
open Go.RowKit
set_option linter.unusedVariables false

def runAF (n : Int) (l : List Sti) : Int × Int := if 1 ≤ n ∧ n ≤ 128 then runF n.toNat l else (3, 0)
def runAK (n : Int) (l : List Sti) : Kn := if 1 ≤ n ∧ n ≤ 128 then runK n.toNat l else noKn
theorem RunA_any (n : Int) {v : Value} {l : List Sti} (w : World) (hv : Stitches w (fun b => b < w.heap.size) v l) :
    Calls Try.prog 11 #[.int .i64 n, v] w fun e w' => ∃ kv, e = .returned (.tuple #[kv, .agg #[.int .i64 (runAF n l).1, .int .i64 (runAF n l).2]]) ∧ KnR w' (fun b => b < w'.heap.size) kv (runAK n l) ∧ Below w.heap.size w w' := by
  by_cases h : 1 ≤ n ∧ n ≤ 128
  · obtain ⟨N, rfl⟩ : ∃ N : Nat, n = (N : Int) := ⟨n.toNat, by omega⟩
    unfold runAF runAK
    rw [if_pos h, if_pos h, Int.toNat_natCast]
    exact Run_ok N (by omega) (by omega) w hv
  · unfold runAF runAK
    rw [if_neg h, if_neg h]
    refine (Run_range n (by omega) w hv).mono ?_
    rintro e w' ⟨rfl, hb⟩
    exact ⟨_, rfl, noKn_R _ _, hb⟩
/-- what a run that was fine has left -/
structure Ok (N : Nat) (k : Kn) : Prop where
  N1 : 1 ≤ N
  N2 : N ≤ 128
  told : Told k
  loops : k.loops.length ≤ 4096
  car : ∀ l ∈ k.loops, 0 ≤ l.car ∧ l.car ≤ 7
  thr : ∀ i, i < k.loops.length → (k.loops.getD i noLop).thr.length ≤ 8
  loose : k.loose.length ≤ 32768
  front : k.front.length = N
  back : k.back.length = N
  fl : ∀ i, (k.front.getD i []).length ≤ 8
  bl : ∀ i, (k.back.getD i []).length ≤ 8
theorem ok_after {N : Nat} (h1 : 1 ≤ N) (h2 : N ≤ 128) (l : List Sti) : Ok N (told N (afterK N l)) := by
  have hk := kinv_after N l
  have hl := hk.loops
  have hd := hk.d
  have ho := hk.loose
  refine ⟨h1, h2, told_after N l, by show (afterK N l).loops.length ≤ _; omega, hk.car, fun i hi => hk.thr _ ?_, by show (afterK N l).loose.length ≤ _; omega, by unfold told; simp, by unfold told; simp, fun i => ?_, fun i => ?_⟩
  · have hi' : i < (afterK N l).loops.length := hi
    show (afterK N l).loops.getD i noLop ∈ _
    rw [List.getD_eq_getElem?_getD, List.getElem?_eq_getElem hi']
    exact List.getElem_mem hi'
  · unfold told
    dsimp only
    rw [List.getD_eq_getElem?_getD, List.getElem?_map]
    by_cases h : i < N
    · simp [h]; exact hk.on _ _
    · simp [h]
  · unfold told
    dsimp only
    rw [List.getD_eq_getElem?_getD, List.getElem?_map]
    by_cases h : i < N
    · simp [h]; exact hk.on _ _
    · simp [h]
theorem runA_ok {n : Int} {l : List Sti} (h : (runAF n l).1 = 0) : ∃ N : Nat, n = (N : Int) ∧ 1 ≤ N ∧ N ≤ 128 ∧ Flawless N l ∧ runAK n l = told N (afterK N l) ∧ (runAF n l).2 = 0 := by
  unfold runAF at h ⊢
  unfold runAK
  by_cases c : 1 ≤ n ∧ n ≤ 128
  · rw [if_pos c] at h
    obtain ⟨N, rfl⟩ : ∃ N : Nat, n = (N : Int) := ⟨n.toNat, by omega⟩
    rw [Int.toNat_natCast] at h
    have hg := run_good h
    obtain ⟨e1, e2⟩ := good_run hg
    rw [if_pos c, if_pos c, Int.toNat_natCast, e1, e2]
    exact ⟨N, rfl, by omega, by omega, hg, rfl, rfl⟩
  · rw [if_neg c] at h
    cases h
theorem runA_bad {n : Int} {l : List Sti} (h : (runAF n l).1 ≠ 0) : runAK n l = noKn := by
  unfold runAF at h
  unfold runAK
  by_cases c : 1 ≤ n ∧ n ≤ 128
  · rw [if_pos c] at h ⊢
    exact Go.Proofs.Ytaacfjeddoekfaa.run_bad h
  · rw [if_neg c]
def clothA (n : Int) (l : List Sti) : Kn := if (runAF n l).1 = 0 then cloth (runAK n l) else noKn
theorem runA_of_good {N : Nat} {l : List Sti} (h1 : 1 ≤ N) (h2 : N ≤ 128) (h : Flawless N l) : runAF (N : Int) l = (0, 0) ∧ clothA (N : Int) l = cloth (told N (afterK N l)) := by
  obtain ⟨e1, e2⟩ := good_run h
  have c : 1 ≤ (N : Int) ∧ (N : Int) ≤ 128 := by omega
  have f : runAF (N : Int) l = (0, 0) := by unfold runAF; rw [if_pos c, Int.toNat_natCast, e1]
  refine ⟨f, ?_⟩
  unfold clothA
  rw [f, if_pos rfl]
  unfold runAK
  rw [if_pos c, Int.toNat_natCast, e2]
end Go.Proofs.Ytaacfjeddoekfaa
/- Chapter 12: slices.Sort of ints, laid from the shelf at this program (printed by the kit's tool lay-plain), and what it says of an owned row. -/
namespace Go.Proofs.Ytaacfjeddoekfaa
open Go.Shelf
def lays189_ren : Go.Shelf.Ren := ⟨fun | 189 => 35 | 125 => 57 | 257 => 56 | 128 => 70 | 129 => 71 | 294 => 61 | 295 => 62 | 296 => 63 | 297 => 64 | 298 => 65 | 299 => 66 | 216 => 67 | 300 => 68 | 301 => 69 | 328 => 74 | 329 => 75 | 330 => 76 | 331 => 77 | 332 => 78 | 215 => 79 | 343 => 81 | n => n, fun | 28 => 25 | 3 => 3 | 46 => 95 | 0 => 0 | 51 => 109 | 53 => 111 | 4 => 4 | 183 => 101 | 182 => 100 | 131 => 106 | 5 => 5 | 9 => 9 | 218 => 114 | 222 => 118 | 228 => 121 | 229 => 86 | n => n, fun | n => n⟩
theorem lays189 : Go.Proofs.Lays.n189 Try.prog lays189_ren := {
  mixed := by kernel_rfl
  f125 := Try.func57.trans (congrArg some (by kernel_rfl))
  f128 := Try.func70.trans (congrArg some (by kernel_rfl))
  f129 := Try.func71.trans (congrArg some (by kernel_rfl))
  f189 := Try.func35.trans (congrArg some (by kernel_rfl))
  f215 := Try.func79.trans (congrArg some (by kernel_rfl))
  f216 := Try.func67.trans (congrArg some (by kernel_rfl))
  f257 := Try.func56.trans (congrArg some (by kernel_rfl))
  f294 := Try.func61.trans (congrArg some (by kernel_rfl))
  f295 := Try.func62.trans (congrArg some (by kernel_rfl))
  f296 := Try.func63.trans (congrArg some (by kernel_rfl))
  f297 := Try.func64.trans (congrArg some (by kernel_rfl))
  f298 := Try.func65.trans (congrArg some (by kernel_rfl))
  f299 := Try.func66.trans (congrArg some (by kernel_rfl))
  f300 := Try.func68.trans (congrArg some (by kernel_rfl))
  f301 := Try.func69.trans (congrArg some (by kernel_rfl))
  f328 := Try.func74.trans (congrArg some (by kernel_rfl))
  f329 := Try.func75.trans (congrArg some (by kernel_rfl))
  f330 := Try.func76.trans (congrArg some (by kernel_rfl))
  f331 := Try.func77.trans (congrArg some (by kernel_rfl))
  f332 := Try.func78.trans (congrArg some (by kernel_rfl))
  f343 := Try.func81.trans (congrArg some (by kernel_rfl))
  t0 := Try.underlying0
  a0 := Try.isAgg0
  z0 := Try.sizeOf0
  v0 := Try.zeroValue0
  t3 := Try.underlying3
  a3 := Try.isAgg3
  z3 := Try.sizeOf3
  v3 := Try.zeroValue3
  t4 := Try.underlying4
  a4 := Try.isAgg4
  z4 := Try.sizeOf4
  v4 := Try.zeroValue4
  t5 := Try.underlying5
  a5 := Try.isAgg5
  z5 := Try.sizeOf5
  v5 := Try.zeroValue5
  t9 := Try.underlying9
  a9 := Try.isAgg9
  z9 := Try.sizeOf9
  v9 := Try.zeroValue9
  t28 := Try.underlying25
  a28 := Try.isAgg25
  z28 := Try.sizeOf25
  v28 := Try.zeroValue25
  t46 := Try.underlying95
  a46 := Try.isAgg95
  z46 := Try.sizeOf95
  v46 := Try.zeroValue95
  t51 := Try.underlying109
  a51 := Try.isAgg109
  z51 := Try.sizeOf109
  v51 := Try.zeroValue109
  t53 := Try.underlying111
  a53 := Try.isAgg111
  z53 := Try.sizeOf111
  v53 := Try.zeroValue111
  t131 := Try.underlying106
  a131 := Try.isAgg106
  z131 := Try.sizeOf106
  v131 := Try.zeroValue106
  t182 := Try.underlying100
  a182 := Try.isAgg100
  z182 := Try.sizeOf100
  v182 := Try.zeroValue100
  t183 := Try.underlying101
  a183 := Try.isAgg101
  z183 := Try.sizeOf101
  v183 := Try.zeroValue101
  t218 := Try.underlying114
  a218 := Try.isAgg114
  z218 := Try.sizeOf114
  v218 := Try.zeroValue114
  t222 := Try.underlying118
  a222 := Try.isAgg118
  z222 := Try.sizeOf118
  v222 := Try.zeroValue118
  t228 := Try.underlying121
  a228 := Try.isAgg121
  z228 := Try.sizeOf121
  v228 := Try.zeroValue121
  t229 := Try.underlying86
  a229 := Try.isAgg86
  z229 := Try.sizeOf86
  v229 := Try.zeroValue86 }

theorem sortInts_own {base : Nat} {v : Value} {xs : List Int} (w : World) (h : w.ownsRow base 3 1 v xs.length (ints xs)) (hn : xs.length ≤ 1000000) :
    Calls Try.prog 35 #[v] w fun e w' => e = .returned (.tuple #[]) ∧ w'.ownsRow base 3 1 v xs.length (ints (xs.mergeSort fun x y => decide (x ≤ y))) ∧ w.grownBy w' v.ownBlock := by
  have h0 := h
  rcases h.2 with ⟨rfl, h1⟩ | ⟨g, cap, cur, rfl, hbase, hb, h1, h2, h3, h4⟩
  · have e : xs = [] := List.eq_nil_of_length_eq_zero h1
    subst e
    refine (Any.slices_Sort_int_none lays189 none 0 w).mono ?_
    rintro e w' ⟨rfl, rfl⟩
    exact ⟨rfl, by rw [List.mergeSort_nil]; exact h0, ⟨rfl, rfl, rfl, Nat.le_refl _, fun _ _ _ => rfl⟩⟩
  · have hH : Go.Sort.Holds (Value.int .i64) w g 0 xs.toArray := holds_of_blockI hb (by simpa [ints] using h4)
    have hg : g < w.heap.size := (Array.getElem?_eq_some_iff.1 hb).1
    refine (Any.slices_Sort_int lays189 g 0 cap xs w hH hg (by omega)).mono ?_
    rintro e w' ⟨rfl, n, os, rfl⟩
    have hl : (xs.mergeSort fun x y => decide (x ≤ y)).length = xs.length := List.length_mergeSort ..
    exact ⟨rfl, ownsRow_sortedI hl hbase hb h1 h2 h3, grownBy_sortedI _⟩
end Go.Proofs.Ytaacfjeddoekfaa
