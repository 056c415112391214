/- Chapter 12: the program's touched, yarn, May. -/
import Derived.Test.YtaacfjeddoekfaaLawTurned
import Derived.Test.YtaacfjeddoekfaaFabSwap2
namespace Go.Proofs.Ytaacfjeddoekfaa
open Go.RowKit
set_option linter.unusedVariables false
set_option linter.unusedSimpArgs false

def nCells (a : Int × Int) : List Value := [.int .i64 a.1, .int .i64 a.2]
theorem nCells_len (a : Int × Int) : (nCells a).length = 2 := rfl
/-- a slice of needles -/
abbrev Ndls (w : World) (S : Nat → Prop) (v : Value) (l : List (Int × Int)) : Prop := Els nCells 2 w S v l
theorem T68 : SliceT Try.prog 68 71 (.agg #[.int .i64 0, .int .i64 0]) 2 16 := ⟨Try.underlying68, by kernel_rfl, rfl, by decide, by decide⟩
/-- what a stitch touches, as the machine counts -/
def touchW (x : Sti) (r : Int) : List (Int × Int) :=
  if x.d = 3 then [] else if x.d = 4 then (if x.b = 0 then [(x.b, x.n), (1, wrap64 (x.n - r))] else [(x.b, x.n), (0, wrap64 (x.n + r))]) else [(x.b, x.n)]
theorem touchW_len (x : Sti) (r : Int) : (touchW x r).length ≤ 2 := by
  unfold touchW
  repeat' split
  all_goals simp
theorem own_lit (w : World) (base : Nat) (e : TypeId) (us : List Value) (hb : base ≤ w.heap.size) : (w.alloc (.cells us.toArray e)).ownsRow base e us.length (.slice (some ⟨w.heap.size, 0, none⟩) 1 1) 1 us :=
  ⟨by simp, .inr ⟨w.heap.size, 1, us.toArray, rfl, hb, heap_alloc_new _ _, Nat.le_refl _, by simp [maxLen], by simp, by simp⟩⟩
theorem ndls_of_own {w : World} {base : Nat} {v : Value} {l : List (Int × Int)} (h : w.ownsRow base 71 2 v l.length (l.flatMap nCells)) : Ndls w (fun b => base ≤ b ∧ b < w.heap.size) v l := by
  obtain ⟨A, c, rfl, h1, h2⟩ := own_form h
  exact ⟨A, c, rfl, h1, h2, Row.of_own h⟩
theorem ndl_cells {w : World} {S : Nat → Prop} {A : Option Addr} {l : List (Int × Int)} (hr : Row w S 2 A l.length (l.flatMap nCells)) {k : Nat} (hk : k < l.length) :
    ∃ b o, A = some ⟨b, o, none⟩ ∧ S b ∧ w.cell? ⟨b, o + k * 2, none⟩ = some (.int .i64 l[k].1) ∧ w.cell? ⟨b, o + k * 2 + 1, none⟩ = some (.int .i64 l[k].2) := by
  obtain ⟨b, o, e, hs, hc⟩ := els_at nCells_len hr (by decide) hk
  exact ⟨b, o, e, hs, hc 0 _ rfl, hc 1 _ rfl⟩

theorem yarn_any (x : Sti) (w : World) : Calls Try.prog 38 #[.agg #[.int .i64 x.d, .int .i64 x.b, .int .i64 x.n, .int .i64 x.c, .int .i64 x.t]] w fun e w' => e = .returned (.bool (yarnK x)) ∧ Below w.heap.size w w' := by
  have HB : Hid (∀ o, Below w.heap.size w (w.alloc o)) := fun o => (Below.refl _ _).alloc (Nat.le_refl _) o
  unfold yarnK
  by_cases h1 : x.d = 1
  · have q1 : (x.d == 1) = true := by simpa using h1
    rw [decide_eq_true (.inl h1)]
    clear h1
    go_enter Try.func38, Try.ntmps38
    go_wp2_with fail
    go_ret
    exact ⟨rfl, HB.out _⟩
  have q1 : (x.d == 1) = false := by simpa using h1
  by_cases h2 : x.d = 2
  · have q2 : (x.d == 2) = true := by simpa using h2
    rw [decide_eq_true (.inr h2)]
    clear h1 h2
    go_enter Try.func38, Try.ntmps38
    go_wp2_with fail
    go_ret
    exact ⟨rfl, HB.out _⟩
  · have q2 : (x.d == 2) = false := by simpa using h2
    rw [decide_eq_false (by rintro (h | h); exact h1 h; exact h2 h)]
    clear h1 h2
    go_enter Try.func38, Try.ntmps38
    go_wp2_with fail
    go_ret
    exact ⟨rfl, HB.out _⟩

set_option maxHeartbeats 1000000 in
theorem touched_any (x : Sti) (r : Int) (w : World) : Calls Try.prog 39 #[.agg #[.int .i64 x.d, .int .i64 x.b, .int .i64 x.n, .int .i64 x.c, .int .i64 x.t], .int .i64 r] w fun e w' => ∃ v, e = .returned v ∧ Ndls w' (fun b => w.heap.size ≤ b ∧ b < w'.heap.size) v (touchW x r) ∧ Below w.heap.size w w' := by
  have HB : Hid (∀ o o', Below w.heap.size w ((w.alloc o).alloc o')) := fun o o' => ((Below.refl _ _).alloc (Nat.le_refl _) o).alloc (by simp) o'
  have HO : Hid (∀ o, ((w.alloc o).alloc (.cells #[.int .i64 x.b, .int .i64 x.n] 71)).ownsRow w.heap.size 71 2 (.slice (some ⟨w.heap.size + 1, 0, none⟩) 1 1) 1 [.int .i64 x.b, .int .i64 x.n]) := fun o => by
    have := own_lit (w.alloc o) w.heap.size 71 [.int .i64 x.b, .int .i64 x.n] (by simp)
    simpa using this
  by_cases h3 : x.d = 3
  · have q3 : (x.d == 3) = true := by simpa using h3
    have HE : Hid (touchW x r = []) := by show _ = _; rw [touchW, if_pos h3]
    clear h3
    go_enter Try.func39, Try.ntmps39
    go_wp2_with fail
    go_ret
    rw [HE.out]
    exact ⟨_, rfl, ⟨none, 0, rfl, Nat.le_refl _, Nat.zero_le _, Row.nil _ _ _ _⟩, HB.out _ _⟩
  have q3 : (x.d == 3) = false := by simpa using h3
  by_cases h4 : x.d = 4
  case neg =>
    have q4 : (x.d != 4) = true := by simpa using h4
    have HE : Hid (touchW x r = [(x.b, x.n)]) := by show _ = _; rw [touchW, if_neg h3, if_neg h4]
    clear h3 h4
    go_enter Try.func39, Try.ntmps39
    go_wp2_with fail
    go_ret
    rw [HE.out]
    exact ⟨_, rfl, ndls_of_own (l := [(x.b, x.n)]) (HO.out _), HB.out _ _⟩
  have q4 : (x.d != 4) = false := by simpa using h4
  by_cases hb0 : x.b = 0
  · have qb : (x.b == 0) = true := by simpa using hb0
    have HE : Hid (touchW x r = [(x.b, x.n), (1, wrap64 (x.n - r))]) := by show _ = _; rw [touchW, if_neg h3, if_pos h4, if_pos hb0]
    clear h3 h4 hb0
    have HO1 := Lib.hid (HO.out (.cells #[.int .i64 x.d, .int .i64 x.b, .int .i64 x.n, .int .i64 x.c, .int .i64 x.t] 44))
    have HB1 := Lib.hid (HB.out (.cells #[.int .i64 x.d, .int .i64 x.b, .int .i64 x.n, .int .i64 x.c, .int .i64 x.t] 44) (.cells #[.int .i64 x.b, .int .i64 x.n] 71))
    have HX := Lib.hid ((Arr.new w #[.int .i64 x.d, .int .i64 x.b, .int .i64 x.n, .int .i64 x.c, .int .i64 x.t] 44).alloc (.cells #[.int .i64 x.b, .int .i64 x.n] 71))
    go_enter Try.func39, Try.ntmps39
    go_upto_region 7 with fail
    generalize (w.alloc (.cells #[.int .i64 x.d, .int .i64 x.b, .int .i64 x.n, .int .i64 x.c, .int .i64 x.t] 44)).alloc (.cells #[.int .i64 x.b, .int .i64 x.n] 71) = w4 at *
    have z1 := HX.out.cell (k := 1) rfl
    have z2 := HX.out.cell (k := 2) rfl
    go_wp2_with (at_builtin
                 refine app_el T68 [.int .i64 1, .int .i64 (wrap64 (x.n - r))] HO1.out HB1.out (Nat.le_refl _) rfl rfl rfl rfl rfl ?_ ?_ ?_
                 rotate_right
                 intro v1 w5 hown1 hb1 hg1 ho1
                 have HF := Lib.hid (And.intro hown1 hb1)
                 clear hown1 hb1 hg1 ho1)
    all_goals (try (first | omega | (show ∀ u ∈ _, Value.oneCell' u = true; simp [Value.oneCell']) | (refine ⟨rfl, rfl⟩) | (simp [Value.oneCell'])))
    go_ret
    rw [HE.out]
    exact ⟨_, rfl, ndls_of_own (l := [(x.b, x.n), (1, wrap64 (x.n - r))]) HF.out.1, HF.out.2⟩
  · have qb : (x.b == 0) = false := by simpa using hb0
    have HE : Hid (touchW x r = [(x.b, x.n), (0, wrap64 (x.n + r))]) := by show _ = _; rw [touchW, if_neg h3, if_pos h4, if_neg hb0]
    clear h3 h4 hb0
    have HO1 := Lib.hid (HO.out (.cells #[.int .i64 x.d, .int .i64 x.b, .int .i64 x.n, .int .i64 x.c, .int .i64 x.t] 44))
    have HB1 := Lib.hid (HB.out (.cells #[.int .i64 x.d, .int .i64 x.b, .int .i64 x.n, .int .i64 x.c, .int .i64 x.t] 44) (.cells #[.int .i64 x.b, .int .i64 x.n] 71))
    have HX := Lib.hid ((Arr.new w #[.int .i64 x.d, .int .i64 x.b, .int .i64 x.n, .int .i64 x.c, .int .i64 x.t] 44).alloc (.cells #[.int .i64 x.b, .int .i64 x.n] 71))
    go_enter Try.func39, Try.ntmps39
    go_upto_region 2 with fail
    generalize (w.alloc (.cells #[.int .i64 x.d, .int .i64 x.b, .int .i64 x.n, .int .i64 x.c, .int .i64 x.t] 44)).alloc (.cells #[.int .i64 x.b, .int .i64 x.n] 71) = w4 at *
    have z1 := HX.out.cell (k := 1) rfl
    have z2 := HX.out.cell (k := 2) rfl
    go_wp2_with (at_builtin
                 refine app_el T68 [.int .i64 0, .int .i64 (wrap64 (x.n + r))] HO1.out HB1.out (Nat.le_refl _) rfl rfl rfl rfl rfl ?_ ?_ ?_
                 rotate_right
                 intro v1 w5 hown1 hb1 hg1 ho1
                 have HF := Lib.hid (And.intro hown1 hb1)
                 clear hown1 hb1 hg1 ho1)
    all_goals (try (first | omega | (show ∀ u ∈ _, Value.oneCell' u = true; simp [Value.oneCell']) | (refine ⟨rfl, rfl⟩) | (simp [Value.oneCell'])))
    go_ret
    rw [HE.out]
    exact ⟨_, rfl, ndls_of_own (l := [(x.b, x.n), (0, wrap64 (x.n + r))]) HF.out.1, HF.out.2⟩

set_option maxHeartbeats 1000000 in
theorem indexN_any {S : Nat → Prop} {v : Value} {l : List (Int × Int)} (a : Int × Int) (w : World) (hv : Ndls w S v l) (hS : ∀ b, S b → b < w.heap.size) :
    Calls Try.prog 58 #[v, .agg #[.int .i64 a.1, .int .i64 a.2]] w fun e w' => (∃ r : Int, e = .returned (.int .i64 r) ∧ ((a ∈ l ∧ 0 ≤ r) ∨ (a ∉ l ∧ r = -1))) ∧ Below w.heap.size w w' := by
  obtain ⟨A, c, rfl, h1, h2, hr⟩ := hv
  have HR := Lib.hid hr
  have HS := Lib.hid hS
  clear hr hS
  unfold maxLen at h2
  have HB1 : Hid (Below w.heap.size w (w.alloc (.cells #[.int .i64 a.1, .int .i64 a.2] 71))) := (Below.refl _ _).alloc (Nat.le_refl _) _
  have HA := Lib.hid (Arr.new w #[.int .i64 a.1, .int .i64 a.2] 71)
  go_enter Try.func58, Try.ntmps58
  go_wp2_with fail
  generalize w.alloc (.cells #[.int .i64 a.1, .int .i64 a.2] 71) = w1 at *
  go_loopg [8] l.length (fun gg ctr wr => ∃ i k : Nat, i ≤ l.length ∧ gg = l.length - i ∧ ctr = .int .i64 i ∧ wr = w1.drewN k ∧ ∀ j (h : j < l.length), j < i → l[j] ≠ a)
  case atStart => exact ⟨0, 0, by omega, rfl, rfl, rfl, fun j h hj => by omega⟩
  case round =>
    obtain ⟨i, k, hi, rfl, rfl, rfl, hall⟩ := hrel
    have HALL := Lib.hid hall
    clear hall
    by_cases hlt : i < l.length
    case neg =>
      obtain rfl : i = l.length := by omega
      go_wp2_with fail
      go_ret
      refine ⟨⟨_, rfl, .inr ⟨fun hm => ?_, rfl⟩⟩, below_dN HB1.out⟩
      obtain ⟨j, hj, e⟩ := List.getElem_of_mem hm
      exact HALL.out j hj hj e
    obtain ⟨b, o, e, hbb, x0, x1⟩ := ndl_cells (HR.out.same (w' := w1) fun b hb => HB1.out.block b (HS.out b hb)) hlt
    cases e
    have y0 := HA.out.cell (k := 0) rfl
    have y1 := HA.out.cell (k := 1) rfl
    have HI : Hid (∀ x, x = l[i] → x = a → a ∈ l) := fun x e h => by rw [← h, e]; exact List.getElem_mem _
    have HN : Hid (∀ x, x = l[i] → x ≠ a → ∀ j (h : j < l.length), j < i + 1 → l[j] ≠ a) := fun x e h j hj hji => by
      rcases Nat.lt_or_eq_of_le (Nat.le_of_lt_succ hji) with h1 | h1
      · exact HALL.out j hj h1
      · subst h1; rw [← e]; exact h
    generalize hx : l[i] = x at *
    have HI2 := Lib.hid (HI.out x rfl)
    have HN2 := Lib.hid (HN.out x rfl)
    clear hx HI HN
    by_cases hd : x = a
    · have HM := Lib.hid (HI2.out hd)
      subst hd
      go_wp2_with (go_quiet (fail))
      go_ret
      exact ⟨⟨_, rfl, .inl ⟨HM.out, by omega⟩⟩, below_dN HB1.out⟩
    · have HN3 := Lib.hid (HN2.out hd)
      have hdd : ¬ (a.1 = x.1 ∧ a.2 = x.2) := fun h => hd (Prod.ext h.1 h.2).symm
      have HD := Lib.hid hdd
      clear hd hdd
      by_cases e1 : a.1 = x.1
      · have e2 : ¬ a.2 = x.2 := fun h => HD.out ⟨e1, h⟩
        have q1 : (a.1 == x.1) = true := by simpa using e1
        have q2 : (a.2 == x.2) = false := by simpa using e2
        clear e1 e2
        go_wp2_with (go_quiet (fail))
        go_roundg (l.length - (i + 1))
        case measure => omega
        case rel => exact ⟨i + 1, _, by omega, rfl, by go_num, rfl, HN3.out⟩
      · have q1 : (a.1 == x.1) = false := by simpa using e1
        clear e1
        go_wp2_with (go_quiet (fail))
        go_roundg (l.length - (i + 1))
        case measure => omega
        case rel => exact ⟨i + 1, _, by omega, rfl, by go_num, rfl, HN3.out⟩

theorem containsN_any {S : Nat → Prop} {v : Value} {l : List (Int × Int)} (a : Int × Int) (w : World) (hv : Ndls w S v l) (hS : ∀ b, S b → b < w.heap.size) :
    Calls Try.prog 40 #[v, .agg #[.int .i64 a.1, .int .i64 a.2]] w fun e w' => e = .returned (.bool (decide (a ∈ l))) ∧ Below w.heap.size w w' := by
  have HV := Lib.hid hv
  have HS := Lib.hid hS
  obtain ⟨A, c, rfl, h1, h2, hr⟩ := hv
  clear hr hS
  have HB1 : Hid (Below w.heap.size w (w.alloc (.cells #[.int .i64 a.1, .int .i64 a.2] 71))) := (Below.refl _ _).alloc (Nat.le_refl _) _
  go_enter Try.func40, Try.ntmps40
  go_wp2_with fail
  refine (indexN_any (S := S) a _ (HV.out.same fun b hb => HB1.out.block b (HS.out b hb)) (fun b hb => Nat.lt_of_lt_of_le (HS.out b hb) HB1.out.size)).mono ?_
  rintro e w2 ⟨⟨r, rfl, h⟩, hb2⟩
  have HB2 := Lib.hid (HB1.out.trans (hb2.mono HB1.out.size))
  clear hb2
  rcases h with ⟨hm, hr⟩ | ⟨hm, rfl⟩
  · have HM := Lib.hid hm
    clear hm
    have q : decide (r ≥ 0) = true := decide_eq_true hr
    go_wp2_with fail
    go_ret
    refine ⟨?_, HB2.out⟩
    rw [decide_eq_true HM.out]
    rfl
  · have HM := Lib.hid hm
    clear hm
    go_wp2_with fail
    go_ret
    refine ⟨?_, HB2.out⟩
    rw [decide_eq_false HM.out]
    rfl
end Go.Proofs.Ytaacfjeddoekfaa
