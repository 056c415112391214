/- Texts of the seat, put together: FabWalk5, FabWalk6, PlanT, Post, OpenEls, OpenKnit, FabSwap3. -/
import Derived.Test.YtaacfjeddoekfaaTlLawTurned
import Derived.Test.YtaacfjeddoekfaaTlFabSwap2
import Derived.Test.YtaacfjeddoekfaaTl3
import Derived.Laws.OwnMore
import Derived.Test.YtaacfjeddoekfaaTl1
import Derived.ProofKit
import Derived.OpenShut
import Derived.Carry
import Derived.Deep.Slices
import Derived.ChangeArms
import Derived.SizedLaws
/- Chapter 12: the program's touched, yarn, May. -/
namespace Go.Proofs.Ytaacfjeddoekfaa
open Go.RowKit
set_option linter.unusedVariables false
set_option linter.unusedSimpArgs false

def nCells (a : Int × Int) : List Value := [.int .i64 a.1, .int .i64 a.2]
theorem nCells_len (a : Int × Int) : (nCells a).length = 2 := rfl
/-- a slice of needles -/
abbrev Ndls (w : World) (S : Nat → Prop) (v : Value) (l : List (Int × Int)) : Prop := Els nCells 2 w S v l
theorem T68 : SliceT Try.prog 68 71 (.agg #[.int .i64 0, .int .i64 0]) 2 16 := ⟨Try.underlying68, by kernel_rfl, rfl, by decide, by decide⟩
/-- what a stitch touches, as the machine counts -/
def touchW (x : Sti) (r : Int) : List (Int × Int) :=
  if x.d = 3 then [] else if x.d = 4 then (if x.b = 0 then [(x.b, x.n), (1, wrap64 (x.n - r))] else [(x.b, x.n), (0, wrap64 (x.n + r))]) else [(x.b, x.n)]
theorem touchW_len (x : Sti) (r : Int) : (touchW x r).length ≤ 2 := by
  unfold touchW
  repeat' split
  all_goals simp
theorem own_lit (w : World) (base : Nat) (e : TypeId) (us : List Value) (hb : base ≤ w.heap.size) : (w.alloc (.cells us.toArray e)).ownsRow base e us.length (.slice (some ⟨w.heap.size, 0, none⟩) 1 1) 1 us :=
  ⟨by simp, .inr ⟨w.heap.size, 1, us.toArray, rfl, hb, heap_alloc_new _ _, Nat.le_refl _, by simp [maxLen], by simp, by simp⟩⟩
theorem ndls_of_own {w : World} {base : Nat} {v : Value} {l : List (Int × Int)} (h : w.ownsRow base 71 2 v l.length (l.flatMap nCells)) : Ndls w (fun b => base ≤ b ∧ b < w.heap.size) v l := by
  obtain ⟨A, c, rfl, h1, h2⟩ := own_form h
  exact ⟨A, c, rfl, h1, h2, Row.of_own h⟩
theorem ndl_cells {w : World} {S : Nat → Prop} {A : Option Addr} {l : List (Int × Int)} (hr : Row w S 2 A l.length (l.flatMap nCells)) {k : Nat} (hk : k < l.length) :
    ∃ b o, A = some ⟨b, o, none⟩ ∧ S b ∧ w.cell? ⟨b, o + k * 2, none⟩ = some (.int .i64 l[k].1) ∧ w.cell? ⟨b, o + k * 2 + 1, none⟩ = some (.int .i64 l[k].2) := by
  obtain ⟨b, o, e, hs, hc⟩ := els_at nCells_len hr (by decide) hk
  exact ⟨b, o, e, hs, hc 0 _ rfl, hc 1 _ rfl⟩

theorem yarn_any (x : Sti) (w : World) : Calls Try.prog 38 #[.agg #[.int .i64 x.d, .int .i64 x.b, .int .i64 x.n, .int .i64 x.c, .int .i64 x.t]] w fun e w' => e = .returned (.bool (yarnK x)) ∧ Below w.heap.size w w' := by
  have HB : Hid (∀ o, Below w.heap.size w (w.alloc o)) := fun o => (Below.refl _ _).alloc (Nat.le_refl _) o
  unfold yarnK
  by_cases h1 : x.d = 1
  · have q1 : (x.d == 1) = true := by simpa using h1
    rw [decide_eq_true (.inl h1)]
    clear h1
    go_enter Try.func38, Try.ntmps38
    go_wp2_with fail
    go_ret
    exact ⟨rfl, HB.out _⟩
  have q1 : (x.d == 1) = false := by simpa using h1
  by_cases h2 : x.d = 2
  · have q2 : (x.d == 2) = true := by simpa using h2
    rw [decide_eq_true (.inr h2)]
    clear h1 h2
    go_enter Try.func38, Try.ntmps38
    go_wp2_with fail
    go_ret
    exact ⟨rfl, HB.out _⟩
  · have q2 : (x.d == 2) = false := by simpa using h2
    rw [decide_eq_false (by rintro (h | h); exact h1 h; exact h2 h)]
    clear h1 h2
    go_enter Try.func38, Try.ntmps38
    go_wp2_with fail
    go_ret
    exact ⟨rfl, HB.out _⟩

set_option maxHeartbeats 1000000 in
theorem touched_any (x : Sti) (r : Int) (w : World) : Calls Try.prog 39 #[.agg #[.int .i64 x.d, .int .i64 x.b, .int .i64 x.n, .int .i64 x.c, .int .i64 x.t], .int .i64 r] w fun e w' => ∃ v, e = .returned v ∧ Ndls w' (fun b => w.heap.size ≤ b ∧ b < w'.heap.size) v (touchW x r) ∧ Below w.heap.size w w' := by
  have HB : Hid (∀ o o', Below w.heap.size w ((w.alloc o).alloc o')) := fun o o' => ((Below.refl _ _).alloc (Nat.le_refl _) o).alloc (by simp) o'
  have HO : Hid (∀ o, ((w.alloc o).alloc (.cells #[.int .i64 x.b, .int .i64 x.n] 71)).ownsRow w.heap.size 71 2 (.slice (some ⟨w.heap.size + 1, 0, none⟩) 1 1) 1 [.int .i64 x.b, .int .i64 x.n]) := fun o => by
    have := own_lit (w.alloc o) w.heap.size 71 [.int .i64 x.b, .int .i64 x.n] (by simp)
    simpa using this
  by_cases h3 : x.d = 3
  · have q3 : (x.d == 3) = true := by simpa using h3
    have HE : Hid (touchW x r = []) := by show _ = _; rw [touchW, if_pos h3]
    clear h3
    go_enter Try.func39, Try.ntmps39
    go_wp2_with fail
    go_ret
    rw [HE.out]
    exact ⟨_, rfl, ⟨none, 0, rfl, Nat.le_refl _, Nat.zero_le _, Row.nil _ _ _ _⟩, HB.out _ _⟩
  have q3 : (x.d == 3) = false := by simpa using h3
  by_cases h4 : x.d = 4
  case neg =>
    have q4 : (x.d != 4) = true := by simpa using h4
    have HE : Hid (touchW x r = [(x.b, x.n)]) := by show _ = _; rw [touchW, if_neg h3, if_neg h4]
    clear h3 h4
    go_enter Try.func39, Try.ntmps39
    go_wp2_with fail
    go_ret
    rw [HE.out]
    exact ⟨_, rfl, ndls_of_own (l := [(x.b, x.n)]) (HO.out _), HB.out _ _⟩
  have q4 : (x.d != 4) = false := by simpa using h4
  by_cases hb0 : x.b = 0
  · have qb : (x.b == 0) = true := by simpa using hb0
    have HE : Hid (touchW x r = [(x.b, x.n), (1, wrap64 (x.n - r))]) := by show _ = _; rw [touchW, if_neg h3, if_pos h4, if_pos hb0]
    clear h3 h4 hb0
    have HO1 := Lib.hid (HO.out (.cells #[.int .i64 x.d, .int .i64 x.b, .int .i64 x.n, .int .i64 x.c, .int .i64 x.t] 44))
    have HB1 := Lib.hid (HB.out (.cells #[.int .i64 x.d, .int .i64 x.b, .int .i64 x.n, .int .i64 x.c, .int .i64 x.t] 44) (.cells #[.int .i64 x.b, .int .i64 x.n] 71))
    have HX := Lib.hid ((Arr.new w #[.int .i64 x.d, .int .i64 x.b, .int .i64 x.n, .int .i64 x.c, .int .i64 x.t] 44).alloc (.cells #[.int .i64 x.b, .int .i64 x.n] 71))
    go_enter Try.func39, Try.ntmps39
    go_upto_region 7 with fail
    generalize (w.alloc (.cells #[.int .i64 x.d, .int .i64 x.b, .int .i64 x.n, .int .i64 x.c, .int .i64 x.t] 44)).alloc (.cells #[.int .i64 x.b, .int .i64 x.n] 71) = w4 at *
    have z1 := HX.out.cell (k := 1) rfl
    have z2 := HX.out.cell (k := 2) rfl
    go_wp2_with (at_builtin
                 refine app_el T68 [.int .i64 1, .int .i64 (wrap64 (x.n - r))] HO1.out HB1.out (Nat.le_refl _) rfl rfl rfl rfl rfl ?_ ?_ ?_
                 rotate_right
                 intro v1 w5 hown1 hb1 hg1 ho1
                 have HF := Lib.hid (And.intro hown1 hb1)
                 clear hown1 hb1 hg1 ho1)
    all_goals (try (first | omega | (show ∀ u ∈ _, Value.oneCell' u = true; simp [Value.oneCell']) | (refine ⟨rfl, rfl⟩) | (simp [Value.oneCell'])))
    go_ret
    rw [HE.out]
    exact ⟨_, rfl, ndls_of_own (l := [(x.b, x.n), (1, wrap64 (x.n - r))]) HF.out.1, HF.out.2⟩
  · have qb : (x.b == 0) = false := by simpa using hb0
    have HE : Hid (touchW x r = [(x.b, x.n), (0, wrap64 (x.n + r))]) := by show _ = _; rw [touchW, if_neg h3, if_pos h4, if_neg hb0]
    clear h3 h4 hb0
    have HO1 := Lib.hid (HO.out (.cells #[.int .i64 x.d, .int .i64 x.b, .int .i64 x.n, .int .i64 x.c, .int .i64 x.t] 44))
    have HB1 := Lib.hid (HB.out (.cells #[.int .i64 x.d, .int .i64 x.b, .int .i64 x.n, .int .i64 x.c, .int .i64 x.t] 44) (.cells #[.int .i64 x.b, .int .i64 x.n] 71))
    have HX := Lib.hid ((Arr.new w #[.int .i64 x.d, .int .i64 x.b, .int .i64 x.n, .int .i64 x.c, .int .i64 x.t] 44).alloc (.cells #[.int .i64 x.b, .int .i64 x.n] 71))
    go_enter Try.func39, Try.ntmps39
    go_upto_region 2 with fail
    generalize (w.alloc (.cells #[.int .i64 x.d, .int .i64 x.b, .int .i64 x.n, .int .i64 x.c, .int .i64 x.t] 44)).alloc (.cells #[.int .i64 x.b, .int .i64 x.n] 71) = w4 at *
    have z1 := HX.out.cell (k := 1) rfl
    have z2 := HX.out.cell (k := 2) rfl
    go_wp2_with (at_builtin
                 refine app_el T68 [.int .i64 0, .int .i64 (wrap64 (x.n + r))] HO1.out HB1.out (Nat.le_refl _) rfl rfl rfl rfl rfl ?_ ?_ ?_
                 rotate_right
                 intro v1 w5 hown1 hb1 hg1 ho1
                 have HF := Lib.hid (And.intro hown1 hb1)
                 clear hown1 hb1 hg1 ho1)
    all_goals (try (first | omega | (show ∀ u ∈ _, Value.oneCell' u = true; simp [Value.oneCell']) | (refine ⟨rfl, rfl⟩) | (simp [Value.oneCell'])))
    go_ret
    rw [HE.out]
    exact ⟨_, rfl, ndls_of_own (l := [(x.b, x.n), (0, wrap64 (x.n + r))]) HF.out.1, HF.out.2⟩

set_option maxHeartbeats 1000000 in
theorem indexN_any {S : Nat → Prop} {v : Value} {l : List (Int × Int)} (a : Int × Int) (w : World) (hv : Ndls w S v l) (hS : ∀ b, S b → b < w.heap.size) :
    Calls Try.prog 58 #[v, .agg #[.int .i64 a.1, .int .i64 a.2]] w fun e w' => (∃ r : Int, e = .returned (.int .i64 r) ∧ ((a ∈ l ∧ 0 ≤ r) ∨ (a ∉ l ∧ r = -1))) ∧ Below w.heap.size w w' := by
  obtain ⟨A, c, rfl, h1, h2, hr⟩ := hv
  have HR := Lib.hid hr
  have HS := Lib.hid hS
  clear hr hS
  unfold maxLen at h2
  have HB1 : Hid (Below w.heap.size w (w.alloc (.cells #[.int .i64 a.1, .int .i64 a.2] 71))) := (Below.refl _ _).alloc (Nat.le_refl _) _
  have HA := Lib.hid (Arr.new w #[.int .i64 a.1, .int .i64 a.2] 71)
  go_enter Try.func58, Try.ntmps58
  go_wp2_with fail
  generalize w.alloc (.cells #[.int .i64 a.1, .int .i64 a.2] 71) = w1 at *
  go_loopg [8] l.length (fun gg ctr wr => ∃ i k : Nat, i ≤ l.length ∧ gg = l.length - i ∧ ctr = .int .i64 i ∧ wr = w1.drewN k ∧ ∀ j (h : j < l.length), j < i → l[j] ≠ a)
  case atStart => exact ⟨0, 0, by omega, rfl, rfl, rfl, fun j h hj => by omega⟩
  case round =>
    obtain ⟨i, k, hi, rfl, rfl, rfl, hall⟩ := hrel
    have HALL := Lib.hid hall
    clear hall
    by_cases hlt : i < l.length
    case neg =>
      obtain rfl : i = l.length := by omega
      go_wp2_with fail
      go_ret
      refine ⟨⟨_, rfl, .inr ⟨fun hm => ?_, rfl⟩⟩, below_dN HB1.out⟩
      obtain ⟨j, hj, e⟩ := List.getElem_of_mem hm
      exact HALL.out j hj hj e
    obtain ⟨b, o, e, hbb, x0, x1⟩ := ndl_cells (HR.out.same (w' := w1) fun b hb => HB1.out.block b (HS.out b hb)) hlt
    cases e
    have y0 := HA.out.cell (k := 0) rfl
    have y1 := HA.out.cell (k := 1) rfl
    have HI : Hid (∀ x, x = l[i] → x = a → a ∈ l) := fun x e h => by rw [← h, e]; exact List.getElem_mem _
    have HN : Hid (∀ x, x = l[i] → x ≠ a → ∀ j (h : j < l.length), j < i + 1 → l[j] ≠ a) := fun x e h j hj hji => by
      rcases Nat.lt_or_eq_of_le (Nat.le_of_lt_succ hji) with h1 | h1
      · exact HALL.out j hj h1
      · subst h1; rw [← e]; exact h
    generalize hx : l[i] = x at *
    have HI2 := Lib.hid (HI.out x rfl)
    have HN2 := Lib.hid (HN.out x rfl)
    clear hx HI HN
    by_cases hd : x = a
    · have HM := Lib.hid (HI2.out hd)
      subst hd
      go_wp2_with (go_quiet (fail))
      go_ret
      exact ⟨⟨_, rfl, .inl ⟨HM.out, by omega⟩⟩, below_dN HB1.out⟩
    · have HN3 := Lib.hid (HN2.out hd)
      have hdd : ¬ (a.1 = x.1 ∧ a.2 = x.2) := fun h => hd (Prod.ext h.1 h.2).symm
      have HD := Lib.hid hdd
      clear hd hdd
      by_cases e1 : a.1 = x.1
      · have e2 : ¬ a.2 = x.2 := fun h => HD.out ⟨e1, h⟩
        have q1 : (a.1 == x.1) = true := by simpa using e1
        have q2 : (a.2 == x.2) = false := by simpa using e2
        clear e1 e2
        go_wp2_with (go_quiet (fail))
        go_roundg (l.length - (i + 1))
        case measure => omega
        case rel => exact ⟨i + 1, _, by omega, rfl, by go_num, rfl, HN3.out⟩
      · have q1 : (a.1 == x.1) = false := by simpa using e1
        clear e1
        go_wp2_with (go_quiet (fail))
        go_roundg (l.length - (i + 1))
        case measure => omega
        case rel => exact ⟨i + 1, _, by omega, rfl, by go_num, rfl, HN3.out⟩

theorem containsN_any {S : Nat → Prop} {v : Value} {l : List (Int × Int)} (a : Int × Int) (w : World) (hv : Ndls w S v l) (hS : ∀ b, S b → b < w.heap.size) :
    Calls Try.prog 40 #[v, .agg #[.int .i64 a.1, .int .i64 a.2]] w fun e w' => e = .returned (.bool (decide (a ∈ l))) ∧ Below w.heap.size w w' := by
  have HV := Lib.hid hv
  have HS := Lib.hid hS
  obtain ⟨A, c, rfl, h1, h2, hr⟩ := hv
  clear hr hS
  have HB1 : Hid (Below w.heap.size w (w.alloc (.cells #[.int .i64 a.1, .int .i64 a.2] 71))) := (Below.refl _ _).alloc (Nat.le_refl _) _
  go_enter Try.func40, Try.ntmps40
  go_wp2_with fail
  refine (indexN_any (S := S) a _ (HV.out.same fun b hb => HB1.out.block b (HS.out b hb)) (fun b hb => Nat.lt_of_lt_of_le (HS.out b hb) HB1.out.size)).mono ?_
  rintro e w2 ⟨⟨r, rfl, h⟩, hb2⟩
  have HB2 := Lib.hid (HB1.out.trans (hb2.mono HB1.out.size))
  clear hb2
  rcases h with ⟨hm, hr⟩ | ⟨hm, rfl⟩
  · have HM := Lib.hid hm
    clear hm
    have q : decide (r ≥ 0) = true := decide_eq_true hr
    go_wp2_with fail
    go_ret
    refine ⟨?_, HB2.out⟩
    rw [decide_eq_true HM.out]
    rfl
  · have HM := Lib.hid hm
    clear hm
    go_wp2_with fail
    go_ret
    refine ⟨?_, HB2.out⟩
    rw [decide_eq_false HM.out]
    rfl
end Go.Proofs.Ytaacfjeddoekfaa
/- Chapter 12: the program's May. -/
namespace Go.Proofs.Ytaacfjeddoekfaa
open Go.RowKit
set_option linter.unusedVariables false
set_option linter.unusedSimpArgs false

/-- two stitches that may be exchanged, as the machine counts -/
def mayW (x y : Sti) (r : Int) : Bool :=
  if x.d = 6 ∨ y.d = 6 then false else if (yarnK x && (yarnK y && (x.c == y.c))) = true then false else (touchW x r).all fun a => !decide (a ∈ touchW y r)

set_option maxRecDepth 100000 in
set_option maxHeartbeats 3000000 in
theorem May_any (x y : Sti) (r : Int) (w : World) : Calls Try.prog 21 #[.agg #[.int .i64 x.d, .int .i64 x.b, .int .i64 x.n, .int .i64 x.c, .int .i64 x.t], .agg #[.int .i64 y.d, .int .i64 y.b, .int .i64 y.n, .int .i64 y.c, .int .i64 y.t], .int .i64 r] w fun e w' => e = .returned (.bool (mayW x y r)) ∧ Below w.heap.size w w' := by
  have HX := Lib.hid ((Arr.new w #[.int .i64 x.d, .int .i64 x.b, .int .i64 x.n, .int .i64 x.c, .int .i64 x.t] 44).alloc (.cells #[.int .i64 y.d, .int .i64 y.b, .int .i64 y.n, .int .i64 y.c, .int .i64 y.t] 44))
  have HY := Lib.hid (arr_new2 w (.cells #[.int .i64 x.d, .int .i64 x.b, .int .i64 x.n, .int .i64 x.c, .int .i64 x.t] 44) #[.int .i64 y.d, .int .i64 y.b, .int .i64 y.n, .int .i64 y.c, .int .i64 y.t] 44)
  have HB1 : Hid (Below w.heap.size w ((w.alloc (.cells #[.int .i64 x.d, .int .i64 x.b, .int .i64 x.n, .int .i64 x.c, .int .i64 x.t] 44)).alloc (.cells #[.int .i64 y.d, .int .i64 y.b, .int .i64 y.n, .int .i64 y.c, .int .i64 y.t] 44))) := ((Below.refl _ _).alloc (Nat.le_refl _) _).alloc (by simp) _
  have HM : Hid (mayW x y r = if x.d = 6 ∨ y.d = 6 then false else if (yarnK x && (yarnK y && (x.c == y.c))) = true then false else (touchW x r).all fun a => !decide (a ∈ touchW y r)) := rfl
  go_enter Try.func21, Try.ntmps21
  go_upto_region 1 with fail
  generalize (w.alloc (.cells #[.int .i64 x.d, .int .i64 x.b, .int .i64 x.n, .int .i64 x.c, .int .i64 x.t] 44)).alloc (.cells #[.int .i64 y.d, .int .i64 y.b, .int .i64 y.n, .int .i64 y.c, .int .i64 y.t] 44) = w1 at *
  have x0 := HX.out.cell (k := 0) rfl
  have x1 := HX.out.cell (k := 1) rfl
  have x2 := HX.out.cell (k := 2) rfl
  have x3 := HX.out.cell (k := 3) rfl
  have x4 := HX.out.cell (k := 4) rfl
  have y0 := HY.out.cell (k := 0) rfl
  have y1 := HY.out.cell (k := 1) rfl
  have y2 := HY.out.cell (k := 2) rfl
  have y3 := HY.out.cell (k := 3) rfl
  have y4 := HY.out.cell (k := 4) rfl
  by_cases dx : x.d = 6
  · have q : (x.d == 6) = true := by simpa using dx
    have HE : Hid (mayW x y r = false) := by show _ = _; rw [HM.out, if_pos (.inl dx)]
    clear dx HM
    go_wp2_with fail
    go_ret
    refine ⟨?_, HB1.out⟩
    rw [HE.out]; rfl
  have q1 : (x.d == 6) = false := by simpa using dx
  by_cases dy : y.d = 6
  · have q : (y.d == 6) = true := by simpa using dy
    have HE : Hid (mayW x y r = false) := by show _ = _; rw [HM.out, if_pos (.inr dy)]
    clear dx dy HM
    go_wp2_with fail
    go_ret
    refine ⟨?_, HB1.out⟩
    rw [HE.out]; rfl
  have q2 : (y.d == 6) = false := by simpa using dy
  have HM2 : Hid (mayW x y r = if (yarnK x && (yarnK y && (x.c == y.c))) = true then false else (touchW x r).all fun a => !decide (a ∈ touchW y r)) := by
    show _ = _; rw [HM.out, if_neg (by rintro (h | h); exact dx h; exact dy h)]
  clear dx dy HM
  go_upto_region 3 with fail
  go_cut [29] from 17 to 29 (fun c wx => c = .bool (yarnK x && (yarnK y && (x.c == y.c))) ∧ Below w1.heap.size w1 wx)
  case first =>
    cases hyx : yarnK x
    · go_wp2_with fail
      refine (yarn_any x w1).mono ?_
      rintro e w2 ⟨rfl, hb2⟩
      have HB2 := Lib.hid hb2
      rw [hyx]
      clear hb2
      go_wp2_with fail
      go_meet
      exact ⟨by rw [hyx]; rfl, HB2.out⟩
    · go_wp2_with fail
      refine (yarn_any x w1).mono ?_
      rintro e w2 ⟨rfl, hb2⟩
      have HB2 := Lib.hid hb2
      have HY2 := Lib.hid (HY.out.of_eq (hb2.block _ HY.out.lt))
      have HX2 := Lib.hid (HX.out.of_eq (hb2.block _ HX.out.lt))
      rw [hyx]
      clear hb2 x0 x1 x2 x3 x4 y0 y1 y2 y3 y4
      have y0 := HY2.out.cell (k := 0) rfl
      have y1 := HY2.out.cell (k := 1) rfl
      have y2 := HY2.out.cell (k := 2) rfl
      have y3 := HY2.out.cell (k := 3) rfl
      have y4 := HY2.out.cell (k := 4) rfl
      cases hyy : yarnK y
      · go_wp2_with fail
        refine (yarn_any y w2).mono ?_
        rintro e w3 ⟨rfl, hb3⟩
        have HB3 := Lib.hid (HB2.out.trans (hb3.mono HB2.out.size))
        rw [hyy]
        clear hb3 y0 y1 y2 y3 y4
        go_wp2_with fail
        go_meet
        exact ⟨by rw [hyx, hyy]; rfl, HB3.out⟩
      · go_wp2_with fail
        refine (yarn_any y w2).mono ?_
        rintro e w3 ⟨rfl, hb3⟩
        have HB3 := Lib.hid (HB2.out.trans (hb3.mono HB2.out.size))
        have HY3 := Lib.hid (HY2.out.of_eq (hb3.block _ HY2.out.lt))
        have HX3 := Lib.hid (HX2.out.of_eq (hb3.block _ HX2.out.lt))
        rw [hyy]
        clear hb3 y0 y1 y2 y3 y4
        have x3 := HX3.out.cell (k := 3) rfl
        have y3 := HY3.out.cell (k := 3) rfl
        go_wp2_with fail
        go_meet
        exact ⟨by rw [hyx, hyy]; rfl, HB3.out⟩
  case rest =>
    obtain ⟨rfl, hbx⟩ := hcut
    have HBX := Lib.hid hbx
    have HX3 := Lib.hid (HX.out.of_eq (hbx.block _ HX.out.lt))
    have HY3 := Lib.hid (HY.out.of_eq (hbx.block _ HY.out.lt))
    have HBW := Lib.hid (HB1.out.trans (hbx.mono HB1.out.size))
    clear hbx x0 x1 x2 x3 x4 y0 y1 y2 y3 y4
    cases hyc : (yarnK x && (yarnK y && (x.c == y.c)))
    case true =>
      have HE : Hid (mayW x y r = false) := by show _ = _; rw [HM2.out, if_pos hyc]
      clear hyc HM2
      go_wp2_with fail
      go_ret
      refine ⟨?_, HBW.out⟩
      rw [HE.out]; rfl
    have HM3 : Hid (mayW x y r = (touchW x r).all fun a => !decide (a ∈ touchW y r)) := by show _ = _; rw [HM2.out, if_neg (by rw [hyc]; exact Bool.false_ne_true)]
    clear hyc HM2
    have x0 := HX3.out.cell (k := 0) rfl
    have x1 := HX3.out.cell (k := 1) rfl
    have x2 := HX3.out.cell (k := 2) rfl
    have x3 := HX3.out.cell (k := 3) rfl
    have x4 := HX3.out.cell (k := 4) rfl
    go_wp2_with fail
    refine (touched_any x r wc).mono ?_
    rintro e wA ⟨v, rfl, hv, hbA⟩
    have HBA := Lib.hid (HBW.out.trans (hbA.mono HBW.out.size))
    have HYA := Lib.hid (HY3.out.of_eq (hbA.block _ HY3.out.lt))
    obtain ⟨A, c, rfl, h1, h2, hr⟩ := hv
    have HR := Lib.hid hr
    unfold maxLen at h2
    clear hr hbA x0 x1 x2 x3 x4
    generalize touchW x r = L at *
    have HTY : Hid (∀ w : World, Calls Try.prog 39 #[.agg #[.int .i64 y.d, .int .i64 y.b, .int .i64 y.n, .int .i64 y.c, .int .i64 y.t], .int .i64 r] w fun e w' => ∃ v, e = .returned v ∧ Ndls w' (fun b => w.heap.size ≤ b ∧ b < w'.heap.size) v (touchW y r) ∧ Below w.heap.size w w') := fun w => touched_any y r w
    generalize touchW y r = M at *
    go_wp2_with fail
    go_loopg [34] L.length (fun gg ctr wr => ∃ i : Nat, i ≤ L.length ∧ gg = L.length - i ∧ ctr = .int .i64 i ∧ Below wA.heap.size wA wr ∧ ∀ j (h : j < L.length), j < i → L[j] ∉ M)
    case atStart => exact ⟨0, by omega, rfl, rfl, Below.refl _ _, fun j h hj => by omega⟩
    case round =>
      obtain ⟨i, hi, rfl, rfl, hb, hall⟩ := hrel
      have HB := Lib.hid hb
      have HALL := Lib.hid hall
      clear hb hall
      by_cases hlt : i < L.length
      case neg =>
        obtain rfl : i = L.length := by omega
        have HE : Hid (mayW x y r = true) := by
          show _ = _
          rw [HM3.out, List.all_eq_true]
          intro a ha
          obtain ⟨j, hj, rfl⟩ := List.getElem_of_mem ha
          rw [decide_eq_false (HALL.out j hj hj)]; rfl
        have HBF := Lib.hid (HBA.out.trans (HB.out.mono HBA.out.size))
        clear HM3
        go_wp2_with fail
        go_ret
        refine ⟨?_, HBF.out⟩
        rw [HE.out]; rfl
      obtain ⟨b, o, e, hbb, x0, x1⟩ := ndl_cells (HR.out.same (w' := wr) fun b hb => HB.out.block b hb.2) hlt
      cases e
      have HI : Hid (∀ a, a = L[i] → a ∈ M → mayW x y r = false) := fun a e h => by
        rw [HM3.out, List.all_eq_false]
        refine ⟨a, by rw [e]; exact List.getElem_mem _, ?_⟩
        rw [decide_eq_true h]; simp
      have HN : Hid (∀ a, a = L[i] → a ∉ M → ∀ j (h : j < L.length), j < i + 1 → L[j] ∉ M) := fun x e h j hj hji => by
        rcases Nat.lt_or_eq_of_le (Nat.le_of_lt_succ hji) with h1 | h1
        · exact HALL.out j hj h1
        · subst h1; rw [← e]; exact h
      generalize L[i] = a at *
      have HI2 := Lib.hid (HI.out a rfl)
      have HN2 := Lib.hid (HN.out a rfl)
      clear HI HN HM3
      have HY4 := Lib.hid ((HYA.out.of_eq (HB.out.block _ HYA.out.lt)).alloc (.cells #[.int .i64 a.1, .int .i64 a.2] 71))
      have HA4 := Lib.hid (Arr.new wr #[.int .i64 a.1, .int .i64 a.2] 71)
      have HB4 : Hid (Below wA.heap.size wA (wr.alloc (.cells #[.int .i64 a.1, .int .i64 a.2] 71))) := HB.out.alloc HB.out.size _
      go_upto_region 8 with fail
      generalize wr.alloc (.cells #[.int .i64 a.1, .int .i64 a.2] 71) = w4 at *
      have y0 := HY4.out.cell (k := 0) rfl
      have y1 := HY4.out.cell (k := 1) rfl
      have y2 := HY4.out.cell (k := 2) rfl
      have y3 := HY4.out.cell (k := 3) rfl
      have y4 := HY4.out.cell (k := 4) rfl
      have z0 := HA4.out.cell (k := 0) rfl
      have z1 := HA4.out.cell (k := 1) rfl
      have HBd : Hid (Below w4.heap.size w4 w4.drew) := below_dN (n := 1) (Below.refl _ _)
      go_cut [34, 42] from 34 to 43 (fun ct v wx => ct = .int .i64 i ∧ v = .bool (decide (a ∈ M)) ∧ Below wA.heap.size wA wx)
      case first =>
        go_region_held3 (fun w' => w'.cell? ⟨w.heap.size + 1, 0, none⟩ = some (.int .i64 y.d) ∧ w'.cell? ⟨w.heap.size + 1, 1, none⟩ = some (.int .i64 y.b) ∧ w'.cell? ⟨w.heap.size + 1, 2, none⟩ = some (.int .i64 y.n) ∧ w'.cell? ⟨w.heap.size + 1, 3, none⟩ = some (.int .i64 y.c) ∧ w'.cell? ⟨w.heap.size + 1, 4, none⟩ = some (.int .i64 y.t) ∧ w'.cell? ⟨wr.heap.size, 0, none⟩ = some (.int .i64 a.1) ∧ w'.cell? ⟨wr.heap.size, 1, none⟩ = some (.int .i64 a.2)) (go_keep)
          (first
            | (go_at_call 39
               refine (HTY.out _).mono ?_
               rintro e w6 ⟨v, rfl, hv, hb⟩
               have HB6 : Hid (Below w4.heap.size w4 w6) := HBd.out.trans (hb.mono (Nat.le_refl _))
               have HV6 := Lib.hid hv
               have HY6 := Lib.hid (HY4.out.of_eq (HB6.out.block _ HY4.out.lt))
               have HA6 := Lib.hid (HA4.out.of_eq (HB6.out.block _ HA4.out.lt))
               obtain ⟨A6, c6, rfl, _, _, _⟩ := hv
               have p0 := HY6.out.cell (k := 0) rfl
               have p1 := HY6.out.cell (k := 1) rfl
               have p2 := HY6.out.cell (k := 2) rfl
               have p3 := HY6.out.cell (k := 3) rfl
               have p4 := HY6.out.cell (k := 4) rfl
               have s0 := HA6.out.cell (k := 0) rfl
               have s1 := HA6.out.cell (k := 1) rfl
               clear hb)
            | (go_at_call 40
               refine (containsN_any a w6 HV6.out (fun b hb => hb.2)).mono ?_
               rintro e w7 ⟨rfl, hb⟩
               have HB7 : Hid (Below wA.heap.size wA w7) := (HB4.out.trans (HB6.out.mono HB4.out.size)).trans (hb.mono (Nat.le_trans HB4.out.size HB6.out.size))
               have HY7 := Lib.hid (HY6.out.of_eq (hb.block _ HY6.out.lt))
               have HA7 := Lib.hid (HA6.out.of_eq (hb.block _ HA6.out.lt))
               have t0 := HY7.out.cell (k := 0) rfl
               have t1 := HY7.out.cell (k := 1) rfl
               have t2 := HY7.out.cell (k := 2) rfl
               have t3 := HY7.out.cell (k := 3) rfl
               have t4 := HY7.out.cell (k := 4) rfl
               have r0 := HA7.out.cell (k := 0) rfl
               have r1 := HA7.out.cell (k := 1) rfl
               clear hb))
        all_goals
          go_wp2_with fail
          go_meet
          exact ⟨rfl, rfl, HB7.out⟩
      case rest =>
        obtain ⟨rfl, rfl, hbx⟩ := hcut
        have HBX := Lib.hid hbx
        clear hbx x0 x1 y0 y1 y2 y3 y4 z0 z1
        by_cases hm : a ∈ M
        · have HE := Lib.hid (HI2.out hm)
          have HBF := Lib.hid (HBA.out.trans (HBX.out.mono HBA.out.size))
          rw [decide_eq_true hm]
          clear hm
          go_wp2_with fail
          go_ret
          refine ⟨?_, HBF.out⟩
          rw [HE.out]; rfl
        · have HN3 := Lib.hid (HN2.out hm)
          rw [decide_eq_false hm]
          clear hm
          go_wp2_with fail
          go_roundg (L.length - (i + 1))
          case measure => omega
          case rel => exact ⟨i + 1, by omega, rfl, by go_num, HBX.out, HN3.out⟩
end Go.Proofs.Ytaacfjeddoekfaa
/- A region that draws its order, walked along a tree: where two operations may come up that both write, each is tried. -/
namespace Go.Proofs.Ytaacfjeddoekfaa
open Go.RowKit
set_option linter.unusedVariables false

/-- what is appended: nil, or m elements that lie somewhere -/
def News (w : World) (u : Value) (m : Nat) (us : List Value) : Prop :=
  (u = .slice none 0 0 ∧ m = 0 ∧ us = []) ∨ ∃ g p c, u = .slice (some ⟨g, p, none⟩) m c ∧ ∀ j x, us[j]? = some x → w.cell? ⟨g, p + j, none⟩ = some x
theorem News.keep {w w' : World} {u : Value} {m : Nat} {us : List Value} (h : News w u m us) (hb : ∀ b, b < w.heap.size → w'.heap[b]? = w.heap[b]?) : News w' u m us := by
  rcases h with h | ⟨g, p, c, e, hc⟩
  · exact .inl h
  · exact .inr ⟨g, p, c, e, fun j x hx => (World.cell?_of_block (a := ⟨g, p + j, none⟩) (hb g (World.block_lt_of_cell? w _ (hc j x hx)))).trans (hc j x hx)⟩
theorem News.of_own {w : World} {base : Nat} {e : TypeId} {size n : Nat} {v : Value} {xs : List Value} (h : w.ownsRow base e size v n xs) (hs : 0 < size) : News w v n xs := by
  rcases h.2 with ⟨hv, h0⟩ | ⟨g, cap, cur, rfl, hb, hg, hn, hm, _⟩
  · refine .inl ⟨hv, h0, ?_⟩
    have := h.1
    rw [h0, Nat.zero_mul] at this
    exact List.length_eq_zero_iff.1 this
  · refine .inr ⟨g, 0, cap, rfl, fun j u hu => ?_⟩
    have := h.cells (g := g) rfl j u hu
    unfold Addr.add at this
    split at this
    · next h0 => subst h0; simpa using this
    · simpa using this
theorem wp_appA {P : Program} {W w0 : World} {o : Oper} {a : Act} {K : Act → World → Prop} {Q : Exit → Act → World → Prop} {s x : Operand} {t e : TypeId} {z : Value} {size bytes : Nat}
    (T : SliceT P t e z size bytes) (us : List Value) {base : Nat} {v u : Value} {n m : Nat} {xs : List Value}
    (hown : W.ownsRow base e size v n xs) (hb : Below base w0 W) (hbase : base ≤ w0.heap.size)
    (ho : o.op = .call { callee := .builtin .append, args := #[s, x], argTypes := #[t, t] })
    (hs : a.eval s = v) (hx : a.eval x = u) (hu : News W u m us)
    (hl : us.length = m * size) (h1 : ∀ u ∈ us, u.oneCell' = true) (hbytes : (n + m) * bytes ≤ 140737488355328)
    (h : ∀ v' w', w'.ownsRow base e size v' (n + m) (xs ++ us) → Below base w0 w' → W.grownBy w' v.ownBlock → (v'.ownBlock = v.ownBlock ∨ v'.ownBlock = some W.heap.size) →
      K (a.put o.dst v') w') : o.wp P a W K Q := by
  rcases hu with ⟨rfl, rfl, rfl⟩ | ⟨g, p, c, rfl, hc⟩
  · obtain ⟨i, hi0, hz, hsize, hby⟩ := info_parts T.hi
    have hrun := run_append_owned_none (P := P) W base t o.type e i size T.ht hi0 v n xs hown
    unfold Oper.wp execOp
    simp only [ho, resolve, invoke, builtin, Sem.run_bind, Sem.run_pure, Result.andThen_ok, List.map_toArray, List.map_cons, List.map_nil, hs, hx, hrun]
    exact h v W (by simpa using hown) hb (World.grownBy.refl _ _) (.inl rfl)
  · exact wp_app T us hown hb hbase ho hs hx hl hc h1 hbytes h
/-- 'append(s, l...)' in a plain region -/
theorem app_elsA {P : Program} {w w0 : World} {ops : Array Oper} {rest : List Oper} {o : Oper} {a : Act} {Q : Exit → Act → World → Prop} {s x : Operand} {t e : TypeId} {z : Value} {size bytes : Nat}
    (T : SliceT P t e z size bytes) (us : List Value) {base : Nat} {v u : Value} {n m : Nat} {xs : List Value}
    (hown : w.ownsRow base e size v n xs) (hb : Below base w0 w) (hbase : base ≤ w0.heap.size)
    (hgd : o.guard = none)
    (ho : o.op = .call { callee := .builtin .append, args := #[s, x], argTypes := #[t, t] })
    (hs : a.eval s = v) (hx : a.eval x = u) (hu : News w u m us)
    (hl : us.length = m * size) (h1 : ∀ u ∈ us, u.oneCell' = true) (hbytes : (n + m) * bytes ≤ 140737488355328)
    (h : ∀ v' w', w'.ownsRow base e size v' (n + m) (xs ++ us) → Below base w0 w' → w.grownBy w' v.ownBlock → (v'.ownBlock = v.ownBlock ∨ v'.ownBlock = some w.heap.size) →
      wpList P ops Q rest (a.put o.dst v') w') : wpList P ops Q (o :: rest) a w :=
  wpList_plain hgd fun K hK => wp_appA T us hown hb hbase ho hs hx hu hl h1 hbytes fun v' w' h2 h3 h4 h5 => hK _ _ (h v' w' h2 h3 h4 h5)

/-- take i first; i alone may come up; i or j may come up -/
inductive PT
  | nil
  | take (i : Nat) (r : PT)
  | one (i : Nat) (r : PT)
  | two (i : Nat) (r : PT) (j : Nat) (s : PT)
def PT.depth : PT → Nat
  | .nil => 0
  | .take _ r => r.depth + 1
  | .one _ r => r.depth + 1
  | .two _ r _ s => max r.depth s.depth + 1
/-- nothing is taken first any more -/
def PT.late : PT → Bool
  | .nil => true
  | .take _ _ => false
  | .one _ r => r.late
  | .two _ r _ s => r.late && s.late
section
variable {P : Program} {ops : Array Oper} {md : Region.Mode} {S : World → Prop} {Q : Exit → Act → World → Prop} {z : Nat}
def PlanT (P : Program) (ops : Array Oper) (Q : Exit → Act → World → Prop) (S : World → Prop) (z : Nat) : PT → Act → World → Prop
  | .nil, a, w => Q .normal a w
  | .take i r, a, w => ∃ o v, ops[i]? = some o ∧ YieldsIf P ops S o v a ∧ PlanT P ops Q S z r (a.put o.dst v) w
  | .one i r, a, w => wpOp P ops Q i (fun a' w' => (i = z ∨ S w') ∧ PlanT P ops Q S z r a' w') a w
  | .two i r j s, a, w => wpOp P ops Q i (fun a' w' => (i = z ∨ S w') ∧ PlanT P ops Q S z r a' w') a w ∧ wpOp P ops Q j (fun a' w' => (j = z ∨ S w') ∧ PlanT P ops Q S z s a' w') a w
def okPT (md : Region.Mode) (ops : Array Oper) (z : Nat) : PT → Array Bool → Bool
  | .nil, listed => (Region.ready md ops listed).isEmpty
  | .take i r, listed => Region.free md ops listed i && (Region.ready md ops listed).contains i && waits md ops z i && okPT md ops z r (listed.setIfInBounds i true)
  | .one i r, listed => decide (Region.ready md ops listed = [i]) && (decide (i ≠ z) || r.late) && okPT md ops z r (listed.setIfInBounds i true)
  | .two i r j s, listed => decide (Region.ready md ops listed = [i, j]) && (decide (i ≠ z) || r.late) && (decide (j ≠ z) || s.late) && okPT md ops z r (listed.setIfInBounds i true) && okPT md ops z s (listed.setIfInBounds j true)
theorem planT_G (hsel : Region.noSelect ops = true) (hQ : ∀ c a d v w, Q (.panic c) (a.put d v) w → Q (.panic c) a w) : ∀ (t : PT) (fuel : Nat) (listed : Array Bool) (a : Act) (w : World), t.depth ≤ fuel → okPT md ops z t listed = true →
    (S w ∨ t.late = true) → PlanT P ops Q S z t a w → wpAnyG P md ops Q S z fuel listed a w
  | .nil, fuel, listed, a, w, _, hok, _, h => by
    have hr : Region.ready md ops listed = [] := by simpa [okPT] using hok
    cases fuel with
    | zero => exact ⟨hr, h⟩
    | succ n => exact ⟨fun _ => h, by rw [hr]; simp⟩
  | .take i r, 0, listed, a, w, hd, _, _, _ => by simp [PT.depth] at hd
  | .take i r, fuel + 1, listed, a, w, hd, hok, hS, h => by
    unfold okPT at hok
    simp only [Bool.and_eq_true] at hok
    obtain ⟨⟨⟨h1, h2⟩, h3⟩, h4⟩ := hok
    obtain ⟨o, v, ho, hy, hr⟩ := h
    have hS' : S w := hS.resolve_right (by simp [PT.late])
    exact wpAnyG_first ho (Region.noSelect_spec hsel) (fun c a w => hQ c a _ _ w) h3 fuel listed a w (Region.free_spec ho h1) (by simpa using h2) hy hS' (planT_G hsel hQ r fuel _ _ w (by simpa [PT.depth] using hd) h4 (.inl hS') hr)
  | .one i r, 0, listed, a, w, hd, _, _, _ => by simp [PT.depth] at hd
  | .one i r, fuel + 1, listed, a, w, hd, hok, hS, h => by
    unfold okPT at hok
    simp only [Bool.and_eq_true, decide_eq_true_eq, Bool.or_eq_true] at hok
    obtain ⟨⟨h1, h2⟩, h3⟩ := hok
    refine ⟨fun h0 => (by rw [h1] at h0; cases h0), fun j hj => ?_⟩
    rw [h1] at hj
    obtain rfl : j = i := by simpa using hj
    refine wpOp_mono (fun a' w' h' => ⟨h'.1, planT_G hsel hQ r fuel _ a' w' (by simpa [PT.depth] using hd) h3 ?_ h'.2⟩) h
    rcases h'.1 with e | hs
    · rcases h2 with h2 | h2
      · exact absurd e h2
      · exact .inr h2
    · exact .inl hs
  | .two i r j s, 0, listed, a, w, hd, _, _, _ => by simp [PT.depth] at hd
  | .two i r j s, fuel + 1, listed, a, w, hd, hok, hS, h => by
    unfold okPT at hok
    simp only [Bool.and_eq_true, decide_eq_true_eq, Bool.or_eq_true] at hok
    obtain ⟨⟨⟨⟨h1, h2⟩, h2'⟩, h3⟩, h3'⟩ := hok
    have hd1 : r.depth ≤ fuel ∧ s.depth ≤ fuel := by unfold PT.depth at hd; omega
    refine ⟨fun h0 => (by rw [h1] at h0; cases h0), fun k hk => ?_⟩
    rw [h1] at hk
    rcases List.mem_cons.1 hk with rfl | hk
    · refine wpOp_mono (fun a' w' h' => ⟨h'.1, planT_G hsel hQ r fuel _ a' w' hd1.1 h3 ?_ h'.2⟩) h.1
      rcases h'.1 with e | hs
      · rcases h2 with h2 | h2
        · exact absurd e h2
        · exact .inr h2
      · exact .inl hs
    · obtain rfl : k = j := by simpa using hk
      refine wpOp_mono (fun a' w' h' => ⟨h'.1, planT_G hsel hQ s fuel _ a' w' hd1.2 h3' ?_ h'.2⟩) h.2
      rcases h'.1 with e | hs
      · rcases h2' with h2 | h2
        · exact absurd e h2
        · exact .inr h2
      · exact .inl hs
theorem wp_region_planT {id : Nat} {a : Act} {w : World} (t : PT) (z : Nat) (S : World → Prop) (hm : P.follows .mixedOrders = true) (hsel : Region.noSelect ops = true)
    (hok : okPT .any ops z t (Array.replicate ops.size false) = true) (hlen : decide (t.depth ≤ ops.size) = true) (hS : S w.drew)
    (h : PlanT P ops (NoPanic Q) S z t a w.drew) : (Code.region id ops true).wp P Q a w :=
  wp_region_noPanic (wp_region_any hm (wpAny_of_G (S := S) (z := z) _ _ _ _ (planT_G hsel (fun _ _ _ _ _ h => h) t ops.size _ a w.drew (of_decide_eq_true hlen) hok (.inl hS) h)))

section
variable {i j : Nat} {r s : PT} {a : Act} {w : World}
theorem planT_val (o : Oper) (v : Value) (hl0 : ops.toList[i]? = some o) (hw : Region.wanted o (yielded ops a.tmps) = true) (hv : ∀ w, S w → (execOp a.eval o).run P w = .ok (.value v) w)
    (h : PlanT P ops Q S z r (a.put o.dst v) w) : PlanT P ops Q S z (.take i r) a w := ⟨o, v, by simpa using hl0, .inl ⟨hw, hv⟩, h⟩
theorem planT_two (h1 : PlanT P ops Q S z (.one i r) a w) (h2 : PlanT P ops Q S z (.one j s) a w) : PlanT P ops Q S z (.two i r j s) a w := ⟨h1, h2⟩
theorem planT_op (o : Oper) (hl0 : ops.toList[i]? = some o) (hw : Region.wanted o (yielded ops a.tmps) = true) (h : Oper.wp P o a w (fun a' w' => (i = z ∨ S w') ∧ PlanT P ops Q S z r a' w') Q) : PlanT P ops Q S z (.one i r) a w := by
  have ho : ops[i]? = some o := by simpa using hl0
  unfold PlanT Go.wpOp
  simp only [ho, hw, if_true]
  exact .inl h
theorem planT_do (o : Oper) (u : Value) (w' : World) (hl0 : ops.toList[i]? = some o) (hw : Region.wanted o (yielded ops a.tmps) = true) (hv : (execOp a.eval o).run P w = .ok (.value u) w') (hS : i = z ∨ S w')
    (h : PlanT P ops Q S z r (a.put o.dst u) w') : PlanT P ops Q S z (.one i r) a w := by
  refine planT_op o hl0 hw ?_
  simp only [Oper.wp, hv, Oper.upon]
  exact ⟨hS, h⟩
theorem planT_store (o : Oper) (w' : World) (hl0 : ops.toList[i]? = some o) (hw : Region.wanted o (yielded ops a.tmps) = true) (hv : (execOp a.eval o).run P w = .ok .skip w') (hS : i = z ∨ S w')
    (h : PlanT P ops Q S z r (a.put o.dst undef) w') : PlanT P ops Q S z (.one i r) a w := by
  refine planT_op o hl0 hw ?_
  simp only [Oper.wp, hv, Oper.upon]
  exact ⟨hS, h⟩
theorem planT_app {w0 : World} {s' x : Operand} {t e : TypeId} {zv : Value} {size bytes : Nat} (o : Oper)
    (T : SliceT P t e zv size bytes) (us : List Value) {base : Nat} {v : Value} {n m g p c : Nat} {xs : List Value}
    (hown : w.ownsRow base e size v n xs) (hb : Below base w0 w) (hbase : base ≤ w0.heap.size)
    (hl0 : ops.toList[i]? = some o) (hw : Region.wanted o (yielded ops a.tmps) = true)
    (ho : o.op = .call { callee := .builtin .append, args := #[s', x], argTypes := #[t, t] })
    (hs : a.eval s' = v) (hx : a.eval x = .slice (some ⟨g, p, none⟩) m c)
    (hl : us.length = m * size) (hnews : ∀ j u, us[j]? = some u → w.cell? ⟨g, p + j, none⟩ = some u) (h1 : ∀ u ∈ us, u.oneCell' = true) (hbytes : (n + m) * bytes ≤ 140737488355328)
    (h : ∀ v' w', w'.ownsRow base e size v' (n + m) (xs ++ us) → Below base w0 w' → w.grownBy w' v.ownBlock → (v'.ownBlock = v.ownBlock ∨ v'.ownBlock = some w.heap.size) →
      (i = z ∨ S w') ∧ PlanT P ops Q S z r (a.put o.dst v') w') : PlanT P ops Q S z (.one i r) a w :=
  planT_op o hl0 hw (wp_app T us hown hb hbase ho hs hx hl hnews h1 hbytes h)
theorem planT_appA {w0 : World} {s' x : Operand} {t e : TypeId} {zv : Value} {size bytes : Nat} (o : Oper)
    (T : SliceT P t e zv size bytes) (us : List Value) {base : Nat} {v u : Value} {n m : Nat} {xs : List Value}
    (hown : w.ownsRow base e size v n xs) (hb : Below base w0 w) (hbase : base ≤ w0.heap.size)
    (hl0 : ops.toList[i]? = some o) (hw : Region.wanted o (yielded ops a.tmps) = true)
    (ho : o.op = .call { callee := .builtin .append, args := #[s', x], argTypes := #[t, t] })
    (hs : a.eval s' = v) (hx : a.eval x = u) (hu : News w u m us)
    (hl : us.length = m * size) (h1 : ∀ u ∈ us, u.oneCell' = true) (hbytes : (n + m) * bytes ≤ 140737488355328)
    (h : ∀ v' w', w'.ownsRow base e size v' (n + m) (xs ++ us) → Below base w0 w' → w.grownBy w' v.ownBlock → (v'.ownBlock = v.ownBlock ∨ v'.ownBlock = some w.heap.size) →
      (i = z ∨ S w') ∧ PlanT P ops Q S z r (a.put o.dst v') w') : PlanT P ops Q S z (.one i r) a w :=
  planT_op o hl0 hw (wp_appA T us hown hb hbase ho hs hx hu hl h1 hbytes h)
theorem planT_end (h : Q .normal a w) : PlanT P ops (NoPanic Q) S z .nil a w := h
end
end
end Go.Proofs.Ytaacfjeddoekfaa
/- The last step of every law's row: it returned true, and nothing that was there has turned. -/
namespace Go.Proofs.Ytaacfjeddoekfaa
open Go.ChangeShapes Go.WideShapes Go.ChangeAt Go.RowKit
section
variable {H : Type} {enc : TypeId × Value → H} {P : Program}

/-- all arguments read as they did -/
theorem trodAll_below (hl : laidOutB P = true) {W W' : World} (hb : Below W.heap.size W W') : ∀ (ts : List TypeId) (vs : List Value) (ds : List (DataW H)) (ps : List MemPlace),
    (∀ t ∈ ts, P.readableRec t = true ∧ t < P.types.size) → DataW.TrodAll enc P W 0 (fun _ => true) true ts vs ds ps → (∀ x ∈ ps, x.block < W.heap.size) →
    DataW.TrodAll enc P W' 0 (fun b => decide (b < W.heap.size)) true ts vs ds ps
  | [], _, _, _, _, h, _ => by
    obtain ⟨rfl, rfl, rfl⟩ := trodAll_nil h
    exact trodAll_mk0
  | t :: ts, _, _, _, ht, h, hlt => by
    obtain ⟨v, vs', d, ds', p, q, rfl, rfl, rfl, h0, r0⟩ := trodAll_cons h
    have hp : ∀ x ∈ p, x.block < W.heap.size := fun x hx => hlt x (List.mem_append.2 (.inl hx))
    have hq : ∀ x ∈ q, x.block < W.heap.size := fun x hx => hlt x (List.mem_append.2 (.inr hx))
    exact trodAll_cons_mk (Below.trod hl (ht t (by simp)).1 (ht t (by simp)).2 h0 hb hp) (trodAll_below hl hb ts vs' ds' q (fun u hu => ht u (by simp [hu])) r0 hq)

theorem law_post {f : Func} {s : ChangeSpec} {W W' : World} {args : Array Value} {ds : List (DataW H)} {before : List MemPlace} {tb : TypeId} {b : Bool}
    (hW : DataW.Whole enc P f.params.toList s.vars false W args.toList ds [] before) (hv : s.vars = [])
    (hl : laidOutB P = true) (ht : ∀ t ∈ f.params.toList, P.readableRec t = true ∧ t < P.types.size)
    (hr : f.resultTypes = #[tb]) (hB : P.underlying tb = some .bool)
    (h1 : (s.fn H (ds ++ [])).results = [.lit (.bool b)]) (h2 : (s.fn H (ds ++ [])).args = ds) (h3 : (s.fn H (ds ++ [])).vars = [])
    (hb : Below W.heap.size W W') : s.post enc P f false true false false W args (.bool b) W' := by
  have hlt := DataW.Whole.lt hW
  have hW' := hW
  obtain ⟨p, q, hA, hV, rfl, _, _⟩ := hW
  rw [hv] at hV
  obtain ⟨_, rfl⟩ := trodVars_none hV
  simp only [List.append_nil] at hlt hW'
  refine ⟨ds, [], p, [], p, [], hW', ?_, ?_, ?_, World.keptBut_mono (fun x hx => ⟨hx, .inr (.inl hx)⟩) (hb.frame (· ∈ p)), fun h => by cases h⟩
  · rw [hr, h1]
    exact trodAll_mk1 (shut_bool hB b)
  · rw [h2]
    exact trodAll_below hl hb _ _ _ _ ht hA hlt
  · rw [hv, h3]
    rfl
end
end Go.Proofs.Ytaacfjeddoekfaa
/- Arguments opened: slices of elements of several cells. -/
namespace Go.Proofs.Ytaacfjeddoekfaa
open Go.ChangeShapes Go.WideShapes Go.ChangeAt Go.RowKit
set_option linter.unusedVariables false
section
variable {H : Type} {enc : TypeId × Value → H} {P : Program}

theorem trod_f64 {w : World} {base : Nat} {spare : Nat → Bool} {held : Bool} {fuel : Nat} {t : TypeId} {cs : List Value} {x : DataW H × List MemPlace} (ht : P.underlying t = some (.float .f64)) (h : DataW.trod enc P w base spare held fuel t cs = some x) :
    ∃ b, cs = [.float .f64 b] := by
  cases fuel with
  | zero => simp [DataW.trod] at h
  | succ n =>
    unfold DataW.trod at h
    rw [ht] at h
    split at h <;> simp_all

theorem open_Els {α : Type} (f : α → List Value) {n : Nat} (ok : α → Prop) (hf : ∀ a, (f a).length = n) (hn : 0 < n) {W : World} {r : Reach} {b0 : Nat} {t e : TypeId} {v : Value} {d : DataW H} {p : List MemPlace}
    (ht : P.underlying t = some (.slice e)) (hC : P.cellsOf e = n)
    (good : ∀ (fuel : Nat) (cs : List Value) (x : DataW H × List MemPlace), cs.length = n → DataW.trod enc P W 0 (fun _ => true) true fuel e cs = some x → ∃ a, cs = f a ∧ ok a)
    (hv : Value.okWide P W r b0 t v) (h : DataW.Trod enc P W 0 (fun _ => true) true t v d p) :
    ∃ xs : List α, (∀ x ∈ xs, ok x) ∧ Els f n W (fun b => b < W.heap.size) v xs := by
  obtain ⟨a0, len0, cap0, rfl⟩ := okWide_slice ht hv
  obtain ⟨fuel, hf0⟩ := h
  have hf' : DataW.trod enc P W 0 (fun _ => true) true fuel t [.slice a0 len0 cap0] = some (d, p) := by simpa [Value.cells] using hf0
  rcases Go.Deep.open_slice ht hf' with ⟨hcs, _⟩ | ⟨a, len, cap, m, k, D, Pl, hcs, _, hl, hm, hmm, _, hi⟩
  · simp only [List.cons.injEq, Value.slice.injEq, and_true] at hcs
    obtain ⟨rfl, rfl, rfl⟩ := hcs
    exact ⟨[], by simp, none, 0, rfl, Nat.le_refl _, by simp [maxLen], .nil _ _ _ _⟩
  · simp only [List.cons.injEq, Value.slice.injEq, and_true] at hcs
    obtain ⟨rfl, rfl, rfl⟩ := hcs
    simp only [if_true] at hmm
    rw [hC] at hi
    have hx : ∀ i : Fin len0, ∃ y : α, ok y ∧ ∀ j u, (f y)[j]? = some u → W.cell? ((a.add (i.1 * n)).add j) = some u := by
      intro i
      obtain ⟨cs', hc, htr⟩ := hi i.1 (by have := i.2; omega)
      obtain ⟨_, hlen, hcell⟩ := World.cells?_some hc
      obtain ⟨y, rfl, hok⟩ := good _ _ _ hlen htr
      refine ⟨y, hok, fun j u hu => ?_⟩
      have hj : j < n := by
        have := (List.getElem?_eq_some_iff.1 hu).1
        rwa [hf] at this
      rw [hcell j hj, hu]
    have hy : ∃ g : Fin len0 → α, ∀ i, ok (g i) ∧ ∀ j u, (f (g i))[j]? = some u → W.cell? ((a.add (i.1 * n)).add j) = some u := ⟨fun i => Classical.choose (hx i), fun i => Classical.choose_spec (hx i)⟩
    obtain ⟨g, hg⟩ := hy
    refine ⟨List.ofFn g, fun x hx' => ?_, some a, cap0, by simp, by simpa using hl, hm, ?_⟩
    · obtain ⟨i, rfl⟩ := (List.mem_ofFn).1 hx'
      exact (hg i).1
    · refine ⟨flat_len hf _, fun hp => ?_⟩
      simp only [List.length_ofFn] at hp
      have h0 := (hg ⟨0, hp⟩).2 0 ((f (g ⟨0, hp⟩))[0]'(by rw [hf]; exact hn)) (List.getElem?_eq_getElem _)
      obtain ⟨b, off, spot⟩ := a
      have hspot : spot = none := by simpa [Addr.add] using World.cell?_spot h0
      subst hspot
      refine ⟨b, off, rfl, ?_, fun j u hu => ?_⟩
      · have := World.block_lt_of_cell? W _ h0
        simpa [Addr.add] using this
      · have hj : j < len0 * n := by
          have := (List.getElem?_eq_some_iff.1 hu).1
          rw [flat_len hf, List.length_ofFn] at this
          exact this
        have hk : j / n < len0 := Nat.div_lt_of_lt_mul (by rw [Nat.mul_comm]; exact hj)
        have hjn : j / n * n + j % n = j := by rw [Nat.mul_comm]; exact Nat.div_add_mod j n
        have hk2 : j / n < (List.ofFn g).length := by simpa using hk
        have e := flat_get hf (List.ofFn g) hk2 (Nat.mod_lt j hn)
        rw [hjn, hu, List.getElem_ofFn] at e
        have := (hg ⟨j / n, hk⟩).2 (j % n) u e.symm
        rw [Go.WideShapes.add_plain, Go.WideShapes.add_plain] at this
        rw [← hjn, ← Nat.add_assoc]
        exact this
end
end Go.Proofs.Ytaacfjeddoekfaa
/- Chapter 11: arguments opened: stitches. -/
namespace Go.Proofs.Ytaacfjeddoekfaa
open Go.ChangeShapes Go.WideShapes Go.ChangeAt Go.RowKit
set_option linter.unusedVariables false
theorem c3 : Try.prog.cellsOf 3 = 1 := by kernel_rfl
theorem c44 : Try.prog.cellsOf 44 = 5 := by kernel_rfl
theorem bytes44 : Try.prog.bytesOf 44 = 40 := by kernel_rfl
def In64 (x : Int) : Prop := -9223372036854775808 ≤ x ∧ x ≤ 9223372036854775807
section
variable {H : Type} {enc : TypeId × Value → H}
theorem good_int {w : World} {fuel : Nat} {cs : List Value} {x : DataW H × List MemPlace} (h : DataW.trod enc Try.prog w 0 (fun _ => true) true fuel 3 cs = some x) : ∃ n, cs = [.int .i64 n] ∧ In64 n := by
  obtain ⟨n, rfl, _, hw⟩ := DataW.trod_int Try.underlying3 h
  exact ⟨n, rfl, by simpa [Lit.wf, IntKind.min, IntKind.max, IntKind.signed, IntKind.bits, In64] using hw⟩
/-- a stitch, each part an int -/
def Sti.ok (s : Sti) : Prop := In64 s.d ∧ In64 s.b ∧ In64 s.n ∧ In64 s.c ∧ In64 s.t
set_option maxRecDepth 100000 in
theorem good_sti {w : World} {fuel : Nat} {cs : List Value} {x : DataW H × List MemPlace} (hl : cs.length = 5) (h : DataW.trod enc Try.prog w 0 (fun _ => true) true fuel 44 cs = some x) : ∃ p : Sti, cs = p.cells ∧ p.ok := by
  obtain ⟨xs, n, _, _, _, hxl, hf⟩ := DataW.trod_struct Try.underlying44 h
  match cs, hl, xs, hxl with
  | [k0, k1, k2, k3, k4], _, [y0, y1, y2, y3, y4], _ =>
    have h0 : DataW.trod enc Try.prog w 0 (fun _ => true) true n 3 (([k0, k1, k2, k3, k4].drop 0).take (Try.prog.cellsOf 3)) = _ := hf 0 _ rfl
    have h1 : DataW.trod enc Try.prog w 0 (fun _ => true) true n 3 (([k0, k1, k2, k3, k4].drop 1).take (Try.prog.cellsOf 3)) = _ := hf 1 _ rfl
    have h2 : DataW.trod enc Try.prog w 0 (fun _ => true) true n 3 (([k0, k1, k2, k3, k4].drop 2).take (Try.prog.cellsOf 3)) = _ := hf 2 _ rfl
    have h3 : DataW.trod enc Try.prog w 0 (fun _ => true) true n 3 (([k0, k1, k2, k3, k4].drop 3).take (Try.prog.cellsOf 3)) = _ := hf 3 _ rfl
    have h4 : DataW.trod enc Try.prog w 0 (fun _ => true) true n 3 (([k0, k1, k2, k3, k4].drop 4).take (Try.prog.cellsOf 3)) = _ := hf 4 _ rfl
    rw [c3] at h0 h1 h2 h3 h4
    obtain ⟨b0, e0, i0⟩ := good_int (cs := [k0]) h0
    obtain ⟨b1, e1, i1⟩ := good_int (cs := [k1]) h1
    obtain ⟨b2, e2, i2⟩ := good_int (cs := [k2]) h2
    obtain ⟨b3, e3, i3⟩ := good_int (cs := [k3]) h3
    obtain ⟨b4, e4, i4⟩ := good_int (cs := [k4]) h4
    cases e0; cases e1; cases e2; cases e3; cases e4
    exact ⟨⟨b0, b1, b2, b3, b4⟩, rfl, i0, i1, i2, i3, i4⟩
/-- stitches, no more than memory holds -/
def Stis (w : World) (v : Value) (l : List Sti) : Prop := (∀ x ∈ l, x.ok) ∧ Els Sti.cells 5 w (fun b => b < w.heap.size) v l
set_option maxRecDepth 100000 in
theorem open_Stis {W : World} {r : Reach} {b0 : Nat} {v : Value} {d : DataW H} {p : List MemPlace} (hv : Value.okWide Try.prog W r b0 22 v) (h : DataW.Trod enc Try.prog W 0 (fun _ => true) true 22 v d p) :
    ∃ l : List Sti, Stis W v l ∧ (l.length = 0 ∨ ∃ elems spare, d = .slice elems spare ∧ elems.length = l.length) := by
  obtain ⟨l, h1, h2⟩ := open_Els Sti.cells Sti.ok Sti.cells_len (by decide) Try.underlying22 c44 (fun fuel cs x hl h => good_sti hl h) hv h
  refine ⟨l, ⟨h1, h2⟩, ?_⟩
  obtain ⟨a0, len0, cap0, rfl⟩ := okWide_slice Try.underlying22 hv
  obtain ⟨fuel, hf0⟩ := h
  have hf' : DataW.trod enc Try.prog W 0 (fun _ => true) true fuel 22 [.slice a0 len0 cap0] = some (d, p) := by simpa [Value.cells] using hf0
  obtain ⟨A, c, e, _⟩ := h2
  simp only [Value.slice.injEq] at e
  rcases Go.Deep.open_slice Try.underlying22 hf' with ⟨hcs, _⟩ | ⟨a, len, cap, m, k, D, Pl, hcs, _, hl, hm, hmm, hx, hi⟩
  · simp only [List.cons.injEq, Value.slice.injEq, and_true] at hcs
    exact .inl (by omega)
  · simp only [List.cons.injEq, Value.slice.injEq, and_true] at hcs
    simp only [Prod.mk.injEq] at hx
    refine .inr ⟨_, _, hx.1, ?_⟩
    rw [List.length_map, List.length_range]
    omega
end
set_option maxRecDepth 100000 in
/-- the bound that the reach pays -/
theorem stis_bound {H : Type} {P : Program} {ts : List TypeId} {ds : List (DataW H)} {d : DataW H} {n j : Nat} (hb : P.bytesOf 44 = 40) (hu : P.underlying 22 = some (.slice 44)) (hsz : (DataW.weightsEach P ts ds).all (· ≤ reachBytes) = true) (ht : ts[j]? = some 22) (hd : ds[j]? = some d)
    (h : n = 0 ∨ ∃ elems spare, d = .slice elems spare ∧ elems.length = n) : n * 40 ≤ 140737488351232 := by
  rcases h with h | ⟨elems, spare, rfl, hn⟩
  · subst h; decide
  · have := sized_slice hsz ht hd hu
    rw [hb] at this
    have hr : reachBytes = 140737488351232 := rfl
    rw [hr] at this
    have h2 : elems.length * 40 ≤ (elems.length + spare.length) * 40 := Nat.mul_le_mul_right _ (Nat.le_add_right _ _)
    omega
end Go.Proofs.Ytaacfjeddoekfaa
/- Chapter 12: two stitches of a list exchanged: what the machine's May says; memory. -/
namespace Go.Proofs.Ytaacfjeddoekfaa
open Go.RowKit
set_option linter.unusedVariables false

theorem touchW_eq {N : Nat} {x : Sti} {r : Int} (h2 : N ≤ 128) (hr : -4 ≤ r ∧ r ≤ 4) (ht : There N x.b x.n) : touchW x r = touchK x r := by
  obtain ⟨hb, h0, h1⟩ := ht
  unfold touchW touchK
  split
  · rfl
  split
  · have w1 : wrap64 (x.n - r) = x.n - r := IntWalk.wrap64_in _ (by omega)
    have w2 : wrap64 (x.n + r) = x.n + r := IntWalk.wrap64_in _ (by omega)
    unfold fB fN
    rcases hb with hb | hb
    · rw [if_pos hb, if_pos hb, if_pos hb, w1]
    · rw [if_neg (by omega), if_neg (by omega), if_neg (by omega), w2]
  · rfl
theorem mayW_K {N : Nat} {k : KS} {x y : Sti} (h2 : N ≤ 128) (hk : Kinv N k) (hx : wrongK N k x = 0) (hy : wrongK N (stepK k x) y = 0) (h : mayW x y k.rack = true) : mayK x y k.rack := by
  unfold mayW at h
  split at h
  · cases h
  next h6 =>
  split at h
  · cases h
  next hc =>
  have d1 : x.d ≠ 6 := fun e => h6 (.inl e)
  have d2 : y.d ≠ 6 := fun e => h6 (.inr e)
  have tx := (wrong_bounds hx).2.2.2.2.1 d1
  have ty := (wrong_bounds hy).2.2.2.2.1 d2
  refine ⟨d1, d2, fun ⟨a, b, c⟩ => hc (by rw [a, b, c]; simp), fun a ha hb => ?_⟩
  rw [← touchW_eq h2 hk.r tx] at ha
  rw [← touchW_eq h2 hk.r ty] at hb
  have := List.all_eq_true.1 h a ha
  simp [hb] at this

def rackF (l : List Sti) : Int := l.foldl (fun r x => if x.d = 6 then x.t else r) 0
theorem rackF_snoc {l : List Sti} {i : Nat} (h : i < l.length) : rackF (l.take (i + 1)) = if l[i].d = 6 then l[i].t else rackF (l.take i) := by
  unfold rackF
  rw [List.take_succ_eq_append_getElem h, List.foldl_append]; rfl
/-- a list that makes the same cloth -/
structure AlikeC (N : Nat) (l m : List Sti) : Prop where
  len : m.length = l.length
  fl : Flawless N m
  cl : cloth (told N (afterK N m)) = cloth (told N (afterK N l))
theorem flaw_left {N : Nat} {p q : List Sti} (h : Flawless N (p ++ q)) : Flawless N p := fun e he => h e (by rw [errsK_append]; exact List.mem_append_left _ he)
theorem AlikeC.swap {N : Nat} {l P Q : List Sti} {x y : Sti} (h2 : N ≤ 128) (h : AlikeC N l (P ++ x :: y :: Q)) (hm : mayW x y (rackF P) = true) : AlikeC N l (P ++ y :: x :: Q) := by
  have hP : rackF P = (afterK N P).rack := (good_rack P zeroK (flaw_left h.fl)).symm
  have hfl := h.fl
  unfold Flawless at hfl
  rw [errsK_append] at hfl
  have hx : wrongK N (afterK N P) x = 0 := hfl _ (List.mem_append_right _ (List.mem_cons_self ..))
  have hy : wrongK N (stepK (afterK N P) x) y = 0 := hfl _ (List.mem_append_right _ (List.mem_cons_of_mem _ (by rw [errsK]; show _ ∈ wrongK N (doK N (afterK N P) x) y :: _; rw [do_good hx]; exact List.mem_cons_self ..)))
  rw [hP] at hm
  obtain ⟨g1, g2⟩ := swap_good h.fl (mayW_K h2 (kinv_after N P) hx hy hm)
  exact ⟨by rw [← h.len]; simp, g1, g2.trans h.cl⟩
theorem split_two {α : Type} {m : List α} {j : Nat} (h : j + 1 < m.length) : m = m.take j ++ m[j] :: m[j + 1] :: m.drop (j + 2) := by
  have h0 : j < m.length := by omega
  conv => lhs; rw [← List.take_append_drop j m]
  rw [List.drop_eq_getElem_cons h0, List.drop_eq_getElem_cons h]

/-! ### memory -/
theorem two_block (w : World) (q : Nat) (a b : Value) (x : Nat) (h : x ≠ q) : ((w.setCell ⟨q, 0, none⟩ a).setCell ⟨q, 1, none⟩ b).heap[x]? = w.heap[x]? :=
  (Below.heap_setCell _ _ _ _ h).trans (Below.heap_setCell _ _ _ _ h)
theorem two_size (w : World) (q : Nat) (a b : Value) : ((w.setCell ⟨q, 0, none⟩ a).setCell ⟨q, 1, none⟩ b).heap.size = w.heap.size := by simp [World.setCell]
theorem set_far {A B : List Value} {k : Nat} {u : Value} {a : Nat} (ha : A.length = a) : (A ++ B).set (a + k) u = A ++ B.set k u := by
  subst ha
  rw [List.set_append_right _ _ (Nat.le_add_right _ _), Nat.add_sub_cancel_left]
theorem flat_len5 (l : List Sti) : (l.flatMap Sti.cells).length = l.length * 5 := by
  induction l with
  | nil => rfl
  | cons x l ih => rw [List.flatMap_cons, List.length_append, ih, Sti.cells_len, List.length_cons]; omega
/-- five cells set -/
def set5 (w : World) (g o : Nat) (x : Sti) : World :=
  (((((w.setCell ⟨g, o, none⟩ (.int .i64 x.d)).setCell ⟨g, o + 1, none⟩ (.int .i64 x.b)).setCell ⟨g, o + 2, none⟩ (.int .i64 x.n)).setCell ⟨g, o + 3, none⟩ (.int .i64 x.c)).setCell ⟨g, o + 4, none⟩ (.int .i64 x.t))
theorem own_set5 {w : World} {base g n c : Nat} {e : TypeId} {P Q : List Sti} {y : Sti} (x : Sti) (h : w.ownsRow base e 5 (.slice (some ⟨g, 0, none⟩) n c) n ((P ++ y :: Q).flatMap Sti.cells)) :
    (set5 w g (P.length * 5) x).ownsRow base e 5 (.slice (some ⟨g, 0, none⟩) n c) n ((P ++ x :: Q).flatMap Sti.cells) ∧ w.grownBy (set5 w g (P.length * 5) x) (some g) := by
  have k0 := h.stored (P.length * 5) (.int .i64 x.d)
  have k1 := k0.1.stored (P.length * 5 + 1) (.int .i64 x.b)
  have k2 := k1.1.stored (P.length * 5 + 2) (.int .i64 x.n)
  have k3 := k2.1.stored (P.length * 5 + 3) (.int .i64 x.c)
  have k4 := k3.1.stored (P.length * 5 + 4) (.int .i64 x.t)
  have e : (((((((P ++ y :: Q).flatMap Sti.cells).set (P.length * 5) (.int .i64 x.d)).set (P.length * 5 + 1) (.int .i64 x.b)).set (P.length * 5 + 2) (.int .i64 x.n)).set (P.length * 5 + 3) (.int .i64 x.c)).set (P.length * 5 + 4) (.int .i64 x.t)) = (P ++ x :: Q).flatMap Sti.cells := by
    rw [List.flatMap_append, List.flatMap_append, List.flatMap_cons, List.flatMap_cons]
    have hl := flat_len5 P
    have s0 := fun (B : List Value) (u : Value) => set_far (B := B) (k := 0) (u := u) hl
    rw [Nat.add_zero] at s0
    rw [s0, set_far hl, set_far hl, set_far hl, set_far hl]
    rfl
  rw [e] at k4
  exact ⟨k4.1, grownBy_trans k0.2 (grownBy_trans k1.2 (grownBy_trans k2.2 (grownBy_trans k3.2 k4.2)))⟩
theorem own_swap {w : World} {base g n c : Nat} {e : TypeId} {P Q : List Sti} {x y : Sti} (h : w.ownsRow base e 5 (.slice (some ⟨g, 0, none⟩) n c) n ((P ++ x :: y :: Q).flatMap Sti.cells)) :
    (set5 (set5 w g (P.length * 5) y) g ((P.length + 1) * 5) x).ownsRow base e 5 (.slice (some ⟨g, 0, none⟩) n c) n ((P ++ y :: x :: Q).flatMap Sti.cells) ∧ w.grownBy (set5 (set5 w g (P.length * 5) y) g ((P.length + 1) * 5) x) (some g) ∧
    (set5 (set5 w g ((P.length + 1) * 5) x) g (P.length * 5) y).ownsRow base e 5 (.slice (some ⟨g, 0, none⟩) n c) n ((P ++ y :: x :: Q).flatMap Sti.cells) ∧ w.grownBy (set5 (set5 w g ((P.length + 1) * 5) x) g (P.length * 5) y) (some g) := by
  have a1 := own_set5 y h
  have e1 : P ++ y :: y :: Q = (P ++ [y]) ++ y :: Q := by simp
  have a1' := a1.1
  rw [e1] at a1'
  have a2 := own_set5 x a1'
  have l1 : (P ++ [y]).length = P.length + 1 := by simp
  rw [l1] at a2
  have e2 : (P ++ [y]) ++ x :: Q = P ++ y :: x :: Q := by simp
  rw [e2] at a2
  have h' := h
  have e3 : P ++ x :: y :: Q = (P ++ [x]) ++ y :: Q := by simp
  rw [e3] at h'
  have b1 := own_set5 x h'
  have l2 : (P ++ [x]).length = P.length + 1 := by simp
  rw [l2] at b1
  have e4 : (P ++ [x]) ++ x :: Q = P ++ x :: x :: Q := by simp
  rw [e4] at b1
  have b2 := own_set5 y b1.1
  exact ⟨a2.1, grownBy_trans a1.2 a2.2, b2.1, grownBy_trans b1.2 b2.2⟩

/-- the cells of a stitch of the call's own -/
theorem own_sti {w : World} {base g n c : Nat} {l : List Sti} (h : w.ownsRow base 44 5 (.slice (some ⟨g, 0, none⟩) n c) n (l.flatMap Sti.cells)) {k : Nat} (hk : k < l.length) :
    w.cell? ⟨g, k * 5, none⟩ = some (.int .i64 l[k].d) ∧ w.cell? ⟨g, k * 5 + 1, none⟩ = some (.int .i64 l[k].b) ∧ w.cell? ⟨g, k * 5 + 2, none⟩ = some (.int .i64 l[k].n) ∧ w.cell? ⟨g, k * 5 + 3, none⟩ = some (.int .i64 l[k].c) ∧ w.cell? ⟨g, k * 5 + 4, none⟩ = some (.int .i64 l[k].t) := by
  have hn : n = l.length := by have := h.1; rw [flat_len5] at this; omega
  obtain ⟨g', e, _, _, hc⟩ := own_some h (by omega)
  cases e
  have hg : ∀ m u, (l[k].cells)[m]? = some u → w.cell? ⟨g, k * 5 + m, none⟩ = some u := fun m u hu => by
    have hm : m < 5 := by have := (List.getElem?_eq_some_iff.1 hu).1; rwa [Sti.cells_len] at this
    exact hc _ u (by rw [← hu]; exact flat_get Sti.cells_len l hk hm)
  exact ⟨hg 0 _ rfl, hg 1 _ rfl, hg 2 _ rfl, hg 3 _ rfl, hg 4 _ rfl⟩
theorem own_swap_cells {w : World} {base g n c k : Nat} {m P R : List Sti} {x y : Sti} (h : w.ownsRow base 44 5 (.slice (some ⟨g, 0, none⟩) n c) n (m.flatMap Sti.cells)) (hm : m = P ++ x :: y :: R) (hP : P.length = k) :
    w.cell? ⟨g, k * 5, none⟩ = some (.int .i64 x.d) ∧ w.cell? ⟨g, k * 5 + 1, none⟩ = some (.int .i64 x.b) ∧ w.cell? ⟨g, k * 5 + 2, none⟩ = some (.int .i64 x.n) ∧ w.cell? ⟨g, k * 5 + 3, none⟩ = some (.int .i64 x.c) ∧ w.cell? ⟨g, k * 5 + 4, none⟩ = some (.int .i64 x.t) ∧
    w.cell? ⟨g, (k + 1) * 5, none⟩ = some (.int .i64 y.d) ∧ w.cell? ⟨g, (k + 1) * 5 + 1, none⟩ = some (.int .i64 y.b) ∧ w.cell? ⟨g, (k + 1) * 5 + 2, none⟩ = some (.int .i64 y.n) ∧ w.cell? ⟨g, (k + 1) * 5 + 3, none⟩ = some (.int .i64 y.c) ∧ w.cell? ⟨g, (k + 1) * 5 + 4, none⟩ = some (.int .i64 y.t) := by
  subst hm hP
  have hl : P.length + 1 < (P ++ x :: y :: R).length := by simp
  have e0 : (P ++ x :: y :: R)[P.length]'(by omega) = x := by simp
  have e1 : (P ++ x :: y :: R)[P.length + 1]'hl = y := by simp
  obtain ⟨a0, a1, a2, a3, a4⟩ := own_sti h (k := P.length) (by omega)
  obtain ⟨b0, b1, b2, b3, b4⟩ := own_sti h hl
  rw [e0] at a0 a1 a2 a3 a4
  rw [e1] at b0 b1 b2 b3 b4
  exact ⟨a0, a1, a2, a3, a4, b0, b1, b2, b3, b4⟩
theorem own_free {w : World} {base g n c : Nat} {e : TypeId} {size : Nat} {xs : List Value} (h : w.ownsRow base e size (.slice (some ⟨g, 0, none⟩) n c) n xs) (j : Nat) : w.frozen? ⟨g, j, none⟩ = false := h.frozenAt j
theorem own_swapK {w : World} {base g n c k : Nat} {e : TypeId} {m P Q : List Sti} {x y : Sti} (h : w.ownsRow base e 5 (.slice (some ⟨g, 0, none⟩) n c) n (m.flatMap Sti.cells)) (hm : m = P ++ x :: y :: Q) (hP : P.length = k) :
    (set5 (set5 w g (k * 5) y) g ((k + 1) * 5) x).ownsRow base e 5 (.slice (some ⟨g, 0, none⟩) n c) n ((P ++ y :: x :: Q).flatMap Sti.cells) ∧ w.grownBy (set5 (set5 w g (k * 5) y) g ((k + 1) * 5) x) (some g) := by
  subst hm hP
  exact ⟨(own_swap h).1, (own_swap h).2.1⟩
/-! ### what is appended, wherever it lies -/
def Wide (v : Value) : Prop := v = .slice none 0 0 ∨ ∃ a n c, v = .slice (some a) n c
theorem wp_appW {P : Program} {W w0 : World} {o : Oper} {a : Act} {K : Act → World → Prop} {Q : Exit → Act → World → Prop} {s x : Operand} {t e : TypeId} {z : Value} {size bytes : Nat}
    (T : SliceT P t e z size bytes) (us : List Value) {base : Nat} {v : Value} {n m c : Nat} {xs : List Value} {A : Option Addr} {S : Nat → Prop}
    (hown : W.ownsRow base e size v n xs) (hb : Below base w0 W) (hbase : base ≤ w0.heap.size)
    (ho : o.op = .call { callee := .builtin .append, args := #[s, x], argTypes := #[t, t] })
    (hs : a.eval s = v) (hx : a.eval x = .slice A m c) (hw : Wide (.slice A m c)) (hr : Row W S size A m us)
    (h1 : ∀ u ∈ us, u.oneCell' = true) (hbytes : (n + m) * bytes ≤ 140737488355328)
    (h : ∀ v' w', w'.ownsRow base e size v' (n + m) (xs ++ us) → Below base w0 w' → W.grownBy w' v.ownBlock → (v'.ownBlock = v.ownBlock ∨ v'.ownBlock = some W.heap.size) →
      K (a.put o.dst v') w') : o.wp P a W K Q := by
  obtain ⟨i, hi0, hz, hsize, hby⟩ := info_parts T.hi
  have hl := hr.len
  rcases hw with hw | ⟨g, n', c', hw⟩
  · simp only [Value.slice.injEq] at hw
    obtain ⟨rfl, rfl, rfl⟩ := hw
    have hus : us = [] := List.eq_nil_of_length_eq_zero (by omega)
    subst hus
    have hrun := run_append_owned_none (P := P) W base t o.type e i size T.ht hi0 v n xs hown
    unfold Oper.wp execOp
    simp only [ho, resolve, invoke, builtin, Sem.run_bind, Sem.run_pure, Result.andThen_ok, List.map_toArray, List.map_cons, List.map_nil, hs, hx, hrun]
    exact h v W (by simpa using hown) hb (World.grownBy.refl _ _) (.inl rfl)
  · simp only [Value.slice.injEq] at hw
    obtain ⟨rfl, rfl, rfl⟩ := hw
    have hbs : base ≤ W.heap.size := Nat.le_trans hbase hb.size
    have hn1 : n + m ≤ maxLen := by
      have h3 : n + m ≤ (n + m) * bytes := Nat.le_mul_of_pos_right _ T.hb
      unfold maxLen
      omega
    have hcells : ∀ j u, us[j]? = some u → W.cell? (g.add j) = some u := fun j u hu => by
      have hj : j < us.length := (List.getElem?_eq_some_iff.1 hu).1
      rcases Nat.eq_zero_or_pos m with h0 | h0
      · rw [h0, Nat.zero_mul] at hl; omega
      · obtain ⟨b, o, e, _, hc⟩ := hr.at_ h0
        cases e
        rw [Addr.add_lit]
        exact hc j u hu
    obtain ⟨v', w', hrn, h2, h3, _, h5⟩ := run_append_own_at (P := P) W base t o.type e i z size bytes T.ht hi0 hz hsize hby T.hz T.hs v n xs hown g m c us hl hcells h1 hn1 hbytes hbs
    unfold Oper.wp execOp
    simp only [ho, resolve, invoke, builtin, Sem.run_bind, Sem.run_pure, Result.andThen_ok, List.map_toArray, List.map_cons, List.map_nil, hs, hx, hrn]
    exact h v' w' h2 (below_owned hb hown h3 hbase) h3 h5
theorem app_elsW {P : Program} {w w0 : World} {ops : Array Oper} {rest : List Oper} {o : Oper} {a : Act} {Q : Exit → Act → World → Prop} {s x : Operand} {t e : TypeId} {z : Value} {size bytes : Nat}
    (T : SliceT P t e z size bytes) (us : List Value) {base : Nat} {v : Value} {n m c : Nat} {xs : List Value} {A : Option Addr} {S : Nat → Prop}
    (hown : w.ownsRow base e size v n xs) (hb : Below base w0 w) (hbase : base ≤ w0.heap.size)
    (hgd : o.guard = none)
    (ho : o.op = .call { callee := .builtin .append, args := #[s, x], argTypes := #[t, t] })
    (hs : a.eval s = v) (hx : a.eval x = .slice A m c) (hw : Wide (.slice A m c)) (hr : Row w S size A m us)
    (h1 : ∀ u ∈ us, u.oneCell' = true) (hbytes : (n + m) * bytes ≤ 140737488355328)
    (h : ∀ v' w', w'.ownsRow base e size v' (n + m) (xs ++ us) → Below base w0 w' → w.grownBy w' v.ownBlock → (v'.ownBlock = v.ownBlock ∨ v'.ownBlock = some w.heap.size) →
      wpList P ops Q rest (a.put o.dst v') w') : wpList P ops Q (o :: rest) a w :=
  wpList_plain hgd fun K hK => wp_appW T us hown hb hbase ho hs hx hw hr h1 hbytes fun v' w' h2 h3 h4 h5 => hK _ _ (h v' w' h2 h3 h4 h5)
open Go.ChangeShapes Go.WideShapes Go.ChangeAt in
theorem open_wide {H : Type} {enc : TypeId × Value → H} {P : Program} {W : World} {r : Reach} {b0 : Nat} {t e : TypeId} {v : Value} {d : DataW H} {p : List MemPlace}
    (ht : P.underlying t = some (.slice e)) (hv : Value.okWide P W r b0 t v) (h : DataW.Trod enc P W 0 (fun _ => true) true t v d p) : Wide v := by
  obtain ⟨a0, len0, cap0, rfl⟩ := okWide_slice ht hv
  obtain ⟨fuel, hf0⟩ := h
  have hf' : DataW.trod enc P W 0 (fun _ => true) true fuel t [.slice a0 len0 cap0] = some (d, p) := by simpa [Value.cells] using hf0
  rcases Go.Deep.open_slice ht hf' with ⟨hcs, _⟩ | ⟨a, len, cap, m, k, D, Pl, hcs, _⟩
  · simp only [List.cons.injEq, Value.slice.injEq, and_true] at hcs
    obtain ⟨rfl, rfl, rfl⟩ := hcs
    exact .inl rfl
  · simp only [List.cons.injEq, Value.slice.injEq, and_true] at hcs
    obtain ⟨rfl, rfl, rfl⟩ := hcs
    exact .inr ⟨_, _, _, rfl⟩
end Go.Proofs.Ytaacfjeddoekfaa
