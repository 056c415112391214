/- Texts of the seat, put together: FabRef4, FabWalk4, FabRef5. -/
import Derived.Test.YtaacfjeddoekfaaTl8
import Derived.Test.YtaacfjeddoekfaaTlLawTurned
import Derived.Test.YtaacfjeddoekfaaTl2
/- Chapter 12, the document's answer: Touches, May. -/
namespace Go.Proofs.Ytaacfjeddoekfaa
open Go.RowKit
set_option linter.unusedVariables false
set_option linter.unusedSimpArgs false

theorem touch_dec {x : Sti} {r b n : Int} {c : Bool} (h : (b, n) ∈ touchW x r ↔ c = true) : decide ((b, n) ∈ touchW x r) = c := by
  cases c
  · exact decide_eq_false fun k => absurd (h.1 k) (by simp)
  · exact decide_eq_true (h.2 rfl)
set_option maxHeartbeats 2000000 in
theorem Touches_any (x : Sti) (r b n : Int) (w : World) : Calls Try.prog 45 #[.agg #[.int .i64 x.d, .int .i64 x.b, .int .i64 x.n, .int .i64 x.c, .int .i64 x.t], .int .i64 r, .int .i64 b, .int .i64 n] w fun e w' => e = .returned (.bool (decide ((b, n) ∈ touchW x r))) ∧ Below w.heap.size w w' := by
  have HB : Hid (∀ o, Below w.heap.size w (w.alloc o)) := fun o => (Below.refl _ _).alloc (Nat.le_refl _) o
  have HT : Hid (touchW x r = if x.d = 3 then [] else if x.d = 4 then (if x.b = 0 then [(x.b, x.n), (1, wrap64 (x.n - r))] else [(x.b, x.n), (0, wrap64 (x.n + r))]) else [(x.b, x.n)]) := rfl
  by_cases h3 : x.d = 3
  · have q3 : (x.d == 3) = true := by simpa using h3
    have HE : Hid (decide ((b, n) ∈ touchW x r) = false) := touch_dec (by rw [HT.out, if_pos h3]; simp)
    rw [HE.out]
    clear h3 HT HE
    go_enter Try.func45, Try.ntmps45
    go_wp2_with fail
    go_ret
    exact ⟨rfl, HB.out _⟩
  have q3 : (x.d == 3) = false := by simpa using h3
  by_cases hm : x.b = b ∧ x.n = n
  · have q1 : (x.b == b) = true := by simpa using hm.1
    have q2 : (x.n == n) = true := by simpa using hm.2
    have HE : Hid (decide ((b, n) ∈ touchW x r) = true) := touch_dec (by
      rw [HT.out, if_neg h3, ← hm.1, ← hm.2]
      split
      · split <;> simp
      · simp)
    rw [HE.out]
    clear h3 HT HE hm
    go_enter Try.func45, Try.ntmps45
    go_wp2_with fail
    go_ret
    exact ⟨rfl, HB.out _⟩
  have HM := Lib.hid hm
  by_cases h4 : x.d = 4
  case neg =>
    have q4 : (x.d != 4) = true := by simpa using h4
    have HE : Hid (decide ((b, n) ∈ touchW x r) = false) := touch_dec (by
      rw [HT.out, if_neg h3, if_neg h4]
      simp only [List.mem_singleton, Prod.mk.injEq, Bool.false_eq_true, iff_false]
      rintro ⟨rfl, rfl⟩
      exact hm ⟨rfl, rfl⟩)
    rw [HE.out]
    clear h3 HT HE hm h4
    by_cases e1 : x.b = b
    · have q1 : (x.b == b) = true := by simpa using e1
      have q2 : (x.n == n) = false := by simpa using fun e => HM.out ⟨e1, e⟩
      clear e1
      go_enter Try.func45, Try.ntmps45
      go_wp2_with fail
      go_ret
      exact ⟨rfl, HB.out _⟩
    · have q1 : (x.b == b) = false := by simpa using e1
      clear e1
      go_enter Try.func45, Try.ntmps45
      go_wp2_with fail
      go_ret
      exact ⟨rfl, HB.out _⟩
  have q4 : (x.d != 4) = false := by simpa using h4
  by_cases h0 : x.b = 0
  · have q0 : (x.b == 0) = true := by simpa using h0
    have HE : Hid (decide ((b, n) ∈ touchW x r) = ((b == 1) && (n == wrap64 (x.n - r)))) := touch_dec (by
      rw [HT.out, if_neg h3, if_pos h4, if_pos h0]
      simp only [List.mem_cons, Prod.mk.injEq, List.not_mem_nil, or_false, Bool.and_eq_true, beq_iff_eq]
      constructor
      · rintro (⟨rfl, rfl⟩ | h)
        · exact absurd ⟨rfl, rfl⟩ hm
        · exact h
      · exact .inr)
    rw [HE.out]
    clear h3 HT HE hm h4
    by_cases e1 : x.b = b
    · have q1 : (x.b == b) = true := by simpa using e1
      have q2 : (x.n == n) = false := by simpa using fun e => HM.out ⟨e1, e⟩
      have q5 : (b == 1) = false := by simp; omega
      rw [q5, Bool.false_and]
      clear e1 h0
      go_enter Try.func45, Try.ntmps45
      go_wp2_with fail
      go_ret
      exact ⟨rfl, HB.out _⟩
    · have q1 : (x.b == b) = false := by simpa using e1
      clear e1 h0
      cases hb1 : b == 1
      · rw [Bool.false_and]
        go_enter Try.func45, Try.ntmps45
        go_wp2_with fail
        go_ret
        exact ⟨rfl, HB.out _⟩
      · rw [Bool.true_and]
        go_enter Try.func45, Try.ntmps45
        go_wp2_with fail
        go_ret
        exact ⟨rfl, HB.out _⟩
  · have q0 : (x.b == 0) = false := by simpa using h0
    have HE : Hid (decide ((b, n) ∈ touchW x r) = ((b == 0) && (n == wrap64 (x.n + r)))) := touch_dec (by
      rw [HT.out, if_neg h3, if_pos h4, if_neg h0]
      simp only [List.mem_cons, Prod.mk.injEq, List.not_mem_nil, or_false, Bool.and_eq_true, beq_iff_eq]
      constructor
      · rintro (⟨rfl, rfl⟩ | h)
        · exact absurd ⟨rfl, rfl⟩ hm
        · exact h
      · exact .inr)
    rw [HE.out]
    clear h3 HT HE hm h4
    by_cases e1 : x.b = b
    · have q1 : (x.b == b) = true := by simpa using e1
      have q2 : (x.n == n) = false := by simpa using fun e => HM.out ⟨e1, e⟩
      have q5 : (b == 0) = false := by simp; omega
      rw [q5, Bool.false_and]
      clear e1 h0
      go_enter Try.func45, Try.ntmps45
      go_wp2_with fail
      go_ret
      exact ⟨rfl, HB.out _⟩
    · have q1 : (x.b == b) = false := by simpa using e1
      clear e1 h0
      cases hb1 : b == 0
      · rw [Bool.false_and]
        go_enter Try.func45, Try.ntmps45
        go_wp2_with fail
        go_ret
        exact ⟨rfl, HB.out _⟩
      · rw [Bool.true_and]
        go_enter Try.func45, Try.ntmps45
        go_wp2_with fail
        go_ret
        exact ⟨rfl, HB.out _⟩
theorem ownR_any (x : Sti) (w : World) : Calls Try.prog 44 #[.agg #[.int .i64 x.d, .int .i64 x.b, .int .i64 x.n, .int .i64 x.c, .int .i64 x.t]] w fun e w' => e = .returned (.bool (yarnK x)) ∧ Below w.heap.size w w' := by
  have HB : Hid (∀ o, Below w.heap.size w (w.alloc o)) := fun o => (Below.refl _ _).alloc (Nat.le_refl _) o
  unfold yarnK
  by_cases h1 : x.d = 1
  · have q1 : (x.d == 1) = true := by simpa using h1
    rw [decide_eq_true (.inl h1)]
    clear h1
    go_enter Try.func44, Try.ntmps44
    go_wp2_with fail
    go_ret
    exact ⟨rfl, HB.out _⟩
  have q1 : (x.d == 1) = false := by simpa using h1
  by_cases h2 : x.d = 2
  · have q2 : (x.d == 2) = true := by simpa using h2
    rw [decide_eq_true (.inr h2)]
    clear h1 h2
    go_enter Try.func44, Try.ntmps44
    go_wp2_with fail
    go_ret
    exact ⟨rfl, HB.out _⟩
  · have q2 : (x.d == 2) = false := by simpa using h2
    rw [decide_eq_false (by rintro (h | h); exact h1 h; exact h2 h)]
    clear h1 h2
    go_enter Try.func44, Try.ntmps44
    go_wp2_with fail
    go_ret
    exact ⟨rfl, HB.out _⟩
/-- what is left of May behind the yarns -/
theorem may_rest (x y : Sti) (r : Int) : ((touchW x r).all fun a => !decide (a ∈ touchW y r)) =
    if x.d = 3 then true else if decide ((x.b, x.n) ∈ touchW y r) = true then false else if x.d = 4 then (if x.b = 0 then !decide ((1, wrap64 (x.n - r)) ∈ touchW y r) else !decide ((0, wrap64 (x.n + r)) ∈ touchW y r)) else true := by
  generalize touchW y r = M
  unfold touchW
  by_cases h3 : x.d = 3
  · rw [if_pos h3, if_pos h3]; rfl
  rw [if_neg h3, if_neg h3]
  by_cases hm : (x.b, x.n) ∈ M
  · rw [if_pos (decide_eq_true hm), List.all_eq_false]
    refine ⟨(x.b, x.n), ?_, by simp [hm]⟩
    split
    · split <;> simp
    · simp
  · rw [if_neg (show ¬ decide ((x.b, x.n) ∈ M) = true by simp [hm])]
    by_cases h4 : x.d = 4
    · rw [if_pos h4, if_pos h4]
      by_cases h0 : x.b = 0
      · rw [if_pos h0, if_pos h0]; simp [hm]
      · rw [if_neg h0, if_neg h0]; simp [hm]
    · rw [if_neg h4, if_neg h4]; simp [hm]
theorem mayW_eq (x y : Sti) (r : Int) : mayW x y r = if x.d = 6 ∨ y.d = 6 then false else if (yarnK x && (yarnK y && (x.c == y.c))) = true then false else
    if x.d = 3 then true else if decide ((x.b, x.n) ∈ touchW y r) = true then false else if x.d = 4 then (if x.b = 0 then !decide ((1, wrap64 (x.n - r)) ∈ touchW y r) else !decide ((0, wrap64 (x.n + r)) ∈ touchW y r)) else true := by
  rw [← may_rest]; rfl

set_option maxRecDepth 100000 in
set_option maxHeartbeats 3000000 in
theorem MayR_any (x y : Sti) (r : Int) (w : World) : Calls Try.prog 23 #[.agg #[.int .i64 x.d, .int .i64 x.b, .int .i64 x.n, .int .i64 x.c, .int .i64 x.t], .agg #[.int .i64 y.d, .int .i64 y.b, .int .i64 y.n, .int .i64 y.c, .int .i64 y.t], .int .i64 r] w fun e w' => e = .returned (.bool (mayW x y r)) ∧ Below w.heap.size w w' := by
  have HX := Lib.hid ((Arr.new w #[.int .i64 x.d, .int .i64 x.b, .int .i64 x.n, .int .i64 x.c, .int .i64 x.t] 44).alloc (.cells #[.int .i64 y.d, .int .i64 y.b, .int .i64 y.n, .int .i64 y.c, .int .i64 y.t] 44))
  have HY := Lib.hid (arr_new2 w (.cells #[.int .i64 x.d, .int .i64 x.b, .int .i64 x.n, .int .i64 x.c, .int .i64 x.t] 44) #[.int .i64 y.d, .int .i64 y.b, .int .i64 y.n, .int .i64 y.c, .int .i64 y.t] 44)
  have HB1 : Hid (Below w.heap.size w ((w.alloc (.cells #[.int .i64 x.d, .int .i64 x.b, .int .i64 x.n, .int .i64 x.c, .int .i64 x.t] 44)).alloc (.cells #[.int .i64 y.d, .int .i64 y.b, .int .i64 y.n, .int .i64 y.c, .int .i64 y.t] 44))) := ((Below.refl _ _).alloc (Nat.le_refl _) _).alloc (by simp) _
  have HM := Lib.hid (mayW_eq x y r)
  have HTO : Hid (∀ b n w, _) := fun b n w => Touches_any y r b n w
  generalize touchW y r = M at *
  go_enter Try.func23, Try.ntmps23
  go_upto_region 1 with fail
  generalize (w.alloc (.cells #[.int .i64 x.d, .int .i64 x.b, .int .i64 x.n, .int .i64 x.c, .int .i64 x.t] 44)).alloc (.cells #[.int .i64 y.d, .int .i64 y.b, .int .i64 y.n, .int .i64 y.c, .int .i64 y.t] 44) = w1 at *
  have x0 := HX.out.cell (k := 0) rfl
  have x1 := HX.out.cell (k := 1) rfl
  have x2 := HX.out.cell (k := 2) rfl
  have x3 := HX.out.cell (k := 3) rfl
  have x4 := HX.out.cell (k := 4) rfl
  have y0 := HY.out.cell (k := 0) rfl
  have y1 := HY.out.cell (k := 1) rfl
  have y2 := HY.out.cell (k := 2) rfl
  have y3 := HY.out.cell (k := 3) rfl
  have y4 := HY.out.cell (k := 4) rfl
  by_cases dx : x.d = 6
  · have q : (x.d == 6) = true := by simpa using dx
    have HE : Hid (mayW x y r = false) := by show _ = _; rw [HM.out, if_pos (.inl dx)]
    clear dx HM
    go_wp2_with fail
    go_ret
    refine ⟨?_, HB1.out⟩
    rw [HE.out]; rfl
  have q1 : (x.d == 6) = false := by simpa using dx
  by_cases dy : y.d = 6
  · have q : (y.d == 6) = true := by simpa using dy
    have HE : Hid (mayW x y r = false) := by show _ = _; rw [HM.out, if_pos (.inr dy)]
    clear dx dy HM
    go_wp2_with fail
    go_ret
    refine ⟨?_, HB1.out⟩
    rw [HE.out]; rfl
  have q2 : (y.d == 6) = false := by simpa using dy
  have hn6 : ¬ (x.d = 6 ∨ y.d = 6) := by rintro (h | h); exact dx h; exact dy h
  rw [if_neg hn6] at HM
  clear dx dy hn6
  go_upto_region 4 with fail
  go_cut [30] from 16 to 30 (fun c wx => c = .bool (yarnK x && (yarnK y && (x.c == y.c))) ∧ Below w1.heap.size w1 wx)
  case first =>
    cases hyx : yarnK x
    · go_wp2_with fail
      refine (ownR_any x w1).mono ?_
      rintro e w2 ⟨rfl, hb2⟩
      have HB2 := Lib.hid hb2
      rw [hyx]
      clear hb2
      go_wp2_with fail
      go_meet
      exact ⟨by rw [hyx]; rfl, HB2.out⟩
    · go_wp2_with fail
      refine (ownR_any x w1).mono ?_
      rintro e w2 ⟨rfl, hb2⟩
      have HB2 := Lib.hid hb2
      have HY2 := Lib.hid (HY.out.of_eq (hb2.block _ HY.out.lt))
      have HX2 := Lib.hid (HX.out.of_eq (hb2.block _ HX.out.lt))
      rw [hyx]
      clear hb2 x0 x1 x2 x3 x4 y0 y1 y2 y3 y4
      have y0 := HY2.out.cell (k := 0) rfl
      have y1 := HY2.out.cell (k := 1) rfl
      have y2 := HY2.out.cell (k := 2) rfl
      have y3 := HY2.out.cell (k := 3) rfl
      have y4 := HY2.out.cell (k := 4) rfl
      cases hyy : yarnK y
      · go_wp2_with fail
        refine (ownR_any y w2).mono ?_
        rintro e w3 ⟨rfl, hb3⟩
        have HB3 := Lib.hid (HB2.out.trans (hb3.mono HB2.out.size))
        rw [hyy]
        clear hb3 y0 y1 y2 y3 y4
        go_wp2_with fail
        go_meet
        exact ⟨by rw [hyx, hyy]; rfl, HB3.out⟩
      · go_wp2_with fail
        refine (ownR_any y w2).mono ?_
        rintro e w3 ⟨rfl, hb3⟩
        have HB3 := Lib.hid (HB2.out.trans (hb3.mono HB2.out.size))
        have HY3 := Lib.hid (HY2.out.of_eq (hb3.block _ HY2.out.lt))
        have HX3 := Lib.hid (HX2.out.of_eq (hb3.block _ HX2.out.lt))
        rw [hyy]
        clear hb3 y0 y1 y2 y3 y4
        have x3 := HX3.out.cell (k := 3) rfl
        have y3 := HY3.out.cell (k := 3) rfl
        go_wp2_with fail
        go_meet
        exact ⟨by rw [hyx, hyy]; rfl, HB3.out⟩
  case rest =>
    obtain ⟨rfl, hbx⟩ := hcut
    have HBX := Lib.hid hbx
    have HX3 := Lib.hid (HX.out.of_eq (hbx.block _ HX.out.lt))
    have HY3 := Lib.hid (HY.out.of_eq (hbx.block _ HY.out.lt))
    have HBW := Lib.hid (HB1.out.trans (hbx.mono HB1.out.size))
    clear hbx x0 x1 x2 x3 x4 y0 y1 y2 y3 y4
    cases hyc : (yarnK x && (yarnK y && (x.c == y.c)))
    case true =>
      have HE : Hid (mayW x y r = false) := by show _ = _; rw [HM.out, if_pos hyc]
      clear hyc HM
      go_wp2_with fail
      go_ret
      refine ⟨?_, HBW.out⟩
      rw [HE.out]; rfl
    rw [if_neg (show ¬ (yarnK x && (yarnK y && (x.c == y.c))) = true by rw [hyc]; exact Bool.false_ne_true)] at HM
    clear hyc
    have x0 := HX3.out.cell (k := 0) rfl
    have x1 := HX3.out.cell (k := 1) rfl
    have x2 := HX3.out.cell (k := 2) rfl
    have y0 := HY3.out.cell (k := 0) rfl
    have y1 := HY3.out.cell (k := 1) rfl
    have y2 := HY3.out.cell (k := 2) rfl
    have y3 := HY3.out.cell (k := 3) rfl
    have y4 := HY3.out.cell (k := 4) rfl
    by_cases d3 : x.d = 3
    · have q : (x.d == 3) = true := by simpa using d3
      have HE : Hid (mayW x y r = true) := by show _ = _; rw [HM.out, if_pos d3]
      clear d3 HM
      go_wp2_with fail
      go_ret
      refine ⟨?_, HBW.out⟩
      rw [HE.out]; rfl
    have q3 : (x.d == 3) = false := by simpa using d3
    rw [if_neg d3] at HM
    clear d3
    go_wp2_with fail
    refine (HTO.out _ _ _).mono ?_
    rintro e w5 ⟨rfl, hb5⟩
    have HBW5 := Lib.hid (HBW.out.trans (hb5.mono HBW.out.size))
    have HX5 := Lib.hid (HX3.out.of_eq (hb5.block _ HX3.out.lt))
    have HY5 := Lib.hid (HY3.out.of_eq (hb5.block _ HY3.out.lt))
    clear hb5 x0 x1 x2 y0 y1 y2 y3 y4
    by_cases hmm : (x.b, x.n) ∈ M
    · have HE : Hid (mayW x y r = false) := by show _ = _; rw [HM.out, if_pos (decide_eq_true hmm)]
      rw [decide_eq_true hmm]
      clear hmm HM
      go_wp2_with fail
      go_ret
      refine ⟨?_, HBW5.out⟩
      rw [HE.out]; rfl
    rw [if_neg (show ¬ decide ((x.b, x.n) ∈ M) = true by simp [hmm])] at HM
    rw [decide_eq_false hmm]
    clear hmm
    have x0 := HX5.out.cell (k := 0) rfl
    have x1 := HX5.out.cell (k := 1) rfl
    have x2 := HX5.out.cell (k := 2) rfl
    have y0 := HY5.out.cell (k := 0) rfl
    have y1 := HY5.out.cell (k := 1) rfl
    have y2 := HY5.out.cell (k := 2) rfl
    have y3 := HY5.out.cell (k := 3) rfl
    have y4 := HY5.out.cell (k := 4) rfl
    by_cases d4 : x.d = 4
    case neg =>
      have q4 : (x.d != 4) = true := by simpa using d4
      have HE : Hid (mayW x y r = true) := by show _ = _; rw [HM.out, if_neg d4]
      clear d4 HM
      go_wp2_with fail
      go_ret
      refine ⟨?_, HBW5.out⟩
      rw [HE.out]; rfl
    have q4 : (x.d != 4) = false := by simpa using d4
    rw [if_pos d4] at HM
    clear d4
    by_cases h0 : x.b = 0
    · have q0 : (x.b == 0) = true := by simpa using h0
      rw [if_pos h0] at HM
      clear h0
      go_wp2_with fail
      refine (HTO.out _ _ _).mono ?_
      rintro e w6 ⟨rfl, hb6⟩
      have HBW6 := Lib.hid (HBW5.out.trans (hb6.mono HBW5.out.size))
      have HE := Lib.hid HM.out
      clear hb6 HM
      go_wp2_with fail
      go_ret
      refine ⟨?_, HBW6.out⟩
      rw [HE.out]; rfl
    · have q0 : (x.b == 0) = false := by simpa using h0
      rw [if_neg h0] at HM
      clear h0
      go_wp2_with fail
      refine (HTO.out _ _ _).mono ?_
      rintro e w6 ⟨rfl, hb6⟩
      have HBW6 := Lib.hid (HBW5.out.trans (hb6.mono HBW5.out.size))
      have HE := Lib.hid HM.out
      clear hb6 HM
      go_wp2_with fail
      go_ret
      refine ⟨?_, HBW6.out⟩
      rw [HE.out]; rfl
end Go.Proofs.Ytaacfjeddoekfaa
/- Chapter 12: the program's Tidy. -/
namespace Go.Proofs.Ytaacfjeddoekfaa
open Go.RowKit
set_option linter.unusedVariables false
set_option linter.unusedSimpArgs false

theorem miss_any (x : Sti) (w : World) : Calls Try.prog 37 #[.agg #[.int .i64 x.d, .int .i64 x.b, .int .i64 x.n, .int .i64 x.c, .int .i64 x.t]] w fun e w' => e = .returned (.bool (x.d != 3)) ∧ Below w.heap.size w w' := by
  have HB : Hid (∀ o, Below w.heap.size w (w.alloc o)) := fun o => (Below.refl _ _).alloc (Nat.le_refl _) o
  go_enter Try.func37, Try.ntmps37
  go_wp2_with fail
  go_ret
  exact ⟨rfl, HB.out _⟩
/-- where the first is that is no miss -/
def NextIx (m : List Sti) (r : Int) : Prop := (r = -1 ∧ ∀ j (h : j < m.length), m[j].d = 3) ∨ ∃ k, ∃ h : k < m.length, r = (k : Int) ∧ m[k].d ≠ 3 ∧ ∀ j (hj : j < k), m[j].d = 3
theorem next_none : ∀ {m : List Sti}, (∀ j (h : j < m.length), m[j].d = 3) → nextRack m = false
  | [], _ => rfl
  | x :: m, h => by
    rw [nextRack, if_pos (show x.d = 3 from h 0 (by simp))]
    exact next_none fun j hj => h (j + 1) (by simpa using hj)
theorem next_some : ∀ {m : List Sti} {k : Nat} (h : k < m.length), m[k].d ≠ 3 → (∀ j (hj : j < k), m[j].d = 3) → nextRack m = decide (m[k].d = 6)
  | [], k, h, _, _ => by simp at h
  | x :: m, 0, h, hn, _ => by rw [nextRack, if_neg (by exact hn)]; rfl
  | x :: m, k + 1, h, hn, hj => by
    rw [nextRack, if_pos (show x.d = 3 from hj 0 (by omega))]
    exact next_some (m := m) (k := k) (by simpa using h) (by simpa using hn) fun j hj' => hj (j + 1) (by omega)

set_option maxHeartbeats 1000000 in
theorem index_any {S : Nat → Prop} {A : Option Addr} {c : Nat} {m : List Sti} (w : World) (hr : Row w S 5 A m.length (m.flatMap Sti.cells)) (hS : ∀ b, S b → b < w.heap.size) (hl : m.length ≤ 100000000000000) :
    Calls Try.prog 36 #[.slice A m.length c, .func (.func 37) #[] #[]] w fun e w' => (∃ r : Int, e = .returned (.int .i64 r) ∧ NextIx m r) ∧ Below w.heap.size w w' := by
  have HR := Lib.hid hr
  have HS := Lib.hid hS
  clear hr hS
  go_enter Try.func36, Try.ntmps36
  go_wp2_with fail
  go_loopg [8] m.length (fun gg ctr wr => ∃ i : Nat, i ≤ m.length ∧ gg = m.length - i ∧ ctr = .int .i64 i ∧ Below w.heap.size w wr ∧ ∀ j (h : j < m.length), j < i → m[j].d = 3)
  case atStart => exact ⟨0, by omega, rfl, rfl, Below.refl _ _, fun j h hj => by omega⟩
  case round =>
    obtain ⟨i, hi, rfl, rfl, hb, hall⟩ := hrel
    have HB := Lib.hid hb
    have HALL := Lib.hid hall
    clear hb hall
    by_cases hlt : i < m.length
    case neg =>
      obtain rfl : i = m.length := by omega
      go_wp2_with fail
      go_ret
      exact ⟨⟨_, rfl, .inl ⟨rfl, fun j h => HALL.out j h h⟩⟩, HB.out⟩
    obtain ⟨b, o, e, hbb, x0, x1, x2, x3, x4⟩ := sti_cells (HR.out.same (w' := wr) fun b hb => HB.out.block b (HS.out b hb)) hlt
    cases e
    have HI : Hid (∀ x, x = m[i] → x.d ≠ 3 → NextIx m (i : Int)) := fun x e h => .inr ⟨i, hlt, rfl, by rw [← e]; exact h, fun j hj => HALL.out j (by omega) hj⟩
    have HN : Hid (∀ x, x = m[i] → x.d = 3 → ∀ j (h : j < m.length), j < i + 1 → m[j].d = 3) := fun x e h j hj hji => by
      rcases Nat.lt_or_eq_of_le (Nat.le_of_lt_succ hji) with h1 | h1
      · exact HALL.out j hj h1
      · subst h1; rw [← e]; exact h
    generalize hx : m[i] = x at *
    have HX : Hid (x = m[i]) := hx.symm
    have HI2 := Lib.hid (HI.out x rfl)
    have HN2 := Lib.hid (HN.out x rfl)
    clear hx HI HN
    go_wp2_with fail
    refine (miss_any x wr).mono ?_
    rintro e w2 ⟨rfl, hb2⟩
    have HB2 := Lib.hid (HB.out.trans (hb2.mono HB.out.size))
    clear hb2
    by_cases hd : x.d = 3
    · have hdb : (x.d != 3) = false := by simpa using hd
      have HN3 := Lib.hid (HN2.out hd)
      clear hd
      go_wp2_with fail
      go_roundg (m.length - (i + 1))
      case measure => omega
      case rel => exact ⟨i + 1, by omega, rfl, by go_num, HB2.out, HN3.out⟩
    · have hdb : (x.d != 3) = true := by simpa using hd
      have HI3 := Lib.hid (HI2.out hd)
      clear hd
      go_wp2_with fail
      go_ret
      exact ⟨⟨_, rfl, HI3.out⟩, HB2.out⟩

set_option maxRecDepth 100000 in
set_option maxHeartbeats 3000000 in
theorem Tidy_any {v : Value} {l : List Sti} (w : World) (hv : Stitches w (fun b => b < w.heap.size) v l) (hl : l.length * 40 ≤ 140737488351232) :
    Calls Try.prog 20 #[v] w fun e w' => ∃ u, e = .returned u ∧ w'.ownsRow w.heap.size 44 5 u (tidyK 0 l).length ((tidyK 0 l).flatMap Sti.cells) ∧ Below w.heap.size w w' := by
  have HV := Lib.hid hv
  obtain ⟨A, c, rfl, h1, h2, hr⟩ := hv
  clear hr
  unfold maxLen at h2
  go_enter Try.func20, Try.ntmps20
  go_wp2_with fail
  go_loopg [3, 4, 10] l.length (fun gg out rk ctr wr => ∃ (i : Nat) (O : List Sti) (r : Int), i ≤ l.length ∧ gg = l.length - i ∧ ctr = .int .i64 i ∧ rk = .int .i64 r ∧ wr.ownsRow w.heap.size 44 5 out O.length (O.flatMap Sti.cells) ∧ Below w.heap.size w wr ∧ tidyK 0 l = O ++ tidyK r (l.drop i) ∧ O.length ≤ i)
  case atStart => exact ⟨0, [], 0, by omega, rfl, rfl, rfl, World.ownsRow_nil _ _ _ _, Below.refl _ _, rfl, Nat.le_refl _⟩
  case round =>
    obtain ⟨i, O, r, hi, rfl, rfl, rfl, ho, hb, ht, hol⟩ := hrel
    have HO := Lib.hid ho
    have HB := Lib.hid hb
    have HT := Lib.hid ht
    clear hb ht ho
    by_cases hlt : i < l.length
    case neg =>
      obtain rfl : i = l.length := by omega
      rw [List.drop_length] at HT
      go_wp2_with fail
      go_ret
      have e : tidyK 0 l = O := by rw [HT.out]; exact List.append_nil O
      rw [e]
      exact ⟨_, rfl, HO.out, HB.out⟩
    have hrow := srow_of (HV.out.same (Same.of_below HB.out))
    obtain ⟨b, o, e, hbb, x0, x1, x2, x3, x4⟩ := sti_cells hrow hlt
    cases e
    have hbw : b < wr.heap.size := Nat.lt_of_lt_of_le hbb HB.out.size
    have hd1 : l.drop i = l[i] :: l.drop (i + 1) := List.drop_eq_getElem_cons hlt
    have HT2 : Hid (∀ x, x = l[i] → tidyK 0 l = O ++ tidyK r (x :: l.drop (i + 1))) := fun x e => by rw [e, ← hd1]; exact HT.out
    have HCUT : Hid (Row wr (fun b => b < w.heap.size) 5 (some ⟨b, o + (i + 1) * 5, none⟩) (l.drop (i + 1)).length ((l.drop (i + 1)).flatMap Sti.cells)) := by
      have := hrow.cut (i + 1) (by omega)
      have e : (l.flatMap Sti.cells).drop ((i + 1) * 5) = (l.drop (i + 1)).flatMap Sti.cells := by
        have h0 : l.flatMap Sti.cells = (l.take (i + 1)).flatMap Sti.cells ++ (l.drop (i + 1)).flatMap Sti.cells := by rw [← List.flatMap_append, List.take_append_drop]
        rw [h0, List.drop_left']
        rw [flat_len Sti.cells_len, List.length_take, Nat.min_eq_left (by omega)]
      rw [e] at this
      rw [List.length_drop]
      exact this
    have hdl : (l.drop (i + 1)).length = l.length - (i + 1) := List.length_drop
    have HNX : Hid (∀ k (h : k < (l.drop (i + 1)).length), wr.cell? ⟨b, o + (i + 1 + k) * 5, none⟩ = some (.int .i64 ((l.drop (i + 1))[k]).d)) := fun k h => by
      obtain ⟨b', o', e, _, y0, _⟩ := sti_cells hrow (k := i + 1 + k) (by omega)
      cases e
      rw [y0, List.getElem_drop]
    clear hd1 hrow
    generalize hm : l.drop (i + 1) = m at *
    have HM := Lib.hid hm
    clear hm
    generalize l[i] = x at *
    have HT3 := Lib.hid (HT2.out x rfl)
    clear HT HT2
    have HBA : Hid (∀ o, Below w.heap.size w (wr.alloc o)) := fun o => HB.out.alloc HB.out.size o
    by_cases d3 : x.d = 3
    · have q3 : (x.d == 3) = true := by simpa using d3
      have HE : Hid (tidyK 0 l = O ++ tidyK r m) := by show _ = _; rw [HT3.out, tidyK, if_pos d3]
      clear d3
      go_wp2_with fail
      go_roundg (l.length - (i + 1))
      case measure => omega
      case rel => exact ⟨i + 1, O, r, by omega, rfl, by go_num, rfl, own_al HO.out _, HBA.out _, by rw [HM.out]; exact HE.out, by omega⟩
    have q3 : (x.d == 3) = false := by simpa using d3
    have z0 := (Arr.new wr #[.int .i64 x.d, .int .i64 x.b, .int .i64 x.n, .int .i64 x.c, .int .i64 x.t] 44).cell (k := 0) rfl
    have z1 := (Arr.new wr #[.int .i64 x.d, .int .i64 x.b, .int .i64 x.n, .int .i64 x.c, .int .i64 x.t] 44).cell (k := 1) rfl
    have z2 := (Arr.new wr #[.int .i64 x.d, .int .i64 x.b, .int .i64 x.n, .int .i64 x.c, .int .i64 x.t] 44).cell (k := 2) rfl
    have z3 := (Arr.new wr #[.int .i64 x.d, .int .i64 x.b, .int .i64 x.n, .int .i64 x.c, .int .i64 x.t] 44).cell (k := 3) rfl
    have z4 := (Arr.new wr #[.int .i64 x.d, .int .i64 x.b, .int .i64 x.n, .int .i64 x.c, .int .i64 x.t] 44).cell (k := 4) rfl
    have HY := Lib.hid (Arr.new wr #[.int .i64 x.d, .int .i64 x.b, .int .i64 x.n, .int .i64 x.c, .int .i64 x.t] 44)
    have HOA := Lib.hid (own_al HO.out (.cells #[.int .i64 x.d, .int .i64 x.b, .int .i64 x.n, .int .i64 x.c, .int .i64 x.t] 44))
    have HBB := Lib.hid (HBA.out (.cells #[.int .i64 x.d, .int .i64 x.b, .int .i64 x.n, .int .i64 x.c, .int .i64 x.t] 44))
    have HSW : Hid (Below wr.heap.size wr (wr.alloc (.cells #[.int .i64 x.d, .int .i64 x.b, .int .i64 x.n, .int .i64 x.c, .int .i64 x.t] 44))) := (Below.refl _ _).alloc (Nat.le_refl _) _
    have hby : (O.length + 1) * 40 ≤ 140737488355328 := by omega
    by_cases d6 : x.d = 6
    case neg =>
      have q6 : (x.d == 6) = false := by simpa using d6
      have HE : Hid (tidyK 0 l = (O ++ [x]) ++ tidyK r m) := by show _ = _; rw [HT3.out, tidyK, if_neg d3, if_neg d6, List.append_assoc]; rfl
      clear d3 d6
      go_upto_region 12 with fail
      generalize wr.alloc (.cells #[.int .i64 x.d, .int .i64 x.b, .int .i64 x.n, .int .i64 x.c, .int .i64 x.t] 44) = w4 at *
      go_wp2_with (at_builtin
                   refine app_el T22 [.int .i64 x.d, .int .i64 x.b, .int .i64 x.n, .int .i64 x.c, .int .i64 x.t] HOA.out HBB.out (Nat.le_refl _) rfl rfl rfl rfl rfl ?_ ?_ ?_
                   rotate_right
                   intro v1 w5 hown1 hb1 hg1 ho1
                   have HF := Lib.hid (And.intro hown1 hb1)
                   clear hown1 hb1 hg1 ho1)
      all_goals (try (first | exact hby | (show ∀ u ∈ _, Value.oneCell' u = true; simp [Value.oneCell']) | (refine ⟨rfl, rfl, rfl, rfl, rfl⟩) | (simp [Value.oneCell'])))
      go_roundg (l.length - (i + 1))
      case measure => omega
      case rel => exact ⟨i + 1, O ++ [x], r, by omega, rfl, by go_num, rfl, by rw [List.length_append, List.length_singleton, List.flatMap_append]; simpa [Sti.cells] using HF.out.1, HF.out.2, by rw [HM.out]; exact HE.out, by rw [List.length_append, List.length_singleton]; omega⟩
    obtain ⟨xd, xb, xn, xc, xt⟩ := x
    dsimp only at *
    subst d6
    have HK : Hid (tidyK 0 l = O ++ (if xt = r ∨ nextRack m = true then tidyK r m else ⟨6, xb, xn, xc, xt⟩ :: tidyK xt m)) := by show _ = _; rw [HT3.out, tidyK, if_neg d3, if_pos rfl]
    have hml : m.length ≤ 100000000000000 := by omega
    clear d3 z0 z1 z2 z3 z4
    go_upto_region 9 with fail
    have HSIZ : Hid (w.heap.size ≤ wr.heap.size) := HB.out.size
    have HCW : Hid (Row (wr.alloc (.cells #[.int .i64 6, .int .i64 xb, .int .i64 xn, .int .i64 xc, .int .i64 xt] 44)) (fun b => b < w.heap.size) 5 (some ⟨b, o + (i + 1) * 5, none⟩) m.length (m.flatMap Sti.cells)) := HCUT.out.same fun b hb => HSW.out.block b (by have : b < w.heap.size := hb; have := HSIZ.out; omega)
    have HNW : Hid (∀ k (h : k < m.length), (wr.alloc (.cells #[.int .i64 6, .int .i64 xb, .int .i64 xn, .int .i64 xc, .int .i64 xt] 44)).cell? ⟨b, o + (i + 1 + k) * 5, none⟩ = some (.int .i64 (m[k]).d)) := fun k h => (HSW.out.cell (p := ⟨b, o + (i + 1 + k) * 5, none⟩) hbw).trans (HNX.out k h)
    have hbw4 : b < (wr.alloc (.cells #[.int .i64 6, .int .i64 xb, .int .i64 xn, .int .i64 xc, .int .i64 xt] 44)).heap.size := by simp; omega
    have hyl := HY.out.lt
    generalize wr.alloc (.cells #[.int .i64 6, .int .i64 xb, .int .i64 xn, .int .i64 xc, .int .i64 xt] 44) = w4 at *
    have HBB2 := HBB.out.size
    by_cases hcz : c = i + 1
    case pos =>
      subst hcz
      obtain rfl : m = [] := List.eq_nil_of_length_eq_zero (by omega)
      go_wp2_with fail
      refine (index_any (m := []) (S := fun b => b < w.heap.size) w4 (Row.nil _ _ _ _) (fun b hb => by have : b < w.heap.size := hb; omega) hml).mono ?_
      rintro e w5 ⟨⟨nx, rfl, hnx⟩, hb5⟩
      have HNX5 := Lib.hid hnx
      have HOC : Hid (w5.ownsRow w.heap.size 44 5 u3 O.length (O.flatMap Sti.cells)) := own_below HOA.out hb5 (Nat.le_refl _)
      have HBC : Hid (Below w.heap.size w w5) := HBB.out.trans (hb5.mono HBB.out.size)
      have HYC := Lib.hid (HY.out.of_eq (hb5.block _ hyl))
      have y0 := HYC.out.cell (k := 0) rfl
      have y1 := HYC.out.cell (k := 1) rfl
      have y2 := HYC.out.cell (k := 2) rfl
      have y3 := HYC.out.cell (k := 3) rfl
      have y4 := HYC.out.cell (k := 4) rfl
      clear hb5 hnx
      by_cases hc : xt = r
      · have qc : (xt == r) = true := by simpa using hc
        have HE : Hid (tidyK 0 l = O ++ tidyK r []) := by show _ = _; rw [HK.out, if_pos (.inl hc)]
        clear hc
        go_wp2_with fail
        go_roundg (l.length - (i + 1))
        case measure => omega
        case rel => exact ⟨i + 1, O, r, by omega, rfl, by go_num, rfl, HOC.out, HBC.out, by rw [HM.out]; exact HE.out, by omega⟩
      have qc : (xt == r) = false := by simpa using hc
      rcases HNX5.out with ⟨rfl, hall⟩ | ⟨k, hk, _⟩
      · have HE : Hid (tidyK 0 l = (O ++ [⟨6, xb, xn, xc, xt⟩]) ++ tidyK xt []) := by
          show _ = _
          rw [HK.out, if_neg, List.append_assoc]; rfl
          rintro (e | e)
          · exact hc e
          · rw [next_none hall] at e; cases e
        clear hc hall
        go_wp2_with (at_builtin
                     refine app_el T22 [.int .i64 6, .int .i64 xb, .int .i64 xn, .int .i64 xc, .int .i64 xt] HOC.out HBC.out (Nat.le_refl _) rfl rfl rfl rfl rfl ?_ ?_ ?_
                     rotate_right
                     intro v1 w6 hown1 hb1 hg1 ho1
                     have HF := Lib.hid (And.intro hown1 hb1)
                     clear hown1 hb1 hg1 ho1)
        all_goals (try (first | exact hby | (show ∀ u ∈ _, Value.oneCell' u = true; simp [Value.oneCell']) | (refine ⟨rfl, rfl, rfl, rfl, rfl⟩) | (simp [Value.oneCell'])))
        go_roundg (l.length - (i + 1))
        case measure => omega
        case rel => exact ⟨i + 1, O ++ [⟨6, xb, xn, xc, xt⟩], xt, by omega, rfl, by go_num, rfl, by rw [List.length_append, List.length_singleton, List.flatMap_append]; simpa [Sti.cells] using HF.out.1, HF.out.2, by rw [HM.out]; exact HE.out, by rw [List.length_append, List.length_singleton]; omega⟩
      exact absurd hk (Nat.not_lt_zero _)
    case neg =>
      have hcz2 : ¬ c - (i + 1) = 0 := by omega
      have hcz3 : ¬ c ≤ i + 1 := by omega
      go_wp2_with fail
      rw [← hdl]
      refine (index_any (S := fun b => b < w.heap.size) w4 HCW.out (fun b hb => by have : b < w.heap.size := hb; omega) hml).mono ?_
      rintro e w5 ⟨⟨nx, rfl, hnx⟩, hb5⟩
      have HNX5 := Lib.hid hnx
      have HOC : Hid (w5.ownsRow w.heap.size 44 5 u3 O.length (O.flatMap Sti.cells)) := own_below HOA.out hb5 (Nat.le_refl _)
      have HBC : Hid (Below w.heap.size w w5) := HBB.out.trans (hb5.mono HBB.out.size)
      have HYC := Lib.hid (HY.out.of_eq (hb5.block _ hyl))
      have y0 := HYC.out.cell (k := 0) rfl
      have y1 := HYC.out.cell (k := 1) rfl
      have y2 := HYC.out.cell (k := 2) rfl
      have y3 := HYC.out.cell (k := 3) rfl
      have y4 := HYC.out.cell (k := 4) rfl
      have HNC : Hid (∀ k (h : k < m.length), w5.cell? ⟨b, o + (i + 1 + k) * 5, none⟩ = some (.int .i64 (m[k]).d)) := fun k h => (hb5.cell (p := ⟨b, o + (i + 1 + k) * 5, none⟩) hbw4).trans (HNW.out k h)
      clear hb5 hnx
      by_cases hc : xt = r
      · have qc : (xt == r) = true := by simpa using hc
        have HE : Hid (tidyK 0 l = O ++ tidyK r m) := by show _ = _; rw [HK.out, if_pos (.inl hc)]
        clear hc
        go_wp2_with fail
        go_roundg (l.length - (i + 1))
        case measure => omega
        case rel => exact ⟨i + 1, O, r, by omega, rfl, by go_num, rfl, HOC.out, HBC.out, by rw [HM.out]; exact HE.out, by omega⟩
      have qc : (xt == r) = false := by simpa using hc
      rcases HNX5.out with ⟨rfl, hall⟩ | ⟨k, hk, rfl, hne, hall⟩
      · have HE : Hid (tidyK 0 l = (O ++ [⟨6, xb, xn, xc, xt⟩]) ++ tidyK xt m) := by
          show _ = _
          rw [HK.out, if_neg, List.append_assoc]; rfl
          rintro (e | e)
          · exact hc e
          · rw [next_none hall] at e; cases e
        clear hc hall
        go_wp2_with (at_builtin
                     refine app_el T22 [.int .i64 6, .int .i64 xb, .int .i64 xn, .int .i64 xc, .int .i64 xt] HOC.out HBC.out (Nat.le_refl _) rfl rfl rfl rfl rfl ?_ ?_ ?_
                     rotate_right
                     intro v1 w6 hown1 hb1 hg1 ho1
                     have HF := Lib.hid (And.intro hown1 hb1)
                     clear hown1 hb1 hg1 ho1)
        all_goals (try (first | exact hby | (show ∀ u ∈ _, Value.oneCell' u = true; simp [Value.oneCell']) | (refine ⟨rfl, rfl, rfl, rfl, rfl⟩) | (simp [Value.oneCell'])))
        go_roundg (l.length - (i + 1))
        case measure => omega
        case rel => exact ⟨i + 1, O ++ [⟨6, xb, xn, xc, xt⟩], xt, by omega, rfl, by go_num, rfl, by rw [List.length_append, List.length_singleton, List.flatMap_append]; simpa [Sti.cells] using HF.out.1, HF.out.2, by rw [HM.out]; exact HE.out, by rw [List.length_append, List.length_singleton]; omega⟩
      have hnr := next_some hk hne hall
      have u0 := HNC.out k hk
      clear hne hall
      generalize (m[k]).d = dk at *
      have hidx : i + 1 + k < l.length := by omega
      by_cases h6 : dk = 6
      · have q7 : (dk == 6) = true := by simpa using h6
        have HE : Hid (tidyK 0 l = O ++ tidyK r m) := by show _ = _; rw [HK.out, if_pos (.inr (by rw [hnr]; simpa using h6))]
        clear hc h6 hnr
        go_wp2_with fail
        go_roundg (l.length - (i + 1))
        case measure => omega
        case rel => exact ⟨i + 1, O, r, by omega, rfl, by go_num, rfl, HOC.out, HBC.out, by rw [HM.out]; exact HE.out, by omega⟩
      · have q7 : (dk == 6) = false := by simpa using h6
        have HE : Hid (tidyK 0 l = (O ++ [⟨6, xb, xn, xc, xt⟩]) ++ tidyK xt m) := by
          show _ = _
          rw [HK.out, if_neg, List.append_assoc]; rfl
          rintro (e | e)
          · exact hc e
          · rw [hnr] at e; exact h6 (of_decide_eq_true e)
        clear hc h6 hnr
        go_wp2_with (at_builtin
                     refine app_el T22 [.int .i64 6, .int .i64 xb, .int .i64 xn, .int .i64 xc, .int .i64 xt] HOC.out HBC.out (Nat.le_refl _) rfl rfl rfl rfl rfl ?_ ?_ ?_
                     rotate_right
                     intro v1 w6 hown1 hb1 hg1 ho1
                     have HF := Lib.hid (And.intro hown1 hb1)
                     clear hown1 hb1 hg1 ho1)
        all_goals (try (first | exact hby | (show ∀ u ∈ _, Value.oneCell' u = true; simp [Value.oneCell']) | (refine ⟨rfl, rfl, rfl, rfl, rfl⟩) | (simp [Value.oneCell'])))
        go_roundg (l.length - (i + 1))
        case measure => omega
        case rel => exact ⟨i + 1, O ++ [⟨6, xb, xn, xc, xt⟩], xt, by omega, rfl, by go_num, rfl, by rw [List.length_append, List.length_singleton, List.flatMap_append]; simpa [Sti.cells] using HF.out.1, HF.out.2, by rw [HM.out]; exact HE.out, by rw [List.length_append, List.length_singleton]; omega⟩
end Go.Proofs.Ytaacfjeddoekfaa
/- Chapter 12, the document's answer: Tidy. (Printed by gen_reftidy.py.) -/
namespace Go.Proofs.Ytaacfjeddoekfaa
open Go.RowKit
set_option linter.unusedVariables false
set_option linter.unusedSimpArgs false

def notMiss (x : Sti) : Bool := x.d != 3
def headRack : List Sti → Bool
  | [] => false
  | x :: _ => decide (x.d = 6)
/-- racks just ahead of racks left out -/
def lessK : List Sti → List Sti
  | [] => []
  | x :: l => if x.d = 6 ∧ headRack l = true then lessK l else x :: lessK l
/-- racks that change nothing left out -/
def outK : Int → List Sti → List Sti
  | _, [] => []
  | r, x :: l => if x.d = 6 then (if x.t = r then outK r l else x :: outK x.t l) else x :: outK r l
theorem less_len : ∀ l : List Sti, (lessK l).length ≤ l.length
  | [] => Nat.le_refl _
  | x :: l => by
    have := less_len l
    unfold lessK
    split
    · rw [List.length_cons]; omega
    · rw [List.length_cons, List.length_cons]; omega
theorem next_head : ∀ l : List Sti, nextRack l = headRack (l.filter notMiss)
  | [] => rfl
  | x :: l => by
    unfold nextRack
    by_cases h : x.d = 3
    · rw [if_pos h, List.filter_cons_of_neg (by unfold notMiss; simp [h]), next_head l]
    · rw [if_neg h, List.filter_cons_of_pos (by unfold notMiss; simpa using h)]; rfl
theorem tidy_three : ∀ (l : List Sti) (r : Int), outK r (lessK (l.filter notMiss)) = tidyK r l
  | [], r => rfl
  | x :: l, r => by
    have i1 := tidy_three l r
    have i2 := tidy_three l x.t
    unfold tidyK
    by_cases h3 : x.d = 3
    · rw [if_pos h3, List.filter_cons_of_neg (by unfold notMiss; simp [h3]), i1]
    rw [if_neg h3, List.filter_cons_of_pos (by unfold notMiss; simpa using h3), lessK, next_head]
    by_cases h6 : x.d = 6
    · rw [if_pos h6]
      by_cases hh : headRack (l.filter notMiss) = true
      · rw [if_pos ⟨h6, hh⟩, if_pos (.inr hh), i1]
      · rw [if_neg (fun k => hh k.2), outK, if_pos h6]
        by_cases ht : x.t = r
        · rw [if_pos ht, if_pos (.inl ht), i1]
        · rw [if_neg ht, if_neg (by rintro (k | k); exact ht k; exact hh k), i2]
    · rw [if_neg h6, if_neg (fun k => h6 k.1), outK, if_neg h6, i1]

set_option maxRecDepth 100000 in
set_option maxHeartbeats 4000000 in
theorem TidyR_any {v : Value} {l : List Sti} (w : World) (hv : Stitches w (fun b => b < w.heap.size) v l) (hl : l.length * 40 ≤ 140737488351232) :
    Calls Try.prog 24 #[v] w fun e w' => ∃ u, e = .returned u ∧ w'.ownsRow w.heap.size 44 5 u (tidyK 0 l).length ((tidyK 0 l).flatMap Sti.cells) ∧ Below w.heap.size w w' := by
  have HV := Lib.hid hv
  have HTE := Lib.hid (tidy_three l 0)
  have hfl : (l.filter notMiss).length ≤ l.length := List.length_filter_le ..
  have hll := less_len (l.filter notMiss)
  obtain ⟨A, c, rfl, h1, h2, hr⟩ := hv
  clear hr
  unfold maxLen at h2
  go_enter Try.func24, Try.ntmps24
  go_wp2_with fail
  go_loopg [3, 15] l.length (fun gg out ctr wr => ∃ (i : Nat) (O : List Sti), i ≤ l.length ∧ gg = l.length - i ∧ ctr = .int .i64 i ∧ wr.ownsRow w.heap.size 44 5 out O.length (O.flatMap Sti.cells) ∧ Below w.heap.size w wr ∧ l.filter notMiss = O ++ (l.drop i).filter notMiss ∧ O.length ≤ i)
  case atStart => exact ⟨0, [], by omega, rfl, rfl, World.ownsRow_nil _ _ _ _, Below.refl _ _, rfl, Nat.le_refl _⟩
  case round =>
    obtain ⟨i, O, hi, rfl, rfl, ho, hb, ht, hol⟩ := hrel
    have HO := Lib.hid ho
    have HB := Lib.hid hb
    have HT := Lib.hid ht
    clear hb ht
    by_cases hlt : i < l.length
    case pos =>
      clear ho
      obtain ⟨b, o, e, hbb, x0, x1, x2, x3, x4⟩ := sti_cells (srow_of (HV.out.same (Same.of_below HB.out))) hlt
      cases e
      have HT2 : Hid (∀ x, x = l[i] → l.filter notMiss = O ++ (x :: l.drop (i + 1)).filter notMiss) := fun x e => by rw [e, ← List.drop_eq_getElem_cons hlt]; exact HT.out
      generalize l[i] = x at *
      have HT3 := Lib.hid (HT2.out x rfl)
      clear HT HT2
      have HOA := Lib.hid (own_al HO.out (.cells #[.int .i64 x.d, .int .i64 x.b, .int .i64 x.n, .int .i64 x.c, .int .i64 x.t] 44))
      have HBB : Hid (Below w.heap.size w (wr.alloc (.cells #[.int .i64 x.d, .int .i64 x.b, .int .i64 x.n, .int .i64 x.c, .int .i64 x.t] 44))) := HB.out.alloc HB.out.size _
      have HY := Lib.hid (Arr.new wr #[.int .i64 x.d, .int .i64 x.b, .int .i64 x.n, .int .i64 x.c, .int .i64 x.t] 44)
      have hby : (O.length + 1) * 40 ≤ 140737488355328 := by omega
      have HOX : Hid (∀ (wz : World) (v : Value), wz.ownsRow w.heap.size 44 5 v (O.length + 1) (O.flatMap Sti.cells ++ [.int .i64 x.d, .int .i64 x.b, .int .i64 x.n, .int .i64 x.c, .int .i64 x.t]) → wz.ownsRow w.heap.size 44 5 v (O ++ [x]).length ((O ++ [x]).flatMap Sti.cells)) := fun w v h => by rw [List.length_append, List.length_singleton, List.flatMap_append]; simpa [Sti.cells] using h
      by_cases d3 : x.d = 3
      · have q3 : (x.d != 3) = false := by simpa using d3
        have HE : Hid (l.filter notMiss = O ++ (l.drop (i + 1)).filter notMiss) := by show _ = _; rw [HT3.out, List.filter_cons_of_neg (by unfold notMiss; simp [d3])]
        clear d3
        go_wp2_with fail
        go_roundg (l.length - (i + 1))
        case measure => omega
        case rel => exact ⟨i + 1, O, by omega, rfl, by go_num, HOA.out, HBB.out, HE.out, by omega⟩
      have q3 : (x.d != 3) = true := by simpa using d3
      have HE : Hid (l.filter notMiss = (O ++ [x]) ++ (l.drop (i + 1)).filter notMiss) := by show _ = _; rw [HT3.out, List.filter_cons_of_pos (by unfold notMiss; simpa using d3), List.append_assoc]; rfl
      clear d3
      have z0 := HY.out.cell (k := 0) rfl
      have z1 := HY.out.cell (k := 1) rfl
      have z2 := HY.out.cell (k := 2) rfl
      have z3 := HY.out.cell (k := 3) rfl
      have z4 := HY.out.cell (k := 4) rfl
      go_upto_region 6 with fail
      generalize wr.alloc (.cells #[.int .i64 x.d, .int .i64 x.b, .int .i64 x.n, .int .i64 x.c, .int .i64 x.t] 44) = w4 at *
      go_wp2_with (at_builtin
                   refine app_el T22 [.int .i64 x.d, .int .i64 x.b, .int .i64 x.n, .int .i64 x.c, .int .i64 x.t] HOA.out HBB.out (Nat.le_refl _) rfl rfl rfl rfl rfl ?_ ?_ ?_
                   rotate_right
                   intro v1 w5 hown1 hb1 hg1 ho1
                   have HF := Lib.hid (And.intro hown1 hb1)
                   clear hown1 hb1 hg1 ho1)
      all_goals (try (first | exact hby | (show ∀ u ∈ _, Value.oneCell' u = true; simp [Value.oneCell']) | (refine ⟨rfl, rfl, rfl, rfl, rfl⟩) | (simp [Value.oneCell'])))
      go_roundg (l.length - (i + 1))
      case measure => omega
      case rel => exact ⟨i + 1, O ++ [x], by omega, rfl, by go_num, HOX.out _ _ HF.out.1, HF.out.2, HE.out, by rw [List.length_append, List.length_singleton]; omega⟩
    obtain rfl : i = l.length := by omega
    rw [List.drop_length, List.filter_nil, List.append_nil] at HT
    have HS : Hid (l.filter notMiss = O) := HT.out
    rw [HS.out] at hfl hll HTE

    have HBW := Lib.hid HB.out
    obtain ⟨As, cs, rfl, hs1, hs2⟩ := own_form ho
    have HROW : Hid (Row wr (fun b => b < wr.heap.size) 5 As O.length (O.flatMap Sti.cells)) := (Row.of_own ho).mono fun b hb => hb.2
    unfold maxLen at hs2
    clear ho HT HS HO HB hol
    generalize O = s at *
    generalize wr = wA at *
    go_wp2_with fail
    go_loopg [4, 29] s.length (fun gg out ctr wr => ∃ (i : Nat) (O : List Sti), i ≤ s.length ∧ gg = s.length - i ∧ ctr = .int .i64 i ∧ wr.ownsRow wA.heap.size 44 5 out O.length (O.flatMap Sti.cells) ∧ Below wA.heap.size wA wr ∧ lessK s = O ++ lessK (s.drop i) ∧ O.length ≤ i)
    case atStart => exact ⟨0, [], by omega, rfl, rfl, World.ownsRow_nil _ _ _ _, Below.refl _ _, rfl, Nat.le_refl _⟩
    case round =>
      obtain ⟨i, O, hi, rfl, rfl, ho, hb, ht, hol⟩ := hrel
      have HO := Lib.hid ho
      have HB := Lib.hid hb
      have HT := Lib.hid ht
      clear hb ht
      by_cases hlt : i < s.length
      case pos =>
        clear ho
        obtain ⟨b, o, e, hbb, x0, x1, x2, x3, x4⟩ := sti_cells (HROW.out.same (Same.of_below HB.out)) hlt
        cases e
        have hbw : b < wr.heap.size := Nat.lt_of_lt_of_le hbb HB.out.size
        have HT2 : Hid (∀ x, x = s[i] → lessK s = O ++ lessK (x :: s.drop (i + 1))) := fun x e => by rw [e, ← List.drop_eq_getElem_cons hlt]; exact HT.out
        have HNX : Hid (∀ h : i + 1 < s.length, wr.cell? ⟨b, o + (i + 1) * 5, none⟩ = some (.int .i64 (s[i + 1]).d) ∧ headRack (s.drop (i + 1)) = decide ((s[i + 1]).d = 6)) := fun h => by
          obtain ⟨b', o', e, _, y0, _⟩ := sti_cells (HROW.out.same (Same.of_below HB.out)) (k := i + 1) h
          cases e
          refine ⟨y0, ?_⟩
          rw [List.drop_eq_getElem_cons h]; rfl
        have HNO : Hid (¬ i + 1 < s.length → headRack (s.drop (i + 1)) = false) := fun h => by rw [List.drop_of_length_le (by omega)]; rfl
        generalize s[i] = x at *
        have HT3 := Lib.hid (HT2.out x rfl)
        generalize hm : s.drop (i + 1) = m at *
        have HM := Lib.hid hm
        clear hm
        clear HT HT2
        have HOA := Lib.hid (own_al HO.out (.cells #[.int .i64 x.d, .int .i64 x.b, .int .i64 x.n, .int .i64 x.c, .int .i64 x.t] 44))
        have HBB : Hid (Below wA.heap.size wA (wr.alloc (.cells #[.int .i64 x.d, .int .i64 x.b, .int .i64 x.n, .int .i64 x.c, .int .i64 x.t] 44))) := HB.out.alloc HB.out.size _
        have HY := Lib.hid (Arr.new wr #[.int .i64 x.d, .int .i64 x.b, .int .i64 x.n, .int .i64 x.c, .int .i64 x.t] 44)
        have hby : (O.length + 1) * 40 ≤ 140737488355328 := by omega
        have HOX : Hid (∀ (wz : World) (v : Value), wz.ownsRow wA.heap.size 44 5 v (O.length + 1) (O.flatMap Sti.cells ++ [.int .i64 x.d, .int .i64 x.b, .int .i64 x.n, .int .i64 x.c, .int .i64 x.t]) → wz.ownsRow wA.heap.size 44 5 v (O ++ [x]).length ((O ++ [x]).flatMap Sti.cells)) := fun w v h => by rw [List.length_append, List.length_singleton, List.flatMap_append]; simpa [Sti.cells] using h
        by_cases d6 : x.d = 6
        case neg =>
          have q6 : (x.d != 6) = true := by simpa using d6
          have HE : Hid (lessK s = (O ++ [x]) ++ lessK m) := by show _ = _; rw [HT3.out, lessK, if_neg (fun k => d6 k.1), List.append_assoc]; rfl
          clear d6
          have z0 := HY.out.cell (k := 0) rfl
          have z1 := HY.out.cell (k := 1) rfl
          have z2 := HY.out.cell (k := 2) rfl
          have z3 := HY.out.cell (k := 3) rfl
          have z4 := HY.out.cell (k := 4) rfl
          go_upto_region 11 with fail
          go_upto_region 12 with fail
          generalize wr.alloc (.cells #[.int .i64 x.d, .int .i64 x.b, .int .i64 x.n, .int .i64 x.c, .int .i64 x.t] 44) = w4 at *
          go_wp2_with (at_builtin
                       refine app_el T22 [.int .i64 x.d, .int .i64 x.b, .int .i64 x.n, .int .i64 x.c, .int .i64 x.t] HOA.out HBB.out (Nat.le_refl _) rfl rfl rfl rfl rfl ?_ ?_ ?_
                       rotate_right
                       intro v1 w5 hown1 hb1 hg1 ho1
                       have HF := Lib.hid (And.intro hown1 hb1)
                       clear hown1 hb1 hg1 ho1)
          all_goals (try (first | exact hby | (show ∀ u ∈ _, Value.oneCell' u = true; simp [Value.oneCell']) | (refine ⟨rfl, rfl, rfl, rfl, rfl⟩) | (simp [Value.oneCell'])))
          go_roundg (s.length - (i + 1))
          case measure => omega
          case rel => exact ⟨i + 1, O ++ [x], by omega, rfl, by go_num, HOX.out _ _ HF.out.1, HF.out.2, HM.out ▸ HE.out, by rw [List.length_append, List.length_singleton]; omega⟩
        have q6 : (x.d != 6) = false := by simpa using d6
        by_cases hn : i + 1 < s.length
        case neg =>
          have hh := HNO.out hn
          have qn : ((i : Int) + 1 == (s.length : Int)) = true := by simp; omega
          have HE : Hid (lessK s = (O ++ [x]) ++ lessK m) := by show _ = _; rw [HT3.out, lessK, if_neg (fun k => by rw [hh] at k; exact absurd k.2 (by simp)), List.append_assoc]; rfl
          clear d6 hh
          have z0 := HY.out.cell (k := 0) rfl
          have z1 := HY.out.cell (k := 1) rfl
          have z2 := HY.out.cell (k := 2) rfl
          have z3 := HY.out.cell (k := 3) rfl
          have z4 := HY.out.cell (k := 4) rfl
          go_upto_region 11 with fail
          go_upto_region 12 with fail
          generalize wr.alloc (.cells #[.int .i64 x.d, .int .i64 x.b, .int .i64 x.n, .int .i64 x.c, .int .i64 x.t] 44) = w4 at *
          go_wp2_with (at_builtin
                       refine app_el T22 [.int .i64 x.d, .int .i64 x.b, .int .i64 x.n, .int .i64 x.c, .int .i64 x.t] HOA.out HBB.out (Nat.le_refl _) rfl rfl rfl rfl rfl ?_ ?_ ?_
                       rotate_right
                       intro v1 w5 hown1 hb1 hg1 ho1
                       have HF := Lib.hid (And.intro hown1 hb1)
                       clear hown1 hb1 hg1 ho1)
          all_goals (try (first | exact hby | (show ∀ u ∈ _, Value.oneCell' u = true; simp [Value.oneCell']) | (refine ⟨rfl, rfl, rfl, rfl, rfl⟩) | (simp [Value.oneCell'])))
          go_roundg (s.length - (i + 1))
          case measure => omega
          case rel => exact ⟨i + 1, O ++ [x], by omega, rfl, by go_num, HOX.out _ _ HF.out.1, HF.out.2, HM.out ▸ HE.out, by rw [List.length_append, List.length_singleton]; omega⟩
        have qn : ((i : Int) + 1 == (s.length : Int)) = false := by simp; omega
        have hn2 : (i : Int) + 1 < (s.length : Int) := by omega
        obtain ⟨y0, hh⟩ := HNX.out hn
        have hyy := (World.cell?_alloc_lt wr (.cells #[.int .i64 x.d, .int .i64 x.b, .int .i64 x.n, .int .i64 x.c, .int .i64 x.t] 44) ⟨b, o + (i + 1) * 5, none⟩ hbw).trans y0
        generalize s[i + 1].d = yd at *
        by_cases e6 : yd = 6
        case neg =>
          have qy : (yd != 6) = true := by simpa using e6
          have HE : Hid (lessK s = (O ++ [x]) ++ lessK m) := by show _ = _; rw [HT3.out, lessK, if_neg (fun k => by rw [hh] at k; exact e6 (by simpa using k.2)), List.append_assoc]; rfl
          clear d6 hh e6 y0
          have z0 := HY.out.cell (k := 0) rfl
          have z1 := HY.out.cell (k := 1) rfl
          have z2 := HY.out.cell (k := 2) rfl
          have z3 := HY.out.cell (k := 3) rfl
          have z4 := HY.out.cell (k := 4) rfl
          go_upto_region 11 with fail
          go_upto_region 12 with fail
          generalize wr.alloc (.cells #[.int .i64 x.d, .int .i64 x.b, .int .i64 x.n, .int .i64 x.c, .int .i64 x.t] 44) = w4 at *
          go_wp2_with (at_builtin
                       refine app_el T22 [.int .i64 x.d, .int .i64 x.b, .int .i64 x.n, .int .i64 x.c, .int .i64 x.t] HOA.out HBB.out (Nat.le_refl _) rfl rfl rfl rfl rfl ?_ ?_ ?_
                       rotate_right
                       intro v1 w5 hown1 hb1 hg1 ho1
                       have HF := Lib.hid (And.intro hown1 hb1)
                       clear hown1 hb1 hg1 ho1)
          all_goals (try (first | exact hby | (show ∀ u ∈ _, Value.oneCell' u = true; simp [Value.oneCell']) | (refine ⟨rfl, rfl, rfl, rfl, rfl⟩) | (simp [Value.oneCell'])))
          go_roundg (s.length - (i + 1))
          case measure => omega
          case rel => exact ⟨i + 1, O ++ [x], by omega, rfl, by go_num, HOX.out _ _ HF.out.1, HF.out.2, HM.out ▸ HE.out, by rw [List.length_append, List.length_singleton]; omega⟩
        have qy : (yd != 6) = false := by simpa using e6
        have HE : Hid (lessK s = O ++ lessK m) := by show _ = _; rw [HT3.out, lessK, if_pos ⟨d6, by rw [hh]; simpa using e6⟩]
        clear d6 hh e6 y0
        have z0 := HY.out.cell (k := 0) rfl
        have z1 := HY.out.cell (k := 1) rfl
        have z2 := HY.out.cell (k := 2) rfl
        have z3 := HY.out.cell (k := 3) rfl
        have z4 := HY.out.cell (k := 4) rfl
        go_wp2_with fail
        go_roundg (s.length - (i + 1))
        case measure => omega
        case rel => exact ⟨i + 1, O, by omega, rfl, by go_num, HOA.out, HBB.out, HM.out ▸ HE.out, by omega⟩
      obtain rfl : i = s.length := by omega
      rw [List.drop_length] at HT
      have HS : Hid (lessK s = O) := by show _ = _; rw [HT.out, lessK, List.append_nil]
      rw [HS.out] at hll HTE
      obtain ⟨Ae, ce, rfl, he1, he2⟩ := own_form ho
      have HROW2 : Hid (Row wr (fun b => b < wr.heap.size) 5 Ae O.length (O.flatMap Sti.cells)) := (Row.of_own ho).mono fun b hb => hb.2
      have HBW2 : Hid (Below w.heap.size w wr) := HBW.out.trans (HB.out.mono HBW.out.size)
      unfold maxLen at he2
      clear ho HT HS HO HB hol HROW HBW
      generalize O = t at *
      generalize wr = wB at *
      go_wp2_with fail
      go_loopg [5, 10, 60] t.length (fun gg out rk ctr wr => ∃ (i : Nat) (O : List Sti) (r : Int), i ≤ t.length ∧ gg = t.length - i ∧ ctr = .int .i64 i ∧ rk = .int .i64 r ∧ wr.ownsRow wB.heap.size 44 5 out O.length (O.flatMap Sti.cells) ∧ Below wB.heap.size wB wr ∧ outK 0 t = O ++ outK r (t.drop i) ∧ O.length ≤ i)
      case atStart => exact ⟨0, [], 0, by omega, rfl, rfl, rfl, World.ownsRow_nil _ _ _ _, Below.refl _ _, rfl, Nat.le_refl _⟩
      case round =>
        obtain ⟨i, O, r, hi, rfl, rfl, rfl, ho, hb, ht, hol⟩ := hrel
        have HO := Lib.hid ho
        have HB := Lib.hid hb
        have HT := Lib.hid ht
        clear hb ht ho
        by_cases hlt : i < t.length
        case neg =>
          obtain rfl : i = t.length := by omega
          rw [List.drop_length] at HT
          have HS : Hid (tidyK 0 l = O) := by show _ = _; rw [← HTE.out, HT.out, outK, List.append_nil]
          have HBF : Hid (Below w.heap.size w wr) := HBW2.out.trans (HB.out.mono HBW2.out.size)
          go_wp2_with fail
          go_ret
          rw [HS.out]
          exact ⟨_, rfl, own_base HO.out HBW2.out.size, HBF.out⟩
        obtain ⟨b, o, e, hbb, x0, x1, x2, x3, x4⟩ := sti_cells (HROW2.out.same (Same.of_below HB.out)) hlt
        cases e
        have HT2 : Hid (∀ x, x = t[i] → outK 0 t = O ++ outK r (x :: t.drop (i + 1))) := fun x e => by rw [e, ← List.drop_eq_getElem_cons hlt]; exact HT.out
        generalize t[i] = x at *
        have HT3 := Lib.hid (HT2.out x rfl)
        clear HT HT2
        have HOA := Lib.hid (own_al HO.out (.cells #[.int .i64 x.d, .int .i64 x.b, .int .i64 x.n, .int .i64 x.c, .int .i64 x.t] 44))
        have HBB : Hid (Below wB.heap.size wB (wr.alloc (.cells #[.int .i64 x.d, .int .i64 x.b, .int .i64 x.n, .int .i64 x.c, .int .i64 x.t] 44))) := HB.out.alloc HB.out.size _
        have HY := Lib.hid (Arr.new wr #[.int .i64 x.d, .int .i64 x.b, .int .i64 x.n, .int .i64 x.c, .int .i64 x.t] 44)
        have hby : (O.length + 1) * 40 ≤ 140737488355328 := by omega
        have HOX : Hid (∀ (wz : World) (v : Value), wz.ownsRow wB.heap.size 44 5 v (O.length + 1) (O.flatMap Sti.cells ++ [.int .i64 x.d, .int .i64 x.b, .int .i64 x.n, .int .i64 x.c, .int .i64 x.t]) → wz.ownsRow wB.heap.size 44 5 v (O ++ [x]).length ((O ++ [x]).flatMap Sti.cells)) := fun w v h => by rw [List.length_append, List.length_singleton, List.flatMap_append]; simpa [Sti.cells] using h
        by_cases d6 : x.d = 6
        case neg =>
          have q6 : (x.d == 6) = false := by simpa using d6
          have HE : Hid (outK 0 t = (O ++ [x]) ++ outK r (t.drop (i + 1))) := by show _ = _; rw [HT3.out, outK, if_neg d6, List.append_assoc]; rfl
          clear d6
          have z0 := HY.out.cell (k := 0) rfl
          have z1 := HY.out.cell (k := 1) rfl
          have z2 := HY.out.cell (k := 2) rfl
          have z3 := HY.out.cell (k := 3) rfl
          have z4 := HY.out.cell (k := 4) rfl
          go_upto_region 21 with fail
          generalize wr.alloc (.cells #[.int .i64 x.d, .int .i64 x.b, .int .i64 x.n, .int .i64 x.c, .int .i64 x.t] 44) = w4 at *
          go_wp2_with (at_builtin
                       refine app_el T22 [.int .i64 x.d, .int .i64 x.b, .int .i64 x.n, .int .i64 x.c, .int .i64 x.t] HOA.out HBB.out (Nat.le_refl _) rfl rfl rfl rfl rfl ?_ ?_ ?_
                       rotate_right
                       intro v1 w5 hown1 hb1 hg1 ho1
                       have HF := Lib.hid (And.intro hown1 hb1)
                       clear hown1 hb1 hg1 ho1)
          all_goals (try (first | exact hby | (show ∀ u ∈ _, Value.oneCell' u = true; simp [Value.oneCell']) | (refine ⟨rfl, rfl, rfl, rfl, rfl⟩) | (simp [Value.oneCell'])))
          go_roundg (t.length - (i + 1))
          case measure => omega
          case rel => exact ⟨i + 1, O ++ [x], r, by omega, rfl, by go_num, rfl, HOX.out _ _ HF.out.1, HF.out.2, HE.out, by rw [List.length_append, List.length_singleton]; omega⟩
        have q6 : (x.d == 6) = true := by simpa using d6
        by_cases dt : x.t = r
        case pos =>
          have qt : (x.t == r) = true := by simpa using dt
          have HE : Hid (outK 0 t = O ++ outK r (t.drop (i + 1))) := by show _ = _; rw [HT3.out, outK, if_pos d6, if_pos dt]
          clear d6 dt
          have z0 := HY.out.cell (k := 0) rfl
          have z1 := HY.out.cell (k := 1) rfl
          have z2 := HY.out.cell (k := 2) rfl
          have z3 := HY.out.cell (k := 3) rfl
          have z4 := HY.out.cell (k := 4) rfl
          go_wp2_with fail
          go_roundg (t.length - (i + 1))
          case measure => omega
          case rel => exact ⟨i + 1, O, r, by omega, rfl, by go_num, rfl, HOA.out, HBB.out, HE.out, by omega⟩
        have qt : (x.t == r) = false := by simpa using dt
        have HE : Hid (outK 0 t = (O ++ [x]) ++ outK x.t (t.drop (i + 1))) := by show _ = _; rw [HT3.out, outK, if_pos d6, if_neg dt, List.append_assoc]; rfl
        clear d6 dt
        have z0 := HY.out.cell (k := 0) rfl
        have z1 := HY.out.cell (k := 1) rfl
        have z2 := HY.out.cell (k := 2) rfl
        have z3 := HY.out.cell (k := 3) rfl
        have z4 := HY.out.cell (k := 4) rfl
        go_upto_region 21 with fail
        generalize wr.alloc (.cells #[.int .i64 x.d, .int .i64 x.b, .int .i64 x.n, .int .i64 x.c, .int .i64 x.t] 44) = w4 at *
        go_wp2_with (at_builtin
                     refine app_el T22 [.int .i64 x.d, .int .i64 x.b, .int .i64 x.n, .int .i64 x.c, .int .i64 x.t] HOA.out HBB.out (Nat.le_refl _) rfl rfl rfl rfl rfl ?_ ?_ ?_
                     rotate_right
                     intro v1 w5 hown1 hb1 hg1 ho1
                     have HF := Lib.hid (And.intro hown1 hb1)
                     clear hown1 hb1 hg1 ho1)
        all_goals (try (first | exact hby | (show ∀ u ∈ _, Value.oneCell' u = true; simp [Value.oneCell']) | (refine ⟨rfl, rfl, rfl, rfl, rfl⟩) | (simp [Value.oneCell'])))
        go_roundg (t.length - (i + 1))
        case measure => omega
        case rel => exact ⟨i + 1, O ++ [x], x.t, by omega, rfl, by go_num, rfl, HOX.out _ _ HF.out.1, HF.out.2, HE.out, by rw [List.length_append, List.length_singleton]; omega⟩
end Go.Proofs.Ytaacfjeddoekfaa
