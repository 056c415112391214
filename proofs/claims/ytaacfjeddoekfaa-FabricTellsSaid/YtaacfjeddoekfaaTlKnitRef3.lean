import Derived.Test.YtaacfjeddoekfaaTl9
/- Chapter 11: the reference: what is wrong with a stitch. (Printed by gen_refwrong.py.) -/
namespace Go.Proofs.Ytaacfjeddoekfaa
open Go.RowKit
set_option linter.unusedVariables false
set_option linter.unusedSimpArgs false

/-- the reference's state in memory -/
structure RS (w : World) (N : Nat) (k : KS) (hs : List Hd) (vl vh vo : Value) : Prop where
  loops : LoopsRd w (fun b => b < w.heap.size) vl k.loops
  held : Helds w (fun b => b < w.heap.size) vh hs
  loose : Ints w (fun b => b < w.heap.size) vo k.loose
  on : ∀ b n, heldOn hs b n = k.on b n
  len : hs.length ≤ k.done
  nl : NilOr vl
  nh : NilOr vh
  no : NilOr vo
theorem RS.keep {w w' : World} {N : Nat} {k : KS} {hs : List Hd} {vl vh vo : Value} (h : RS w N k hs vl vh vo) (hb : Below w.heap.size w w') : RS w' N k hs vl vh vo :=
  ⟨(h.loops.same (Same.of_below hb)).mono fun i hi => Nat.lt_of_lt_of_le hi hb.size, (h.held.same (Same.of_below hb)).mono fun i hi => Nat.lt_of_lt_of_le hi hb.size,
    (h.loose.same (Same.of_below hb)).mono fun i hi => Nat.lt_of_lt_of_le hi hb.size, h.on, h.len, h.nl, h.nh, h.no⟩
theorem LoopsRd.sl {w : World} {S : Nat → Prop} {v : Value} {ls : List Lop} (h : LoopsRd w S v ls) : ∃ A c, v = .slice A ls.length c ∧ ls.length ≤ c ∧ c ≤ maxLen := by obtain ⟨A, c, tv, e, h1, h2, _⟩ := h; exact ⟨A, c, e, h1, h2⟩
theorem Helds.sl {w : World} {S : Nat → Prop} {v : Value} {ls : List Hd} (h : Helds w S v ls) : ∃ A c, v = .slice A ls.length c ∧ ls.length ≤ c ∧ c ≤ maxLen := by obtain ⟨A, c, e, h1, h2, _⟩ := h; exact ⟨A, c, e, h1, h2⟩
theorem Ints.sl {w : World} {S : Nat → Prop} {v : Value} {ls : List Int} (h : Ints w S v ls) : ∃ A c, v = .slice A ls.length c ∧ ls.length ≤ c ∧ c ≤ maxLen := by obtain ⟨A, c, e, h1, h2, _⟩ := h; exact ⟨A, c, e, h1, h2⟩
/-- what stands behind calls: the state's box, the stitch's box -/
structure RX (w w1 : World) (xs ss : List Value) : Prop where
  below : Below w.heap.size w w1
  a0 : Arr w1 w.heap.size 58 xs
  a1 : Arr w1 (w.heap.size + 1) 44 ss
theorem RX.start (w : World) (xs ss : Array Value) : RX w ((w.alloc (.cells xs 58)).alloc (.cells ss 44)) xs.toList ss.toList :=
  ⟨((Below.refl _ _).alloc (Nat.le_refl _) _).alloc (by simp) _, (Arr.new w xs 58).alloc _, arr_new2 w _ ss 44⟩
theorem RX.next {w w1 w2 : World} {xs ss : List Value} (h : RX w w1 xs ss) (hb : Below w1.heap.size w1 w2) : RX w w2 xs ss :=
  ⟨h.below.trans (hb.mono h.below.size), h.a0.of_eq (hb.block _ h.a0.lt), h.a1.of_eq (hb.block _ h.a1.lt)⟩
theorem ret_e' {a b : Int} (h : b = a) : Ending.returned (.int .i64 a) = .returned (.int .i64 b) := by rw [h]

set_option maxRecDepth 100000 in
set_option maxHeartbeats 8000000 in
theorem refWrong_any {w : World} {N : Nat} {k : KS} {hs : List Hd} {vl vh vo : Value} (h : RS w N k hs vl vh vo) (hN : N ≤ 128) (hi : Kinv N k) (x : Sti) :
    Calls Try.prog 30 #[sval N vl vh vo k.rack (k.done : Int), .agg x.cells.toArray] w fun e w' => e = .returned (.int .i64 (wrongK N k x)) ∧ Below w.heap.size w w' := by
  have HM := Lib.hid h
  have HI := Lib.hid hi
  have hd := hi.d
  have hlen := h.len
  obtain ⟨A0, n0, rfl, _, _⟩ := h.loops.sl
  obtain ⟨A1, n1, rfl, _, _⟩ := h.held.sl
  obtain ⟨A2, n2, rfl, _, _⟩ := h.loose.sl
  clear h hi
  obtain ⟨d, b, n, c, t⟩ := x
  show Calls Try.prog 30 #[.agg #[.int .i64 N, .slice A0 k.loops.length n0, .slice A1 hs.length n1, .slice A2 k.loose.length n2, .int .i64 k.rack, .int .i64 (k.done : Int)], .agg #[.int .i64 d, .int .i64 b, .int .i64 n, .int .i64 c, .int .i64 t]] w _
  have HX0 := Lib.hid (RX.start w #[.int .i64 N, .slice A0 k.loops.length n0, .slice A1 hs.length n1, .slice A2 k.loose.length n2, .int .i64 k.rack, .int .i64 (k.done : Int)] #[.int .i64 d, .int .i64 b, .int .i64 n, .int .i64 c, .int .i64 t])
  obtain ⟨hr1, hr2⟩ := HI.out.r
  by_cases h1 : d < 1
  · have HE : Hid (wrongK N k ⟨d, b, n, c, t⟩ = 1) := by show _ = _; unfold wrongK; rw [if_pos (.inl h1)]
    go_enter Try.func30, Try.ntmps30
    go_wp2_with fail
    go_ret
    exact ⟨ret_e' HE.out, HX0.out.below⟩
  by_cases h2 : 6 < d
  · have HE : Hid (wrongK N k ⟨d, b, n, c, t⟩ = 1) := by show _ = _; unfold wrongK; rw [if_pos (.inr h2)]
    go_enter Try.func30, Try.ntmps30
    go_wp2_with fail
    go_ret
    exact ⟨ret_e' HE.out, HX0.out.below⟩
  by_cases h3 : 4096 ≤ k.done
  · have HE : Hid (wrongK N k ⟨d, b, n, c, t⟩ = 4) := by show _ = _; unfold wrongK; rw [if_neg (by dsimp only; omega), if_pos (by omega)]
    have h3' : (k.done : Int) ≥ 4096 := by omega
    go_enter Try.func30, Try.ntmps30
    go_wp2_with fail
    go_ret
    exact ⟨ret_e' HE.out, HX0.out.below⟩
  have h3' : ¬ (k.done : Int) ≥ 4096 := by omega
  have HW : Hid (wrongK N k ⟨d, b, n, c, t⟩ = if d = 6 then (if t < -4 ∨ 4 < t then 3 else 0) else
      if ¬ There N b n then 3 else
      if d ≤ 3 ∧ (c < 0 ∨ 7 < c) then 3 else
      if d = 4 ∧ ¬ There N (fB b) (fN k.rack b n) then 3 else
      if d = 3 then 0 else
      if d = 2 then (if 8 ≤ (k.on b n).length then 5 else 0) else
      if (k.on b n).length = 0 then 6 else
      if d = 4 ∧ 8 < (k.on b n).length + (k.on (fB b) (fN k.rack b n)).length then 5 else 0) := by
    show _ = _
    unfold wrongK
    rw [if_neg (by dsimp only; omega), if_neg (by omega)]
    rfl
  clear h3
  by_cases h6 : d = 6
  · subst h6
    by_cases h8 : 4 < t
    · have HE : Hid (wrongK N k ⟨6, b, n, c, t⟩ = 3) := by show _ = _; rw [HW.out, if_pos rfl, if_pos (.inr h8)]
      go_enter Try.func30, Try.ntmps30
      go_wp2_with fail
      go_ret
      exact ⟨ret_e' HE.out, HX0.out.below⟩
    by_cases h7 : t < -4
    · have HE : Hid (wrongK N k ⟨6, b, n, c, t⟩ = 3) := by show _ = _; rw [HW.out, if_pos rfl, if_pos (.inl h7)]
      go_enter Try.func30, Try.ntmps30
      go_wp2_with fail
      go_ret
      exact ⟨ret_e' HE.out, HX0.out.below⟩
    · have HE : Hid (wrongK N k ⟨6, b, n, c, t⟩ = 0) := by show _ = _; rw [HW.out, if_pos rfl, if_neg (by omega)]
      go_enter Try.func30, Try.ntmps30
      go_wp2_with fail
      go_ret
      exact ⟨ret_e' HE.out, HX0.out.below⟩
  have h6b : (d == 6) = false := by simpa using h6
  have HW2 := Lib.hid (HW.out.trans (if_neg h6))
  clear HW
  by_cases ht : There N b n
  case neg =>
    have HE : Hid (wrongK N k ⟨d, b, n, c, t⟩ = 3) := HW2.out.trans (if_pos ht)
    have hcs : (b ≠ 0 ∧ b ≠ 1) ∨ (b = 0 ∧ n < 0) ∨ (b = 0 ∧ 0 ≤ n ∧ n ≥ N) ∨ (b = 1 ∧ n < 0) ∨ (b = 1 ∧ 0 ≤ n ∧ n ≥ N) := by unfold There at ht; omega
    clear ht
    rcases hcs with ⟨q1, q2⟩ | ⟨rfl, q1⟩ | ⟨rfl, q1, q2⟩ | ⟨rfl, q1⟩ | ⟨rfl, q1, q2⟩
    · have q3 : (b != 0) = true := by simpa using q1
      have q4 : (b != 1) = true := by simpa using q2
      clear q1 q2
      go_enter Try.func30, Try.ntmps30
      go_wp2_with fail
      go_ret
      exact ⟨ret_e' HE.out, HX0.out.below⟩
    all_goals
      go_enter Try.func30, Try.ntmps30
      go_wp2_with fail
      go_ret
      exact ⟨ret_e' HE.out, HX0.out.below⟩
  obtain ⟨j, rfl⟩ : ∃ j : Nat, n = (j : Int) := ⟨n.toNat, by have := ht.2.1; omega⟩
  have hw2 := HW2.out.trans (if_neg (fun c => c ht))
  have HW3 : Hid (wrongK N k ⟨d, b, (j : Int), c, t⟩ = _) := hw2
  clear HW2 hw2
  have HT := Lib.hid ht
  have hj : j < N := by have := ht.2.2; omega
  have hnn : ¬ (j : Int) ≥ (N : Int) := by omega
  have hbb := ht.1
  clear ht
  have hL1 := HI.out.on b (j : Int)
  have hL2 := HI.out.on (fB b) (fN k.rack b (j : Int))
  have HON : Hid (∀ w', Below w.heap.size w w' → ∀ b n, Calls Try.prog 51 #[.agg #[.int .i64 N, .slice A0 k.loops.length n0, .slice A1 hs.length n1, .slice A2 k.loose.length n2, .int .i64 k.rack, .int .i64 (k.done : Int)], .int .i64 b, .int .i64 n] w' fun e w'' => ∃ A c, e = .returned (.slice A (k.on b n).length c) ∧ Below w'.heap.size w' w'') := fun w' hb b n => by
    refine (On_any (N := N) (r := k.rack) (d := (k.done : Int)) (b := b) (n := n) w' ⟨_, _, _, rfl⟩ (HM.out.keep hb).held ⟨_, _, _, rfl⟩ (by have := HM.out.len; omega)).mono ?_
    rintro e w'' ⟨u, rfl, hu, hb2, _⟩
    rw [HM.out.on] at hu
    obtain ⟨A, c, rfl, _⟩ := hu.sl
    exact ⟨A, c, rfl, hb2⟩
  have hcs : d = 1 ∨ d = 2 ∨ d = 3 ∨ d = 4 ∨ d = 5 := by omega
  have hb0 : (b != 0) = false ∨ ((b != 0) = true ∧ (b != 1) = false) := by rcases hbb with e | e <;> subst e <;> simp
  clear h1 h2 h6
  rcases hcs with rfl | rfl | rfl | rfl | rfl
  · by_cases hc1 : c < 0
    · have HE : Hid (wrongK N k ⟨1, b, (j : Int), c, t⟩ = 3) := HW3.out.trans (if_pos ⟨by decide, .inl hc1⟩)
      rcases hb0 with q1 | ⟨q1, q2⟩
      all_goals
        go_enter Try.func30, Try.ntmps30
        go_wp2_with fail
        go_ret
        exact ⟨ret_e' HE.out, HX0.out.below⟩
    by_cases hc2 : 7 < c
    · have HE : Hid (wrongK N k ⟨1, b, (j : Int), c, t⟩ = 3) := HW3.out.trans (if_pos ⟨by decide, .inr hc2⟩)
      rcases hb0 with q1 | ⟨q1, q2⟩
      all_goals
        go_enter Try.func30, Try.ntmps30
        go_wp2_with fail
        go_ret
        exact ⟨ret_e' HE.out, HX0.out.below⟩
    have HW4 : Hid (wrongK N k ⟨1, b, (j : Int), c, t⟩ = _) := (HW3.out.trans (if_neg (by omega))).trans (if_neg (fun q => absurd q.1 (by decide)))
    clear HW3
    have HW5 : Hid (wrongK N k ⟨1, b, (j : Int), c, t⟩ = _) := (HW4.out.trans (if_neg (by decide))).trans (if_neg (by decide))
    by_cases hz : (k.on b (j : Int)).length = 0
    · have HE : Hid (wrongK N k ⟨1, b, (j : Int), c, t⟩ = 6) := HW5.out.trans (if_pos hz)
      rcases hb0 with q1 | ⟨q1, q2⟩
      all_goals
        go_enter Try.func30, Try.ntmps30
        go_wp2_with fail
        refine (HON.out _ HX0.out.below b (j : Int)).mono ?_
        rintro e w1 ⟨Au, cu, rfl, hb1⟩
        have HX1 := Lib.hid (HX0.out.next hb1)
        clear hb1
        have x0 := HX1.out.a0.cell (k := 0) rfl
        have x1 := HX1.out.a0.cell (k := 1) rfl
        have x2 := HX1.out.a0.cell (k := 2) rfl
        have x3 := HX1.out.a0.cell (k := 3) rfl
        have x4 := HX1.out.a0.cell (k := 4) rfl
        have x5 := HX1.out.a0.cell (k := 5) rfl
        have y0 := HX1.out.a1.cell (k := 0) rfl
        have y1 := HX1.out.a1.cell (k := 1) rfl
        have y2 := HX1.out.a1.cell (k := 2) rfl
        rw [hz]
        go_wp2_with fail
        go_ret
        exact ⟨ret_e' HE.out, HX1.out.below⟩
    · have HE : Hid (wrongK N k ⟨1, b, (j : Int), c, t⟩ = 0) := (HW5.out.trans (if_neg hz)).trans (if_neg (fun q => absurd q.1 (by decide)))
      have hzb : (((k.on b (j : Int)).length : Int) == 0) = false := by rw [beq_eq_false_iff_ne]; omega
      rcases hb0 with q1 | ⟨q1, q2⟩
      all_goals
        go_enter Try.func30, Try.ntmps30
        go_wp2_with fail
        refine (HON.out _ HX0.out.below b (j : Int)).mono ?_
        rintro e w1 ⟨Au, cu, rfl, hb1⟩
        have HX1 := Lib.hid (HX0.out.next hb1)
        clear hb1
        have x0 := HX1.out.a0.cell (k := 0) rfl
        have x1 := HX1.out.a0.cell (k := 1) rfl
        have x2 := HX1.out.a0.cell (k := 2) rfl
        have x3 := HX1.out.a0.cell (k := 3) rfl
        have x4 := HX1.out.a0.cell (k := 4) rfl
        have x5 := HX1.out.a0.cell (k := 5) rfl
        have y0 := HX1.out.a1.cell (k := 0) rfl
        have y1 := HX1.out.a1.cell (k := 1) rfl
        have y2 := HX1.out.a1.cell (k := 2) rfl
        go_wp2_with fail
        go_ret
        exact ⟨ret_e' HE.out, HX1.out.below⟩
  · by_cases hc1 : c < 0
    · have HE : Hid (wrongK N k ⟨2, b, (j : Int), c, t⟩ = 3) := HW3.out.trans (if_pos ⟨by decide, .inl hc1⟩)
      rcases hb0 with q1 | ⟨q1, q2⟩
      all_goals
        go_enter Try.func30, Try.ntmps30
        go_wp2_with fail
        go_ret
        exact ⟨ret_e' HE.out, HX0.out.below⟩
    by_cases hc2 : 7 < c
    · have HE : Hid (wrongK N k ⟨2, b, (j : Int), c, t⟩ = 3) := HW3.out.trans (if_pos ⟨by decide, .inr hc2⟩)
      rcases hb0 with q1 | ⟨q1, q2⟩
      all_goals
        go_enter Try.func30, Try.ntmps30
        go_wp2_with fail
        go_ret
        exact ⟨ret_e' HE.out, HX0.out.below⟩
    have HW4 : Hid (wrongK N k ⟨2, b, (j : Int), c, t⟩ = _) := (HW3.out.trans (if_neg (by omega))).trans (if_neg (fun q => absurd q.1 (by decide)))
    clear HW3
    have HW5 : Hid (wrongK N k ⟨2, b, (j : Int), c, t⟩ = _) := (HW4.out.trans (if_neg (by decide))).trans (if_pos rfl)
    by_cases hz : 8 ≤ (k.on b (j : Int)).length
    · have HE : Hid (wrongK N k ⟨2, b, (j : Int), c, t⟩ = 5) := HW5.out.trans (if_pos hz)
      have hzb : ((k.on b (j : Int)).length : Int) ≥ 8 := by omega
      rcases hb0 with q1 | ⟨q1, q2⟩
      all_goals
        go_enter Try.func30, Try.ntmps30
        go_wp2_with fail
        refine (HON.out _ HX0.out.below b (j : Int)).mono ?_
        rintro e w1 ⟨Au, cu, rfl, hb1⟩
        have HX1 := Lib.hid (HX0.out.next hb1)
        clear hb1
        have x0 := HX1.out.a0.cell (k := 0) rfl
        have x1 := HX1.out.a0.cell (k := 1) rfl
        have x2 := HX1.out.a0.cell (k := 2) rfl
        have x3 := HX1.out.a0.cell (k := 3) rfl
        have x4 := HX1.out.a0.cell (k := 4) rfl
        have x5 := HX1.out.a0.cell (k := 5) rfl
        have y0 := HX1.out.a1.cell (k := 0) rfl
        have y1 := HX1.out.a1.cell (k := 1) rfl
        have y2 := HX1.out.a1.cell (k := 2) rfl
        go_wp2_with fail
        go_ret
        exact ⟨ret_e' HE.out, HX1.out.below⟩
    · have HE : Hid (wrongK N k ⟨2, b, (j : Int), c, t⟩ = 0) := HW5.out.trans (if_neg hz)
      have hzb : ¬ ((k.on b (j : Int)).length : Int) ≥ 8 := by omega
      rcases hb0 with q1 | ⟨q1, q2⟩
      all_goals
        go_enter Try.func30, Try.ntmps30
        go_wp2_with fail
        refine (HON.out _ HX0.out.below b (j : Int)).mono ?_
        rintro e w1 ⟨Au, cu, rfl, hb1⟩
        have HX1 := Lib.hid (HX0.out.next hb1)
        clear hb1
        have x0 := HX1.out.a0.cell (k := 0) rfl
        have x1 := HX1.out.a0.cell (k := 1) rfl
        have x2 := HX1.out.a0.cell (k := 2) rfl
        have x3 := HX1.out.a0.cell (k := 3) rfl
        have x4 := HX1.out.a0.cell (k := 4) rfl
        have x5 := HX1.out.a0.cell (k := 5) rfl
        have y0 := HX1.out.a1.cell (k := 0) rfl
        have y1 := HX1.out.a1.cell (k := 1) rfl
        have y2 := HX1.out.a1.cell (k := 2) rfl
        go_wp2_with fail
        go_ret
        exact ⟨ret_e' HE.out, HX1.out.below⟩
  · by_cases hc1 : c < 0
    · have HE : Hid (wrongK N k ⟨3, b, (j : Int), c, t⟩ = 3) := HW3.out.trans (if_pos ⟨by decide, .inl hc1⟩)
      rcases hb0 with q1 | ⟨q1, q2⟩
      all_goals
        go_enter Try.func30, Try.ntmps30
        go_wp2_with fail
        go_ret
        exact ⟨ret_e' HE.out, HX0.out.below⟩
    by_cases hc2 : 7 < c
    · have HE : Hid (wrongK N k ⟨3, b, (j : Int), c, t⟩ = 3) := HW3.out.trans (if_pos ⟨by decide, .inr hc2⟩)
      rcases hb0 with q1 | ⟨q1, q2⟩
      all_goals
        go_enter Try.func30, Try.ntmps30
        go_wp2_with fail
        go_ret
        exact ⟨ret_e' HE.out, HX0.out.below⟩
    have HW4 : Hid (wrongK N k ⟨3, b, (j : Int), c, t⟩ = _) := (HW3.out.trans (if_neg (by omega))).trans (if_neg (fun q => absurd q.1 (by decide)))
    clear HW3
    have HE : Hid (wrongK N k ⟨3, b, (j : Int), c, t⟩ = 0) := HW4.out.trans (if_pos rfl)
    rcases hb0 with q1 | ⟨q1, q2⟩
    all_goals
      go_enter Try.func30, Try.ntmps30
      go_wp2_with fail
      refine (HON.out _ HX0.out.below b (j : Int)).mono ?_
      rintro e w1 ⟨Au, cu, rfl, hb1⟩
      have HX1 := Lib.hid (HX0.out.next hb1)
      clear hb1
      have x0 := HX1.out.a0.cell (k := 0) rfl
      have x1 := HX1.out.a0.cell (k := 1) rfl
      have x2 := HX1.out.a0.cell (k := 2) rfl
      have x3 := HX1.out.a0.cell (k := 3) rfl
      have x4 := HX1.out.a0.cell (k := 4) rfl
      have x5 := HX1.out.a0.cell (k := 5) rfl
      have y0 := HX1.out.a1.cell (k := 0) rfl
      have y1 := HX1.out.a1.cell (k := 1) rfl
      have y2 := HX1.out.a1.cell (k := 2) rfl
      go_wp2_with fail
      go_ret
      exact ⟨ret_e' HE.out, HX1.out.below⟩
  · have HW4 : Hid (wrongK N k ⟨4, b, (j : Int), c, t⟩ = _) := HW3.out.trans (if_neg (by omega))
    clear HW3
    by_cases hf : There N (fB b) (fN k.rack b (j : Int))
    case neg =>
      have HE : Hid (wrongK N k ⟨4, b, (j : Int), c, t⟩ = 3) := HW4.out.trans (if_pos ⟨rfl, hf⟩)
      have hfo : fN k.rack b (j : Int) < 0 ∨ (0 ≤ fN k.rack b (j : Int) ∧ fN k.rack b (j : Int) ≥ (N : Int)) := by
        unfold There at hf
        have := fB_cases b
        omega
      clear hf
      generalize hfn : fN k.rack b (j : Int) = fn at *
      have HFN := Lib.hid hfn
      clear hfn
      rcases hfo with f1 | ⟨f1, f2⟩
      all_goals
        rcases hb0 with q1 | ⟨q1, q2⟩
        all_goals
          go_enter Try.func30, Try.ntmps30
          go_wp2_with fail
          refine (HON.out _ HX0.out.below b (j : Int)).mono ?_
          rintro e w1 ⟨Au, cu, rfl, hb1⟩
          have HX1 := Lib.hid (HX0.out.next hb1)
          clear hb1
          have x0 := HX1.out.a0.cell (k := 0) rfl
          have x1 := HX1.out.a0.cell (k := 1) rfl
          have x2 := HX1.out.a0.cell (k := 2) rfl
          have x3 := HX1.out.a0.cell (k := 3) rfl
          have x4 := HX1.out.a0.cell (k := 4) rfl
          have x5 := HX1.out.a0.cell (k := 5) rfl
          have y0 := HX1.out.a1.cell (k := 0) rfl
          have y1 := HX1.out.a1.cell (k := 1) rfl
          have y2 := HX1.out.a1.cell (k := 2) rfl
          go_wp2_with fail
          refine (Facing_any (N := N) (r := k.rack) (d := (k.done : Int)) (b := b) (n := (j : Int)) _ ⟨_, _, _, rfl⟩ ⟨_, _, _, rfl⟩ ⟨_, _, _, rfl⟩ ⟨hr1, hr2⟩ (by unfold big; omega)).mono ?_
          rintro e w2 ⟨rfl, hb2⟩
          have HX2 := Lib.hid (HX1.out.next hb2)
          clear hb2 x0 x1 x2 x3 x4 x5 y0 y1 y2
          have x0 := HX2.out.a0.cell (k := 0) rfl
          have x1 := HX2.out.a0.cell (k := 1) rfl
          have x2 := HX2.out.a0.cell (k := 2) rfl
          have x3 := HX2.out.a0.cell (k := 3) rfl
          have x4 := HX2.out.a0.cell (k := 4) rfl
          have x5 := HX2.out.a0.cell (k := 5) rfl
          have y0 := HX2.out.a1.cell (k := 0) rfl
          rw [HFN.out]
          go_wp2_with fail
          go_ret
          exact ⟨ret_e' HE.out, HX2.out.below⟩
    have HF := Lib.hid hf
    have HW5 : Hid (wrongK N k ⟨4, b, (j : Int), c, t⟩ = _) := (((HW4.out.trans (if_neg (fun q => q.2 hf))).trans (if_neg (by decide))).trans (if_neg (by decide)))
    obtain ⟨f1, f2⟩ := hf.2
    have f3 : ¬ fN k.rack b (j : Int) ≥ (N : Int) := by omega
    clear hf HW4
    generalize hfn : fN k.rack b (j : Int) = fn at *
    have HFN := Lib.hid hfn
    clear hfn
    by_cases hz : (k.on b (j : Int)).length = 0
    · have HE : Hid (wrongK N k ⟨4, b, (j : Int), c, t⟩ = 6) := HW5.out.trans (if_pos hz)
      rcases hb0 with q1 | ⟨q1, q2⟩
      all_goals
        go_enter Try.func30, Try.ntmps30
        go_wp2_with fail
        refine (HON.out _ HX0.out.below b (j : Int)).mono ?_
        rintro e w1 ⟨Au, cu, rfl, hb1⟩
        have HX1 := Lib.hid (HX0.out.next hb1)
        clear hb1
        have x0 := HX1.out.a0.cell (k := 0) rfl
        have x1 := HX1.out.a0.cell (k := 1) rfl
        have x2 := HX1.out.a0.cell (k := 2) rfl
        have x3 := HX1.out.a0.cell (k := 3) rfl
        have x4 := HX1.out.a0.cell (k := 4) rfl
        have x5 := HX1.out.a0.cell (k := 5) rfl
        have y0 := HX1.out.a1.cell (k := 0) rfl
        have y1 := HX1.out.a1.cell (k := 1) rfl
        have y2 := HX1.out.a1.cell (k := 2) rfl
        rw [hz]
        go_wp2_with fail
        refine (Facing_any (N := N) (r := k.rack) (d := (k.done : Int)) (b := b) (n := (j : Int)) _ ⟨_, _, _, rfl⟩ ⟨_, _, _, rfl⟩ ⟨_, _, _, rfl⟩ ⟨hr1, hr2⟩ (by unfold big; omega)).mono ?_
        rintro e w2 ⟨rfl, hb2⟩
        have HX2 := Lib.hid (HX1.out.next hb2)
        clear hb2 x0 x1 x2 x3 x4 x5 y0 y1 y2
        have x0 := HX2.out.a0.cell (k := 0) rfl
        have x1 := HX2.out.a0.cell (k := 1) rfl
        have x2 := HX2.out.a0.cell (k := 2) rfl
        have x3 := HX2.out.a0.cell (k := 3) rfl
        have x4 := HX2.out.a0.cell (k := 4) rfl
        have x5 := HX2.out.a0.cell (k := 5) rfl
        have y0 := HX2.out.a1.cell (k := 0) rfl
        rw [HFN.out]
        go_wp2_with fail
        go_ret
        exact ⟨ret_e' HE.out, HX2.out.below⟩
    have hzb : (((k.on b (j : Int)).length : Int) == 0) = false := by rw [beq_eq_false_iff_ne]; omega
    have hzp : ((k.on b (j : Int)).length : Int) > 0 := by omega
    have HW6 : Hid (wrongK N k ⟨4, b, (j : Int), c, t⟩ = if (4 : Int) = 4 ∧ 8 < (k.on b (j : Int)).length + (k.on (fB b) fn).length then 5 else 0) := HW5.out.trans (if_neg hz)
    clear HW5 hz
    by_cases h8 : 8 < (k.on b (j : Int)).length + (k.on (fB b) fn).length
    · have HE : Hid (wrongK N k ⟨4, b, (j : Int), c, t⟩ = 5) := HW6.out.trans (if_pos ⟨rfl, h8⟩)
      rcases hb0 with q1 | ⟨q1, q2⟩
      all_goals
        go_enter Try.func30, Try.ntmps30
        go_wp2_with fail
        refine (HON.out _ HX0.out.below b (j : Int)).mono ?_
        rintro e w1 ⟨Au, cu, rfl, hb1⟩
        have HX1 := Lib.hid (HX0.out.next hb1)
        clear hb1
        have x0 := HX1.out.a0.cell (k := 0) rfl
        have x1 := HX1.out.a0.cell (k := 1) rfl
        have x2 := HX1.out.a0.cell (k := 2) rfl
        have x3 := HX1.out.a0.cell (k := 3) rfl
        have x4 := HX1.out.a0.cell (k := 4) rfl
        have x5 := HX1.out.a0.cell (k := 5) rfl
        have y0 := HX1.out.a1.cell (k := 0) rfl
        have y1 := HX1.out.a1.cell (k := 1) rfl
        have y2 := HX1.out.a1.cell (k := 2) rfl
        go_wp2_with fail
        refine (Facing_any (N := N) (r := k.rack) (d := (k.done : Int)) (b := b) (n := (j : Int)) _ ⟨_, _, _, rfl⟩ ⟨_, _, _, rfl⟩ ⟨_, _, _, rfl⟩ ⟨hr1, hr2⟩ (by unfold big; omega)).mono ?_
        rintro e w2 ⟨rfl, hb2⟩
        have HX2 := Lib.hid (HX1.out.next hb2)
        clear hb2 x0 x1 x2 x3 x4 x5 y0 y1 y2
        have x0 := HX2.out.a0.cell (k := 0) rfl
        have x1 := HX2.out.a0.cell (k := 1) rfl
        have x2 := HX2.out.a0.cell (k := 2) rfl
        have x3 := HX2.out.a0.cell (k := 3) rfl
        have x4 := HX2.out.a0.cell (k := 4) rfl
        have x5 := HX2.out.a0.cell (k := 5) rfl
        have y0 := HX2.out.a1.cell (k := 0) rfl
        rw [HFN.out]
        go_wp2_with fail
        refine (HON.out _ HX2.out.below (fB b) fn).mono ?_
        rintro e w3 ⟨Av, cv, rfl, hb3⟩
        have HX3 := Lib.hid (HX2.out.next hb3)
        clear hb3 x0 x1 x2 x3 x4 x5 y0
        have y0 := HX3.out.a1.cell (k := 0) rfl
        go_wp2_with fail
        go_ret
        exact ⟨ret_e' HE.out, HX3.out.below⟩
    · have HE : Hid (wrongK N k ⟨4, b, (j : Int), c, t⟩ = 0) := HW6.out.trans (if_neg (fun q => h8 q.2))
      rcases hb0 with q1 | ⟨q1, q2⟩
      all_goals
        go_enter Try.func30, Try.ntmps30
        go_wp2_with fail
        refine (HON.out _ HX0.out.below b (j : Int)).mono ?_
        rintro e w1 ⟨Au, cu, rfl, hb1⟩
        have HX1 := Lib.hid (HX0.out.next hb1)
        clear hb1
        have x0 := HX1.out.a0.cell (k := 0) rfl
        have x1 := HX1.out.a0.cell (k := 1) rfl
        have x2 := HX1.out.a0.cell (k := 2) rfl
        have x3 := HX1.out.a0.cell (k := 3) rfl
        have x4 := HX1.out.a0.cell (k := 4) rfl
        have x5 := HX1.out.a0.cell (k := 5) rfl
        have y0 := HX1.out.a1.cell (k := 0) rfl
        have y1 := HX1.out.a1.cell (k := 1) rfl
        have y2 := HX1.out.a1.cell (k := 2) rfl
        go_wp2_with fail
        refine (Facing_any (N := N) (r := k.rack) (d := (k.done : Int)) (b := b) (n := (j : Int)) _ ⟨_, _, _, rfl⟩ ⟨_, _, _, rfl⟩ ⟨_, _, _, rfl⟩ ⟨hr1, hr2⟩ (by unfold big; omega)).mono ?_
        rintro e w2 ⟨rfl, hb2⟩
        have HX2 := Lib.hid (HX1.out.next hb2)
        clear hb2 x0 x1 x2 x3 x4 x5 y0 y1 y2
        have x0 := HX2.out.a0.cell (k := 0) rfl
        have x1 := HX2.out.a0.cell (k := 1) rfl
        have x2 := HX2.out.a0.cell (k := 2) rfl
        have x3 := HX2.out.a0.cell (k := 3) rfl
        have x4 := HX2.out.a0.cell (k := 4) rfl
        have x5 := HX2.out.a0.cell (k := 5) rfl
        have y0 := HX2.out.a1.cell (k := 0) rfl
        rw [HFN.out]
        go_wp2_with fail
        refine (HON.out _ HX2.out.below (fB b) fn).mono ?_
        rintro e w3 ⟨Av, cv, rfl, hb3⟩
        have HX3 := Lib.hid (HX2.out.next hb3)
        clear hb3 x0 x1 x2 x3 x4 x5 y0
        have y0 := HX3.out.a1.cell (k := 0) rfl
        go_wp2_with fail
        go_ret
        exact ⟨ret_e' HE.out, HX3.out.below⟩
  · have HW4 : Hid (wrongK N k ⟨5, b, (j : Int), c, t⟩ = _) := ((((HW3.out.trans (if_neg (by omega))).trans (if_neg (fun q => absurd q.1 (by decide)))).trans (if_neg (by decide))).trans (if_neg (by decide)))
    clear HW3
    by_cases hz : (k.on b (j : Int)).length = 0
    · have HE : Hid (wrongK N k ⟨5, b, (j : Int), c, t⟩ = 6) := HW4.out.trans (if_pos hz)
      rcases hb0 with q1 | ⟨q1, q2⟩
      all_goals
        go_enter Try.func30, Try.ntmps30
        go_wp2_with fail
        refine (HON.out _ HX0.out.below b (j : Int)).mono ?_
        rintro e w1 ⟨Au, cu, rfl, hb1⟩
        have HX1 := Lib.hid (HX0.out.next hb1)
        clear hb1
        have x0 := HX1.out.a0.cell (k := 0) rfl
        have x1 := HX1.out.a0.cell (k := 1) rfl
        have x2 := HX1.out.a0.cell (k := 2) rfl
        have x3 := HX1.out.a0.cell (k := 3) rfl
        have x4 := HX1.out.a0.cell (k := 4) rfl
        have x5 := HX1.out.a0.cell (k := 5) rfl
        have y0 := HX1.out.a1.cell (k := 0) rfl
        have y1 := HX1.out.a1.cell (k := 1) rfl
        have y2 := HX1.out.a1.cell (k := 2) rfl
        rw [hz]
        go_wp2_with fail
        go_ret
        exact ⟨ret_e' HE.out, HX1.out.below⟩
    · have HE : Hid (wrongK N k ⟨5, b, (j : Int), c, t⟩ = 0) := (HW4.out.trans (if_neg hz)).trans (if_neg (fun q => absurd q.1 (by decide)))
      have hzb : (((k.on b (j : Int)).length : Int) == 0) = false := by rw [beq_eq_false_iff_ne]; omega
      rcases hb0 with q1 | ⟨q1, q2⟩
      all_goals
        go_enter Try.func30, Try.ntmps30
        go_wp2_with fail
        refine (HON.out _ HX0.out.below b (j : Int)).mono ?_
        rintro e w1 ⟨Au, cu, rfl, hb1⟩
        have HX1 := Lib.hid (HX0.out.next hb1)
        clear hb1
        have x0 := HX1.out.a0.cell (k := 0) rfl
        have x1 := HX1.out.a0.cell (k := 1) rfl
        have x2 := HX1.out.a0.cell (k := 2) rfl
        have x3 := HX1.out.a0.cell (k := 3) rfl
        have x4 := HX1.out.a0.cell (k := 4) rfl
        have x5 := HX1.out.a0.cell (k := 5) rfl
        have y0 := HX1.out.a1.cell (k := 0) rfl
        have y1 := HX1.out.a1.cell (k := 1) rfl
        have y2 := HX1.out.a1.cell (k := 2) rfl
        go_wp2_with fail
        go_ret
        exact ⟨ret_e' HE.out, HX1.out.below⟩
end Go.Proofs.Ytaacfjeddoekfaa
