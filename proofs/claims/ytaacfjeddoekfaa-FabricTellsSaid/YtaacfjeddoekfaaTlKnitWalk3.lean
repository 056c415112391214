import Derived.Test.YtaacfjeddoekfaaTl2
/- Chapter 11: what is wrong with a stitch. -/
namespace Go.Proofs.Ytaacfjeddoekfaa
open Go.RowKit
set_option linter.unusedVariables false

theorem bcell_get {w0 w : World} {B p N : Nat} {m : MD} {k : KS} (h : MC w0 w B p N m k) {b : Int} {j : Nat} (ht : There N b (j : Int)) :
    ∃ A c, m.hv b (j : Int) = .slice A (k.on b (j : Int)).length c ∧ w.cell? ⟨m.gb b, j, none⟩ = some (.slice A (k.on b (j : Int)).length c) ∧ m.gb b < w.heap.size := by
  obtain ⟨A, c, e, h1, h2⟩ := own_form (h.on b (j : Int))
  exact ⟨A, c, e, by rw [← e]; exact (h.bcell ht).1, (h.bed b ht.1).1.lt⟩
/-- what stands behind calls: the stitch's box, the needle's box -/
structure WX (w w1 : World) (xs ss : List Value) : Prop where
  below : Below w.heap.size w w1
  a0 : Arr w1 w.heap.size 44 xs
  a1 : Arr w1 (w.heap.size + 1) 82 ss
theorem WX.start (w : World) (xs ss : Array Value) : WX w ((w.alloc (.cells xs 44)).alloc (.cells ss 82)) xs.toList ss.toList :=
  ⟨((Below.refl _ _).alloc (Nat.le_refl _) _).alloc (by simp) _, (Arr.new w xs 44).alloc _, arr_new2 w _ ss 82⟩
theorem WX.next {w w1 w2 : World} {xs ss : List Value} (h : WX w w1 xs ss) (hb : Below w1.heap.size w1 w2) : WX w w2 xs ss :=
  ⟨h.below.trans (hb.mono h.below.size), h.a0.of_eq (hb.block _ h.a0.lt), h.a1.of_eq (hb.block _ h.a1.lt)⟩
theorem ret_e {a b : Int} (h : b = a) : Ending.returned (.int .i64 a) = .returned (.int .i64 b) := by rw [h]

set_option maxRecDepth 100000 in
set_option maxHeartbeats 4000000 in
theorem wrong_any {w0 w : World} {B p N : Nat} {m : MD} {k : KS} (h : MC w0 w B p N m k) (hN : N ≤ 128) (hi : Kinv N k) (x : Sti) :
    Calls Try.prog 46 #[ptr p 0, .agg x.cells.toArray] w fun e w' => e = .returned (.int .i64 (wrongK N k x)) ∧ Below w.heap.size w w' := by
  have c4 := h.cell (j := 4) rfl
  have c5 := h.cell (j := 5) rfl
  have hp : p < w.heap.size := h.arr.lt
  have HM := Lib.hid h
  have HI := Lib.hid hi
  have hd := hi.d
  clear h hi
  obtain ⟨d, b, n, c, t⟩ := x
  have hbe : Hid (Below w.heap.size w (w.alloc (.cells #[.int .i64 d, .int .i64 b, .int .i64 n, .int .i64 c, .int .i64 t] 44))) := (Below.refl _ _).alloc (Nat.le_refl _) _
  have hbe2 : Hid (∀ o, Below w.heap.size w ((w.alloc (.cells #[.int .i64 d, .int .i64 b, .int .i64 n, .int .i64 c, .int .i64 t] 44)).alloc o)) := fun o => hbe.out.alloc (by simp) _
  show Calls Try.prog 46 #[ptr p 0, .agg #[.int .i64 d, .int .i64 b, .int .i64 n, .int .i64 c, .int .i64 t]] w _
  by_cases h1 : d < 1
  · have HE : Hid (wrongK N k ⟨d, b, n, c, t⟩ = 1) := by show _ = _; unfold wrongK; rw [if_pos (.inl h1)]
    go_enter Try.func46, Try.ntmps46
    go_wp2_with fail
    go_ret
    exact ⟨ret_e HE.out, hbe.out⟩
  by_cases h2 : 6 < d
  · have HE : Hid (wrongK N k ⟨d, b, n, c, t⟩ = 1) := by show _ = _; unfold wrongK; rw [if_pos (.inr h2)]
    go_enter Try.func46, Try.ntmps46
    go_wp2_with fail
    go_ret
    exact ⟨ret_e HE.out, hbe.out⟩
  by_cases h3 : k.done = 4096
  · have HE : Hid (wrongK N k ⟨d, b, n, c, t⟩ = 4) := by show _ = _; unfold wrongK; rw [if_neg (by dsimp only; omega), if_pos (by omega)]
    rw [h3] at c5
    go_enter Try.func46, Try.ntmps46
    go_wp2_with fail
    go_ret
    exact ⟨ret_e HE.out, hbe.out⟩
  have hdn : ((k.done : Int) == 4096) = false := by simp; omega
  have HW : Hid (wrongK N k ⟨d, b, n, c, t⟩ = if d = 6 then (if t < -4 ∨ 4 < t then 3 else 0) else
      if ¬ There N b n then 3 else
      if d ≤ 3 ∧ (c < 0 ∨ 7 < c) then 3 else
      if d = 4 ∧ ¬ There N (fB b) (fN k.rack b n) then 3 else
      if d = 3 then 0 else
      if d = 2 then (if 8 ≤ (k.on b n).length then 5 else 0) else
      if (k.on b n).length = 0 then 6 else
      if d = 4 ∧ 8 < (k.on b n).length + (k.on (fB b) (fN k.rack b n)).length then 5 else 0) := by
    show _ = _
    unfold wrongK
    rw [if_neg (by dsimp only; omega), if_neg (by omega)]
    rfl
  clear h3
  by_cases h6 : d = 6
  · subst h6
    by_cases h7 : t < -4
    · have HE : Hid (wrongK N k ⟨6, b, n, c, t⟩ = 3) := by show _ = _; rw [HW.out, if_pos rfl, if_pos (.inl h7)]
      go_enter Try.func46, Try.ntmps46
      go_wp2_with fail
      go_ret
      exact ⟨ret_e HE.out, hbe.out⟩
    by_cases h8 : 4 < t
    · have HE : Hid (wrongK N k ⟨6, b, n, c, t⟩ = 3) := by show _ = _; rw [HW.out, if_pos rfl, if_pos (.inr h8)]
      go_enter Try.func46, Try.ntmps46
      go_wp2_with fail
      go_ret
      exact ⟨ret_e HE.out, hbe.out⟩
    · have HE : Hid (wrongK N k ⟨6, b, n, c, t⟩ = 0) := by show _ = _; rw [HW.out, if_pos rfl, if_neg (by omega)]
      go_enter Try.func46, Try.ntmps46
      go_wp2_with fail
      go_ret
      exact ⟨ret_e HE.out, hbe.out⟩
  have h6b : (d == 6) = false := by simpa using h6
  have HW2 := Lib.hid (HW.out.trans (if_neg h6))
  clear HW
  by_cases ht : There N b n
  case neg =>
    have HE : Hid (wrongK N k ⟨d, b, n, c, t⟩ = 3) := HW2.out.trans (if_pos ht)
    go_enter Try.func46, Try.ntmps46
    go_wp2_with (go_at_call 59; refine (there_any (HM.out.keep (((Below.refl _ _).alloc (Nat.le_refl _) _).alloc (by simp) _)) hN b n).mono ?_; rintro e w1 ⟨rfl, hb1⟩; rw [decide_eq_false ht]; have HB1 := Lib.hid ((hbe2.out _).trans (hb1.mono (by simp; omega))); clear hb1)
    go_ret
    exact ⟨ret_e HE.out, HB1.out⟩
  obtain ⟨j, rfl⟩ : ∃ j : Nat, n = (j : Int) := ⟨n.toNat, by have := ht.2.1; omega⟩
  have hw2 := HW2.out.trans (if_neg (fun c => c ht))
  have HW3 : Hid (wrongK N k ⟨d, b, (j : Int), c, t⟩ = _) := hw2
  clear HW2 hw2
  have HT := Lib.hid ht
  clear ht
  have HX0 := Lib.hid (WX.start w #[.int .i64 d, .int .i64 b, .int .i64 (j : Int), .int .i64 c, .int .i64 t] #[.int .i64 b, .int .i64 (j : Int)])
  have hj : j < N := by have := HT.out.2.2; omega
  obtain ⟨hr1, hr2⟩ := HI.out.r
  have hL1 := HI.out.on b (j : Int)
  have hL2 := HI.out.on (fB b) (fN k.rack b (j : Int))
  have hcs : d = 1 ∨ d = 2 ∨ d = 3 ∨ d = 4 ∨ d = 5 := by omega
  clear h1 h2 h6
  rcases hcs with rfl | rfl | rfl | rfl | rfl
  · by_cases hc1 : c < 0
    · have HE : Hid (wrongK N k ⟨1, b, (j : Int), c, t⟩ = 3) := HW3.out.trans (if_pos ⟨by decide, .inl hc1⟩)
      go_enter Try.func46, Try.ntmps46
      go_wp2_with fail
      refine (there_any (HM.out.keep HX0.out.below) hN b (j : Int)).mono ?_
      rintro e w1 ⟨rfl, hb1⟩
      rw [decide_eq_true HT.out]
      have HX1 := Lib.hid (HX0.out.next hb1)
      clear hb1
      have x0 := HX1.out.a0.cell (k := 0) rfl
      have x3 := HX1.out.a0.cell (k := 3) rfl
      have y0 := HX1.out.a1.cell (k := 0) rfl
      have y1 := HX1.out.a1.cell (k := 1) rfl
      go_wp2_with fail
      go_ret
      exact ⟨ret_e HE.out, HX1.out.below⟩
    by_cases hc2 : 7 < c
    · have hc3 : c ≥ 8 := by omega
      have HE : Hid (wrongK N k ⟨1, b, (j : Int), c, t⟩ = 3) := HW3.out.trans (if_pos ⟨by decide, .inr hc2⟩)
      go_enter Try.func46, Try.ntmps46
      go_wp2_with fail
      refine (there_any (HM.out.keep HX0.out.below) hN b (j : Int)).mono ?_
      rintro e w1 ⟨rfl, hb1⟩
      rw [decide_eq_true HT.out]
      have HX1 := Lib.hid (HX0.out.next hb1)
      clear hb1
      have x0 := HX1.out.a0.cell (k := 0) rfl
      have x3 := HX1.out.a0.cell (k := 3) rfl
      have y0 := HX1.out.a1.cell (k := 0) rfl
      have y1 := HX1.out.a1.cell (k := 1) rfl
      go_wp2_with fail
      go_ret
      exact ⟨ret_e HE.out, HX1.out.below⟩
    have hc3 : ¬ c ≥ 8 := by omega
    have HW4 : Hid (wrongK N k ⟨1, b, (j : Int), c, t⟩ = _) := (HW3.out.trans (if_neg (by omega))).trans (if_neg (fun q => absurd q.1 (by decide)))
    clear HW3
    have HW5 : Hid (wrongK N k ⟨1, b, (j : Int), c, t⟩ = _) := (HW4.out.trans (if_neg (by decide))).trans (if_neg (by decide))
    by_cases hz : (k.on b (j : Int)).length = 0
    · have HE : Hid (wrongK N k ⟨1, b, (j : Int), c, t⟩ = 6) := HW5.out.trans (if_pos hz)
      go_enter Try.func46, Try.ntmps46
      go_wp2_with fail
      refine (there_any (HM.out.keep HX0.out.below) hN b (j : Int)).mono ?_
      rintro e w1 ⟨rfl, hb1⟩
      rw [decide_eq_true HT.out]
      have HX1 := Lib.hid (HX0.out.next hb1)
      clear hb1
      have x0 := HX1.out.a0.cell (k := 0) rfl
      have x3 := HX1.out.a0.cell (k := 3) rfl
      have y0 := HX1.out.a1.cell (k := 0) rfl
      have y1 := HX1.out.a1.cell (k := 1) rfl
      go_wp2_with fail
      refine (at_any (HM.out.keep HX1.out.below) hN HT.out).mono ?_
      rintro e w2 ⟨rfl, hb2⟩
      have HX2 := Lib.hid (HX1.out.next hb2)
      clear hb2 x0 x3 y0 y1
      have x0 := HX2.out.a0.cell (k := 0) rfl
      have y0 := HX2.out.a1.cell (k := 0) rfl
      have y1 := HX2.out.a1.cell (k := 1) rfl
      obtain ⟨A, ca, _, cl, hlt⟩ := bcell_get (HM.out.keep HX2.out.below) HT.out
      rw [hz] at cl
      go_wp2_with fail
      go_ret
      exact ⟨ret_e HE.out, HX2.out.below⟩
    · have HE : Hid (wrongK N k ⟨1, b, (j : Int), c, t⟩ = 0) := (HW5.out.trans (if_neg hz)).trans (if_neg (fun q => absurd q.1 (by decide)))
      have hzb : (((k.on b (j : Int)).length : Int) == 0) = false := by rw [beq_eq_false_iff_ne]; omega
      go_enter Try.func46, Try.ntmps46
      go_wp2_with fail
      refine (there_any (HM.out.keep HX0.out.below) hN b (j : Int)).mono ?_
      rintro e w1 ⟨rfl, hb1⟩
      rw [decide_eq_true HT.out]
      have HX1 := Lib.hid (HX0.out.next hb1)
      clear hb1
      have x0 := HX1.out.a0.cell (k := 0) rfl
      have x3 := HX1.out.a0.cell (k := 3) rfl
      have y0 := HX1.out.a1.cell (k := 0) rfl
      have y1 := HX1.out.a1.cell (k := 1) rfl
      go_wp2_with fail
      refine (at_any (HM.out.keep HX1.out.below) hN HT.out).mono ?_
      rintro e w2 ⟨rfl, hb2⟩
      have HX2 := Lib.hid (HX1.out.next hb2)
      clear hb2 x0 x3 y0 y1
      have x0 := HX2.out.a0.cell (k := 0) rfl
      have y0 := HX2.out.a1.cell (k := 0) rfl
      have y1 := HX2.out.a1.cell (k := 1) rfl
      obtain ⟨A, ca, _, cl, hlt⟩ := bcell_get (HM.out.keep HX2.out.below) HT.out
      go_wp2_with fail
      go_ret
      exact ⟨ret_e HE.out, HX2.out.below⟩
  · by_cases hc1 : c < 0
    · have HE : Hid (wrongK N k ⟨2, b, (j : Int), c, t⟩ = 3) := HW3.out.trans (if_pos ⟨by decide, .inl hc1⟩)
      go_enter Try.func46, Try.ntmps46
      go_wp2_with fail
      refine (there_any (HM.out.keep HX0.out.below) hN b (j : Int)).mono ?_
      rintro e w1 ⟨rfl, hb1⟩
      rw [decide_eq_true HT.out]
      have HX1 := Lib.hid (HX0.out.next hb1)
      clear hb1
      have x0 := HX1.out.a0.cell (k := 0) rfl
      have x3 := HX1.out.a0.cell (k := 3) rfl
      have y0 := HX1.out.a1.cell (k := 0) rfl
      have y1 := HX1.out.a1.cell (k := 1) rfl
      go_wp2_with fail
      go_ret
      exact ⟨ret_e HE.out, HX1.out.below⟩
    by_cases hc2 : 7 < c
    · have hc3 : c ≥ 8 := by omega
      have HE : Hid (wrongK N k ⟨2, b, (j : Int), c, t⟩ = 3) := HW3.out.trans (if_pos ⟨by decide, .inr hc2⟩)
      go_enter Try.func46, Try.ntmps46
      go_wp2_with fail
      refine (there_any (HM.out.keep HX0.out.below) hN b (j : Int)).mono ?_
      rintro e w1 ⟨rfl, hb1⟩
      rw [decide_eq_true HT.out]
      have HX1 := Lib.hid (HX0.out.next hb1)
      clear hb1
      have x0 := HX1.out.a0.cell (k := 0) rfl
      have x3 := HX1.out.a0.cell (k := 3) rfl
      have y0 := HX1.out.a1.cell (k := 0) rfl
      have y1 := HX1.out.a1.cell (k := 1) rfl
      go_wp2_with fail
      go_ret
      exact ⟨ret_e HE.out, HX1.out.below⟩
    have hc3 : ¬ c ≥ 8 := by omega
    have HW4 : Hid (wrongK N k ⟨2, b, (j : Int), c, t⟩ = _) := (HW3.out.trans (if_neg (by omega))).trans (if_neg (fun q => absurd q.1 (by decide)))
    clear HW3
    have HW5 : Hid (wrongK N k ⟨2, b, (j : Int), c, t⟩ = _) := (HW4.out.trans (if_neg (by decide))).trans (if_pos rfl)
    by_cases hz : (k.on b (j : Int)).length = 8
    · have HE : Hid (wrongK N k ⟨2, b, (j : Int), c, t⟩ = 5) := HW5.out.trans (if_pos (by omega))
      go_enter Try.func46, Try.ntmps46
      go_wp2_with fail
      refine (there_any (HM.out.keep HX0.out.below) hN b (j : Int)).mono ?_
      rintro e w1 ⟨rfl, hb1⟩
      rw [decide_eq_true HT.out]
      have HX1 := Lib.hid (HX0.out.next hb1)
      clear hb1
      have x0 := HX1.out.a0.cell (k := 0) rfl
      have x3 := HX1.out.a0.cell (k := 3) rfl
      have y0 := HX1.out.a1.cell (k := 0) rfl
      have y1 := HX1.out.a1.cell (k := 1) rfl
      go_wp2_with fail
      refine (at_any (HM.out.keep HX1.out.below) hN HT.out).mono ?_
      rintro e w2 ⟨rfl, hb2⟩
      have HX2 := Lib.hid (HX1.out.next hb2)
      clear hb2 x0 x3 y0 y1
      have x0 := HX2.out.a0.cell (k := 0) rfl
      have y0 := HX2.out.a1.cell (k := 0) rfl
      have y1 := HX2.out.a1.cell (k := 1) rfl
      obtain ⟨A, ca, _, cl, hlt⟩ := bcell_get (HM.out.keep HX2.out.below) HT.out
      rw [hz] at cl
      go_wp2_with fail
      go_ret
      exact ⟨ret_e HE.out, HX2.out.below⟩
    · have HE : Hid (wrongK N k ⟨2, b, (j : Int), c, t⟩ = 0) := HW5.out.trans (if_neg (by omega))
      have hzb : (((k.on b (j : Int)).length : Int) == 8) = false := by simp; omega
      go_enter Try.func46, Try.ntmps46
      go_wp2_with fail
      refine (there_any (HM.out.keep HX0.out.below) hN b (j : Int)).mono ?_
      rintro e w1 ⟨rfl, hb1⟩
      rw [decide_eq_true HT.out]
      have HX1 := Lib.hid (HX0.out.next hb1)
      clear hb1
      have x0 := HX1.out.a0.cell (k := 0) rfl
      have x3 := HX1.out.a0.cell (k := 3) rfl
      have y0 := HX1.out.a1.cell (k := 0) rfl
      have y1 := HX1.out.a1.cell (k := 1) rfl
      go_wp2_with fail
      refine (at_any (HM.out.keep HX1.out.below) hN HT.out).mono ?_
      rintro e w2 ⟨rfl, hb2⟩
      have HX2 := Lib.hid (HX1.out.next hb2)
      clear hb2 x0 x3 y0 y1
      have x0 := HX2.out.a0.cell (k := 0) rfl
      have y0 := HX2.out.a1.cell (k := 0) rfl
      have y1 := HX2.out.a1.cell (k := 1) rfl
      obtain ⟨A, ca, _, cl, hlt⟩ := bcell_get (HM.out.keep HX2.out.below) HT.out
      go_wp2_with fail
      go_ret
      exact ⟨ret_e HE.out, HX2.out.below⟩
  · by_cases hc1 : c < 0
    · have HE : Hid (wrongK N k ⟨3, b, (j : Int), c, t⟩ = 3) := HW3.out.trans (if_pos ⟨by decide, .inl hc1⟩)
      go_enter Try.func46, Try.ntmps46
      go_wp2_with fail
      refine (there_any (HM.out.keep HX0.out.below) hN b (j : Int)).mono ?_
      rintro e w1 ⟨rfl, hb1⟩
      rw [decide_eq_true HT.out]
      have HX1 := Lib.hid (HX0.out.next hb1)
      clear hb1
      have x0 := HX1.out.a0.cell (k := 0) rfl
      have x3 := HX1.out.a0.cell (k := 3) rfl
      have y0 := HX1.out.a1.cell (k := 0) rfl
      have y1 := HX1.out.a1.cell (k := 1) rfl
      go_wp2_with fail
      go_ret
      exact ⟨ret_e HE.out, HX1.out.below⟩
    by_cases hc2 : 7 < c
    · have hc3 : c ≥ 8 := by omega
      have HE : Hid (wrongK N k ⟨3, b, (j : Int), c, t⟩ = 3) := HW3.out.trans (if_pos ⟨by decide, .inr hc2⟩)
      go_enter Try.func46, Try.ntmps46
      go_wp2_with fail
      refine (there_any (HM.out.keep HX0.out.below) hN b (j : Int)).mono ?_
      rintro e w1 ⟨rfl, hb1⟩
      rw [decide_eq_true HT.out]
      have HX1 := Lib.hid (HX0.out.next hb1)
      clear hb1
      have x0 := HX1.out.a0.cell (k := 0) rfl
      have x3 := HX1.out.a0.cell (k := 3) rfl
      have y0 := HX1.out.a1.cell (k := 0) rfl
      have y1 := HX1.out.a1.cell (k := 1) rfl
      go_wp2_with fail
      go_ret
      exact ⟨ret_e HE.out, HX1.out.below⟩
    have hc3 : ¬ c ≥ 8 := by omega
    have HW4 : Hid (wrongK N k ⟨3, b, (j : Int), c, t⟩ = _) := (HW3.out.trans (if_neg (by omega))).trans (if_neg (fun q => absurd q.1 (by decide)))
    clear HW3
    have HE : Hid (wrongK N k ⟨3, b, (j : Int), c, t⟩ = 0) := HW4.out.trans (if_pos rfl)
    go_enter Try.func46, Try.ntmps46
    go_wp2_with fail
    refine (there_any (HM.out.keep HX0.out.below) hN b (j : Int)).mono ?_
    rintro e w1 ⟨rfl, hb1⟩
    rw [decide_eq_true HT.out]
    have HX1 := Lib.hid (HX0.out.next hb1)
    clear hb1
    have x0 := HX1.out.a0.cell (k := 0) rfl
    have x3 := HX1.out.a0.cell (k := 3) rfl
    have y0 := HX1.out.a1.cell (k := 0) rfl
    have y1 := HX1.out.a1.cell (k := 1) rfl
    go_wp2_with fail
    refine (at_any (HM.out.keep HX1.out.below) hN HT.out).mono ?_
    rintro e w2 ⟨rfl, hb2⟩
    have HX2 := Lib.hid (HX1.out.next hb2)
    clear hb2 x0 x3 y0 y1
    have x0 := HX2.out.a0.cell (k := 0) rfl
    have y0 := HX2.out.a1.cell (k := 0) rfl
    have y1 := HX2.out.a1.cell (k := 1) rfl
    obtain ⟨A, ca, _, cl, hlt⟩ := bcell_get (HM.out.keep HX2.out.below) HT.out
    go_wp2_with fail
    go_ret
    exact ⟨ret_e HE.out, HX2.out.below⟩
  · have HW4 : Hid (wrongK N k ⟨4, b, (j : Int), c, t⟩ = _) := HW3.out.trans (if_neg (by omega))
    clear HW3
    by_cases hf : There N (fB b) (fN k.rack b (j : Int))
    case neg =>
      have HE : Hid (wrongK N k ⟨4, b, (j : Int), c, t⟩ = 3) := HW4.out.trans (if_pos ⟨rfl, hf⟩)
      go_enter Try.func46, Try.ntmps46
      go_wp2_with fail
      refine (there_any (HM.out.keep HX0.out.below) hN b (j : Int)).mono ?_
      rintro e w1 ⟨rfl, hb1⟩
      rw [decide_eq_true HT.out]
      have HX1 := Lib.hid (HX0.out.next hb1)
      clear hb1
      have x0 := HX1.out.a0.cell (k := 0) rfl
      have x3 := HX1.out.a0.cell (k := 3) rfl
      have y0 := HX1.out.a1.cell (k := 0) rfl
      have y1 := HX1.out.a1.cell (k := 1) rfl
      go_wp2_with fail
      refine (facing_any (HM.out.keep HX1.out.below) ⟨hr1, hr2⟩ b (j : Int) (by unfold big; omega)).mono ?_
      rintro e w2 ⟨rfl, hb2⟩
      have HX2 := Lib.hid (HX1.out.next hb2)
      clear hb2 x0 x3 y0 y1
      go_wp2_with fail
      refine (there_any (HM.out.keep HX2.out.below) hN (fB b) (fN k.rack b (j : Int))).mono ?_
      rintro e w3 ⟨rfl, hb3⟩
      have HX3 := Lib.hid (HX2.out.next hb3)
      clear hb3
      have x0 := HX3.out.a0.cell (k := 0) rfl
      have x3 := HX3.out.a0.cell (k := 3) rfl
      have y0 := HX3.out.a1.cell (k := 0) rfl
      have y1 := HX3.out.a1.cell (k := 1) rfl
      rw [decide_eq_false hf]
      go_wp2_with fail
      go_ret
      exact ⟨ret_e HE.out, HX3.out.below⟩
    have HF := Lib.hid hf
    have HW5 : Hid (wrongK N k ⟨4, b, (j : Int), c, t⟩ = _) := (((HW4.out.trans (if_neg (fun q => q.2 hf))).trans (if_neg (by decide))).trans (if_neg (by decide)))
    clear hf HW4
    by_cases hz : (k.on b (j : Int)).length = 0
    · have HE : Hid (wrongK N k ⟨4, b, (j : Int), c, t⟩ = 6) := HW5.out.trans (if_pos hz)
      go_enter Try.func46, Try.ntmps46
      go_wp2_with fail
      refine (there_any (HM.out.keep HX0.out.below) hN b (j : Int)).mono ?_
      rintro e w1 ⟨rfl, hb1⟩
      rw [decide_eq_true HT.out]
      have HX1 := Lib.hid (HX0.out.next hb1)
      clear hb1
      have x0 := HX1.out.a0.cell (k := 0) rfl
      have x3 := HX1.out.a0.cell (k := 3) rfl
      have y0 := HX1.out.a1.cell (k := 0) rfl
      have y1 := HX1.out.a1.cell (k := 1) rfl
      go_wp2_with fail
      refine (facing_any (HM.out.keep HX1.out.below) ⟨hr1, hr2⟩ b (j : Int) (by unfold big; omega)).mono ?_
      rintro e w2 ⟨rfl, hb2⟩
      have HX2 := Lib.hid (HX1.out.next hb2)
      clear hb2 x0 x3 y0 y1
      go_wp2_with fail
      refine (there_any (HM.out.keep HX2.out.below) hN (fB b) (fN k.rack b (j : Int))).mono ?_
      rintro e w3 ⟨rfl, hb3⟩
      have HX3 := Lib.hid (HX2.out.next hb3)
      clear hb3
      have x0 := HX3.out.a0.cell (k := 0) rfl
      have x3 := HX3.out.a0.cell (k := 3) rfl
      have y0 := HX3.out.a1.cell (k := 0) rfl
      have y1 := HX3.out.a1.cell (k := 1) rfl
      rw [decide_eq_true HF.out]
      go_wp2_with fail
      refine (at_any (HM.out.keep HX3.out.below) hN HT.out).mono ?_
      rintro e w4 ⟨rfl, hb4⟩
      have HX4 := Lib.hid (HX3.out.next hb4)
      clear hb4 x0 x3 y0 y1
      have x0 := HX4.out.a0.cell (k := 0) rfl
      have y0 := HX4.out.a1.cell (k := 0) rfl
      have y1 := HX4.out.a1.cell (k := 1) rfl
      obtain ⟨A, ca, _, cl, hlt⟩ := bcell_get (HM.out.keep HX4.out.below) HT.out
      rw [hz] at cl
      go_wp2_with fail
      go_ret
      exact ⟨ret_e HE.out, HX4.out.below⟩
    have hzb : (((k.on b (j : Int)).length : Int) == 0) = false := by rw [beq_eq_false_iff_ne]; omega
    obtain ⟨jf, hjf⟩ : ∃ jf : Nat, fN k.rack b (j : Int) = (jf : Int) := ⟨(fN k.rack b (j : Int)).toNat, by have := HF.out.2.1; omega⟩
    have HF2 : Hid (There N (fB b) (jf : Int)) := by rw [← hjf]; exact HF.out
    have HW6 : Hid (wrongK N k ⟨4, b, (j : Int), c, t⟩ = if (4 : Int) = 4 ∧ 8 < (k.on b (j : Int)).length + (k.on (fB b) (jf : Int)).length then 5 else 0) := by
      rw [← hjf]; exact HW5.out.trans (if_neg hz)
    have HJF := Lib.hid hjf
    rw [hjf] at hL2
    clear HW5 hjf hz
    by_cases h8 : 8 < (k.on b (j : Int)).length + (k.on (fB b) (jf : Int)).length
    · have HE : Hid (wrongK N k ⟨4, b, (j : Int), c, t⟩ = 5) := HW6.out.trans (if_pos ⟨rfl, h8⟩)
      go_enter Try.func46, Try.ntmps46
      go_wp2_with fail
      refine (there_any (HM.out.keep HX0.out.below) hN b (j : Int)).mono ?_
      rintro e w1 ⟨rfl, hb1⟩
      rw [decide_eq_true HT.out]
      have HX1 := Lib.hid (HX0.out.next hb1)
      clear hb1
      have x0 := HX1.out.a0.cell (k := 0) rfl
      have x3 := HX1.out.a0.cell (k := 3) rfl
      have y0 := HX1.out.a1.cell (k := 0) rfl
      have y1 := HX1.out.a1.cell (k := 1) rfl
      go_wp2_with fail
      refine (facing_any (HM.out.keep HX1.out.below) ⟨hr1, hr2⟩ b (j : Int) (by unfold big; omega)).mono ?_
      rintro e w2 ⟨rfl, hb2⟩
      have HX2 := Lib.hid (HX1.out.next hb2)
      clear hb2 x0 x3 y0 y1
      go_wp2_with fail
      refine (there_any (HM.out.keep HX2.out.below) hN (fB b) (fN k.rack b (j : Int))).mono ?_
      rintro e w3 ⟨rfl, hb3⟩
      have HX3 := Lib.hid (HX2.out.next hb3)
      clear hb3
      have x0 := HX3.out.a0.cell (k := 0) rfl
      have x3 := HX3.out.a0.cell (k := 3) rfl
      have y0 := HX3.out.a1.cell (k := 0) rfl
      have y1 := HX3.out.a1.cell (k := 1) rfl
      rw [decide_eq_true HF.out]
      go_wp2_with fail
      refine (at_any (HM.out.keep HX3.out.below) hN HT.out).mono ?_
      rintro e w4 ⟨rfl, hb4⟩
      have HX4 := Lib.hid (HX3.out.next hb4)
      clear hb4 x0 x3 y0 y1
      have x0 := HX4.out.a0.cell (k := 0) rfl
      have y0 := HX4.out.a1.cell (k := 0) rfl
      have y1 := HX4.out.a1.cell (k := 1) rfl
      obtain ⟨A, ca, _, cl, hlt⟩ := bcell_get (HM.out.keep HX4.out.below) HT.out
      go_wp2_with fail
      refine (facing_any (HM.out.keep HX4.out.below) ⟨hr1, hr2⟩ b (j : Int) (by unfold big; omega)).mono ?_
      rintro e w5 ⟨rfl, hb5⟩
      have HX5 := Lib.hid (HX4.out.next hb5)
      clear hb5 x0 y0 y1 cl hlt
      rw [HJF.out]
      go_wp2_with fail
      refine (at_any (HM.out.keep HX5.out.below) hN HF2.out).mono ?_
      rintro e w6 ⟨rfl, hb6⟩
      have HX6 := Lib.hid (HX5.out.next hb6)
      clear hb6
      obtain ⟨A6, ca6, _, cl, hlt⟩ := bcell_get (HM.out.keep HX6.out.below) HF2.out
      go_wp2_with fail
      go_ret
      exact ⟨ret_e HE.out, HX6.out.below⟩
    · have HE : Hid (wrongK N k ⟨4, b, (j : Int), c, t⟩ = 0) := HW6.out.trans (if_neg (fun q => h8 q.2))
      go_enter Try.func46, Try.ntmps46
      go_wp2_with fail
      refine (there_any (HM.out.keep HX0.out.below) hN b (j : Int)).mono ?_
      rintro e w1 ⟨rfl, hb1⟩
      rw [decide_eq_true HT.out]
      have HX1 := Lib.hid (HX0.out.next hb1)
      clear hb1
      have x0 := HX1.out.a0.cell (k := 0) rfl
      have x3 := HX1.out.a0.cell (k := 3) rfl
      have y0 := HX1.out.a1.cell (k := 0) rfl
      have y1 := HX1.out.a1.cell (k := 1) rfl
      go_wp2_with fail
      refine (facing_any (HM.out.keep HX1.out.below) ⟨hr1, hr2⟩ b (j : Int) (by unfold big; omega)).mono ?_
      rintro e w2 ⟨rfl, hb2⟩
      have HX2 := Lib.hid (HX1.out.next hb2)
      clear hb2 x0 x3 y0 y1
      go_wp2_with fail
      refine (there_any (HM.out.keep HX2.out.below) hN (fB b) (fN k.rack b (j : Int))).mono ?_
      rintro e w3 ⟨rfl, hb3⟩
      have HX3 := Lib.hid (HX2.out.next hb3)
      clear hb3
      have x0 := HX3.out.a0.cell (k := 0) rfl
      have x3 := HX3.out.a0.cell (k := 3) rfl
      have y0 := HX3.out.a1.cell (k := 0) rfl
      have y1 := HX3.out.a1.cell (k := 1) rfl
      rw [decide_eq_true HF.out]
      go_wp2_with fail
      refine (at_any (HM.out.keep HX3.out.below) hN HT.out).mono ?_
      rintro e w4 ⟨rfl, hb4⟩
      have HX4 := Lib.hid (HX3.out.next hb4)
      clear hb4 x0 x3 y0 y1
      have x0 := HX4.out.a0.cell (k := 0) rfl
      have y0 := HX4.out.a1.cell (k := 0) rfl
      have y1 := HX4.out.a1.cell (k := 1) rfl
      obtain ⟨A, ca, _, cl, hlt⟩ := bcell_get (HM.out.keep HX4.out.below) HT.out
      go_wp2_with fail
      refine (facing_any (HM.out.keep HX4.out.below) ⟨hr1, hr2⟩ b (j : Int) (by unfold big; omega)).mono ?_
      rintro e w5 ⟨rfl, hb5⟩
      have HX5 := Lib.hid (HX4.out.next hb5)
      clear hb5 x0 y0 y1 cl hlt
      rw [HJF.out]
      go_wp2_with fail
      refine (at_any (HM.out.keep HX5.out.below) hN HF2.out).mono ?_
      rintro e w6 ⟨rfl, hb6⟩
      have HX6 := Lib.hid (HX5.out.next hb6)
      clear hb6
      obtain ⟨A6, ca6, _, cl, hlt⟩ := bcell_get (HM.out.keep HX6.out.below) HF2.out
      go_wp2_with fail
      go_ret
      exact ⟨ret_e HE.out, HX6.out.below⟩
  · have HW4 : Hid (wrongK N k ⟨5, b, (j : Int), c, t⟩ = _) := ((((HW3.out.trans (if_neg (by omega))).trans (if_neg (fun q => absurd q.1 (by decide)))).trans (if_neg (by decide))).trans (if_neg (by decide)))
    clear HW3
    by_cases hz : (k.on b (j : Int)).length = 0
    · have HE : Hid (wrongK N k ⟨5, b, (j : Int), c, t⟩ = 6) := HW4.out.trans (if_pos hz)
      go_enter Try.func46, Try.ntmps46
      go_wp2_with fail
      refine (there_any (HM.out.keep HX0.out.below) hN b (j : Int)).mono ?_
      rintro e w1 ⟨rfl, hb1⟩
      rw [decide_eq_true HT.out]
      have HX1 := Lib.hid (HX0.out.next hb1)
      clear hb1
      have x0 := HX1.out.a0.cell (k := 0) rfl
      have x3 := HX1.out.a0.cell (k := 3) rfl
      have y0 := HX1.out.a1.cell (k := 0) rfl
      have y1 := HX1.out.a1.cell (k := 1) rfl
      go_wp2_with fail
      refine (at_any (HM.out.keep HX1.out.below) hN HT.out).mono ?_
      rintro e w2 ⟨rfl, hb2⟩
      have HX2 := Lib.hid (HX1.out.next hb2)
      clear hb2 x0 x3 y0 y1
      have x0 := HX2.out.a0.cell (k := 0) rfl
      have y0 := HX2.out.a1.cell (k := 0) rfl
      have y1 := HX2.out.a1.cell (k := 1) rfl
      obtain ⟨A, ca, _, cl, hlt⟩ := bcell_get (HM.out.keep HX2.out.below) HT.out
      rw [hz] at cl
      go_wp2_with fail
      go_ret
      exact ⟨ret_e HE.out, HX2.out.below⟩
    · have HE : Hid (wrongK N k ⟨5, b, (j : Int), c, t⟩ = 0) := (HW4.out.trans (if_neg hz)).trans (if_neg (fun q => absurd q.1 (by decide)))
      have hzb : (((k.on b (j : Int)).length : Int) == 0) = false := by rw [beq_eq_false_iff_ne]; omega
      go_enter Try.func46, Try.ntmps46
      go_wp2_with fail
      refine (there_any (HM.out.keep HX0.out.below) hN b (j : Int)).mono ?_
      rintro e w1 ⟨rfl, hb1⟩
      rw [decide_eq_true HT.out]
      have HX1 := Lib.hid (HX0.out.next hb1)
      clear hb1
      have x0 := HX1.out.a0.cell (k := 0) rfl
      have x3 := HX1.out.a0.cell (k := 3) rfl
      have y0 := HX1.out.a1.cell (k := 0) rfl
      have y1 := HX1.out.a1.cell (k := 1) rfl
      go_wp2_with fail
      refine (at_any (HM.out.keep HX1.out.below) hN HT.out).mono ?_
      rintro e w2 ⟨rfl, hb2⟩
      have HX2 := Lib.hid (HX1.out.next hb2)
      clear hb2 x0 x3 y0 y1
      have x0 := HX2.out.a0.cell (k := 0) rfl
      have y0 := HX2.out.a1.cell (k := 0) rfl
      have y1 := HX2.out.a1.cell (k := 1) rfl
      obtain ⟨A, ca, _, cl, hlt⟩ := bcell_get (HM.out.keep HX2.out.below) HT.out
      go_wp2_with fail
      go_ret
      exact ⟨ret_e HE.out, HX2.out.below⟩
end Go.Proofs.Ytaacfjeddoekfaa
