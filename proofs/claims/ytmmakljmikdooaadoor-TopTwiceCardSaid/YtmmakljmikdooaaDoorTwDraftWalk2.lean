import Derived.Test.YtmmakljmikdooaaDoorTwDraftWalk1
/- Chapter 6: the program's Fewest. -/
namespace Go.Proofs.YtmmakljmikdooaaDoor
open Go.RowKit
set_option linter.unusedVariables false
set_option linter.unusedSimpArgs false

theorem grown_own {a w w' : World} {g base : Nat} {e : TypeId} {size n : Nat} {v : Value} {xs : List Value} (h : a.grownBy w (some g)) (ho : w.ownsRow base e size v n xs) (hb : a.heap.size ≤ base) (hg : w.grownBy w' v.ownBlock) : a.grownBy w' (some g) :=
  ⟨hg.os.trans h.os, hg.tape.trans h.tape, hg.output.trans h.output, Nat.le_trans h.size hg.size, fun i hi hne =>
    (hg.block i (Nat.lt_of_lt_of_le hi h.size) (fun e => by have := (ho.lt i e.symm).1; omega)).trans (h.block i hi hne)⟩
theorem alikeF_len (m : Tr) : (alikeF m).length = m.h := by
  have := (alF_len' ((List.range m.h).map m.row) ([], [])).1
  simpa [alikeF, alF] using this
/-- the numbers of shafts and of treadles -/
def shaftsF (m : Tr) : Nat := (frF (alikeF m.turned)).length
def treadF (m : Tr) : Nat := (frF (alikeF m)).length

/-- the draft under way: n bits of its tie are there -/
def DR (w9 wr : World) (gd : Nat) (a b c d : Value) (n : Nat) : Prop := ∃ v xs, wr.ownsRow w9.heap.size 4 1 v n xs ∧ Arr wr gd 34 [a, b, c, v, d] ∧ w9.grownBy wr (some gd)

set_option maxRecDepth 100000 in
set_option maxHeartbeats 4000000 in
theorem Fewest_any {S : Nat → Prop} {v : Value} {m : Tr} (w : World) (hv : TrR w S v m) (hS : ∀ b, S b → b < w.heap.size) (hm : OkT m) :
    Calls Tryd.prog 33 #[v] w fun e w' => ∃ (a0 : Option Addr) (n0 c0 : Nat) (a3 : Option Addr) (n3 c3 : Nat) (a4 : Option Addr) (n4 c4 : Nat), e = .returned (.tuple #[.agg #[.slice a0 n0 c0, .int .i64 (shaftsF m), .int .i64 (treadF m), .slice a3 n3 c3, .slice a4 n4 c4], .int .i64 0]) ∧ Below w.heap.size w w' := by
  have HV := Lib.hid hv
  have HSS := Lib.hid hS
  have HOK := Lib.hid hm
  obtain ⟨A, c, rfl, h1, h2, hr⟩ := hv.form
  have hpos : 1 ≤ m.bs.length := by rw [hm.len]; exact Nat.mul_pos hm.W1 hm.H1
  clear hS hm hv hr
  have HX := Lib.hid ((Arr.new w #[.int .i64 (m.w : Int), .int .i64 (m.h : Int), .slice A m.bs.length c] 32).alloc (.cells #[.slice none 0 0, .int .i64 0, .int .i64 0, .slice none 0 0, .slice none 0 0] 34))
  have HR := Lib.hid (arr_new2 w (.cells #[.int .i64 (m.w : Int), .int .i64 (m.h : Int), .slice A m.bs.length c] 32) #[.slice none 0 0, .int .i64 0, .int .i64 0, .slice none 0 0, .slice none 0 0] 34)
  have HB0 := Lib.hid (al2 w (.cells #[.int .i64 (m.w : Int), .int .i64 (m.h : Int), .slice A m.bs.length c] 32) (.cells #[.slice none 0 0, .int .i64 0, .int .i64 0, .slice none 0 0, .slice none 0 0] 34))
  obtain ⟨sF, hsF⟩ : ∃ s, shaftsF m = s := ⟨_, rfl⟩
  obtain ⟨tF, htF⟩ : ∃ s, treadF m = s := ⟨_, rfl⟩
  rw [hsF, htF]
  have HSF := Lib.hid hsF
  have HTF := Lib.hid htF
  clear hsF htF
  go_enter Tryd.func33, Tryd.ntmps33
  go_upto_region 1 with fail
  generalize (w.alloc (.cells #[.int .i64 (m.w : Int), .int .i64 (m.h : Int), .slice A m.bs.length c] 32)).alloc (.cells #[.slice none 0 0, .int .i64 0, .int .i64 0, .slice none 0 0, .slice none 0 0] 34) = w0 at *
  have x0 := HX.out.cell (k := 0) rfl
  have x1 := HX.out.cell (k := 1) rfl
  have x2 := HX.out.cell (k := 2) rfl
  go_wp2_with fail
  refine (Turned_any w0 (HV.out.same fun b hb => HB0.out.block b (HSS.out b hb)) (fun b hb => Nat.lt_of_lt_of_le (HSS.out b hb) HB0.out.size) HOK.out).mono ?_
  rintro e w1 ⟨u, rfl, hu, hb1⟩
  have HB1 := Lib.hid (HB0.out.trans (hb1.mono HB0.out.size))
  have HX1 := Lib.hid (HX.out.of_eq (hb1.block _ HX.out.lt))
  have HR1 := Lib.hid (HR.out.of_eq (hb1.block _ HR.out.lt))
  have HU := Lib.hid hu
  obtain ⟨A2, c2, rfl, k1, k2, _⟩ := hu.form
  clear hb1 x0 x1 x2 hu
  have HU2 := Lib.hid (HU.out.same (w' := w1.alloc (.cells #[.int .i64 (m.turned.w : Int), .int .i64 (m.turned.h : Int), .slice A2 m.turned.bs.length c2] 32)) fun b hb => Below.heap_alloc _ _ _ hb.2)
  have HZ := Lib.hid (Arr.new w1 #[.int .i64 (m.turned.w : Int), .int .i64 (m.turned.h : Int), .slice A2 m.turned.bs.length c2] 32)
  have hd := al1 w1 (.cells #[.int .i64 (m.turned.w : Int), .int .i64 (m.turned.h : Int), .slice A2 m.turned.bs.length c2] 32)
  go_upto_region 2 with fail
  generalize w1.alloc (.cells #[.int .i64 (m.turned.w : Int), .int .i64 (m.turned.h : Int), .slice A2 m.turned.bs.length c2] 32) = w2 at *
  have HB2 := Lib.hid (HB1.out.trans (hd.mono HB1.out.size))
  have hx := HX1.out.of_eq (hd.block _ HX1.out.lt)
  have HR2 := Lib.hid (HR1.out.of_eq (hd.block _ HR1.out.lt))
  have x0 := hx.cell (k := 0) rfl
  have x1 := hx.cell (k := 1) rfl
  have x2 := hx.cell (k := 2) rfl
  have HX2 := Lib.hid hx
  have HL2 := Lib.hid hd.size
  have HZL : Hid (w1.heap.size < w2.heap.size) := HZ.out.lt
  have HXL : Hid (w.heap.size + 1 < w1.heap.size) := HR1.out.lt
  clear hd hx
  have g0 : ((m.bs.length : Int) == 0) = false := by rw [beq_eq_false_iff_ne]; omega
  have g0' : (m.bs.length == 0) = false := by rw [beq_eq_false_iff_ne]; omega
  go_upto_region 6 with fail
  have HD := Lib.hid (Arr.new w2 #[.slice none 0 0, .int .i64 0, .int .i64 0, .slice none 0 0, .slice none 0 0] 34)
  have hd := al1 w2 (.cells #[.slice none 0 0, .int .i64 0, .int .i64 0, .slice none 0 0, .slice none 0 0] 34)
  go_upto_region 7 with fail
  generalize w2.alloc (.cells #[.slice none 0 0, .int .i64 0, .int .i64 0, .slice none 0 0, .slice none 0 0] 34) = w3 at *
  have HB3 := Lib.hid (HB2.out.trans (hd.mono HB2.out.size))
  have HX3 := Lib.hid (HX2.out.of_eq (hd.block _ HX2.out.lt))
  have HR3 := Lib.hid (HR2.out.of_eq (hd.block _ HR2.out.lt))
  have HZ3 := Lib.hid (HZ.out.of_eq (hd.block _ HZ.out.lt))
  have HU3 := Lib.hid (HU2.out.same (w' := w3) fun b hb => hd.block _ (Nat.lt_of_lt_of_le hb.2 HL2.out))
  clear hd x0 x1 x2
  have hdl : w2.heap.size < w3.heap.size := HD.out.lt
  have z0 := HZ3.out.cell (k := 0) rfl
  have z1 := HZ3.out.cell (k := 1) rfl
  have z2 := HZ3.out.cell (k := 2) rfl
  go_wp2_with fail
  refine (Alike_any w3 HU3.out (fun b hb => by have := HZL.out; have := hb.2; omega) HOK.out.turned).mono ?_
  rintro e w4 ⟨q, rfl, hq, hb4⟩
  have HQ := Lib.hid hq
  have HB4 := Lib.hid (HB3.out.trans (hb4.mono HB3.out.size))
  have HX4 := Lib.hid (HX3.out.of_eq (hb4.block _ HX3.out.lt))
  have HR4 := Lib.hid (HR3.out.of_eq (hb4.block _ HR3.out.lt))
  have HD4 := Lib.hid (HD.out.of_eq (hb4.block _ HD.out.lt))
  have HL4 := Lib.hid hb4.size
  obtain ⟨A3, c3, rfl⟩ : ∃ A c, q = .slice A (alikeF m.turned).length c := by
    obtain ⟨A3, c3, hqv, _⟩ := hq
    rw [List.length_map] at hqv
    exact ⟨A3, c3, hqv⟩
  clear hb4 z0 z1 z2 hq
  have d0 := HD4.out.cell (k := 0) rfl
  have d0f := HD4.out.free 0
  have HD5 := Lib.hid (HD4.out.set 0 (.slice A3 (alikeF m.turned).length c3))
  have HX5 := Lib.hid (HX4.out.far (p := ⟨w2.heap.size, 0, none⟩) (by show w.heap.size ≠ w2.heap.size; have := HXL.out; have := HZL.out; omega) (.slice A3 (alikeF m.turned).length c3))
  go_upto_region 8 with fail
  have HR5 := Lib.hid (HR4.out.far (p := ⟨w2.heap.size, 0, none⟩) (by show w.heap.size + 1 ≠ w2.heap.size; have := HXL.out; have := HZL.out; omega) (.slice A3 (alikeF m.turned).length c3))
  have HB5 := Lib.hid (HB4.out.setCell (p := ⟨w2.heap.size, 0, none⟩) (by show w.heap.size ≤ w2.heap.size; have := HXL.out; have := HZL.out; omega) (.slice A3 (alikeF m.turned).length c3))
  have HQ5 := Lib.hid (HQ.out.same (w' := w4.setCell ⟨w2.heap.size, 0, none⟩ (.slice A3 (alikeF m.turned).length c3)) fun b hb => Below.heap_setCell _ _ _ _ (by show b ≠ w2.heap.size; have := hb.1; omega))
  have HL5 : Hid (w3.heap.size ≤ (w4.setCell ⟨w2.heap.size, 0, none⟩ (.slice A3 (alikeF m.turned).length c3)).heap.size ∧ w4.heap.size = (w4.setCell ⟨w2.heap.size, 0, none⟩ (.slice A3 (alikeF m.turned).length c3)).heap.size) := ⟨by simp [World.setCell]; exact HL4.out, by simp [World.setCell]⟩
  clear d0 d0f
  generalize w4.setCell ⟨w2.heap.size, 0, none⟩ (.slice A3 (alikeF m.turned).length c3) = w5 at *
  have x0 := HX5.out.cell (k := 0) rfl
  have x1 := HX5.out.cell (k := 1) rfl
  have x2 := HX5.out.cell (k := 2) rfl
  go_wp2_with fail
  refine (Alike_any w5 (HV.out.same fun b hb => HB5.out.block b (HSS.out b hb)) (fun b hb => Nat.lt_of_lt_of_le (HSS.out b hb) HB5.out.size) HOK.out).mono ?_
  rintro e w6 ⟨q, rfl, hq, hb6⟩
  have HT := Lib.hid hq
  have HB6 := Lib.hid (HB5.out.trans (hb6.mono HB5.out.size))
  have HX6 := Lib.hid (HX5.out.of_eq (hb6.block _ HX5.out.lt))
  have HR6 := Lib.hid (HR5.out.of_eq (hb6.block _ HR5.out.lt))
  have HD6 := Lib.hid (HD5.out.of_eq (hb6.block _ HD5.out.lt))
  have HQ6 := Lib.hid (HQ5.out.same (w' := w6) fun b hb => hb6.block b (by have := hb.2; have := HL5.out; omega))
  have HL6 := Lib.hid hb6.size
  obtain ⟨A4, c4, rfl⟩ : ∃ A c, q = .slice A (alikeF m).length c := by
    obtain ⟨A4, c4, hqv, _⟩ := hq
    rw [List.length_map] at hqv
    exact ⟨A4, c4, hqv⟩
  clear hq
  clear hb6 x0 x1 x2
  have d4 := HD6.out.cell (k := 4) rfl
  have d4f := HD6.out.free 4
  have HD7 := Lib.hid (HD6.out.set 4 (.slice A4 (alikeF m).length c4))
  have HX7 := Lib.hid (HX6.out.far (p := ⟨w2.heap.size, 4, none⟩) (by show w.heap.size ≠ w2.heap.size; have := HXL.out; have := HZL.out; omega) (.slice A4 (alikeF m).length c4))
  have HR7 := Lib.hid (HR6.out.far (p := ⟨w2.heap.size, 4, none⟩) (by show w.heap.size + 1 ≠ w2.heap.size; have := HXL.out; have := HZL.out; omega) (.slice A4 (alikeF m).length c4))
  have HB7 := Lib.hid (HB6.out.setCell (p := ⟨w2.heap.size, 4, none⟩) (by show w.heap.size ≤ w2.heap.size; have := HXL.out; have := HZL.out; omega) (.slice A4 (alikeF m).length c4))
  have HQ7 := Lib.hid (HQ6.out.same (w' := w6.setCell ⟨w2.heap.size, 4, none⟩ (.slice A4 (alikeF m).length c4)) fun b hb => Below.heap_setCell _ _ _ _ (by show b ≠ w2.heap.size; have := hb.1; omega))
  have HT7 := Lib.hid (HT.out.same (w' := w6.setCell ⟨w2.heap.size, 4, none⟩ (.slice A4 (alikeF m).length c4)) fun b hb => Below.heap_setCell _ _ _ _ (by show b ≠ w2.heap.size; have := hb.1; have := HL5.out; omega))
  go_upto_region 9 with fail
  have HL7 : Hid (w6.heap.size = (w6.setCell ⟨w2.heap.size, 4, none⟩ (.slice A4 (alikeF m).length c4)).heap.size) := by show _ = _; simp [World.setCell]
  clear d4 d4f
  generalize w6.setCell ⟨w2.heap.size, 4, none⟩ (.slice A4 (alikeF m).length c4) = w7 at *
  obtain ⟨L1, hL1⟩ : ∃ L, alikeF m.turned = L := ⟨_, rfl⟩
  obtain ⟨L2, hL2⟩ : ∃ L, alikeF m = L := ⟨_, rfl⟩
  have HN1 : Hid (L1.length = m.w) := by show _ = _; rw [← hL1, alikeF_len]; rfl
  have HN2 : Hid (L2.length = m.h) := by show _ = _; rw [← hL2, alikeF_len]
  have HF1 : Hid ((frF L1).length = sF) := by show _ = _; rw [← hL1]; exact HSF.out
  have HF2 : Hid ((frF L2).length = tF) := by show _ = _; rw [← hL2]; exact HTF.out
  clear HQ HQ5 HQ6 HT
  rw [hL1] at HD7 HQ7
  rw [hL2] at HD7 HT7
  clear HD4 HD5 HD6
  go_cut [7, 8] from 9 to 10 (fun v7 v8 wx => Ints wx (fun b => w7.heap.size ≤ b ∧ b < wx.heap.size) v7 ((frF L1).map fun k : Nat => (k : Int)) ∧ Ints wx (fun b => w7.heap.size ≤ b ∧ b < wx.heap.size) v8 ((frF L2).map fun k : Nat => (k : Int)) ∧ Below w7.heap.size w7 wx)
  case first =>
    have d0 := HD7.out.cell (k := 0) rfl
    have d4 := HD7.out.cell (k := 4) rfl
    have hdl7 := HD7.out.lt
    have HSX : Hid (∀ w', Below w7.heap.size w7 w' → w'.cell? ⟨w2.heap.size, 0, none⟩ = some (.slice A3 L1.length c3) ∧ w'.cell? ⟨w2.heap.size, 4, none⟩ = some (.slice A4 L2.length c4)) := fun w' hb =>
      ⟨(hb.cell (p := ⟨w2.heap.size, 0, none⟩) (by exact hdl7)).trans d0, (hb.cell (p := ⟨w2.heap.size, 4, none⟩) (by exact hdl7)).trans d4⟩
    have HC1 : Hid (∀ w', Below w7.heap.size w7 w' → Calls Tryd.prog 55 #[.slice A3 L1.length c3] w' fun e w'' => ∃ u, e = .returned u ∧ Ints w'' (fun b => w7.heap.size ≤ b ∧ b < w''.heap.size) u ((frF L1).map fun k : Nat => (k : Int)) ∧ Below w7.heap.size w7 w'') := fun w' hb => by
      have h7 := HQ7.out
      refine (firsts_any w' (h7.same fun b hb2 => hb.block b (by have := hb2.2; have := HL7.out; have := HL6.out; have := HL5.out; omega)) (fun b hb2 => by have := hb2.2; have := HL7.out; have := HL6.out; have := HL5.out; have := hb.size; omega) (by rw [HN1.out]; exact Nat.le_trans HOK.out.W2 (by decide))).mono ?_
      rintro e w'' ⟨u, rfl, hu, hb2⟩
      exact ⟨u, rfl, (Ints.of_own hu).mono fun b hb3 => ⟨Nat.le_trans hb.size hb3.1, hb3.2⟩, hb.trans (hb2.mono hb.size)⟩
    have HC2 : Hid (∀ w', Below w7.heap.size w7 w' → Calls Tryd.prog 55 #[.slice A4 L2.length c4] w' fun e w'' => ∃ u, e = .returned u ∧ Ints w'' (fun b => w'.heap.size ≤ b ∧ b < w''.heap.size) u ((frF L2).map fun k : Nat => (k : Int)) ∧ Below w7.heap.size w7 w'' ∧ Below w'.heap.size w' w'') := fun w' hb => by
      have h7 := HT7.out
      refine (firsts_any w' (h7.same fun b hb2 => hb.block b (by have := hb2.2; have := HL7.out; omega)) (fun b hb2 => by have := hb2.2; have := HL7.out; have := hb.size; omega) (by rw [HN2.out]; exact Nat.le_trans HOK.out.H2 (by decide))).mono ?_
      rintro e w'' ⟨u, rfl, hu, hb2⟩
      exact ⟨u, rfl, Ints.of_own hu, hb.trans (hb2.mono hb.size), hb2⟩
    have HSX0 := Lib.hid (HSX.out w7.drew (below_dN (n := 1) (Below.refl _ _)))
    have HBd : Hid (Below w7.heap.size w7 w7.drew) := below_dN (n := 1) (Below.refl _ _)
    clear d0 d4
    refine wp_region_plan [(true, 0), (true, 1), (true, 3), (true, 4), (false, 2), (false, 5), (false, 6), (false, 7)] 7
      (fun w' => w'.cell? ⟨w2.heap.size, 0, none⟩ = some (.slice A3 L1.length c3) ∧ w'.cell? ⟨w2.heap.size, 4, none⟩ = some (.slice A4 L2.length c4))
      (by kernel_rfl) (by kernel_rfl) (by kernel_rfl) rfl HSX0.out ?_
    repeat (first
      | (refine plan_val _ ?_ (by rfl) (by rfl) ?_ ?_
         rotate_left 1
         · rintro w9 ⟨s0, s1⟩; go_simp; first | done | with_reducible rfl
         (try simp only [Act.put, List.setIfInBounds_toArray, List.set_cons_zero, List.set_cons_succ])))
    refine plan_call _ ?_ ?_ (by rfl) (by rfl) ?_ ?_
    rotate_left 2
    · go_simp; (refine And.intro ?_ ?_ <;> rfl)
    refine (HC1.out _ HBd.out).mono ?_
    rintro e w8 ⟨u1, rfl, hu1, hb8⟩
    have HU1 := Lib.hid hu1
    have HB8 := Lib.hid hb8
    clear hu1 hb8
    refine ⟨_, rfl, .inr (HSX.out _ HB8.out), ?_⟩
    (try simp only [Act.put, List.setIfInBounds_toArray, List.set_cons_zero, List.set_cons_succ])
    refine plan_call _ ?_ ?_ (by rfl) (by rfl) ?_ ?_
    rotate_left 2
    · go_simp; (refine And.intro ?_ ?_ <;> rfl)
    refine (HC2.out _ HB8.out).mono ?_
    rintro e w9 ⟨u2, rfl, hu2, hb9, hb89⟩
    have HU2 := Lib.hid hu2
    have HB9 := Lib.hid hb9
    have HU19 := Lib.hid (HU1.out.same (w' := w9) fun b hb => hb89.block b hb.2)
    have HS89 := Lib.hid hb89.size
    clear hu2 hb9 hb89
    refine ⟨_, rfl, .inr (HSX.out _ HB9.out), ?_⟩
    (try simp only [Act.put, List.setIfInBounds_toArray, List.set_cons_zero, List.set_cons_succ])
    refine plan_do _ ?_ ?_ (by rfl) (by rfl) ?_ (.inr ?_) ?_
    rotate_left 2
    · go_simp; first | rfl | (refine And.intro ?_ ?_ <;> rfl)
    · exact HSX.out _ HB9.out
    (try simp only [Act.put, List.setIfInBounds_toArray, List.set_cons_zero, List.set_cons_succ])
    refine plan_do _ ?_ ?_ (by rfl) (by rfl) ?_ (.inr ?_) ?_
    rotate_left 2
    · go_simp; first | rfl | (refine And.intro ?_ ?_ <;> rfl)
    · exact HSX.out _ HB9.out
    (try simp only [Act.put, List.setIfInBounds_toArray, List.set_cons_zero, List.set_cons_succ])
    refine plan_end ?_
    go_wp2_with fail
    go_meet
    exact ⟨HU19.out.mono fun b hb => ⟨hb.1, Nat.lt_of_lt_of_le hb.2 HS89.out⟩, HU2.out.mono fun b hb => ⟨Nat.le_trans HB8.out.size hb.1, hb.2⟩, HB9.out⟩
  case rest =>
    obtain ⟨p1, p2, pb⟩ := hcut
    have HP1 := Lib.hid p1
    have HP2 := Lib.hid p2
    have HB8 := Lib.hid (HB7.out.trans (pb.mono HB7.out.size))
    have HX8 := Lib.hid (HX7.out.of_eq (pb.block _ HX7.out.lt))
    have HR8 := Lib.hid (HR7.out.of_eq (pb.block _ HR7.out.lt))
    have HD8 := Lib.hid (HD7.out.of_eq (pb.block _ HD7.out.lt))
    have HL8 := Lib.hid pb.size
    obtain ⟨A5, c5, rfl, hm5⟩ : ∃ A c, u7 = .slice A (frF L1).length c ∧ c ≤ maxLen := by
      obtain ⟨A5, c5, hq5, _, hm5, _⟩ := p1
      rw [List.length_map] at hq5
      exact ⟨A5, c5, hq5, hm5⟩
    obtain ⟨A6, c6, rfl, hm6⟩ : ∃ A c, u8 = .slice A (frF L2).length c ∧ c ≤ maxLen := by
      obtain ⟨A6, c6, hq6, _, hm6, _⟩ := p2
      rw [List.length_map] at hq6
      exact ⟨A6, c6, hq6, hm6⟩
    clear p1 p2 pb HQ7 HT7 HX HX1 HX2 HX3 HX4 HX5 HX6 HX7 HR HR1 HR2 HR3 HR4 HR5 HR6 HR7 HU HU2 HU3 HZ HZ3 HD HD7
    have HM1 : Hid (∀ x ∈ frF L1, x < m.w) := fun x hx => by
      have := (frF_lt L1 L1.length x (by rw [List.take_length]; exact hx)).2
      rw [HN1.out] at this; exact this
    have HM2 : Hid (∀ x ∈ frF L2, x < m.h) := fun x hx => by
      have := (frF_lt L2 L2.length x (by rw [List.take_length]; exact hx)).2
      rw [HN2.out] at this; exact this
    have HE1 : Hid ((frF L1).length ≤ 64) := by
      have := frF_len L1 L1.length
      rw [List.take_length, HN1.out] at this
      exact Nat.le_trans this HOK.out.W2
    have HE2 : Hid ((frF L2).length ≤ 64) := by
      have := frF_len L2 L2.length
      rw [List.take_length, HN2.out] at this
      exact Nat.le_trans this HOK.out.H2
    clear HSF HTF
    generalize frF L1 = E1 at *
    generalize frF L2 = E2 at *
    have he1 := HE1.out
    have he2 := HE2.out
    have d1f := HD8.out.free 1
    have d2f := HD8.out.free 2
    have d3f := HD8.out.free 3
    have d1 := HD8.out.cell (k := 1) rfl
    have d2 := HD8.out.cell (k := 2) rfl
    have d3 := HD8.out.cell (k := 3) rfl
    go_upto_region 11 with fail
    have HNR : Hid (w.heap.size + 1 ≠ w2.heap.size) := by show _ ≠ _; have := HXL.out; have := HZL.out; omega
    have HNG : Hid (w.heap.size ≠ w2.heap.size ∧ w.heap.size ≤ w2.heap.size ∧ w2.heap.size < w7.heap.size) := ⟨by have := HXL.out; have := HZL.out; omega, by have := HXL.out; have := HZL.out; omega, by have := HL7.out; have := HL6.out; have := HL5.out; omega⟩
    have HD9 := Lib.hid (((HD8.out.set 1 (.int .i64 (E1.length : Int))).set 2 (.int .i64 (E2.length : Int))).set 3 (.slice none 0 0))
    have HX9 := Lib.hid (((HX8.out.far (p := ⟨w2.heap.size, 1, none⟩) (by exact HNG.out.1) (.int .i64 (E1.length : Int))).far (p := ⟨w2.heap.size, 2, none⟩) (by exact HNG.out.1) (.int .i64 (E2.length : Int))).far (p := ⟨w2.heap.size, 3, none⟩) (by exact HNG.out.1) (.slice none 0 0))
    have HB9 := Lib.hid (((HB8.out.setCell (p := ⟨w2.heap.size, 1, none⟩) (by exact HNG.out.2.1) (.int .i64 (E1.length : Int))).setCell (p := ⟨w2.heap.size, 2, none⟩) (by exact HNG.out.2.1) (.int .i64 (E2.length : Int))).setCell (p := ⟨w2.heap.size, 3, none⟩) (by exact HNG.out.2.1) (.slice none 0 0))
    have hst : wc.grownBy (((wc.setCell ⟨w2.heap.size, 1, none⟩ (.int .i64 (E1.length : Int))).setCell ⟨w2.heap.size, 2, none⟩ (.int .i64 (E2.length : Int))).setCell ⟨w2.heap.size, 3, none⟩ (.slice none 0 0)) (some w2.heap.size) := grownBy_trans (grownBy_trans (grownBy_set _ _ _ _) (grownBy_set _ _ _ _)) (grownBy_set _ _ _ _)
    have HST := Lib.hid hst
    have HZ9 : Hid ((((wc.setCell ⟨w2.heap.size, 1, none⟩ (.int .i64 (E1.length : Int))).setCell ⟨w2.heap.size, 2, none⟩ (.int .i64 (E2.length : Int))).setCell ⟨w2.heap.size, 3, none⟩ (.slice none 0 0)).heap.size = wc.heap.size) := by show _ = _; simp [World.setCell]
    have HR9 := Lib.hid (HR8.out.grown hst (fun e => HNR.out (Option.some.inj e).symm))
    clear hst d1 d2 d3 d1f d2f d3f
    generalize ((wc.setCell ⟨w2.heap.size, 1, none⟩ (.int .i64 (E1.length : Int))).setCell ⟨w2.heap.size, 2, none⟩ (.int .i64 (E2.length : Int))).setCell ⟨w2.heap.size, 3, none⟩ (.slice none 0 0) = w9 at *
    have HI1 := Lib.hid (HP1.out.same (w' := w9) fun b hb => HST.out.block b hb.2 (fun e => by have e2 := Option.some.inj e; have := hb.1; have := HNG.out; omega))
    have HI2 := Lib.hid (HP2.out.same (w' := w9) fun b hb => HST.out.block b hb.2 (fun e => by have e2 := Option.some.inj e; have := hb.1; have := HNG.out; omega))
    have HKEEP : Hid (∀ wr : World, w9.grownBy wr (some w2.heap.size) → Arr wr w.heap.size 32 [.int .i64 (m.w : Int), .int .i64 (m.h : Int), .slice A m.bs.length c] ∧ Ints wr (fun b => w7.heap.size ≤ b ∧ b < wc.heap.size) (.slice A5 E1.length c5) (E1.map fun k : Nat => (k : Int)) ∧ Ints wr (fun b => w7.heap.size ≤ b ∧ b < wc.heap.size) (.slice A6 E2.length c6) (E2.map fun k : Nat => (k : Int)) ∧ TrR wr S (.agg #[.int .i64 (m.w : Int), .int .i64 (m.h : Int), .slice A m.bs.length c]) m ∧ Below w.heap.size w wr) := fun wr hg =>
      ⟨HX9.out.grown hg (fun e => HNG.out.1 (Option.some.inj e).symm),
       HI1.out.same fun b hb => hg.block b (by have := hb.2; have := HZ9.out; omega) (fun e => by have e2 := Option.some.inj e; have := hb.1; have := HNG.out; omega),
       HI2.out.same fun b hb => hg.block b (by have := hb.2; have := HZ9.out; omega) (fun e => by have e2 := Option.some.inj e; have := hb.1; have := HNG.out; omega),
       HV.out.same fun b hb => (below_one HB9.out hg (Nat.le_refl _) HNG.out.2.1).block b (HSS.out b hb),
       below_one HB9.out hg (Nat.le_refl _) HNG.out.2.1⟩
    have HK1 : Hid (∀ wr : World, w9.grownBy wr (some w2.heap.size) → ∀ i (h : i < E1.length), ∃ b o, A5 = some ⟨b, o, none⟩ ∧ wr.cell? ⟨b, o + i, none⟩ = some (.int .i64 (E1[i] : Int))) := fun wr hg i h => by
      obtain ⟨A', c', hA, _, _, hr2⟩ := (HKEEP.out wr hg).2.1
      obtain ⟨b6, o6, e6, _, x0⟩ := ints_cell hr2 (k := i) (by simpa using h)
      injection hA with hA _ _
      rw [List.getElem_map] at x0
      exact ⟨b6, o6, hA.trans e6, x0⟩
    have HK2 : Hid (∀ wr : World, w9.grownBy wr (some w2.heap.size) → ∀ i (h : i < E2.length), ∃ b o, A6 = some ⟨b, o, none⟩ ∧ wr.cell? ⟨b, o + i, none⟩ = some (.int .i64 (E2[i] : Int))) := fun wr hg i h => by
      obtain ⟨A', c', hA, _, _, hr2⟩ := (HKEEP.out wr hg).2.2.1
      obtain ⟨b6, o6, e6, _, x0⟩ := ints_cell hr2 (k := i) (by simpa using h)
      injection hA with hA _ _
      rw [List.getElem_map] at x0
      exact ⟨b6, o6, hA.trans e6, x0⟩
    have HK3 : Hid (∀ wr : World, w9.grownBy wr (some w2.heap.size) → ∀ k (h : k < m.bs.length), ∃ b o, A = some ⟨b, o, none⟩ ∧ S b ∧ wr.cell? ⟨b, o + k, none⟩ = some (.bool m.bs[k])) := fun wr hg k h => by
      obtain ⟨A', c', hA, _, _, hr2⟩ := (HKEEP.out wr hg).2.2.2.1.form
      have hA2 : A = A' := by simp at hA; exact hA.1
      obtain ⟨b, o, u, e, hs, hu, hc⟩ := hr2.cell1 h
      simp [h] at hu
      subst hu
      exact ⟨b, o, hA2.trans e, hs, hc⟩
    have HK0 : Hid (∀ wr : World, w9.grownBy wr (some w2.heap.size) → Arr wr w.heap.size 32 [.int .i64 (m.w : Int), .int .i64 (m.h : Int), .slice A m.bs.length c] ∧ Below w.heap.size w wr) := fun wr hg => ⟨(HKEEP.out wr hg).1, (HKEEP.out wr hg).2.2.2.2⟩
    have HDR0 : Hid (DR w9 w9 w2.heap.size (.slice A3 L1.length c3) (.int .i64 (E1.length : Int)) (.int .i64 (E2.length : Int)) (.slice A4 L2.length c4) (0 * E1.length)) := ⟨.slice none 0 0, [], by rw [Nat.zero_mul]; exact World.ownsRow_nil _ _ _ _, HD9.out, ⟨rfl, rfl, rfl, Nat.le_refl _, fun _ _ _ => rfl⟩⟩
    have HKR : Hid (∀ wr : World, w9.grownBy wr (some w2.heap.size) → Arr wr (w.heap.size + 1) 34 [.slice none 0 0, .int .i64 0, .int .i64 0, .slice none 0 0, .slice none 0 0]) := fun wr hg => HR9.out.grown hg (fun e => HNR.out (Option.some.inj e).symm)
    have HLC : Hid (w7.heap.size ≤ wc.heap.size) := HL8.out
    clear HKEEP HR8 HR9 HP1 HP2 HX8 HX9 HD8 HD9 HI1 HI2 HST HB1 HB2 HB3 HB4 HB5 HB6 HB7 HB8 HB0 HL2 HL4 HL5 HL6 HL7 HL8 HXL HZL hdl k1 k2 hpos
    go_wp2_with fail
    go_loopg [53] E2.length (fun gg ctr wr => ∃ j : Nat, j ≤ E2.length ∧ gg = E2.length - j ∧ ctr = .int .i64 j ∧ DR w9 wr w2.heap.size (.slice A3 L1.length c3) (.int .i64 (E1.length : Int)) (.int .i64 (E2.length : Int)) (.slice A4 L2.length c4) (j * E1.length))
    case atStart => exact ⟨0, Nat.zero_le _, rfl, rfl, HDR0.out⟩
    case round =>
      obtain ⟨j, hj, rfl, rfl, hdr⟩ := hrel
      have HDR := Lib.hid hdr
      by_cases hlt : j < E2.length
      · obtain ⟨b6, o6, rfl, x0⟩ := HK2.out wr hdr.choose_spec.choose_spec.2.2 j hlt
        clear hdr
        have HY : Hid (E2[j] < m.h) := HM2.out _ (List.getElem_mem hlt)
        generalize E2[j] = y at *
        go_upto_region 15 with fail
        clear x0
        go_loopg [59] E1.length (fun gg ctr wr => ∃ i : Nat, i ≤ E1.length ∧ gg = E1.length - i ∧ ctr = .int .i64 i ∧ DR w9 wr w2.heap.size (.slice A3 L1.length c3) (.int .i64 (E1.length : Int)) (.int .i64 (E2.length : Int)) (.slice A4 L2.length c4) (j * E1.length + i))
        case atStart => exact ⟨0, Nat.zero_le _, rfl, rfl, HDR.out⟩
        case round =>
          obtain ⟨i, hi, rfl, rfl, hdr⟩ := hrel
          rename World => wz
          have HDRi := Lib.hid hdr
          clear HDR
          by_cases hli : i < E1.length
          · obtain ⟨b5, o5, rfl, x0⟩ := HK1.out _ hdr.choose_spec.choose_spec.2.2 i hli
            clear hdr
            have HX : Hid (E1[i] < m.w) := HM1.out _ (List.getElem_mem hli)
            generalize E1[i] = x at *
            go_upto_region 17 with fail
            clear x0
            have HFT : Hid (y * m.w + x < m.bs.length ∧ IntKind.i64.wrap ((y : Int) * (m.w : Int)) = ((y * m.w : Nat) : Int) ∧ IntKind.i64.wrap (((y * m.w : Nat) : Int) + (x : Int)) = ((y * m.w + x : Nat) : Int) ∧ j * E1.length + i < 4096) := by
              have h1 := HY.out
              have h2 := HX.out
              have h3 := HOK.out.len
              have h4 := HOK.out.W2
              have h5 := HOK.out.H2
              have hb : y * m.w + x < m.h * m.w := by
                have : (y + 1) * m.w ≤ m.h * m.w := Nat.mul_le_mul_right _ h1
                rw [Nat.succ_mul] at this
                omega
              have hb2 : m.h * m.w ≤ 64 * 64 := Nat.mul_le_mul h5 h4
              have hb3 : j * E1.length + E1.length ≤ 64 * 64 := by
                rw [← Nat.succ_mul]
                exact Nat.mul_le_mul (Nat.le_trans hlt he2) he1
              have hb4 : m.w * m.h = m.h * m.w := Nat.mul_comm _ _
              refine ⟨by rw [h3, hb4]; exact hb, ?_, ?_, ?_⟩
              · rw [← Int.natCast_mul]; exact IntWalk.i64_in _ (by generalize y * m.w = z1 at *; generalize m.h * m.w = z2 at *; omega)
              · rw [← Int.natCast_add]; exact IntWalk.i64_in _ (by generalize y * m.w = z1 at *; generalize m.h * m.w = z2 at *; omega)
              · generalize j * E1.length = z1 at *; omega
            have hkk := HFT.out.1
            have hw1 := HFT.out.2.1
            have hw2 := HFT.out.2.2.1
            have hjj := HFT.out.2.2.2
            clear HFT
            obtain ⟨v0, xs0, hown, harr, hgr⟩ := HDRi.out
            have HOW := Lib.hid hown
            have HAR := Lib.hid harr
            have HGR := Lib.hid hgr
            obtain ⟨rb, ro, hA, hSb, z0⟩ := HK3.out _ hgr _ hkk
            subst hA
            have HSB := Lib.hid hSb
            have HBX := HK0.out _ hgr
            have x0 := HBX.1.cell (k := 0) rfl
            have x2 := HBX.1.cell (k := 2) rfl
            have hxl := HBX.1.lt
            have hbl := HBX.2.size
            have hrbl := HSS.out rb hSb
            obtain ⟨A0, c0, rfl, _, _⟩ := own_form hown
            have d3 := harr.cell (k := 3) rfl
            have hdl := harr.lt
            have hgs := hgr.size
            clear hSb hown harr hgr HBX HDRi
            generalize m.bs[y * m.w + x] = bt at *
            generalize hk1 : y * m.w = k1 at *
            generalize hkx : k1 + x = kk at *
            generalize hnn : j * E1.length + i = nn at *
            have HNN := Lib.hid hnn
            clear hnn
            have hix : (kk : Int) < (m.bs.length : Int) := by omega
            have hix0 : (0 : Int) ≤ (kk : Int) := by omega
            refine wp_region_plan [(true, 0), (true, 1), (true, 2), (true, 3), (true, 4), (true, 5), (true, 6), (true, 7), (true, 8), (true, 9), (true, 10), (true, 11), (true, 12), (false, 13), (false, 14), (false, 15), (true, 16), (false, 17)] 17
              (fun w' => w'.cell? ⟨w2.heap.size, 3, none⟩ = some (.slice A0 nn c0) ∧ w'.cell? ⟨w.heap.size, 0, none⟩ = some (.int .i64 (m.w : Int)) ∧ w'.cell? ⟨w.heap.size, 2, none⟩ = some (.slice (some ⟨rb, ro, none⟩) m.bs.length c) ∧ w'.cell? ⟨rb, ro + kk, none⟩ = some (.bool bt))
              (by kernel_rfl) (by kernel_rfl) (by kernel_rfl) rfl ⟨d3, x0, x2, z0⟩ ?_
            repeat (first
              | (refine plan_val _ ?_ (by rfl) (by rfl) ?_ ?_
                 rotate_left 1
                 · rintro w9 ⟨s0, s1, s2, s3⟩; go_simp; first | done | with_reducible rfl
                 (try simp only [Act.put, List.setIfInBounds_toArray, List.set_cons_zero, List.set_cons_succ])))
            refine plan_do _ ?_ ?_ (by rfl) (by rfl) ?_ (.inr ?_) ?_
            rotate_left 2
            · go_simp; first | rfl | (refine And.intro ?_ ?_ <;> rfl)
            · exact ⟨(World.cell?_alloc_lt _ _ _ (by exact hdl)).trans d3, (World.cell?_alloc_lt _ _ _ (by exact hxl)).trans x0, (World.cell?_alloc_lt _ _ _ (by exact hxl)).trans x2, (World.cell?_alloc_lt _ _ _ (by exact Nat.lt_of_lt_of_le hrbl hbl)).trans z0⟩
            (try simp only [Act.put, List.setIfInBounds_toArray, List.set_cons_zero, List.set_cons_succ])
            refine plan_app _ T30b (w0 := wz) [.bool bt] (own_dN (k := 1) (own_al HOW.out _)) (below_dN (n := 1) (below_al (Below.refl _ wz) hgs _)) hgs (by rfl) (by rfl) rfl rfl rfl rfl
              (fun j u' hu => by have := (Arr.new wz #[.bool bt] 4).cell (k := j) hu; rwa [Nat.zero_add]) (by simp [Value.oneCell']) (by omega) ?_
            intro v1' w8 hown1 hb1 hg1 ho1
            obtain ⟨A2', c2', hv1, _, _⟩ := own_form hown1
            subst hv1
            have hgg : wz.grownBy w8 (Value.slice A0 nn c0).ownBlock := grownBy_alloc_first (o := .cells #[.bool bt] 4) ⟨hg1.os, hg1.tape, hg1.output, hg1.size, hg1.block⟩
            have HG8 := Lib.hid (grown_own HGR.out HOW.out (Nat.le_refl _) hgg)
            have hnd : (Value.slice A0 nn c0).ownBlock ≠ some w2.heap.size := row_ne HOW.out (by have := HNG.out; have := HZ9.out; have := HLC.out; omega)
            have har8 := HAR.out.grown hgg hnd
            have HA8 := Lib.hid har8
            have t0 := har8.cell (k := 3) rfl
            have t1 := har8.free 3
            have HBX8 := HK0.out _ HG8.out
            have r0 := HBX8.1.cell (k := 0) rfl
            have r2 := HBX8.1.cell (k := 2) rfl
            have HC8 : w8.cell? ⟨rb, ro + kk, none⟩ = some (.bool bt) := (World.cell?_of_block (a := ⟨rb, ro + kk, none⟩) (hgg.block rb (by exact Nat.lt_of_lt_of_le hrbl hbl) (fun e => by have := (HOW.out.lt _ e.symm).1; have := HB9.out.size; omega))).trans z0
            refine ⟨.inr ⟨t0, r0, r2, HC8⟩, ?_⟩
            (try simp only [Act.put, List.setIfInBounds_toArray, List.set_cons_zero, List.set_cons_succ])
            clear x0 x2 d3 z0 HBX8
            refine plan_do _ ?_ ?_ (by rfl) (by rfl) ?_ (.inr ?_) ?_
            rotate_left 2
            · go_simp; first | rfl | (refine And.intro ?_ ?_ <;> rfl)
            · exact ⟨t0, r0, r2, HC8⟩
            (try simp only [Act.put, List.setIfInBounds_toArray, List.set_cons_zero, List.set_cons_succ])
            refine plan_val _ ?_ (by rfl) (by rfl) ?_ ?_
            rotate_left 1
            · rintro w9 ⟨s0, s1, s2, s3⟩; go_simp; first | done | with_reducible rfl
            (try simp only [Act.put, List.setIfInBounds_toArray, List.set_cons_zero, List.set_cons_succ])
            refine plan_store _ ?_ (by rfl) (by rfl) ?_ (.inl rfl) ?_
            rotate_left 1
            · go_simp; first | rfl | (refine And.intro ?_ ?_ <;> rfl)
            refine plan_end ?_
            (try simp only [Act.put, List.setIfInBounds_toArray, List.set_cons_zero, List.set_cons_succ])
            have HDRN : Hid (DR w9 (w8.setCell ⟨w2.heap.size, 3, none⟩ (.slice A2' (nn + 1) c2')) w2.heap.size (.slice A3 L1.length c3) (.int .i64 (E1.length : Int)) (.int .i64 (E2.length : Int)) (.slice A4 L2.length c4) (nn + 1)) :=
              ⟨_, _, own_kept_lt hown1 (grownBy_set _ _ _ _) (by have := HNG.out; have := HZ9.out; have := HLC.out; omega), HA8.out.set 3 _, grownBy_trans HG8.out (grownBy_set _ _ _ _)⟩
            clear hown1 hb1 hg1 ho1 hgg hnd har8 t0 t1 r0 r2 HC8 hrbl hbl hxl hdl hgs
            go_wp2_with fail
            go_roundg (E1.length - (i + 1))
            case measure => omega
            case rel => exact ⟨i + 1, by omega, rfl, by go_num, by have := HDRN.out; have h := HNN.out; rw [show j * E1.length + (i + 1) = nn + 1 by omega]; exact this⟩
          · obtain rfl : i = E1.length := by omega
            clear hdr
            go_wp2_with fail
            go_roundg (E2.length - (j + 1))
            case measure => omega
            case rel => exact ⟨j + 1, by omega, rfl, by go_num, by rw [Nat.succ_mul]; exact HDRi.out⟩
      · obtain rfl : j = E2.length := by omega
        obtain ⟨v0, xs0, hown, harr, hgr⟩ := hdr
        obtain ⟨A0, c0, rfl, _, _⟩ := own_form hown
        have HG := Lib.hid hgr
        have hr := HKR.out _ hgr
        have d0 := harr.cell (k := 0) rfl
        have d1 := harr.cell (k := 1) rfl
        have d2 := harr.cell (k := 2) rfl
        have d3 := harr.cell (k := 3) rfl
        have d4 := harr.cell (k := 4) rfl
        have r0 := hr.cell (k := 0) rfl
        have r1 := hr.cell (k := 1) rfl
        have r2 := hr.cell (k := 2) rfl
        have r3 := hr.cell (k := 3) rfl
        have r4 := hr.cell (k := 4) rfl
        have f0 := hr.free 0
        have f1 := hr.free 1
        have f2 := hr.free 2
        have f3 := hr.free 3
        have f4 := hr.free 4
        have HB := Lib.hid (HK0.out _ hgr).2
        have HRR := Lib.hid (((((hr.set 0 (.slice A3 L1.length c3)).set 1 (.int .i64 (E1.length : Int))).set 2 (.int .i64 (E2.length : Int))).set 3 (.slice A0 (E2.length * E1.length) c0)).set 4 (.slice A4 L2.length c4))
        have hle : w.heap.size ≤ w.heap.size + 1 := Nat.le_succ _
        have HBB := Lib.hid (((((HB.out.setCell (p := ⟨w.heap.size + 1, 0, none⟩) hle (.slice A3 L1.length c3)).setCell (p := ⟨w.heap.size + 1, 1, none⟩) hle (.int .i64 (E1.length : Int))).setCell (p := ⟨w.heap.size + 1, 2, none⟩) hle (.int .i64 (E2.length : Int))).setCell (p := ⟨w.heap.size + 1, 3, none⟩) hle (.slice A0 (E2.length * E1.length) c0)).setCell (p := ⟨w.heap.size + 1, 4, none⟩) hle (.slice A4 L2.length c4))
        clear hown harr hgr hr HDR
        go_wp2_with fail
        have q0 := HRR.out.cell (k := 0) rfl
        have q1 := HRR.out.cell (k := 1) rfl
        have q2 := HRR.out.cell (k := 2) rfl
        have q3 := HRR.out.cell (k := 3) rfl
        have q4 := HRR.out.cell (k := 4) rfl
        generalize ((((wr.setCell ⟨w.heap.size + 1, 0, none⟩ (.slice A3 L1.length c3)).setCell ⟨w.heap.size + 1, 1, none⟩ (.int .i64 (E1.length : Int))).setCell ⟨w.heap.size + 1, 2, none⟩ (.int .i64 (E2.length : Int))).setCell ⟨w.heap.size + 1, 3, none⟩ (.slice A0 (E2.length * E1.length) c0)).setCell ⟨w.heap.size + 1, 4, none⟩ (.slice A4 L2.length c4) = wf at *
        refine bodyPost_ret (v := .tuple #[.agg #[.slice A3 L1.length c3, .int .i64 (E1.length : Int), .int .i64 (E2.length : Int), .slice A0 (E2.length * E1.length) c0, .slice A4 L2.length c4], .int .i64 0]) (by simp [results, Tryd.results33, go_sem, q0, q1, q2, q3, q4]) rfl ?_
        rw [← HF1.out, ← HF2.out]
        exact ⟨_, _, _, _, _, _, _, _, _, rfl, HBB.out⟩
end Go.Proofs.YtmmakljmikdooaaDoor
