import Derived.Test.YtaacfjeddoekfaaTl3
/- Chapter 11: a stitch that is right is done. (Printed by gen_do.py.) -/
namespace Go.Proofs.Ytaacfjeddoekfaa
open Go.RowKit
set_option linter.unusedVariables false
set_option linter.unusedSimpArgs false

theorem MC.other {w0 w : World} {B p N : Nat} {m : MD} {k : KS} {g : Nat} (h : MC w0 w B p N m k) (hg : w.heap.size ≤ g) : MC w0 w B p N { m with own := ow m.own g rX } k := by
  have O : ∀ r : Role, ∀ x, x < w.heap.size → m.own x ≠ r → ow m.own g rX x = m.own x := fun r x hx _ => ow_ne _ _ (by omega)
  exact ⟨h.below, h.hB, h.arr, h.pB, h.bed, h.ol, h.oo, h.on, by show ow _ _ _ _ = _; rw [ow_ne _ _ (by have := h.arr.lt; omega)]; exact h.rp,
    fun b hb => by show ow m.own g rX (m.gb b) = _; rw [ow_ne _ _ (by have := (h.bed b hb).1.lt; omega)]; exact h.rb b hb,
    h.rl.turn h.ol (O rX) (by simp), h.ro.turn h.oo (O rX) (by simp), fun b n => (h.rn b n).turn (h.on b n) (O rX) (by simp)⟩
theorem TH.other {w : World} {B : Nat} {m : MD} {ls : List Lop} {g : Nat} (h : TH w B m ls) (hg : w.heap.size ≤ g) : TH w B { m with own := ow m.own g rX } ls := fun i hi =>
  ⟨(h i hi).1, (h i hi).2.turn (r' := rX) (h i hi).1 (fun x hx _ => ow_ne _ _ (by omega)) (by simp)⟩
/-- what stands behind the check and the count -/
structure DX (mi : MD) (wi w0 w : World) (B p N : Nat) (m : MD) (k : KS) (g : Nat) (xs : List Value) : Prop where
  mc : MC w0 w B p N m k
  th : TH w B m k.loops
  box : Arr w g 44 xs
  oth : m.own g = rX
  fr : Fr mi wi m w
section
variable {mi : MD} {wi w0 w w1 : World} {B p N : Nat} {m : MD} {k : KS} {g : Nat} {xs : List Value}
theorem DX.far (h : DX mi wi w0 w B p N m k g xs) : g ≠ p := fun e => by have := h.oth; rw [e, h.mc.rp] at this; exact absurd this (by simp)
theorem DX.keep (h : DX mi wi w0 w B p N m k g xs) (hb : Below w.heap.size w w1) : DX mi wi w0 w1 B p N m k g xs :=
  ⟨h.mc.keep hb, h.th.keep hb, h.box.of_eq (hb.block _ h.box.lt), h.oth, h.fr.trans (.keep m hb)⟩
theorem DX.drew (h : DX mi wi w0 w B p N m k g xs) : DX mi wi w0 w.drew B p N m k g xs := h.keep (below_dN (n := 1) (Below.refl _ _))
theorem DX.count (h : DX mi wi w0 w B p N m k g xs) : DX mi wi w0 (w.setCell ⟨p, 5, none⟩ (.int .i64 ((k.done : Int) + 1))) B p N m { k with done := k.done + 1 } g xs :=
  ⟨h.mc.done (k.done + 1), h.th.mach h.mc.rp 5 _, h.box.far h.far _, h.oth, h.fr.trans (.step (.refl m.own rM w) (by decide) (by rw [h.mc.rp]; decide) fun _ _ hx => hx)⟩
theorem DX.start (hm : MC w0 w B p N mi k) (ht : TH w B mi k.loops) (cs : Array Value) : ∃ m, DX mi w w0 (w.alloc (.cells cs 44)) B p N m k w.heap.size cs.toList ∧ MC w0 w B p N m k := by
  have h1 := hm.other (Nat.le_refl _)
  have hb : Below w.heap.size w (w.alloc (.cells cs 44)) := (Below.refl _ _).alloc (Nat.le_refl _) _
  exact ⟨_, ⟨h1.keep hb, (ht.other (Nat.le_refl _)).keep hb, Arr.new w cs 44, ow_same _ _ _, hb.size, fun b hb' hx => ⟨by show ow mi.own w.heap.size rX b = rX; rw [ow_ne _ _ (by omega)]; exact hx, hb.block b hb'⟩⟩, h1⟩
/-- the box is not touched by what the machine's rows do -/
theorem DX.row (h : DX mi wi w0 w B p N m k g xs) {v : Value} {r : Role} (hs : Sep v r m.own) (hr : r ≠ rX) (hg : w.grownBy w1 v.ownBlock) : Arr w1 g 44 xs :=
  h.box.of_eq (hg.block _ h.box.lt fun e => by have := hs g e.symm; rw [h.oth] at this; exact hr this.symm)
theorem DX.nbed (h : DX mi wi w0 w B p N m k g xs) {b : Int} (hb : b = 0 ∨ b = 1) : g ≠ m.gb b := fun e => by have := h.oth; rw [e, h.mc.rb b hb] at this; exact absurd this (by simp)
end

set_option maxRecDepth 100000 in
set_option maxHeartbeats 4000000 in
theorem Do_rack {w0 w : World} {B p N : Nat} {k : KS} {mi : MD} (h : MC w0 w B p N mi k) (h' : TH w B mi k.loops) (hN : N ≤ 128) (hi : Kinv N k) (b n cc t : Int) (hw : wrongK N k ⟨6, b, n, cc, t⟩ = 0) :
    Calls Try.prog 26 #[ptr p 0, .agg #[.int .i64 6, .int .i64 b, .int .i64 n, .int .i64 cc, .int .i64 t]] w fun e w' => e = .returned (.int .i64 0) ∧ MF w0 w' B p N (stepK k ⟨6, b, n, cc, t⟩) mi w := by
  obtain ⟨m, hx0, hm⟩ := DX.start h h' #[.int .i64 6, .int .i64 b, .int .i64 n, .int .i64 cc, .int .i64 t]
  have HWW : Hid (∀ w', Below w.heap.size w w' → Calls Try.prog 46 #[ptr p 0, .agg #[.int .i64 6, .int .i64 b, .int .i64 n, .int .i64 cc, .int .i64 t]] w' fun e w'' => e = .returned (.int .i64 0) ∧ Below w'.heap.size w' w'') := fun w' hb => by
    have := wrong_any (hm.keep hb) hN hi ⟨6, b, n, cc, t⟩
    rw [hw] at this
    exact this
  have HX0 : Hid (DX mi w w0 (w.alloc (.cells #[.int .i64 6, .int .i64 b, .int .i64 n, .int .i64 cc, .int .i64 t] 44)) B p N m k w.heap.size [.int .i64 6, .int .i64 b, .int .i64 n, .int .i64 cc, .int .i64 t]) := hx0
  have HWB := Lib.hid (wrong_bounds hw)
  have HI := Lib.hid hi
  have hd := hi.d
  obtain ⟨hr1, hr2⟩ := hi.r
  have hL0 := hi.loops
  have hO0 := hi.loose
  have hdn := HWB.out.2.2.1
  clear hm h h' hx0 hw hi
  have hbe : Hid (Below w.heap.size w (w.alloc (.cells #[.int .i64 6, .int .i64 b, .int .i64 n, .int .i64 cc, .int .i64 t] 44))) := (Below.refl _ _).alloc (Nat.le_refl _) _
  go_enter Try.func26, Try.ntmps26
  go_wp2_with fail
  refine (HWW.out _ hbe.out).mono ?_
  rintro e w1 ⟨rfl, hb1⟩
  have HX1 := Lib.hid (HX0.out.keep hb1)
  clear hb1 HWW HX0 hbe
  have c5 := HX1.out.mc.cell (j := 5) rfl
  have z5 := HX1.out.mc.free 5
  go_upto_region 5 with fail
  have HX2 := Lib.hid HX1.out.count
  generalize w1.setCell ⟨p, 5, none⟩ (.int .i64 ((k.done : Int) + 1)) = w2 at *
  clear HX1 c5 z5
  have x0 := HX2.out.box.cell (k := 0) rfl
  have x1 := HX2.out.box.cell (k := 1) rfl
  have x2 := HX2.out.box.cell (k := 2) rfl
  have x3 := HX2.out.box.cell (k := 3) rfl
  have x4 := HX2.out.box.cell (k := 4) rfl
  have c4 := HX2.out.mc.cell (j := 4) rfl
  have z4 := HX2.out.mc.free 4
  have hbp := HX2.out.far
  go_wp2_with fail
  go_ret
  have e : stepK k ⟨6, b, n, cc, t⟩ = { k with rack := t, done := k.done + 1 } := by unfold stepK; rw [if_pos rfl]
  rw [e]
  exact ⟨rfl, m, HX2.out.mc.rack t, HX2.out.th.mach HX2.out.mc.rp 4 _, HX2.out.fr.trans (.step (.refl m.own rM w2) (by decide) (by rw [HX2.out.mc.rp]; decide) fun _ _ hx => hx)⟩

set_option maxRecDepth 100000 in
set_option maxHeartbeats 4000000 in
theorem Do_miss {w0 w : World} {B p N : Nat} {k : KS} {mi : MD} (h : MC w0 w B p N mi k) (h' : TH w B mi k.loops) (hN : N ≤ 128) (hi : Kinv N k) (b n cc t : Int) (hw : wrongK N k ⟨3, b, n, cc, t⟩ = 0) :
    Calls Try.prog 26 #[ptr p 0, .agg #[.int .i64 3, .int .i64 b, .int .i64 n, .int .i64 cc, .int .i64 t]] w fun e w' => e = .returned (.int .i64 0) ∧ MF w0 w' B p N (stepK k ⟨3, b, n, cc, t⟩) mi w := by
  obtain ⟨m, hx0, hm⟩ := DX.start h h' #[.int .i64 3, .int .i64 b, .int .i64 n, .int .i64 cc, .int .i64 t]
  have HWW : Hid (∀ w', Below w.heap.size w w' → Calls Try.prog 46 #[ptr p 0, .agg #[.int .i64 3, .int .i64 b, .int .i64 n, .int .i64 cc, .int .i64 t]] w' fun e w'' => e = .returned (.int .i64 0) ∧ Below w'.heap.size w' w'') := fun w' hb => by
    have := wrong_any (hm.keep hb) hN hi ⟨3, b, n, cc, t⟩
    rw [hw] at this
    exact this
  have HX0 : Hid (DX mi w w0 (w.alloc (.cells #[.int .i64 3, .int .i64 b, .int .i64 n, .int .i64 cc, .int .i64 t] 44)) B p N m k w.heap.size [.int .i64 3, .int .i64 b, .int .i64 n, .int .i64 cc, .int .i64 t]) := hx0
  have HWB := Lib.hid (wrong_bounds hw)
  have HI := Lib.hid hi
  have hd := hi.d
  obtain ⟨hr1, hr2⟩ := hi.r
  have hL0 := hi.loops
  have hO0 := hi.loose
  have hdn := HWB.out.2.2.1
  clear hm h h' hx0 hw hi
  have hbe : Hid (Below w.heap.size w (w.alloc (.cells #[.int .i64 3, .int .i64 b, .int .i64 n, .int .i64 cc, .int .i64 t] 44))) := (Below.refl _ _).alloc (Nat.le_refl _) _
  have htt := HWB.out.2.2.2.2.1 (by show (3 : Int) ≠ 6; decide)
  obtain ⟨j, rfl⟩ : ∃ j : Nat, n = (j : Int) := ⟨n.toNat, by have := htt.2.1; dsimp only at this; omega⟩
  have HT : Hid (There N b (j : Int)) := htt
  clear htt
  go_enter Try.func26, Try.ntmps26
  go_wp2_with fail
  refine (HWW.out _ hbe.out).mono ?_
  rintro e w1 ⟨rfl, hb1⟩
  have HX1 := Lib.hid (HX0.out.keep hb1)
  clear hb1 HWW HX0 hbe
  have c5 := HX1.out.mc.cell (j := 5) rfl
  have z5 := HX1.out.mc.free 5
  go_upto_region 5 with fail
  have HX2 := Lib.hid HX1.out.count
  generalize w1.setCell ⟨p, 5, none⟩ (.int .i64 ((k.done : Int) + 1)) = w2 at *
  clear HX1 c5 z5
  have x0 := HX2.out.box.cell (k := 0) rfl
  have x1 := HX2.out.box.cell (k := 1) rfl
  have x2 := HX2.out.box.cell (k := 2) rfl
  have x3 := HX2.out.box.cell (k := 3) rfl
  have x4 := HX2.out.box.cell (k := 4) rfl
  go_wp2_with fail
  refine (at_any HX2.out.mc hN HT.out).mono ?_
  rintro e w3 ⟨rfl, hb3⟩
  have HX3 := Lib.hid (HX2.out.keep hb3)
  clear hb3 x0 x1 x2 x3 x4
  have x0 := HX3.out.box.cell (k := 0) rfl
  have x1 := HX3.out.box.cell (k := 1) rfl
  have x2 := HX3.out.box.cell (k := 2) rfl
  have x3 := HX3.out.box.cell (k := 3) rfl
  have hp3 := HX3.out.mc.arr.lt
  have hg3 := (HX3.out.mc.bed b HT.out.1).1.lt
  have hb3 := HX3.out.box.lt
  go_wp2_with fail
  go_ret
  have e : stepK k ⟨3, b, (j : Int), cc, t⟩ = { k with done := k.done + 1 } := by unfold stepK; rw [if_neg (show ¬ (3 : Int) = 6 by decide), if_neg (show ¬ (3 : Int) = 1 by decide), if_neg (show ¬ (3 : Int) = 2 by decide), if_neg (show ¬ (3 : Int) = 4 by decide), if_neg (show ¬ (3 : Int) = 5 by decide)]
  rw [e]
  exact ⟨rfl, m, HX3.out.mc, HX3.out.th, HX3.out.fr⟩

set_option maxRecDepth 100000 in
set_option maxHeartbeats 4000000 in
theorem Do_knit {w0 w : World} {B p N : Nat} {k : KS} {mi : MD} (h : MC w0 w B p N mi k) (h' : TH w B mi k.loops) (hN : N ≤ 128) (hi : Kinv N k) (b n cc t : Int) (hw : wrongK N k ⟨1, b, n, cc, t⟩ = 0) :
    Calls Try.prog 26 #[ptr p 0, .agg #[.int .i64 1, .int .i64 b, .int .i64 n, .int .i64 cc, .int .i64 t]] w fun e w' => e = .returned (.int .i64 0) ∧ MF w0 w' B p N (stepK k ⟨1, b, n, cc, t⟩) mi w := by
  obtain ⟨m, hx0, hm⟩ := DX.start h h' #[.int .i64 1, .int .i64 b, .int .i64 n, .int .i64 cc, .int .i64 t]
  have HWW : Hid (∀ w', Below w.heap.size w w' → Calls Try.prog 46 #[ptr p 0, .agg #[.int .i64 1, .int .i64 b, .int .i64 n, .int .i64 cc, .int .i64 t]] w' fun e w'' => e = .returned (.int .i64 0) ∧ Below w'.heap.size w' w'') := fun w' hb => by
    have := wrong_any (hm.keep hb) hN hi ⟨1, b, n, cc, t⟩
    rw [hw] at this
    exact this
  have HX0 : Hid (DX mi w w0 (w.alloc (.cells #[.int .i64 1, .int .i64 b, .int .i64 n, .int .i64 cc, .int .i64 t] 44)) B p N m k w.heap.size [.int .i64 1, .int .i64 b, .int .i64 n, .int .i64 cc, .int .i64 t]) := hx0
  have HWB := Lib.hid (wrong_bounds hw)
  have HI := Lib.hid hi
  have hd := hi.d
  obtain ⟨hr1, hr2⟩ := hi.r
  have hL0 := hi.loops
  have hO0 := hi.loose
  have hdn := HWB.out.2.2.1
  clear hm h h' hx0 hw hi
  have hbe : Hid (Below w.heap.size w (w.alloc (.cells #[.int .i64 1, .int .i64 b, .int .i64 n, .int .i64 cc, .int .i64 t] 44))) := (Below.refl _ _).alloc (Nat.le_refl _) _
  have htt := HWB.out.2.2.2.2.1 (by show (1 : Int) ≠ 6; decide)
  obtain ⟨j, rfl⟩ : ∃ j : Nat, n = (j : Int) := ⟨n.toNat, by have := htt.2.1; dsimp only at this; omega⟩
  have HT : Hid (There N b (j : Int)) := htt
  clear htt
  go_enter Try.func26, Try.ntmps26
  go_wp2_with fail
  refine (HWW.out _ hbe.out).mono ?_
  rintro e w1 ⟨rfl, hb1⟩
  have HX1 := Lib.hid (HX0.out.keep hb1)
  clear hb1 HWW HX0 hbe
  have c5 := HX1.out.mc.cell (j := 5) rfl
  have z5 := HX1.out.mc.free 5
  go_upto_region 5 with fail
  have HX2 := Lib.hid HX1.out.count
  generalize w1.setCell ⟨p, 5, none⟩ (.int .i64 ((k.done : Int) + 1)) = w2 at *
  clear HX1 c5 z5
  have x0 := HX2.out.box.cell (k := 0) rfl
  have x1 := HX2.out.box.cell (k := 1) rfl
  have x2 := HX2.out.box.cell (k := 2) rfl
  have x3 := HX2.out.box.cell (k := 3) rfl
  have x4 := HX2.out.box.cell (k := 4) rfl
  go_wp2_with fail
  refine (at_any HX2.out.mc hN HT.out).mono ?_
  rintro e w3 ⟨rfl, hb3⟩
  have HX3 := Lib.hid (HX2.out.keep hb3)
  clear hb3 x0 x1 x2 x3 x4
  have x0 := HX3.out.box.cell (k := 0) rfl
  have x1 := HX3.out.box.cell (k := 1) rfl
  have x2 := HX3.out.box.cell (k := 2) rfl
  have x3 := HX3.out.box.cell (k := 3) rfl
  have hp3 := HX3.out.mc.arr.lt
  have hg3 := (HX3.out.mc.bed b HT.out.1).1.lt
  have hb3 := HX3.out.box.lt
  obtain ⟨A, ca, hv, y0, _⟩ := bcell_get HX3.out.mc HT.out
  have HV := Lib.hid hv
  have y1 := (HX3.out.mc.bcell HT.out).2
  have hbm : m.gb b ≠ p := fun e => by have := HX3.out.mc.rb b HT.out.1; rw [e, HX3.out.mc.rp] at this; exact absurd this (by simp)
  clear hv
  go_upto_region 11 with fail
  refine wp_region_plan [(true, 0), (true, 1), (true, 2), (true, 3), (true, 4), (true, 5), (true, 6), (false, 7), (false, 8), (true, 9), (false, 10)] 10
    (fun w' => w'.cell? ⟨w.heap.size, 3, none⟩ = some (.int .i64 cc) ∧ w'.cell? ⟨m.gb b, j, none⟩ = some (.slice A (k.on b (j : Int)).length ca)) (by kernel_rfl) (by kernel_rfl) (by kernel_rfl) rfl ⟨x3, y0⟩ ?_
  repeat (first
    | (refine plan_val _ ?_ (by rfl) (by rfl) ?_ ?_
       rotate_left 1
       · rintro w9 ⟨s3, s0⟩; go_simp; first | done | with_reducible rfl
       (try simp only [Act.put, List.setIfInBounds_toArray, List.set_cons_zero, List.set_cons_succ])))
  refine plan_call _ ?_ ?_ (by rfl) (by rfl) ?_ ?_
  rotate_left 2
  · go_simp; (refine And.intro ?_ ?_ <;> rfl)
  refine (loop_any HX3.out.drew.mc (by show k.loops.length ≤ 4096; omega) cc (k.on b (j : Int))).mono ?_
  rintro e w6 ⟨rfl, w4, v', z, rfl, hg, hz, hb, hown, he⟩
  have HM5 := Lib.hid (HX3.out.drew.mc.loop (c := cc) (t := k.on b (j : Int)) hg hz hb hown he)
  have HT5 := Lib.hid (TH.loop (k := { k with done := k.done + 1 }) (v' := v') (u := .slice A (k.on b (j : Int)).length ca) HX3.out.drew.th HX3.out.drew.mc hg hz)
  have HFR := Lib.hid (HX3.out.drew.fr.trans (Fr.loop (v' := v') (vl' := v') (tv' := fun i => if i = k.loops.length then .slice A (k.on b (j : Int)).length ca else m.tv i) HX3.out.drew.mc hg hz))
  have HBX := Lib.hid ((HX3.out.drew.row HX3.out.drew.mc.rl (by simp) hg).far (p := ⟨p, 0, none⟩) HX3.out.far v')
  clear hg hz hb hown he
  generalize w4.setCell ⟨p, 0, none⟩ v' = w5 at *
  have s0 := HBX.out.cell (k := 3) rfl
  have s1 : w5.cell? ⟨m.gb b, j, none⟩ = some (.slice A (k.on b (j : Int)).length ca) := by rw [← HV.out]; exact (HM5.out.bcell HT.out).1
  have s2 : w5.frozen? ⟨m.gb b, j, none⟩ = false := (HM5.out.bcell HT.out).2
  have s3 : w.heap.size < w5.heap.size := HBX.out.lt
  have s4 : m.gb b < w5.heap.size := (HM5.out.bed b HT.out.1).1.lt
  refine ⟨_, rfl, .inr ⟨s0, s1⟩, ?_⟩
  refine plan_do _ ?_ ?_ (by rfl) (by rfl) ?_ (.inr ?_) ?_
  rotate_left 2
  · go_simp; first | rfl | (refine And.intro ?_ ?_ <;> rfl)
  · exact ⟨by rw [World.cell?_alloc_lt _ _ _ (by exact s3)]; exact s0, by rw [World.cell?_alloc_lt _ _ _ (by exact s4)]; exact s1⟩
  have HF := Lib.hid ((knit_step (k := { k with done := k.done + 1 }) HM5.out HT5.out HT.out (by dsimp only; rw [if_pos rfl]; exact HV.out.symm)).before HFR.out)
  have t1 : (w5.alloc (.cells #[.int .i64 (k.loops.length : Int)] 3)).cell? ⟨m.gb b, j, none⟩ = some (.slice A (k.on b (j : Int)).length ca) := by rw [World.cell?_alloc_lt _ _ _ (by exact s4)]; exact s1
  have t2 : (w5.alloc (.cells #[.int .i64 (k.loops.length : Int)] 3)).frozen? ⟨m.gb b, j, none⟩ = false := by rw [World.frozen?_of_block (w := w5) (by exact heap_alloc_old w5 _ s4)]; exact s2
  dsimp only at HF
  generalize w5.alloc (.cells #[.int .i64 (k.loops.length : Int)] 3) = w6 at *
  (try simp only [Act.put, List.setIfInBounds_toArray, List.set_cons_zero, List.set_cons_succ])
  repeat (first
    | (refine plan_val _ ?_ (by rfl) (by rfl) ?_ ?_
       rotate_left 1
       · rintro w9 ⟨_, _⟩; go_simp; first | done | with_reducible rfl
       (try simp only [Act.put, List.setIfInBounds_toArray, List.set_cons_zero, List.set_cons_succ])))
  refine plan_store _ ?_ (by rfl) (by rfl) ?_ (.inl rfl) ?_
  rotate_left 1
  · go_simp; first | rfl | (refine And.intro ?_ ?_ <;> rfl)
  refine plan_end ?_
  (try simp only [Act.put, List.setIfInBounds_toArray, List.set_cons_zero, List.set_cons_succ])
  go_wp2_with fail
  go_ret
  have e : stepK k ⟨1, b, (j : Int), cc, t⟩ = { k with loops := k.loops ++ [⟨cc, k.on b (j : Int)⟩], on := put k.on b (j : Int) [(k.loops.length : Int)], done := k.done + 1 } := by unfold stepK; rw [if_neg (show ¬ (1 : Int) = 6 by decide), if_pos rfl]
  rw [e]
  exact ⟨rfl, HF.out⟩

set_option maxRecDepth 100000 in
set_option maxHeartbeats 4000000 in
theorem Do_tuck {w0 w : World} {B p N : Nat} {k : KS} {mi : MD} (h : MC w0 w B p N mi k) (h' : TH w B mi k.loops) (hN : N ≤ 128) (hi : Kinv N k) (b n cc t : Int) (hw : wrongK N k ⟨2, b, n, cc, t⟩ = 0) :
    Calls Try.prog 26 #[ptr p 0, .agg #[.int .i64 2, .int .i64 b, .int .i64 n, .int .i64 cc, .int .i64 t]] w fun e w' => e = .returned (.int .i64 0) ∧ MF w0 w' B p N (stepK k ⟨2, b, n, cc, t⟩) mi w := by
  obtain ⟨m, hx0, hm⟩ := DX.start h h' #[.int .i64 2, .int .i64 b, .int .i64 n, .int .i64 cc, .int .i64 t]
  have HWW : Hid (∀ w', Below w.heap.size w w' → Calls Try.prog 46 #[ptr p 0, .agg #[.int .i64 2, .int .i64 b, .int .i64 n, .int .i64 cc, .int .i64 t]] w' fun e w'' => e = .returned (.int .i64 0) ∧ Below w'.heap.size w' w'') := fun w' hb => by
    have := wrong_any (hm.keep hb) hN hi ⟨2, b, n, cc, t⟩
    rw [hw] at this
    exact this
  have HX0 : Hid (DX mi w w0 (w.alloc (.cells #[.int .i64 2, .int .i64 b, .int .i64 n, .int .i64 cc, .int .i64 t] 44)) B p N m k w.heap.size [.int .i64 2, .int .i64 b, .int .i64 n, .int .i64 cc, .int .i64 t]) := hx0
  have HWB := Lib.hid (wrong_bounds hw)
  have HI := Lib.hid hi
  have hd := hi.d
  obtain ⟨hr1, hr2⟩ := hi.r
  have hL0 := hi.loops
  have hO0 := hi.loose
  have hdn := HWB.out.2.2.1
  clear hm h h' hx0 hw hi
  have hbe : Hid (Below w.heap.size w (w.alloc (.cells #[.int .i64 2, .int .i64 b, .int .i64 n, .int .i64 cc, .int .i64 t] 44))) := (Below.refl _ _).alloc (Nat.le_refl _) _
  have htt := HWB.out.2.2.2.2.1 (by show (2 : Int) ≠ 6; decide)
  obtain ⟨j, rfl⟩ : ∃ j : Nat, n = (j : Int) := ⟨n.toNat, by have := htt.2.1; dsimp only at this; omega⟩
  have HT : Hid (There N b (j : Int)) := htt
  clear htt
  go_enter Try.func26, Try.ntmps26
  go_wp2_with fail
  refine (HWW.out _ hbe.out).mono ?_
  rintro e w1 ⟨rfl, hb1⟩
  have HX1 := Lib.hid (HX0.out.keep hb1)
  clear hb1 HWW HX0 hbe
  have c5 := HX1.out.mc.cell (j := 5) rfl
  have z5 := HX1.out.mc.free 5
  go_upto_region 5 with fail
  have HX2 := Lib.hid HX1.out.count
  generalize w1.setCell ⟨p, 5, none⟩ (.int .i64 ((k.done : Int) + 1)) = w2 at *
  clear HX1 c5 z5
  have x0 := HX2.out.box.cell (k := 0) rfl
  have x1 := HX2.out.box.cell (k := 1) rfl
  have x2 := HX2.out.box.cell (k := 2) rfl
  have x3 := HX2.out.box.cell (k := 3) rfl
  have x4 := HX2.out.box.cell (k := 4) rfl
  go_wp2_with fail
  refine (at_any HX2.out.mc hN HT.out).mono ?_
  rintro e w3 ⟨rfl, hb3⟩
  have HX3 := Lib.hid (HX2.out.keep hb3)
  clear hb3 x0 x1 x2 x3 x4
  have x0 := HX3.out.box.cell (k := 0) rfl
  have x1 := HX3.out.box.cell (k := 1) rfl
  have x2 := HX3.out.box.cell (k := 2) rfl
  have x3 := HX3.out.box.cell (k := 3) rfl
  have hp3 := HX3.out.mc.arr.lt
  have hg3 := (HX3.out.mc.bed b HT.out.1).1.lt
  have hb3 := HX3.out.box.lt
  obtain ⟨A, ca, hv, y0, _⟩ := bcell_get HX3.out.mc HT.out
  have HV := Lib.hid hv
  have HL8 := HI.out.on b (j : Int)
  clear hv
  go_upto_region 13 with fail
  refine wp_region_plan [(true, 0), (true, 1), (true, 2), (true, 3), (true, 4), (true, 5), (true, 6), (false, 7), (false, 8), (false, 9), (true, 10), (false, 11)] 11
    (fun w' => w'.cell? ⟨w.heap.size, 3, none⟩ = some (.int .i64 cc) ∧ w'.cell? ⟨m.gb b, j, none⟩ = some (.slice A (k.on b (j : Int)).length ca)) (by kernel_rfl) (by kernel_rfl) (by kernel_rfl) rfl ⟨x3, y0⟩ ?_
  repeat (first
    | (refine plan_val _ ?_ (by rfl) (by rfl) ?_ ?_
       rotate_left 1
       · rintro w9 ⟨s3, s0⟩; go_simp; first | done | with_reducible rfl
       (try simp only [Act.put, List.setIfInBounds_toArray, List.set_cons_zero, List.set_cons_succ])))
  refine plan_call _ ?_ ?_ (by rfl) (by rfl) ?_ ?_
  rotate_left 2
  · go_simp; (refine And.intro ?_ ?_ <;> rfl)
  refine (loop_any HX3.out.drew.mc (by show k.loops.length ≤ 4096; omega) cc (A := none) (un := 0) (uc := 0) []).mono ?_
  rintro e w6 ⟨rfl, w4, v', z, rfl, hg, hz, hb, hown, he⟩
  have HM5 := Lib.hid (HX3.out.drew.mc.loop (c := cc) (t := []) hg hz hb hown he)
  have HT5 := Lib.hid (TH.loop (k := { k with done := k.done + 1 }) (v' := v') (u := .slice none 0 0) HX3.out.drew.th HX3.out.drew.mc hg hz)
  have HFR := Lib.hid (HX3.out.drew.fr.trans (Fr.loop (v' := v') (vl' := v') (tv' := fun i => if i = k.loops.length then .slice none 0 0 else m.tv i) HX3.out.drew.mc hg hz))
  have HBX := Lib.hid ((HX3.out.drew.row HX3.out.drew.mc.rl (by simp) hg).far (p := ⟨p, 0, none⟩) HX3.out.far v')
  have HZ := Lib.hid (show ow m.own z rL w.heap.size = rX by rw [ow_ne _ _ (by have := HX3.out.drew.box.lt; omega)]; exact HX3.out.oth)
  clear hg hz hb hown he
  generalize w4.setCell ⟨p, 0, none⟩ v' = w5 at *
  have s0 := HBX.out.cell (k := 3) rfl
  have s1 : w5.cell? ⟨m.gb b, j, none⟩ = some (.slice A (k.on b (j : Int)).length ca) := by rw [← HV.out]; exact (HM5.out.bcell HT.out).1
  have s2 : w5.frozen? ⟨m.gb b, j, none⟩ = false := (HM5.out.bcell HT.out).2
  have s3 : w.heap.size < w5.heap.size := HBX.out.lt
  have s4 : m.gb b < w5.heap.size := (HM5.out.bed b HT.out.1).1.lt
  refine ⟨_, rfl, .inr ⟨s0, s1⟩, ?_⟩
  refine plan_do _ ?_ ?_ (by rfl) (by rfl) ?_ (.inr ?_) ?_
  rotate_left 2
  · go_simp; first | rfl | (refine And.intro ?_ ?_ <;> rfl)
  · exact ⟨by rw [World.cell?_alloc_lt _ _ _ (by exact s3)]; exact s0, by rw [World.cell?_alloc_lt _ _ _ (by exact s4)]; exact s1⟩
  (try simp only [Act.put, List.setIfInBounds_toArray, List.set_cons_zero, List.set_cons_succ])
  have hby : ((k.on b (j : Int)).length + 1) * 8 ≤ 140737488355328 := by omega
  have hon : (w5.alloc (.cells #[.int .i64 (k.loops.length : Int)] 3)).ownsRow B 3 1 (.slice A (k.on b (j : Int)).length ca) (k.on b (j : Int)).length (ints (k.on b (j : Int))) := by rw [← HV.out]; exact own_al (HM5.out.on b (j : Int)) _
  refine plan_app _ T25 (w0 := w0) [.int .i64 (k.loops.length : Int)] hon (HM5.out.below.alloc HM5.out.le _) HM5.out.hB (by rfl) (by rfl) rfl rfl rfl rfl (fun i u hu => by have := (Arr.new w5 #[.int .i64 (k.loops.length : Int)] 3).cell (k := i) hu; rwa [Nat.zero_add]) (by simp [Value.oneCell']) hby ?_
  intro v1 w7 hown1 hb1 hg1 ho1
  obtain ⟨A1, c1, rfl, e1, e2⟩ := own_form hown1
  have hgw : w5.grownBy w7 (Value.slice A (k.on b (j : Int)).length ca).ownBlock := grownBy_alloc_first hg1
  have hrow : ∀ g, (Value.slice A (k.on b (j : Int)).length ca).ownBlock = some g → ow m.own z rL g = rN b (j : Int) := by rw [← HV.out]; exact HM5.out.rn b (j : Int)
  have u0 : Arr w7 w.heap.size 44 _ := HBX.out.of_eq (hgw.block _ HBX.out.lt fun e => by have := hrow _ e.symm; rw [HZ.out] at this; exact absurd this (by simp))
  have u1 : w7.heap[m.gb b]? = w5.heap[m.gb b]? := hgw.block _ s4 fun e => by have := hrow _ e.symm; have e2 : ow m.own z rL (m.gb b) = rB b := HM5.out.rb b HT.out.1; rw [e2] at this; exact absurd this (by simp)
  have t0 := u0.cell (k := 3) rfl
  have t1 : w7.cell? ⟨m.gb b, j, none⟩ = some (.slice A (k.on b (j : Int)).length ca) := (World.cell?_of_block (a := ⟨m.gb b, j, none⟩) u1).trans s1
  have t2 : w7.frozen? ⟨m.gb b, j, none⟩ = false := (World.frozen?_of_block (a := ⟨m.gb b, j, none⟩) u1).trans s2
  have HF := Lib.hid (MF.before (tuck_step (k := { k with done := k.done + 1 }) HM5.out HT5.out HT.out (by dsimp only; rw [if_pos rfl]) (z := w5.heap.size + 1) (by dsimp only; rw [HV.out]; exact hgw) (Nat.le_succ _) hb1 hown1 (by dsimp only; rw [HV.out]; rw [World.size_alloc] at ho1; exact ho1)) HFR.out)
  dsimp only at HF
  refine ⟨.inr ⟨t0, t1⟩, ?_⟩
  clear hown1 hb1 hg1 ho1 hgw hrow u0 u1 s0 s1 s2 hon
  (try simp only [Act.put, List.setIfInBounds_toArray, List.set_cons_zero, List.set_cons_succ])
  repeat (first
    | (refine plan_val _ ?_ (by rfl) (by rfl) ?_ ?_
       rotate_left 1
       · rintro w9 ⟨_, _⟩; go_simp; first | done | with_reducible rfl
       (try simp only [Act.put, List.setIfInBounds_toArray, List.set_cons_zero, List.set_cons_succ])))
  refine plan_store _ ?_ (by rfl) (by rfl) ?_ (.inl rfl) ?_
  rotate_left 1
  · go_simp; first | rfl | (refine And.intro ?_ ?_ <;> rfl)
  refine plan_end ?_
  (try simp only [Act.put, List.setIfInBounds_toArray, List.set_cons_zero, List.set_cons_succ])
  go_wp2_with fail
  go_ret
  have e : stepK k ⟨2, b, (j : Int), cc, t⟩ = { k with loops := k.loops ++ [⟨cc, []⟩], on := put k.on b (j : Int) (k.on b (j : Int) ++ [(k.loops.length : Int)]), done := k.done + 1 } := by unfold stepK; rw [if_neg (show ¬ (2 : Int) = 6 by decide), if_neg (show ¬ (2 : Int) = 1 by decide), if_pos rfl]
  rw [e]
  exact ⟨rfl, HF.out⟩

set_option maxRecDepth 100000 in
set_option maxHeartbeats 4000000 in
theorem Do_move {w0 w : World} {B p N : Nat} {k : KS} {mi : MD} (h : MC w0 w B p N mi k) (h' : TH w B mi k.loops) (hN : N ≤ 128) (hi : Kinv N k) (b n cc t : Int) (hw : wrongK N k ⟨4, b, n, cc, t⟩ = 0) :
    Calls Try.prog 26 #[ptr p 0, .agg #[.int .i64 4, .int .i64 b, .int .i64 n, .int .i64 cc, .int .i64 t]] w fun e w' => e = .returned (.int .i64 0) ∧ MF w0 w' B p N (stepK k ⟨4, b, n, cc, t⟩) mi w := by
  obtain ⟨m, hx0, hm⟩ := DX.start h h' #[.int .i64 4, .int .i64 b, .int .i64 n, .int .i64 cc, .int .i64 t]
  have HWW : Hid (∀ w', Below w.heap.size w w' → Calls Try.prog 46 #[ptr p 0, .agg #[.int .i64 4, .int .i64 b, .int .i64 n, .int .i64 cc, .int .i64 t]] w' fun e w'' => e = .returned (.int .i64 0) ∧ Below w'.heap.size w' w'') := fun w' hb => by
    have := wrong_any (hm.keep hb) hN hi ⟨4, b, n, cc, t⟩
    rw [hw] at this
    exact this
  have HX0 : Hid (DX mi w w0 (w.alloc (.cells #[.int .i64 4, .int .i64 b, .int .i64 n, .int .i64 cc, .int .i64 t] 44)) B p N m k w.heap.size [.int .i64 4, .int .i64 b, .int .i64 n, .int .i64 cc, .int .i64 t]) := hx0
  have HWB := Lib.hid (wrong_bounds hw)
  have HI := Lib.hid hi
  have hd := hi.d
  obtain ⟨hr1, hr2⟩ := hi.r
  have hL0 := hi.loops
  have hO0 := hi.loose
  have hdn := HWB.out.2.2.1
  clear hm h h' hx0 hw hi
  have hbe : Hid (Below w.heap.size w (w.alloc (.cells #[.int .i64 4, .int .i64 b, .int .i64 n, .int .i64 cc, .int .i64 t] 44))) := (Below.refl _ _).alloc (Nat.le_refl _) _
  have htt := HWB.out.2.2.2.2.1 (by show (4 : Int) ≠ 6; decide)
  obtain ⟨j, rfl⟩ : ∃ j : Nat, n = (j : Int) := ⟨n.toNat, by have := htt.2.1; dsimp only at this; omega⟩
  have HT : Hid (There N b (j : Int)) := htt
  clear htt
  have hpos : 0 < (k.on b (j : Int)).length := HWB.out.2.2.2.2.2.2.2.2 (.inr (.inl rfl))
  have HFT : Hid (There N (fB b) (fN k.rack b (j : Int))) := (HWB.out.2.2.2.2.2.2.1 rfl).1
  clear HWB
  go_enter Try.func26, Try.ntmps26
  go_wp2_with fail
  refine (HWW.out _ hbe.out).mono ?_
  rintro e w1 ⟨rfl, hb1⟩
  have HX1 := Lib.hid (HX0.out.keep hb1)
  clear hb1 HWW HX0 hbe
  have c5 := HX1.out.mc.cell (j := 5) rfl
  have z5 := HX1.out.mc.free 5
  go_upto_region 5 with fail
  have HX2 := Lib.hid HX1.out.count
  generalize w1.setCell ⟨p, 5, none⟩ (.int .i64 ((k.done : Int) + 1)) = w2 at *
  clear HX1 c5 z5
  have x0 := HX2.out.box.cell (k := 0) rfl
  have x1 := HX2.out.box.cell (k := 1) rfl
  have x2 := HX2.out.box.cell (k := 2) rfl
  have x3 := HX2.out.box.cell (k := 3) rfl
  have x4 := HX2.out.box.cell (k := 4) rfl
  go_wp2_with fail
  refine (at_any HX2.out.mc hN HT.out).mono ?_
  rintro e w3 ⟨rfl, hb3⟩
  have HX3 := Lib.hid (HX2.out.keep hb3)
  clear hb3 x0 x1 x2 x3 x4
  have x0 := HX3.out.box.cell (k := 0) rfl
  have x1 := HX3.out.box.cell (k := 1) rfl
  have x2 := HX3.out.box.cell (k := 2) rfl
  have x3 := HX3.out.box.cell (k := 3) rfl
  have hp3 := HX3.out.mc.arr.lt
  have hg3 := (HX3.out.mc.bed b HT.out.1).1.lt
  have hb3 := HX3.out.box.lt
  obtain ⟨g0, ca, hv, hc1, hc2, hnews⟩ : ∃ g c, m.hv b (j : Int) = .slice (some ⟨g, 0, none⟩) (k.on b (j : Int)).length c ∧ (k.on b (j : Int)).length ≤ c ∧ c ≤ maxLen ∧ ∀ i u, (ints (k.on b (j : Int)))[i]? = some u → w3.cell? ⟨g, 0 + i, none⟩ = some u := by
    rcases own_nil_or (HX3.out.mc.on b (j : Int)) with ⟨_, h0⟩ | ⟨g, c, e, _, q1, q2, hc⟩
    · dsimp only at h0
      omega
    · exact ⟨g, c, e, q1, q2, hc⟩
  have HV := Lib.hid hv
  have HNW := Lib.hid hnews
  unfold maxLen at hc2
  have HC : Hid (w3.cell? ⟨m.gb b, j, none⟩ = some (.slice (some ⟨g0, 0, none⟩) (k.on b (j : Int)).length ca)) := by rw [← HV.out]; exact (HX3.out.mc.bcell HT.out).1
  have y0 := HC.out
  clear hv hnews
  obtain ⟨jf, hjf⟩ : ∃ jf : Nat, fN k.rack b (j : Int) = (jf : Int) := ⟨(fN k.rack b (j : Int)).toNat, by have := HFT.out.2.1; omega⟩
  have HF2 : Hid (There N (fB b) (jf : Int)) := by rw [← hjf]; exact HFT.out
  have HJF := Lib.hid hjf
  have hL1 := HI.out.on b (j : Int)
  have hL2 := HI.out.on (fB b) (jf : Int)
  have HNE : Hid (fB b ≠ b) := fB_ne HT.out.1
  have hfb := fB_cases b
  clear hjf
  go_wp2_with fail
  refine (facing_any HX3.out.mc ⟨hr1, hr2⟩ b (j : Int) (by have := HT.out.2.2; unfold big; omega)).mono ?_
  rintro e w4 ⟨rfl, hb4⟩
  rw [show fN ({ k with done := k.done + 1 } : KS).rack b (j : Int) = (jf : Int) from HJF.out]
  have HX4 := Lib.hid (HX3.out.keep hb4)
  go_wp2_with fail
  refine (at_any HX4.out.mc hN HF2.out).mono ?_
  rintro e w5 ⟨rfl, hb5⟩
  have HX5 := Lib.hid (HX4.out.keep hb5)
  have HB5 := Lib.hid (hb4.trans (hb5.mono hb4.size))
  clear hb4 hb5 x0 x1 x2 x3 y0
  obtain ⟨A, cf, hvf, yf, _⟩ := bcell_get HX5.out.mc HF2.out
  have HVF := Lib.hid hvf
  have y0 : w5.cell? ⟨m.gb b, j, none⟩ = some (.slice (some ⟨g0, 0, none⟩) (k.on b (j : Int)).length ca) := by rw [← HV.out]; exact (HX5.out.mc.bcell HT.out).1
  have x0 := HX5.out.box.cell (k := 0) rfl
  clear hvf
  go_upto_region 16 with fail
  refine wp_region_plan [(true, 0), (true, 1), (true, 2), (true, 3), (true, 4), (true, 5), (true, 6), (false, 7), (true, 8), (false, 9)] 9
    (fun w' => w'.cell? ⟨m.gb (fB b), jf, none⟩ = some (.slice A (k.on (fB b) (jf : Int)).length cf) ∧ w'.cell? ⟨m.gb b, j, none⟩ = some (.slice (some ⟨g0, 0, none⟩) (k.on b (j : Int)).length ca)) (by kernel_rfl) (by kernel_rfl) (by kernel_rfl) rfl ⟨yf, y0⟩ ?_
  repeat (first
    | (refine plan_val _ ?_ (by rfl) (by rfl) ?_ ?_
       rotate_left 1
       · rintro w9 ⟨s3, s0⟩; go_simp; first | done | with_reducible rfl
       (try simp only [Act.put, List.setIfInBounds_toArray, List.set_cons_zero, List.set_cons_succ])))
  have HN2 : ∀ i u, (ints (k.on b (j : Int)))[i]? = some u → w5.drew.cell? ⟨g0, 0 + i, none⟩ = some u := fun i u hu => (World.cell?_of_block (a := ⟨g0, 0 + i, none⟩) (HB5.out.block g0 (by have := World.block_lt_of_cell? _ _ (HNW.out i u hu); exact this))).trans (HNW.out i u hu)
  have hby : ((k.on (fB b) (jf : Int)).length + (k.on b (j : Int)).length) * 8 ≤ 140737488355328 := by omega
  have hon : w5.drew.ownsRow B 3 1 (.slice A (k.on (fB b) (jf : Int)).length cf) (k.on (fB b) (jf : Int)).length (ints (k.on (fB b) (jf : Int))) := by rw [← HVF.out]; exact HX5.out.drew.mc.on (fB b) (jf : Int)
  have HL1 := ints_len (k.on b (j : Int))
  refine plan_app _ T25 (w0 := w0) (ints (k.on b (j : Int))) hon HX5.out.drew.mc.below HX5.out.mc.hB (by rfl) (by rfl) rfl rfl rfl (by rw [HL1, Nat.mul_one]) HN2 (ints_one _) hby ?_
  intro v1 w7 hown1 hb1 hg1 ho1
  obtain ⟨A1, c1, rfl, e1, e2⟩ := own_form hown1
  obtain ⟨⟨A7, c7, q0⟩, q1, q2⟩ := move_step (k := { k with done := k.done + 1 }) (v' := .slice A1 ((k.on (fB b) (jf : Int)).length + (k.on b (j : Int)).length) c1) (z := w5.drew.heap.size) HX5.out.drew.mc HX5.out.drew.th HT.out HF2.out HNE.out (by rw [HVF.out]; exact hg1) (Nat.le_refl _) hb1 hown1 (by rw [HVF.out]; exact ho1)
  have HF := Lib.hid (q2.before HX5.out.drew.fr)
  have hrow : ∀ g, (Value.slice A (k.on (fB b) (jf : Int)).length cf).ownBlock = some g → m.own g = rN (fB b) (jf : Int) := by rw [← HVF.out]; exact HX5.out.mc.rn (fB b) (jf : Int)
  have hbe : ∀ b', b' = 0 ∨ b' = 1 → w7.heap[m.gb b']? = w5.heap[m.gb b']? := fun b' hb' => hg1.block _ (HX5.out.mc.bed b' hb').1.lt fun e => by have := hrow _ e.symm; rw [HX5.out.mc.rb b' hb'] at this; exact absurd this (by simp)
  have t0 : w7.cell? ⟨m.gb (fB b), jf, none⟩ = some (.slice A (k.on (fB b) (jf : Int)).length cf) := (World.cell?_of_block (a := ⟨m.gb (fB b), jf, none⟩) (hbe _ hfb)).trans yf
  have t2 : w7.frozen? ⟨m.gb (fB b), jf, none⟩ = false := (World.frozen?_of_block (a := ⟨m.gb (fB b), jf, none⟩) (hbe _ hfb)).trans (HX5.out.mc.bcell HF2.out).2
  have t1 : w7.cell? ⟨m.gb b, j, none⟩ = some (.slice (some ⟨g0, 0, none⟩) (k.on b (j : Int)).length ca) := (World.cell?_of_block (a := ⟨m.gb b, j, none⟩) (hbe _ HT.out.1)).trans y0
  dsimp only at HF q0 q1
  refine ⟨.inr ⟨t0, t1⟩, ?_⟩
  have hx7 : Arr w7 w.heap.size 44 _ := HX5.out.drew.row (v := m.hv (fB b) (jf : Int)) (HX5.out.mc.rn (fB b) (jf : Int)) (by simp) (by rw [HVF.out]; exact hg1)
  have hx8 := (hx7.far (p := ⟨m.gb (fB b), jf, none⟩) (HX5.out.nbed hfb) (.slice A1 ((k.on (fB b) (jf : Int)).length + (k.on b (j : Int)).length) c1)).cell (k := 0) rfl
  clear hown1 hb1 hg1 ho1 hrow hbe q2 hon hx7 x0
  (try simp only [Act.put, List.setIfInBounds_toArray, List.set_cons_zero, List.set_cons_succ])
  repeat (first
    | (refine plan_val _ ?_ (by rfl) (by rfl) ?_ ?_
       rotate_left 1
       · rintro w9 ⟨_, _⟩; go_simp; first | done | with_reducible rfl
       (try simp only [Act.put, List.setIfInBounds_toArray, List.set_cons_zero, List.set_cons_succ])))
  refine plan_store _ ?_ (by rfl) (by rfl) ?_ (.inl rfl) ?_
  rotate_left 1
  · go_simp; first | rfl | (refine And.intro ?_ ?_ <;> rfl)
  refine plan_end ?_
  (try simp only [Act.put, List.setIfInBounds_toArray, List.set_cons_zero, List.set_cons_succ])
  generalize w7.setCell ⟨m.gb (fB b), jf, none⟩ (.slice A1 ((k.on (fB b) (jf : Int)).length + (k.on b (j : Int)).length) c1) = w8 at *
  clear t0 t1 t2
  go_wp2_with fail
  go_ret
  have e : stepK k ⟨4, b, (j : Int), cc, t⟩ = { k with on := put (put k.on (fB b) (jf : Int) (k.on (fB b) (jf : Int) ++ k.on b (j : Int))) b (j : Int) [], done := k.done + 1 } := by unfold stepK; rw [if_neg (show ¬ (4 : Int) = 6 by decide), if_neg (show ¬ (4 : Int) = 1 by decide), if_neg (show ¬ (4 : Int) = 2 by decide), if_pos rfl, HJF.out]
  rw [e]
  exact ⟨rfl, HF.out⟩

set_option maxRecDepth 100000 in
set_option maxHeartbeats 4000000 in
theorem Do_drop {w0 w : World} {B p N : Nat} {k : KS} {mi : MD} (h : MC w0 w B p N mi k) (h' : TH w B mi k.loops) (hN : N ≤ 128) (hi : Kinv N k) (b n cc t : Int) (hw : wrongK N k ⟨5, b, n, cc, t⟩ = 0) :
    Calls Try.prog 26 #[ptr p 0, .agg #[.int .i64 5, .int .i64 b, .int .i64 n, .int .i64 cc, .int .i64 t]] w fun e w' => e = .returned (.int .i64 0) ∧ MF w0 w' B p N (stepK k ⟨5, b, n, cc, t⟩) mi w := by
  obtain ⟨m, hx0, hm⟩ := DX.start h h' #[.int .i64 5, .int .i64 b, .int .i64 n, .int .i64 cc, .int .i64 t]
  have HWW : Hid (∀ w', Below w.heap.size w w' → Calls Try.prog 46 #[ptr p 0, .agg #[.int .i64 5, .int .i64 b, .int .i64 n, .int .i64 cc, .int .i64 t]] w' fun e w'' => e = .returned (.int .i64 0) ∧ Below w'.heap.size w' w'') := fun w' hb => by
    have := wrong_any (hm.keep hb) hN hi ⟨5, b, n, cc, t⟩
    rw [hw] at this
    exact this
  have HX0 : Hid (DX mi w w0 (w.alloc (.cells #[.int .i64 5, .int .i64 b, .int .i64 n, .int .i64 cc, .int .i64 t] 44)) B p N m k w.heap.size [.int .i64 5, .int .i64 b, .int .i64 n, .int .i64 cc, .int .i64 t]) := hx0
  have HWB := Lib.hid (wrong_bounds hw)
  have HI := Lib.hid hi
  have hd := hi.d
  obtain ⟨hr1, hr2⟩ := hi.r
  have hL0 := hi.loops
  have hO0 := hi.loose
  have hdn := HWB.out.2.2.1
  clear hm h h' hx0 hw hi
  have hbe : Hid (Below w.heap.size w (w.alloc (.cells #[.int .i64 5, .int .i64 b, .int .i64 n, .int .i64 cc, .int .i64 t] 44))) := (Below.refl _ _).alloc (Nat.le_refl _) _
  have htt := HWB.out.2.2.2.2.1 (by show (5 : Int) ≠ 6; decide)
  obtain ⟨j, rfl⟩ : ∃ j : Nat, n = (j : Int) := ⟨n.toNat, by have := htt.2.1; dsimp only at this; omega⟩
  have HT : Hid (There N b (j : Int)) := htt
  clear htt
  have hpos : 0 < (k.on b (j : Int)).length := HWB.out.2.2.2.2.2.2.2.2 (.inr (.inr rfl))
  clear HWB
  go_enter Try.func26, Try.ntmps26
  go_wp2_with fail
  refine (HWW.out _ hbe.out).mono ?_
  rintro e w1 ⟨rfl, hb1⟩
  have HX1 := Lib.hid (HX0.out.keep hb1)
  clear hb1 HWW HX0 hbe
  have c5 := HX1.out.mc.cell (j := 5) rfl
  have z5 := HX1.out.mc.free 5
  go_upto_region 5 with fail
  have HX2 := Lib.hid HX1.out.count
  generalize w1.setCell ⟨p, 5, none⟩ (.int .i64 ((k.done : Int) + 1)) = w2 at *
  clear HX1 c5 z5
  have x0 := HX2.out.box.cell (k := 0) rfl
  have x1 := HX2.out.box.cell (k := 1) rfl
  have x2 := HX2.out.box.cell (k := 2) rfl
  have x3 := HX2.out.box.cell (k := 3) rfl
  have x4 := HX2.out.box.cell (k := 4) rfl
  go_wp2_with fail
  refine (at_any HX2.out.mc hN HT.out).mono ?_
  rintro e w3 ⟨rfl, hb3⟩
  have HX3 := Lib.hid (HX2.out.keep hb3)
  clear hb3 x0 x1 x2 x3 x4
  have x0 := HX3.out.box.cell (k := 0) rfl
  have x1 := HX3.out.box.cell (k := 1) rfl
  have x2 := HX3.out.box.cell (k := 2) rfl
  have x3 := HX3.out.box.cell (k := 3) rfl
  have hp3 := HX3.out.mc.arr.lt
  have hg3 := (HX3.out.mc.bed b HT.out.1).1.lt
  have hb3 := HX3.out.box.lt
  obtain ⟨g0, ca, hv, hc1, hc2, hnews⟩ : ∃ g c, m.hv b (j : Int) = .slice (some ⟨g, 0, none⟩) (k.on b (j : Int)).length c ∧ (k.on b (j : Int)).length ≤ c ∧ c ≤ maxLen ∧ ∀ i u, (ints (k.on b (j : Int)))[i]? = some u → w3.cell? ⟨g, 0 + i, none⟩ = some u := by
    rcases own_nil_or (HX3.out.mc.on b (j : Int)) with ⟨_, h0⟩ | ⟨g, c, e, _, q1, q2, hc⟩
    · dsimp only at h0
      omega
    · exact ⟨g, c, e, q1, q2, hc⟩
  have HV := Lib.hid hv
  have HNW := Lib.hid hnews
  unfold maxLen at hc2
  have HC : Hid (w3.cell? ⟨m.gb b, j, none⟩ = some (.slice (some ⟨g0, 0, none⟩) (k.on b (j : Int)).length ca)) := by rw [← HV.out]; exact (HX3.out.mc.bcell HT.out).1
  have y0 := HC.out
  clear hv hnews
  obtain ⟨A, cf, hvf, _, _⟩ := own_form HX3.out.mc.oo
  have HVF := Lib.hid hvf
  have hL1 := HI.out.on b (j : Int)
  have yf : w3.cell? ⟨p, 3, none⟩ = some (.slice A k.loose.length cf) := by rw [← HVF.out]; exact HX3.out.mc.cell (j := 3) rfl
  have z3 := HX3.out.mc.free 3
  clear hvf
  go_upto_region 19 with fail
  refine wp_region_plan [(true, 0), (true, 1), (true, 2), (true, 3), (true, 4), (true, 5), (true, 6), (true, 7), (false, 8), (false, 9), (true, 10), (false, 11)] 11
    (fun w' => w'.cell? ⟨p, 3, none⟩ = some (.slice A k.loose.length cf) ∧ w'.cell? ⟨m.gb b, j, none⟩ = some (.slice (some ⟨g0, 0, none⟩) (k.on b (j : Int)).length ca)) (by kernel_rfl) (by kernel_rfl) (by kernel_rfl) rfl ⟨yf, y0⟩ ?_
  repeat (first
    | (refine plan_val _ ?_ (by rfl) (by rfl) ?_ ?_
       rotate_left 1
       · rintro w9 ⟨s3, s0⟩; go_simp; first | done | with_reducible rfl
       (try simp only [Act.put, List.setIfInBounds_toArray, List.set_cons_zero, List.set_cons_succ])))
  have HN2 : ∀ i u, (ints (k.on b (j : Int)))[i]? = some u → w3.drew.cell? ⟨g0, 0 + i, none⟩ = some u := HNW.out
  have hby : (k.loose.length + (k.on b (j : Int)).length) * 8 ≤ 140737488355328 := by omega
  have hon : w3.drew.ownsRow B 3 1 (.slice A k.loose.length cf) k.loose.length (ints k.loose) := by rw [← HVF.out]; exact HX3.out.drew.mc.oo
  have HL1 := ints_len (k.on b (j : Int))
  refine plan_app _ T25 (w0 := w0) (ints (k.on b (j : Int))) hon HX3.out.drew.mc.below HX3.out.mc.hB (by rfl) (by rfl) rfl rfl rfl (by rw [HL1, Nat.mul_one]) HN2 (ints_one _) hby ?_
  intro v1 w7 hown1 hb1 hg1 ho1
  obtain ⟨A1, c1, rfl, e1, e2⟩ := own_form hown1
  obtain ⟨⟨A7, c7, q0⟩, q1, q2⟩ := drop_step (k := { k with done := k.done + 1 }) (v' := .slice A1 (k.loose.length + (k.on b (j : Int)).length) c1) (z := w3.drew.heap.size) HX3.out.drew.mc HX3.out.drew.th HT.out (by rw [HVF.out]; exact hg1) (Nat.le_refl _) hb1 hown1 (by rw [HVF.out]; exact ho1)
  have HF := Lib.hid (q2.before HX3.out.drew.fr)
  have hrow : ∀ g, (Value.slice A k.loose.length cf).ownBlock = some g → m.own g = rO := by rw [← HVF.out]; exact HX3.out.mc.ro
  have hbe : w7.heap[m.gb b]? = w3.heap[m.gb b]? := hg1.block _ hg3 fun e => by have := hrow _ e.symm; rw [HX3.out.mc.rb b HT.out.1] at this; exact absurd this (by simp)
  have hpe : w7.heap[p]? = w3.heap[p]? := hg1.block _ hp3 fun e => by have := hrow _ e.symm; rw [HX3.out.mc.rp] at this; exact absurd this (by simp)
  have t0 : w7.cell? ⟨p, 3, none⟩ = some (.slice A k.loose.length cf) := (World.cell?_of_block (a := ⟨p, 3, none⟩) hpe).trans yf
  have t2 : w7.frozen? ⟨p, 3, none⟩ = false := (World.frozen?_of_block (a := ⟨p, 3, none⟩) hpe).trans z3
  have t1 : w7.cell? ⟨m.gb b, j, none⟩ = some (.slice (some ⟨g0, 0, none⟩) (k.on b (j : Int)).length ca) := (World.cell?_of_block (a := ⟨m.gb b, j, none⟩) hbe).trans y0
  dsimp only at HF q0 q1
  refine ⟨.inr ⟨t0, t1⟩, ?_⟩
  clear hown1 hb1 hg1 ho1 hrow hbe hpe q2 hon x0
  (try simp only [Act.put, List.setIfInBounds_toArray, List.set_cons_zero, List.set_cons_succ])
  refine plan_do _ ?_ w7 (by rfl) (by rfl) ?_ (.inr ⟨t0, t1⟩) ?_
  rotate_left 1
  · go_simp; first | rfl | (refine And.intro ?_ ?_ <;> rfl)
  (try simp only [Act.put, List.setIfInBounds_toArray, List.set_cons_zero, List.set_cons_succ])
  repeat (first
    | (refine plan_val _ ?_ (by rfl) (by rfl) ?_ ?_
       rotate_left 1
       · rintro w9 ⟨_, _⟩; go_simp; first | done | with_reducible rfl
       (try simp only [Act.put, List.setIfInBounds_toArray, List.set_cons_zero, List.set_cons_succ])))
  refine plan_store _ ?_ (by rfl) (by rfl) ?_ (.inl rfl) ?_
  rotate_left 1
  · go_simp; first | rfl | (refine And.intro ?_ ?_ <;> rfl)
  refine plan_end ?_
  (try simp only [Act.put, List.setIfInBounds_toArray, List.set_cons_zero, List.set_cons_succ])
  generalize w7.setCell ⟨p, 3, none⟩ (.slice A1 (k.loose.length + (k.on b (j : Int)).length) c1) = w8 at *
  clear t0 t1 t2
  go_wp2_with fail
  go_ret
  have e : stepK k ⟨5, b, (j : Int), cc, t⟩ = { k with loose := k.loose ++ k.on b (j : Int), on := put k.on b (j : Int) [], done := k.done + 1 } := by unfold stepK; rw [if_neg (show ¬ (5 : Int) = 6 by decide), if_neg (show ¬ (5 : Int) = 1 by decide), if_neg (show ¬ (5 : Int) = 2 by decide), if_neg (show ¬ (5 : Int) = 4 by decide), if_pos rfl]
  rw [e]
  exact ⟨rfl, HF.out⟩

theorem Do_ok {w0 w : World} {B p N : Nat} {k : KS} {mi : MD} (h : MC w0 w B p N mi k) (h' : TH w B mi k.loops) (hN : N ≤ 128) (hi : Kinv N k) (x : Sti) (hw : wrongK N k x = 0) :
    Calls Try.prog 26 #[ptr p 0, .agg x.cells.toArray] w fun e w' => e = .returned (.int .i64 0) ∧ MF w0 w' B p N (stepK k x) mi w := by
  obtain ⟨d, b, n, cc, t⟩ := x
  have hb := wrong_bounds hw
  have hd : d = 1 ∨ d = 2 ∨ d = 3 ∨ d = 4 ∨ d = 5 ∨ d = 6 := by have := hb.1; have := hb.2.1; dsimp only at *; omega
  rcases hd with rfl | rfl | rfl | rfl | rfl | rfl
  · exact Do_knit h h' hN hi b n cc t hw
  · exact Do_tuck h h' hN hi b n cc t hw
  · exact Do_miss h h' hN hi b n cc t hw
  · exact Do_move h h' hN hi b n cc t hw
  · exact Do_drop h h' hN hi b n cc t hw
  · exact Do_rack h h' hN hi b n cc t hw
end Go.Proofs.Ytaacfjeddoekfaa
