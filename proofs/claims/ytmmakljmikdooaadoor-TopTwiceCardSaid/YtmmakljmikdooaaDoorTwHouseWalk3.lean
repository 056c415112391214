import Derived.Test.YtmmakljmikdooaaDoorTw21
import Derived.Test.YtmmakljmikdooaaDoorTwReadWalk
import Derived.Test.YtmmakljmikdooaaDoorTw12
/- Chapter 9: the program's Make, of a printed chart. -/
namespace Go.Proofs.YtmmakljmikdooaaDoor
open Go.RowKit
set_option linter.unusedVariables false
set_option linter.unusedSimpArgs false

def zeroMade : List Value := madeL ⟨#[]⟩ 0 nilS nilS nilS 0 0 false nilS 0 0 ⟨#[]⟩
/-- what Make has in memory -/
structure MkI (w W : World) (n1 gc gf : Nat) (c : Ch) (u : Value) : Prop where
  e1 : n1 = w.heap.size + 1
  ec : n1 < gc
  ef : gf = gc + 1
  r0 : Arr W w.heap.size 36 zeroMade
  r1 : Arr W n1 38 [.int .i64 0, .int .i64 0]
  rc : Arr W gc 24 [.int .i64 c.g, .int .i64 c.w, .int .i64 c.h, u]
  rf : Arr W gf 38 [.int .i64 0, .int .i64 0]
  ints : Ints W (fun b => n1 < b ∧ b < gc) u c.cs
  below : Below w.heap.size w W
section
variable {w W W' : World} {n1 gc gf : Nat} {c : Ch} {u : Value}
theorem MkI.next (h : MkI w W n1 gc gf c u) (hb : Below W.heap.size W W') : MkI w W' n1 gc gf c u :=
  ⟨h.e1, h.ec, h.ef, h.r0.of_eq (hb.block _ h.r0.lt), h.r1.of_eq (hb.block _ h.r1.lt), h.rc.of_eq (hb.block _ h.rc.lt), h.rf.of_eq (hb.block _ h.rf.lt), h.ints.same fun b hh => hb.block b (by have := h.rc.lt; omega), h.below.trans (hb.mono h.below.size)⟩
theorem MkI.grown (h : MkI w W n1 gc gf c u) {pb : Nat} (hg : W.grownBy W' (some pb)) (hp : gf < pb) : MkI w W' n1 gc gf c u :=
  have e1 := h.e1
  have ec := h.ec
  have ef := h.ef
  ⟨e1, ec, ef, h.r0.grown hg (by simp; omega), h.r1.grown hg (by simp; omega), h.rc.grown hg (by simp; omega), h.rf.grown hg (by simp; omega), h.ints.same fun b hh => hg.block b (by have := h.rc.lt; omega) (by intro e; injection e with e; omega),
   h.below.grown hg h.below.size (fun b e => by injection e with e; omega)⟩
theorem MkI.chr (h : MkI w W n1 gc gf c u) : ChR W (fun b => n1 < b ∧ b < gc) (.agg #[.int .i64 c.g, .int .i64 c.w, .int .i64 c.h, u]) c := ⟨u, rfl, h.ints⟩
theorem MkI.lt (h : MkI w W n1 gc gf c u) : ∀ b, (n1 < b ∧ b < gc) → b < W.heap.size := fun b hb => by have := h.rc.lt; omega
end
set_option maxRecDepth 100000 in
set_option maxHeartbeats 4000000 in
theorem Make_any {c : Ch} {W H : Nat} (w : World) (ht : Tabs w) (hc : OkC c W H)
    (HW : Hid (∀ X x Y, FinP (stepC c W H) X x Y → ∀ m ∈ movesC c W H, m.f = true → LineOk c.g ⟨X, 0⟩ ⟨x, Y⟩ m.t)) :
    Calls Tryd.prog 7 #[.string ⟨(printF c W H).toArray⟩] w fun e w' => Below w.heap.size w w' ∧
      ((24 < tor W H ∧ e = .returned (.tuple #[.agg zeroMade.toArray, .agg #[.int .i64 4, .int .i64 0]])) ∨
       (tor W H ≤ 24 ∧ ∃ X x Y, FinP (stepC c W H) X x Y ∧ ∃ (p : Int) (th bi tr : Value) (hg : Bool) (li : Value) (ca : ByteArray), (hg = true ↔ Hangs (raisedF c W H)) ∧ (∃ a n c, th = .slice a n c) ∧ (∃ a n c, bi = .slice a n c) ∧ (∃ a n c, tr = .slice a n c) ∧ (∃ a n c, li = .slice a n c) ∧
          e = .returned (.tuple #[.agg (madeL (nameF (kindF c.g ⟨X, 0⟩ ⟨x, Y⟩ (turnsF (movesC c W H)).length (waysF c.g ⟨X, 0⟩ ⟨x, Y⟩ (movesC c W H)))) p th bi tr (shaftsF (raisedF c W H)) (treadF (raisedF c W H)) hg li (longF (raisedF c W H).turned true) (longF (raisedF c W H) false) ca).toArray, .agg #[.int .i64 0, .int .i64 0]]))) := by
  have HOK := Lib.hid hc
  have HT := Lib.hid ht
  have hw2 := ht.lt
  have HR0 : Hid (Arr ((w.alloc (.cells #[.string ⟨#[]⟩, .int .i64 0, .slice none 0 0, .int .i64 0, .int .i64 0, .slice none 0 0, .slice none 0 0, .bool false, .slice none 0 0, .int .i64 0, .int .i64 0, .string ⟨#[]⟩] 36)).alloc (.cells #[.int .i64 0, .int .i64 0] 38)) w.heap.size 36 zeroMade) := (Arr.new w #[.string ⟨#[]⟩, .int .i64 0, .slice none 0 0, .int .i64 0, .int .i64 0, .slice none 0 0, .slice none 0 0, .bool false, .slice none 0 0, .int .i64 0, .int .i64 0, .string ⟨#[]⟩] 36).alloc (.cells #[.int .i64 0, .int .i64 0] 38)
  have HR1 := Lib.hid (arr_new2 w (.cells #[.string ⟨#[]⟩, .int .i64 0, .slice none 0 0, .int .i64 0, .int .i64 0, .slice none 0 0, .slice none 0 0, .bool false, .slice none 0 0, .int .i64 0, .int .i64 0, .string ⟨#[]⟩] 36) #[.int .i64 0, .int .i64 0] 38)
  have HB0 := Lib.hid (al2 w (.cells #[.string ⟨#[]⟩, .int .i64 0, .slice none 0 0, .int .i64 0, .int .i64 0, .slice none 0 0, .slice none 0 0, .bool false, .slice none 0 0, .int .i64 0, .int .i64 0, .string ⟨#[]⟩] 36) (.cells #[.int .i64 0, .int .i64 0] 38))
  have HRA : Hid (OkT (raisedF c W H)) := OkC.raised hc
  clear hc ht
  go_enter Tryd.func7, Tryd.ntmps7
  go_upto_region 1 with fail
  generalize (w.alloc (.cells #[.string ⟨#[]⟩, .int .i64 0, .slice none 0 0, .int .i64 0, .int .i64 0, .slice none 0 0, .slice none 0 0, .bool false, .slice none 0 0, .int .i64 0, .int .i64 0, .string ⟨#[]⟩] 36)).alloc (.cells #[.int .i64 0, .int .i64 0] 38) = w0 at *
  have HRD := Lib.hid (Read_any w0 (HT.out.below HB0.out hw2) HOK.out)
  generalize hn1 : w.heap.size + 1 = n1 at *
  go_wp2_with fail
  refine HRD.out.mono ?_
  rintro e w1 ⟨u, rfl, hi, hb1⟩
  have HI := Lib.hid hi
  have HB1 := Lib.hid hb1
  clear hi hb1 HRD
  obtain ⟨Au, cu, rfl, _⟩ := HI.out
  go_upto_region 2 with fail
  have HM : Hid (MkI w ((w1.alloc (.cells #[.int .i64 c.g, .int .i64 c.w, .int .i64 c.h, .slice Au c.cs.length cu] 24)).alloc (.cells #[.int .i64 0, .int .i64 0] 38)) n1 w1.heap.size (w1.heap.size + 1) c (.slice Au c.cs.length cu)) := by
    have h1 := HR1.out.lt
    have h2 := HB1.out.size
    refine ⟨hn1.symm, by omega, rfl, ((HR0.out.of_eq (HB1.out.block _ HR0.out.lt)).alloc _).alloc _, ((HR1.out.of_eq (HB1.out.block _ HR1.out.lt)).alloc _).alloc _, (Arr.new w1 _ 24).alloc _, arr_new2 w1 _ _ 38, ?_, (HB0.out.trans (HB1.out.mono HB0.out.size)).trans ((al2 w1 _ _).mono (by have := HB0.out.size; omega))⟩
    exact (HI.out.mono fun b hb => ⟨by omega, hb.2⟩).same fun b hb => (Below.heap_alloc _ _ _ (by simp; omega)).trans (Below.heap_alloc _ _ _ hb.2)
  generalize (w1.alloc (.cells #[.int .i64 c.g, .int .i64 c.w, .int .i64 c.h, .slice Au c.cs.length cu] 24)).alloc (.cells #[.int .i64 0, .int .i64 0] 38) = w2 at *
  clear HR0 HR1 HI HB0 HB1
  generalize w1.heap.size = gc at *
  generalize gc + 1 = gf at *
  have x0 := HM.out.rc.cell (k := 0) rfl
  have x1 := HM.out.rc.cell (k := 1) rfl
  have x2 := HM.out.rc.cell (k := 2) rfl
  have x3 := HM.out.rc.cell (k := 3) rfl
  have z0 := HM.out.rf.cell (k := 0) rfl
  have HKI := Lib.hid (Kind_any w2 HM.out.chr HM.out.lt HOK.out HW)
  go_wp2_with fail
  refine HKI.out.mono ?_
  rintro e w3 ⟨hb3, hcase⟩
  have HM3 := Lib.hid (HM.out.next hb3)
  clear hb3 HKI x0 x1 x2 x3 z0 HM
  rcases hcase with ⟨htor, rfl⟩ | ⟨htor, X, x, Y, hfin, rfl⟩
  · skip
    have e1 := HM3.out.e1
    subst e1
    have y0 := HM3.out.r0.cell (k := 0) rfl
    have f0 := HM3.out.r0.free 0
    have y1 := HM3.out.r0.cell (k := 1) rfl
    have f1 := HM3.out.r0.free 1
    have y2 := HM3.out.r0.cell (k := 2) rfl
    have f2 := HM3.out.r0.free 2
    have y3 := HM3.out.r0.cell (k := 3) rfl
    have f3 := HM3.out.r0.free 3
    have y4 := HM3.out.r0.cell (k := 4) rfl
    have f4 := HM3.out.r0.free 4
    have y5 := HM3.out.r0.cell (k := 5) rfl
    have f5 := HM3.out.r0.free 5
    have y6 := HM3.out.r0.cell (k := 6) rfl
    have f6 := HM3.out.r0.free 6
    have y7 := HM3.out.r0.cell (k := 7) rfl
    have f7 := HM3.out.r0.free 7
    have y8 := HM3.out.r0.cell (k := 8) rfl
    have f8 := HM3.out.r0.free 8
    have y9 := HM3.out.r0.cell (k := 9) rfl
    have f9 := HM3.out.r0.free 9
    have y10 := HM3.out.r0.cell (k := 10) rfl
    have f10 := HM3.out.r0.free 10
    have y11 := HM3.out.r0.cell (k := 11) rfl
    have f11 := HM3.out.r0.free 11
    have y12 := HM3.out.r1.cell (k := 0) rfl
    have y13 := HM3.out.r1.cell (k := 1) rfl
    have f12 := HM3.out.r1.free 0
    have f13 := HM3.out.r1.free 1
    have HF0 := Lib.hid (((((((((((((((HM3.out.r0.set 0 (.string ⟨#[]⟩)).set 1 (.int .i64 0)).set 2 (.slice none 0 0)).set 3 (.int .i64 0)).set 4 (.int .i64 0)).set 5 (.slice none 0 0)).set 6 (.slice none 0 0)).set 7 (.bool false)).set 8 (.slice none 0 0)).set 9 (.int .i64 0)).set 10 (.int .i64 0)).set 11 (.string ⟨#[]⟩)).far (p := ⟨w.heap.size + 1, 0, none⟩) (by simp) (.int .i64 4)).far (p := ⟨w.heap.size + 1, 1, none⟩) (by simp) (.int .i64 0)))
    have HF1 := Lib.hid (((((((((((((((HM3.out.r1.far (p := ⟨w.heap.size, 0, none⟩) (by simp) (.string ⟨#[]⟩)).far (p := ⟨w.heap.size, 1, none⟩) (by simp) (.int .i64 0)).far (p := ⟨w.heap.size, 2, none⟩) (by simp) (.slice none 0 0)).far (p := ⟨w.heap.size, 3, none⟩) (by simp) (.int .i64 0)).far (p := ⟨w.heap.size, 4, none⟩) (by simp) (.int .i64 0)).far (p := ⟨w.heap.size, 5, none⟩) (by simp) (.slice none 0 0)).far (p := ⟨w.heap.size, 6, none⟩) (by simp) (.slice none 0 0)).far (p := ⟨w.heap.size, 7, none⟩) (by simp) (.bool false)).far (p := ⟨w.heap.size, 8, none⟩) (by simp) (.slice none 0 0)).far (p := ⟨w.heap.size, 9, none⟩) (by simp) (.int .i64 0)).far (p := ⟨w.heap.size, 10, none⟩) (by simp) (.int .i64 0)).far (p := ⟨w.heap.size, 11, none⟩) (by simp) (.string ⟨#[]⟩)).set 0 (.int .i64 4)).set 1 (.int .i64 0)))
    have HFB := Lib.hid (((((((((((((((HM3.out.below.setCell (p := ⟨w.heap.size, 0, none⟩) (Nat.le_refl _) (.string ⟨#[]⟩)).setCell (p := ⟨w.heap.size, 1, none⟩) (Nat.le_refl _) (.int .i64 0)).setCell (p := ⟨w.heap.size, 2, none⟩) (Nat.le_refl _) (.slice none 0 0)).setCell (p := ⟨w.heap.size, 3, none⟩) (Nat.le_refl _) (.int .i64 0)).setCell (p := ⟨w.heap.size, 4, none⟩) (Nat.le_refl _) (.int .i64 0)).setCell (p := ⟨w.heap.size, 5, none⟩) (Nat.le_refl _) (.slice none 0 0)).setCell (p := ⟨w.heap.size, 6, none⟩) (Nat.le_refl _) (.slice none 0 0)).setCell (p := ⟨w.heap.size, 7, none⟩) (Nat.le_refl _) (.bool false)).setCell (p := ⟨w.heap.size, 8, none⟩) (Nat.le_refl _) (.slice none 0 0)).setCell (p := ⟨w.heap.size, 9, none⟩) (Nat.le_refl _) (.int .i64 0)).setCell (p := ⟨w.heap.size, 10, none⟩) (Nat.le_refl _) (.int .i64 0)).setCell (p := ⟨w.heap.size, 11, none⟩) (Nat.le_refl _) (.string ⟨#[]⟩)).setCell (p := ⟨w.heap.size + 1, 0, none⟩) (Nat.le_succ _) (.int .i64 4)).setCell (p := ⟨w.heap.size + 1, 1, none⟩) (Nat.le_succ _) (.int .i64 0)))
    go_wp2_with fail
    clear y0 f0 y1 f1 y2 f2 y3 f3 y4 f4 y5 f5 y6 f6 y7 f7 y8 f8 y9 f9 y10 f10 y11 f11 y12 f12 y13 f13
    generalize ((((((((((((((w3.setCell ⟨w.heap.size, 0, none⟩ (.string ⟨#[]⟩)).setCell ⟨w.heap.size, 1, none⟩ (.int .i64 0)).setCell ⟨w.heap.size, 2, none⟩ (.slice none 0 0)).setCell ⟨w.heap.size, 3, none⟩ (.int .i64 0)).setCell ⟨w.heap.size, 4, none⟩ (.int .i64 0)).setCell ⟨w.heap.size, 5, none⟩ (.slice none 0 0)).setCell ⟨w.heap.size, 6, none⟩ (.slice none 0 0)).setCell ⟨w.heap.size, 7, none⟩ (.bool false)).setCell ⟨w.heap.size, 8, none⟩ (.slice none 0 0)).setCell ⟨w.heap.size, 9, none⟩ (.int .i64 0)).setCell ⟨w.heap.size, 10, none⟩ (.int .i64 0)).setCell ⟨w.heap.size, 11, none⟩ (.string ⟨#[]⟩)).setCell ⟨w.heap.size + 1, 0, none⟩ (.int .i64 4)).setCell ⟨w.heap.size + 1, 1, none⟩ (.int .i64 0)) = wf at *
    have q0 := HF0.out.cell (k := 0) rfl
    have q1 := HF0.out.cell (k := 1) rfl
    have q2 := HF0.out.cell (k := 2) rfl
    have q3 := HF0.out.cell (k := 3) rfl
    have q4 := HF0.out.cell (k := 4) rfl
    have q5 := HF0.out.cell (k := 5) rfl
    have q6 := HF0.out.cell (k := 6) rfl
    have q7 := HF0.out.cell (k := 7) rfl
    have q8 := HF0.out.cell (k := 8) rfl
    have q9 := HF0.out.cell (k := 9) rfl
    have q10 := HF0.out.cell (k := 10) rfl
    have q11 := HF0.out.cell (k := 11) rfl
    have q12 := HF1.out.cell (k := 0) rfl
    have q13 := HF1.out.cell (k := 1) rfl
    refine bodyPost_ret (v := .tuple #[.agg #[.string ⟨#[]⟩, .int .i64 0, .slice none 0 0, .int .i64 0, .int .i64 0, .slice none 0 0, .slice none 0 0, .bool false, .slice none 0 0, .int .i64 0, .int .i64 0, .string ⟨#[]⟩], .agg #[.int .i64 4, .int .i64 0]]) (by simp [results, Tryd.results7, go_sem, q0, q1, q2, q3, q4, q5, q6, q7, q8, q9, q10, q11, q12, q13]) rfl ?_
    exact ⟨HFB.out, .inl ⟨htor, rfl⟩⟩
  have hk17 := kindF_in c.g ⟨X, 0⟩ ⟨x, Y⟩ (turnsF (movesC c W H)).length (waysF c.g ⟨X, 0⟩ ⟨x, Y⟩ (movesC c W H))
  have HNA : Hid (∀ w, _) := fun w => Name_any _ w hk17
  clear hk17
  generalize hknd : kindF c.g ⟨X, 0⟩ ⟨x, Y⟩ (turnsF (movesC c W H)).length (waysF c.g ⟨X, 0⟩ ⟨x, Y⟩ (movesC c W H)) = knd at *
  have HKND := Lib.hid hknd
  clear hknd
  go_upto_region 8 with fail
  have hM4 : MkI w (w3.alloc (.cells #[.string ⟨#[]⟩, .int .i64 0, .slice none 0 0, .int .i64 0, .int .i64 0, .slice none 0 0, .slice none 0 0, .bool false, .slice none 0 0, .int .i64 0, .int .i64 0, .string ⟨#[]⟩] 36)) n1 gc gf c (.slice Au c.cs.length cu) := HM3.out.next (al1 w3 _)
  have HO4 : Hid (Arr (w3.alloc (.cells #[.string ⟨#[]⟩, .int .i64 0, .slice none 0 0, .int .i64 0, .int .i64 0, .slice none 0 0, .slice none 0 0, .bool false, .slice none 0 0, .int .i64 0, .int .i64 0, .string ⟨#[]⟩] 36)) w3.heap.size 36 zeroMade) := Arr.new w3 _ 36
  have HGP : Hid (gf < w3.heap.size) := HM3.out.rf.lt
  have HM4 := Lib.hid hM4
  clear hM4
  generalize w3.alloc (.cells #[.string ⟨#[]⟩, .int .i64 0, .slice none 0 0, .int .i64 0, .int .i64 0, .slice none 0 0, .slice none 0 0, .bool false, .slice none 0 0, .int .i64 0, .int .i64 0, .string ⟨#[]⟩] 36) = w4 at *
  generalize w3.heap.size = pb at *
  go_wp2_with fail
  refine (HNA.out w4).mono ?_
  rintro e w5 ⟨rfl, hb5⟩
  generalize hnm : nameF knd = nm at *
  have HM5 := Lib.hid (HM4.out.next hb5)
  have HO5 := Lib.hid (HO4.out.of_eq (hb5.block _ HO4.out.lt))
  clear hb5 HM4 HO4 HNA
  have x0 := HO5.out.cell (k := 0) rfl
  have f0 := HO5.out.free 0
  go_upto_region 9 with fail
  have HO6 : Hid (Arr (w5.setCell ⟨pb, 0, none⟩ (.string nm)) pb 36 (madeL nm 0 nilS nilS nilS 0 0 false nilS 0 0 ⟨#[]⟩)) := HO5.out.set 0 (.string nm)
  have HM6 := Lib.hid (HM5.out.grown (grownBy_set w5 pb 0 (.string nm)) HGP.out)
  clear x0 f0 HO5 HM5
  generalize w5.setCell ⟨pb, 0, none⟩ (.string nm) = w6 at *
  have x0 := HM6.out.rc.cell (k := 0) rfl
  have x1 := HM6.out.rc.cell (k := 1) rfl
  have x2 := HM6.out.rc.cell (k := 2) rfl
  have x3 := HM6.out.rc.cell (k := 3) rfl
  have HDO := Lib.hid (Domain_any w6 HM6.out.chr HM6.out.lt HOK.out htor)
  go_wp2_with fail
  refine HDO.out.mono ?_
  rintro e w7 ⟨hb7, Ad, mD, kD, hmD, rfl⟩
  have HM7 := Lib.hid (HM6.out.next hb7)
  have HO7 := Lib.hid (HO6.out.of_eq (hb7.block _ HO6.out.lt))
  clear hb7 HM6 HO6 HDO x0 x1 x2 x3
  have y1 := HO7.out.cell (k := 1) rfl
  have f1 := HO7.out.free 1
  go_upto_region 11 with fail
  have HO8 : Hid (Arr (w7.setCell ⟨pb, 1, none⟩ (.int .i64 (mD : Int))) pb 36 (madeL nm (mD : Int) nilS nilS nilS 0 0 false nilS 0 0 ⟨#[]⟩)) := HO7.out.set 1 (.int .i64 (mD : Int))
  have HM8 := Lib.hid (HM7.out.grown (grownBy_set w7 pb 1 (.int .i64 (mD : Int))) HGP.out)
  clear y1 f1 HO7 HM7
  generalize w7.setCell ⟨pb, 1, none⟩ (.int .i64 (mD : Int)) = w8 at *
  have x0 := HM8.out.rc.cell (k := 0) rfl
  have x1 := HM8.out.rc.cell (k := 1) rfl
  have x2 := HM8.out.rc.cell (k := 2) rfl
  have x3 := HM8.out.rc.cell (k := 3) rfl
  have HRS := Lib.hid (raised_any w8 HM8.out.chr HM8.out.lt HOK.out)
  go_wp2_with fail
  refine HRS.out.mono ?_
  rintro e w9 ⟨tv, rfl, htv, hb9⟩
  have HM9 := Lib.hid (HM8.out.next hb9)
  have HO9 := Lib.hid (HO8.out.of_eq (hb9.block _ HO8.out.lt))
  have hpl := HO8.out.lt
  have HWV := Lib.hid (weave_any w9 pb nm (mD : Int) htv (fun b hb => ⟨hb.2, by omega⟩) HRA.out HO9.out)
  obtain ⟨Atv, ctv, rfl, _⟩ := htv.form
  clear hb9 htv HM8 HO8 HRS x0 x1 x2 x3 hpl
  generalize hsh : shaftsF (raisedF c W H) = sh at *
  generalize htd : treadF (raisedF c W H) = td at *
  generalize hfl1 : longF (raisedF c W H).turned true = fl1 at *
  generalize hfl2 : longF (raisedF c W H) false = fl2 at *
  have HEQ := Lib.hid (And.intro hsh (And.intro htd (And.intro hfl1 (And.intro hfl2 hnm))))
  clear hsh htd hfl1 hfl2 hnm
  go_wp2_with fail
  refine HWV.out.mono ?_
  rintro e wA ⟨rfl, th, bi, tr, hg, li, ca, hhg, ⟨at1, an1, ac1, rfl⟩, ⟨at2, an2, ac2, rfl⟩, ⟨at3, an3, ac3, rfl⟩, ⟨at4, an4, ac4, rfl⟩, hoA, hgA⟩
  have HHG := Lib.hid hhg
  have HMA := Lib.hid (HM9.out.grown hgA HGP.out)
  have HOA := Lib.hid hoA
  clear hhg hoA hgA HWV HM9 HO9
  have o0 := HOA.out.cell (k := 0) rfl
  have o1 := HOA.out.cell (k := 1) rfl
  have o2 := HOA.out.cell (k := 2) rfl
  have o3 := HOA.out.cell (k := 3) rfl
  have o4 := HOA.out.cell (k := 4) rfl
  have o5 := HOA.out.cell (k := 5) rfl
  have o6 := HOA.out.cell (k := 6) rfl
  have o7 := HOA.out.cell (k := 7) rfl
  have o8 := HOA.out.cell (k := 8) rfl
  have o9 := HOA.out.cell (k := 9) rfl
  have o10 := HOA.out.cell (k := 10) rfl
  have o11 := HOA.out.cell (k := 11) rfl
  have e1 := HMA.out.e1
  subst e1
  have y0 := HMA.out.r0.cell (k := 0) rfl
  have f0 := HMA.out.r0.free 0
  have y1 := HMA.out.r0.cell (k := 1) rfl
  have f1 := HMA.out.r0.free 1
  have y2 := HMA.out.r0.cell (k := 2) rfl
  have f2 := HMA.out.r0.free 2
  have y3 := HMA.out.r0.cell (k := 3) rfl
  have f3 := HMA.out.r0.free 3
  have y4 := HMA.out.r0.cell (k := 4) rfl
  have f4 := HMA.out.r0.free 4
  have y5 := HMA.out.r0.cell (k := 5) rfl
  have f5 := HMA.out.r0.free 5
  have y6 := HMA.out.r0.cell (k := 6) rfl
  have f6 := HMA.out.r0.free 6
  have y7 := HMA.out.r0.cell (k := 7) rfl
  have f7 := HMA.out.r0.free 7
  have y8 := HMA.out.r0.cell (k := 8) rfl
  have f8 := HMA.out.r0.free 8
  have y9 := HMA.out.r0.cell (k := 9) rfl
  have f9 := HMA.out.r0.free 9
  have y10 := HMA.out.r0.cell (k := 10) rfl
  have f10 := HMA.out.r0.free 10
  have y11 := HMA.out.r0.cell (k := 11) rfl
  have f11 := HMA.out.r0.free 11
  have y12 := HMA.out.r1.cell (k := 0) rfl
  have y13 := HMA.out.r1.cell (k := 1) rfl
  have f12 := HMA.out.r1.free 0
  have f13 := HMA.out.r1.free 1
  have HF0 := Lib.hid (((((((((((((((HMA.out.r0.set 0 (.string nm)).set 1 (.int .i64 (mD : Int))).set 2 (.slice at1 an1 ac1)).set 3 (.int .i64 (sh : Int))).set 4 (.int .i64 (td : Int))).set 5 (.slice at2 an2 ac2)).set 6 (.slice at3 an3 ac3)).set 7 (.bool hg)).set 8 (.slice at4 an4 ac4)).set 9 (.int .i64 fl1)).set 10 (.int .i64 fl2)).set 11 (.string ca)).far (p := ⟨w.heap.size + 1, 0, none⟩) (by simp) (.int .i64 0)).far (p := ⟨w.heap.size + 1, 1, none⟩) (by simp) (.int .i64 0)))
  have HF1 := Lib.hid (((((((((((((((HMA.out.r1.far (p := ⟨w.heap.size, 0, none⟩) (by simp) (.string nm)).far (p := ⟨w.heap.size, 1, none⟩) (by simp) (.int .i64 (mD : Int))).far (p := ⟨w.heap.size, 2, none⟩) (by simp) (.slice at1 an1 ac1)).far (p := ⟨w.heap.size, 3, none⟩) (by simp) (.int .i64 (sh : Int))).far (p := ⟨w.heap.size, 4, none⟩) (by simp) (.int .i64 (td : Int))).far (p := ⟨w.heap.size, 5, none⟩) (by simp) (.slice at2 an2 ac2)).far (p := ⟨w.heap.size, 6, none⟩) (by simp) (.slice at3 an3 ac3)).far (p := ⟨w.heap.size, 7, none⟩) (by simp) (.bool hg)).far (p := ⟨w.heap.size, 8, none⟩) (by simp) (.slice at4 an4 ac4)).far (p := ⟨w.heap.size, 9, none⟩) (by simp) (.int .i64 fl1)).far (p := ⟨w.heap.size, 10, none⟩) (by simp) (.int .i64 fl2)).far (p := ⟨w.heap.size, 11, none⟩) (by simp) (.string ca)).set 0 (.int .i64 0)).set 1 (.int .i64 0)))
  have HFB := Lib.hid (((((((((((((((HMA.out.below.setCell (p := ⟨w.heap.size, 0, none⟩) (Nat.le_refl _) (.string nm)).setCell (p := ⟨w.heap.size, 1, none⟩) (Nat.le_refl _) (.int .i64 (mD : Int))).setCell (p := ⟨w.heap.size, 2, none⟩) (Nat.le_refl _) (.slice at1 an1 ac1)).setCell (p := ⟨w.heap.size, 3, none⟩) (Nat.le_refl _) (.int .i64 (sh : Int))).setCell (p := ⟨w.heap.size, 4, none⟩) (Nat.le_refl _) (.int .i64 (td : Int))).setCell (p := ⟨w.heap.size, 5, none⟩) (Nat.le_refl _) (.slice at2 an2 ac2)).setCell (p := ⟨w.heap.size, 6, none⟩) (Nat.le_refl _) (.slice at3 an3 ac3)).setCell (p := ⟨w.heap.size, 7, none⟩) (Nat.le_refl _) (.bool hg)).setCell (p := ⟨w.heap.size, 8, none⟩) (Nat.le_refl _) (.slice at4 an4 ac4)).setCell (p := ⟨w.heap.size, 9, none⟩) (Nat.le_refl _) (.int .i64 fl1)).setCell (p := ⟨w.heap.size, 10, none⟩) (Nat.le_refl _) (.int .i64 fl2)).setCell (p := ⟨w.heap.size, 11, none⟩) (Nat.le_refl _) (.string ca)).setCell (p := ⟨w.heap.size + 1, 0, none⟩) (Nat.le_succ _) (.int .i64 0)).setCell (p := ⟨w.heap.size + 1, 1, none⟩) (Nat.le_succ _) (.int .i64 0)))
  go_wp2_with fail
  clear o0 o1 o2 o3 o4 o5 o6 o7 o8 o9 o10 o11 y0 f0 y1 f1 y2 f2 y3 f3 y4 f4 y5 f5 y6 f6 y7 f7 y8 f8 y9 f9 y10 f10 y11 f11 y12 f12 y13 f13
  generalize ((((((((((((((wA.setCell ⟨w.heap.size, 0, none⟩ (.string nm)).setCell ⟨w.heap.size, 1, none⟩ (.int .i64 (mD : Int))).setCell ⟨w.heap.size, 2, none⟩ (.slice at1 an1 ac1)).setCell ⟨w.heap.size, 3, none⟩ (.int .i64 (sh : Int))).setCell ⟨w.heap.size, 4, none⟩ (.int .i64 (td : Int))).setCell ⟨w.heap.size, 5, none⟩ (.slice at2 an2 ac2)).setCell ⟨w.heap.size, 6, none⟩ (.slice at3 an3 ac3)).setCell ⟨w.heap.size, 7, none⟩ (.bool hg)).setCell ⟨w.heap.size, 8, none⟩ (.slice at4 an4 ac4)).setCell ⟨w.heap.size, 9, none⟩ (.int .i64 fl1)).setCell ⟨w.heap.size, 10, none⟩ (.int .i64 fl2)).setCell ⟨w.heap.size, 11, none⟩ (.string ca)).setCell ⟨w.heap.size + 1, 0, none⟩ (.int .i64 0)).setCell ⟨w.heap.size + 1, 1, none⟩ (.int .i64 0)) = wf at *
  have q0 := HF0.out.cell (k := 0) rfl
  have q1 := HF0.out.cell (k := 1) rfl
  have q2 := HF0.out.cell (k := 2) rfl
  have q3 := HF0.out.cell (k := 3) rfl
  have q4 := HF0.out.cell (k := 4) rfl
  have q5 := HF0.out.cell (k := 5) rfl
  have q6 := HF0.out.cell (k := 6) rfl
  have q7 := HF0.out.cell (k := 7) rfl
  have q8 := HF0.out.cell (k := 8) rfl
  have q9 := HF0.out.cell (k := 9) rfl
  have q10 := HF0.out.cell (k := 10) rfl
  have q11 := HF0.out.cell (k := 11) rfl
  have q12 := HF1.out.cell (k := 0) rfl
  have q13 := HF1.out.cell (k := 1) rfl
  refine bodyPost_ret (v := .tuple #[.agg #[.string nm, .int .i64 (mD : Int), .slice at1 an1 ac1, .int .i64 (sh : Int), .int .i64 (td : Int), .slice at2 an2 ac2, .slice at3 an3 ac3, .bool hg, .slice at4 an4 ac4, .int .i64 fl1, .int .i64 fl2, .string ca], .agg #[.int .i64 0, .int .i64 0]]) (by simp [results, Tryd.results7, go_sem, q0, q1, q2, q3, q4, q5, q6, q7, q8, q9, q10, q11, q12, q13]) rfl ?_
  refine ⟨HFB.out, .inr ⟨htor, X, x, Y, hfin, (mD : Int), .slice at1 an1 ac1, .slice at2 an2 ac2, .slice at3 an3 ac3, hg, .slice at4 an4 ac4, ca, HHG.out, ⟨_, _, _, rfl⟩, ⟨_, _, _, rfl⟩, ⟨_, _, _, rfl⟩, ⟨_, _, _, rfl⟩, ?_⟩⟩
  rw [HKND.out, HEQ.out.1, HEQ.out.2.1, HEQ.out.2.2.1, HEQ.out.2.2.2.1, HEQ.out.2.2.2.2]
  rfl
end Go.Proofs.YtmmakljmikdooaaDoor
