/- Chapter 11: Run; a machine that goes on behind what it refused. -/
import Derived.Test.YtaacfjeddoekfaaKnitWalk7
namespace Go.Proofs.Ytaacfjeddoekfaa
open Go.RowKit
set_option linter.unusedVariables false
set_option linter.unusedSimpArgs false

abbrev Stitches := Els Sti.cells 5
theorem sti_cells {w : World} {S : Nat → Prop} {A : Option Addr} {l : List Sti} (hr : Row w S 5 A l.length (l.flatMap Sti.cells)) {k : Nat} (hk : k < l.length) :
    ∃ b o, A = some ⟨b, o, none⟩ ∧ S b ∧ w.cell? ⟨b, o + k * 5, none⟩ = some (.int .i64 l[k].d) ∧ w.cell? ⟨b, o + k * 5 + 1, none⟩ = some (.int .i64 l[k].b) ∧ w.cell? ⟨b, o + k * 5 + 2, none⟩ = some (.int .i64 l[k].n) ∧
      w.cell? ⟨b, o + k * 5 + 3, none⟩ = some (.int .i64 l[k].c) ∧ w.cell? ⟨b, o + k * 5 + 4, none⟩ = some (.int .i64 l[k].t) := by
  obtain ⟨b, o, e, hs, hc⟩ := els_at Sti.cells_len hr (by decide) hk
  exact ⟨b, o, e, hs, hc 0 _ rfl, hc 1 _ rfl, hc 2 _ rfl, hc 3 _ rfl, hc 4 _ rfl⟩
theorem srow_of {w : World} {S : Nat → Prop} {A : Option Addr} {n c : Nat} {l : List Sti} (h : Stitches w S (.slice A n c) l) : Row w S 5 A l.length (l.flatMap Sti.cells) := by
  obtain ⟨A', c', e, _, _, h⟩ := h
  cases e
  exact h
theorem stis_grown {w w' : World} {v : Value} {l : List Sti} (h : Stitches w (fun b => b < w.heap.size) v l) (hb : Below w.heap.size w w') : Stitches w' (fun b => b < w'.heap.size) v l :=
  (h.same (Same.of_below hb)).mono fun i hi => Nat.lt_of_lt_of_le hi hb.size

/-- one stitch, right or wrong -/
theorem Do_any {w0 w : World} {B p N : Nat} {k : KS} {m : MD} (h : MC w0 w B p N m k) (h' : TH w B m k.loops) (hN : N ≤ 128) (hi : Kinv N k) (x : Sti) :
    Calls Try.prog 26 #[ptr p 0, .agg x.cells.toArray] w fun e w' => e = .returned (.int .i64 (wrongK N k x)) ∧ MF w0 w' B p N (doK N k x) m w := by
  by_cases hw : wrongK N k x = 0
  · refine (Do_ok h h' hN hi x hw).mono fun e w' he => ?_
    unfold doK
    rw [if_pos hw, hw]
    exact he
  · refine (Do_bad ⟨m, h, h'⟩ hN hi x hw).mono fun e w' he => ?_
    unfold doK
    rw [if_neg hw]
    exact ⟨he.1, m, h.keep he.2.2, h'.keep he.2.2, .keep m he.2.2⟩
theorem MW.below {w0 w : World} {B p N : Nat} {k : KS} (h : MW w0 w B p N k) : Below B w0 w := by obtain ⟨m, h1, _⟩ := h; exact h1.below

set_option maxRecDepth 100000 in
set_option maxHeartbeats 2000000 in
theorem plainKnit_bad {S : Nat → Prop} {v : Value} {l : List Sti} (n : Int) (hn : n < 1 ∨ 128 < n) (w : World) (hv : Stitches w S v l) :
    Calls Try.prog 14 #[.int .i64 n, v] w fun e w' => e = .returned (.tuple #[nils, .agg #[nils, nils, nils, nils, .int .i64 0], .int .i64 3]) ∧ Below w.heap.size w w' := by
  have HA := Lib.hid (Arr.new w #[nils, nils, nils, nils, .int .i64 0] 27)
  have HB : Hid (Below w.heap.size w (w.alloc (.cells #[nils, nils, nils, nils, .int .i64 0] 27))) := (Below.refl _ _).alloc (Nat.le_refl _) _
  have HN := Lib.hid hn
  obtain ⟨A, c, rfl, h1, h2, hr⟩ := hv
  clear hr hn
  go_enter Try.func14, Try.ntmps14
  go_wp2_with fail
  refine (New_bad n HN.out _).mono ?_
  rintro e w1 ⟨rfl, rfl⟩
  have z0 := HA.out.free 0
  have z1 := HA.out.free 1
  have z2 := HA.out.free 2
  have z3 := HA.out.free 3
  have z4 := HA.out.free 4
  go_wp2_with fail
  exact bodyPost_ret (v := .tuple #[nils, .agg #[nils, nils, nils, nils, .int .i64 0], .int .i64 3]) (by simp [results, Try.results14, go_sem]) rfl ⟨rfl, HB.out⟩
end Go.Proofs.Ytaacfjeddoekfaa
