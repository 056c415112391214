/- Chapter 11: a stitch is done. -/
import Derived.Test.YtaacfjeddoekfaaKnitWalk3
namespace Go.Proofs.Ytaacfjeddoekfaa
open Go.RowKit
set_option linter.unusedVariables false

/-- a machine whole -/
def MW (w0 w : World) (B p N : Nat) (k : KS) : Prop := ∃ m, MC w0 w B p N m k ∧ TH w B m k.loops
/-- a machine whole; what is not its own is as it was with m in w -/
def MF (w0 w' : World) (B p N : Nat) (k : KS) (m : MD) (w : World) : Prop := ∃ m', MC w0 w' B p N m' k ∧ TH w' B m' k.loops ∧ Fr m w m' w'
theorem MF.before {w0 w' : World} {B p N : Nat} {k : KS} {m m1 : MD} {w w1 : World} (h : MF w0 w' B p N k m w) (f : Fr m1 w1 m w) : MF w0 w' B p N k m1 w1 := by
  obtain ⟨m', h1, h2, h3⟩ := h
  exact ⟨m', h1, h2, f.trans h3⟩
theorem MW.keep {w0 w w1 : World} {B p N : Nat} {k : KS} (h : MW w0 w B p N k) (hb : Below w.heap.size w w1) : MW w0 w1 B p N k := by
  obtain ⟨m, h1, h2⟩ := h
  exact ⟨m, h1.keep hb, h2.keep hb⟩
theorem MC.drew {w0 w : World} {B p N : Nat} {m : MD} {k : KS} (h : MC w0 w B p N m k) : MC w0 w.drew B p N m k := h.keep (below_dN (n := 1) (Below.refl _ _))

set_option maxRecDepth 100000 in
set_option maxHeartbeats 4000000 in
theorem Do_bad {w0 w : World} {B p N : Nat} {k : KS} (h : MW w0 w B p N k) (hN : N ≤ 128) (hi : Kinv N k) (x : Sti) (hw : wrongK N k x ≠ 0) :
    Calls Try.prog 26 #[ptr p 0, .agg x.cells.toArray] w fun e w' => e = .returned (.int .i64 (wrongK N k x)) ∧ MW w0 w' B p N k ∧ Below w.heap.size w w' := by
  obtain ⟨m, hm, ht⟩ := h
  have HM := Lib.hid hm
  have HT := Lib.hid ht
  have HI := Lib.hid hi
  clear hm ht hi
  have HW : Hid (∀ w', Below w.heap.size w w' → Calls Try.prog 46 #[ptr p 0, .agg x.cells.toArray] w' fun e w'' => e = .returned (.int .i64 (wrongK N k x)) ∧ Below w'.heap.size w' w'') := fun w' hb => wrong_any (HM.out.keep hb) hN HI.out x
  have hwn : (wrongK N k x != 0) = true := by simpa using hw
  generalize wrongK N k x = c at *
  clear hw
  obtain ⟨d, b, n, cc, t⟩ := x
  have HW : Hid (∀ w', Below w.heap.size w w' → Calls Try.prog 46 #[ptr p 0, .agg #[.int .i64 d, .int .i64 b, .int .i64 n, .int .i64 cc, .int .i64 t]] w' fun e w'' => e = .returned (.int .i64 c) ∧ Below w'.heap.size w' w'') := HW.out
  show Calls Try.prog 26 #[ptr p 0, .agg #[.int .i64 d, .int .i64 b, .int .i64 n, .int .i64 cc, .int .i64 t]] w _
  have hbe : Hid (Below w.heap.size w (w.alloc (.cells #[.int .i64 d, .int .i64 b, .int .i64 n, .int .i64 cc, .int .i64 t] 44))) := (Below.refl _ _).alloc (Nat.le_refl _) _
  go_enter Try.func26, Try.ntmps26
  go_wp2_with fail
  refine (HW.out _ hbe.out).mono ?_
  rintro e w1 ⟨rfl, hb1⟩
  have HB1 := Lib.hid (hbe.out.trans (hb1.mono (by simp)))
  clear hb1
  go_wp2_with fail
  go_ret
  exact ⟨rfl, ⟨m, HM.out.keep HB1.out, HT.out.keep HB1.out⟩, HB1.out⟩
end Go.Proofs.Ytaacfjeddoekfaa
