/- Chapter 16: the comparison of pieces by their heights. -/
import Derived.Test.YtckciljgaddpaaaLayWalk1
import Derived.Test.YtckciljgaddpaaaLayPlain
import Derived.Test.YtckciljgaddpaaaSortWalk5
namespace Go.Proofs.Ytckciljgaddpaaa
open Go.RowKit
set_option linter.unusedVariables false

set_option maxHeartbeats 400000 in
theorem nan_any (x : Int) (w : World) : Calls Try.prog 19 #[.int .i64 x] w fun e w' => e = .returned (.bool false) ∧ w = w' := by
  have hx : (x != x) = false := by simp
  go_enter Try.func19, Try.ntmps19
  go_wp2_with fail
  go_ret
  exact ⟨rfl, rfl⟩
def cmpI (x y : Int) : Int := if x < y then -1 else if y < x then 1 else 0
set_option maxHeartbeats 400000 in
theorem cmp_any (x y : Int) (w : World) : Calls Try.prog 15 #[.int .i64 x, .int .i64 y] w fun e w' => e = .returned (.int .i64 (cmpI x y)) ∧ w = w' := by
  have hc : x < y ∨ (¬ x < y ∧ y < x) ∨ (¬ x < y ∧ ¬ y < x) := by omega
  rcases hc with h | ⟨h1, h2⟩ | ⟨h1, h2⟩
  · have HE : Hid (cmpI x y = -1) := by show _ = _; unfold cmpI; rw [if_pos h]
    go_enter Try.func15, Try.ntmps15
    go_wp2_with (go_at_call 19; refine (nan_any _ _).mono ?_; rintro e w1 ⟨rfl, rfl⟩)
    go_ret
    exact ⟨ret_int HE.out.symm, rfl⟩
  · have HE : Hid (cmpI x y = 1) := by show _ = _; unfold cmpI; rw [if_neg h1, if_pos h2]
    go_enter Try.func15, Try.ntmps15
    go_wp2_with (go_at_call 19; refine (nan_any _ _).mono ?_; rintro e w1 ⟨rfl, rfl⟩)
    go_ret
    exact ⟨ret_int HE.out.symm, rfl⟩
  · have HE : Hid (cmpI x y = 0) := by show _ = _; unfold cmpI; rw [if_neg h1, if_neg h2]
    go_enter Try.func15, Try.ntmps15
    go_wp2_with (go_at_call 19; refine (nan_any _ _).mono ?_; rintro e w1 ⟨rfl, rfl⟩)
    go_ret
    exact ⟨ret_int HE.out.symm, rfl⟩

def noPc : Pc := ⟨0, 0⟩
def wOf (ps : List Pc) (i : Nat) : Int := (ps.getD i noPc).w
def hOf (ps : List Pc) (i : Nat) : Int := (ps.getD i noPc).h
theorem pc_getD {ps : List Pc} {i : Nat} (h : i < ps.length) : ps.getD i noPc = ps[i] := by simp [h]
/-- the higher first -/
def keyH (ps : List Pc) (x : Int) : Int := -hOf ps x.toNat

set_option maxHeartbeats 1000000 in
theorem closure_any {ps : List Pc} {v : Value} {B : Nat} (x y : Int) (w : World) (hv : Pieces w (fun b => b < w.heap.size) v ps) (hB : w.cell? ⟨B, 0, none⟩ = some v) (x0 : 0 ≤ x) (x1 : x < ps.length) (y0 : 0 ≤ y) (y1 : y < ps.length) :
    Calls Try.prog 14 #[.int .i64 x, .int .i64 y, .pointer (some ⟨B, 0, none⟩)] w fun e w' => e = .returned (.int .i64 (cmpI (hOf ps y.toNat) (hOf ps x.toNat))) ∧ ∃ k, w' = w.drewN k := by
  obtain ⟨i, rfl⟩ := Int.eq_ofNat_of_zero_le x0
  obtain ⟨j, rfl⟩ := Int.eq_ofNat_of_zero_le y0
  have hi : i < ps.length := by omega
  have hj : j < ps.length := by omega
  obtain ⟨A, c, rfl, h1, h2, hr⟩ := hv
  obtain ⟨b, o, rfl, _, u0, u1⟩ := pc_cells hr hi
  obtain ⟨b', o', e, _, v0, v1⟩ := pc_cells hr hj
  cases e
  unfold maxLen at h2
  have HE : Hid (hOf ps (j : Int).toNat = ps[j].h ∧ hOf ps (i : Int).toNat = ps[i].h) := by
    show _ ∧ _
    rw [Int.toNat_natCast, Int.toNat_natCast]
    unfold hOf
    rw [pc_getD hi, pc_getD hj]
    exact ⟨rfl, rfl⟩
  rw [HE.out.1, HE.out.2]
  generalize ps[j].h = hh at *
  generalize ps[i].h = kk at *
  clear hr u0 v0
  go_enter Try.func14, Try.ntmps14
  go_wp2_with (go_quiet ((go_at_call 15; exact Calls.quiet_of_same ((cmp_any _ _ _).mono fun _ _ ⟨h1, h2⟩ => ⟨h1, h2.symm⟩))))
  go_ret
  exact ⟨rfl, _, rfl⟩

theorem cmpI_lt (x y : Int) : cmpI x y < 0 ↔ x < y := by
  unfold cmpI
  split
  · omega
  · split <;> omega
theorem enters14 (args : Array Value) (w : World) : (callFunc 14 args).run Try.prog w = .ok (.enter 14 args) w := by
  have h1 : Try.f14.name ≠ "runtime.NumGoroutine" := by
    have : (Try.f14.name == "runtime.NumGoroutine") = false := by kernel_rfl
    simpa using this
  have h2 : Try.f14.body.isSome = true := by kernel_rfl
  obtain ⟨c, hc⟩ := Option.isSome_iff_exists.1 h2
  have h3 : Try.prog.funcs[14]? = some Try.f14 := by kernel_rfl
  simp [callFunc, h3, h1, hc, mark]
/-- the comparison that Lay hands over -/
theorem cmp_pieces {ps : List Pc} {v : Value} {B base : Nat} {w0 : World} (hv : Pieces w0 (fun b => b < base) v ps) (hB : w0.cell? ⟨B, 0, none⟩ = some v) (hBb : B < base) (hb : base ≤ w0.heap.size) :
    Cmp w0 base ps.length (.func (.func 14) #[] #[.pointer (some ⟨B, 0, none⟩)]) (keyH ps) := by
  refine ⟨14, #[.pointer (some ⟨B, 0, none⟩)], fun x y => cmpI (hOf ps y.toNat) (hOf ps x.toNat), rfl, enters14, fun x y _ _ _ _ => ?_, fun W x y hW x0 x1 y0 y1 => ?_⟩
  · rw [cmpI_lt]; unfold keyH; omega
  · exact closure_any x y W ((hv.same (Same.of_below hW)).mono fun i h => Nat.lt_of_lt_of_le h (Nat.le_trans hb hW.size)) ((hW.cell (p := ⟨B, 0, none⟩) hBb).trans hB) x0 x1 y0 y1
end Go.Proofs.Ytckciljgaddpaaa
