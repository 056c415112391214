/- Chapter 11: the walk of KnitRuns. -/
import Derived.Test.YtaacfjeddoekfaaLawTurned2
import Derived.Test.YtaacfjeddoekfaaKnitRefRun
namespace Go.Proofs.Ytaacfjeddoekfaa
open Go.RowKit
set_option linter.unusedVariables false
set_option linter.unusedSimpArgs false

def anyF (n : Int) (l : List Sti) : Int × Int := if 1 ≤ n ∧ n ≤ 128 then runF n.toNat l else (3, 0)
def anyK (n : Int) (l : List Sti) : Kn := if 1 ≤ n ∧ n ≤ 128 then runK n.toNat l else noKn
theorem Run_any (n : Int) {v : Value} {l : List Sti} (w : World) (hv : Stitches w (fun b => b < w.heap.size) v l) :
    Calls Try.prog 11 #[.int .i64 n, v] w fun e w' => ∃ kv, e = .returned (.tuple #[kv, .agg #[.int .i64 (anyF n l).1, .int .i64 (anyF n l).2]]) ∧ KnR w' (fun b => b < w'.heap.size) kv (anyK n l) ∧ Below w.heap.size w w' := by
  by_cases h : 1 ≤ n ∧ n ≤ 128
  · obtain ⟨N, rfl⟩ : ∃ N : Nat, n = (N : Int) := ⟨n.toNat, by omega⟩
    unfold anyF anyK
    rw [if_pos h, if_pos h, Int.toNat_natCast]
    exact Run_ok N (by omega) (by omega) w hv
  · unfold anyF anyK
    rw [if_neg h, if_neg h]
    refine (Run_range n (by omega) w hv).mono ?_
    rintro e w' ⟨rfl, hb⟩
    exact ⟨_, rfl, noKn_R _ _, hb⟩
theorem refRun_any (n : Int) {v : Value} {l : List Sti} (w : World) (hv : Stitches w (fun b => b < w.heap.size) v l) (hl : l.length ≤ 4000000000000) :
    Calls Try.prog 12 #[.int .i64 n, v] w fun e w' => ∃ kv, e = .returned (.tuple #[kv, .agg #[.int .i64 (anyF n l).1, .int .i64 (anyF n l).2]]) ∧ KnR w' (fun b => w.heap.size ≤ b ∧ b < w'.heap.size) kv (anyK n l) ∧ Below w.heap.size w w' := by
  by_cases h : 1 ≤ n ∧ n ≤ 128
  · obtain ⟨N, rfl⟩ : ∃ N : Nat, n = (N : Int) := ⟨n.toNat, by omega⟩
    unfold anyF anyK
    rw [if_pos h, if_pos h, Int.toNat_natCast]
    exact refRun_ok N (by omega) (by omega) w hv hl
  · unfold anyF anyK
    rw [if_neg h, if_neg h]
    refine (refRun_bad n (by omega) w hv).mono ?_
    rintro e w' ⟨rfl, hb⟩
    exact ⟨_, rfl, noKn_R _ _, hb⟩
theorem plainKnit_fresh (n : Int) {v : Value} {l : List Sti} (w : World) (hv : Stitches w (fun b => b < w.heap.size) v l) (hl : l.length ≤ 4000000000000) :
    Calls Try.prog 14 #[.int .i64 n, v] w fun e w' => ∃ u kv, e = .returned (.tuple #[u, kv, .int .i64 (plainC n)]) ∧ Ints w' (fun b => w.heap.size ≤ b ∧ b < w'.heap.size) u (plainE n l) ∧ KnR w' (fun b => w.heap.size ≤ b ∧ b < w'.heap.size) kv (plainK n l) ∧ Below w.heap.size w w' := by
  by_cases h : 1 ≤ n ∧ n ≤ 128
  · obtain ⟨N, rfl⟩ : ∃ N : Nat, n = (N : Int) := ⟨n.toNat, by omega⟩
    unfold plainE plainK plainC
    rw [if_pos h, if_pos h, if_pos h, Int.toNat_natCast]
    exact plainKnit_own N (by omega) (by omega) w hv hl
  · unfold plainE plainK plainC
    rw [if_neg h, if_neg h, if_neg h]
    refine (plainKnit_bad n (by omega) w hv).mono ?_
    rintro e w' ⟨rfl, hb⟩
    exact ⟨_, _, rfl, Ints.nil _ _, noKn_R _ _, hb⟩
theorem refKnit_fresh (n : Int) {v : Value} {l : List Sti} (w : World) (hv : Stitches w (fun b => b < w.heap.size) v l) (hl : l.length ≤ 4000000000000) :
    Calls Try.prog 15 #[.int .i64 n, v] w fun e w' => ∃ u kv, e = .returned (.tuple #[u, kv, .int .i64 (plainC n)]) ∧ Ints w' (fun b => w.heap.size ≤ b ∧ b < w'.heap.size) u (plainE n l) ∧ KnR w' (fun b => w.heap.size ≤ b ∧ b < w'.heap.size) kv (plainK n l) ∧ Below w.heap.size w w' := by
  by_cases h : 1 ≤ n ∧ n ≤ 128
  · obtain ⟨N, rfl⟩ : ∃ N : Nat, n = (N : Int) := ⟨n.toNat, by omega⟩
    unfold plainE plainK plainC
    rw [if_pos h, if_pos h, if_pos h, Int.toNat_natCast]
    exact refKnit_own N (by omega) (by omega) w hv hl
  · unfold plainE plainK plainC
    rw [if_neg h, if_neg h, if_neg h]
    refine (refKnit_bad n (by omega) w hv).mono ?_
    rintro e w' ⟨rfl, hb⟩
    exact ⟨_, _, rfl, Ints.nil _ _, noKn_R _ _, hb⟩
/-- five cells of a box are written -/
def set5 (w : World) (p : Nat) (a b c d e : Value) : World :=
  ((((w.setCell ⟨p, 0, none⟩ a).setCell ⟨p, 1, none⟩ b).setCell ⟨p, 2, none⟩ c).setCell ⟨p, 3, none⟩ d).setCell ⟨p, 4, none⟩ e
theorem set5_far (w : World) (p : Nat) (a b c d e : Value) (x : Nat) (h : x ≠ p) : (set5 w p a b c d e).heap[x]? = w.heap[x]? :=
  (((((Below.heap_setCell _ _ _ _ h).trans (Below.heap_setCell _ _ _ _ h)).trans (Below.heap_setCell _ _ _ _ h)).trans (Below.heap_setCell _ _ _ _ h)).trans (Below.heap_setCell _ _ _ _ h))
theorem set5_size (w : World) (p : Nat) (a b c d e : Value) : (set5 w p a b c d e).heap.size = w.heap.size := by simp [set5, World.setCell]
theorem set5_below {w0 w : World} {B p : Nat} (hb : Below B w0 w) (hp : B ≤ p) (a b c d e : Value) : Below B w0 (set5 w p a b c d e) :=
  ((((hb.setCell hp _).setCell hp _).setCell hp _).setCell hp _).setCell hp _
theorem set5_arr {w : World} {p : Nat} {t : TypeId} {x0 x1 x2 x3 x4 : Value} (h : Arr w p t [x0, x1, x2, x3, x4]) (a b c d e : Value) : Arr (set5 w p a b c d e) p t [a, b, c, d, e] :=
  ((((h.set 0 a).set 1 b).set 2 c).set 3 d).set 4 e

set_option maxRecDepth 100000 in
set_option maxHeartbeats 8000000 in
theorem runs_walk (n : Int) {v : Value} {l : List Sti} {w : World} (hv : Stis w v l) (hb : l.length * 40 ≤ 140737488351232) :
    Calls Try.prog 3 #[.int .i64 n, v] w fun e w' => e = .returned (.bool true) ∧ Below w.heap.size w w' := by
  have HV := Lib.hid hv.2
  have hv2 := hv.2
  have HR1 : Hid (∀ w v, Stitches w (fun b => b < w.heap.size) v l → Calls Try.prog 11 #[.int .i64 n, v] w fun e w' => ∃ kv, e = .returned (.tuple #[kv, .agg #[.int .i64 (anyF n l).1, .int .i64 (anyF n l).2]]) ∧ KnR w' (fun b => b < w'.heap.size) kv (anyK n l) ∧ Below w.heap.size w w') := fun w v hv => Run_any n w hv
  have HR2 : Hid (∀ w v, Stitches w (fun b => b < w.heap.size) v l → Calls Try.prog 12 #[.int .i64 n, v] w fun e w' => ∃ kv, e = .returned (.tuple #[kv, .agg #[.int .i64 (anyF n l).1, .int .i64 (anyF n l).2]]) ∧ KnR w' (fun b => w.heap.size ≤ b ∧ b < w'.heap.size) kv (anyK n l) ∧ Below w.heap.size w w') := fun w v hv => refRun_any n w hv (by omega)
  have HK1 : Hid (∀ w v, Stitches w (fun b => b < w.heap.size) v l → Calls Try.prog 14 #[.int .i64 n, v] w fun e w' => ∃ u kv, e = .returned (.tuple #[u, kv, .int .i64 (plainC n)]) ∧ Ints w' (fun b => w.heap.size ≤ b ∧ b < w'.heap.size) u (plainE n l) ∧ KnR w' (fun b => w.heap.size ≤ b ∧ b < w'.heap.size) kv (plainK n l) ∧ Below w.heap.size w w') := fun w v hv => plainKnit_fresh n w hv (by omega)
  have HK2 : Hid (∀ w v, Stitches w (fun b => b < w.heap.size) v l → Calls Try.prog 15 #[.int .i64 n, v] w fun e w' => ∃ u kv, e = .returned (.tuple #[u, kv, .int .i64 (plainC n)]) ∧ Ints w' (fun b => w.heap.size ≤ b ∧ b < w'.heap.size) u (plainE n l) ∧ KnR w' (fun b => w.heap.size ≤ b ∧ b < w'.heap.size) kv (plainK n l) ∧ Below w.heap.size w w') := fun w v hv => refKnit_fresh n w hv (by omega)
  obtain ⟨A, c, rfl, h1, h2, hr⟩ := hv2
  clear hr hv
  unfold maxLen at h2
  generalize (anyF n l).1 = f1 at *
  generalize (anyF n l).2 = f2 at *
  generalize anyK n l = kn at *
  generalize plainE n l = es at *
  generalize plainC n = pc at *
  generalize plainK n l = pk at *
  have hne : (pc != pc) = false := by simp
  have hne1 : (f1 != f1) = false := by simp
  have hne2 : (f2 != f2) = false := by simp
  have hnl : ((es.length : Int) != (es.length : Int)) = false := by simp
  go_enter Try.func3, Try.ntmps3
  go_wp2_with fail
  refine (HR1.out _ _ HV.out).mono ?_
  rintro e w1 ⟨kv, rfl, hk, hb1⟩
  have HB1 := Lib.hid hb1
  have HKA := Lib.hid hk
  obtain ⟨vl, vf, vb, vo, rfl, hl', hf', hb', ho'⟩ := hk
  obtain ⟨Aq, cq, tq, rfl, _⟩ := hl'
  obtain ⟨Af, cf, tf, rfl, _⟩ := hf'
  obtain ⟨Ab, cb, tb, rfl, _⟩ := hb'
  obtain ⟨Ap, cp, rfl, _⟩ := ho'
  clear hb1
  have HA := Lib.hid ((Arr.new w1 #[.slice Aq kn.loops.length cq, .slice Af kn.front.length cf, .slice Ab kn.back.length cb, .slice Ap kn.loose.length cp, .int .i64 kn.rack] 27).alloc (.cells #[.int .i64 f1, .int .i64 f2] 30))
  have HA2 := Lib.hid (arr_new2 w1 (.cells #[.slice Aq kn.loops.length cq, .slice Af kn.front.length cf, .slice Ab kn.back.length cb, .slice Ap kn.loose.length cp, .int .i64 kn.rack] 27) #[.int .i64 f1, .int .i64 f2] 30)
  have HS2 : Hid (Below w1.heap.size w1 ((w1.alloc (.cells #[.slice Aq kn.loops.length cq, .slice Af kn.front.length cf, .slice Ab kn.back.length cb, .slice Ap kn.loose.length cp, .int .i64 kn.rack] 27)).alloc (.cells #[.int .i64 f1, .int .i64 f2] 30))) := ((Below.refl _ _).alloc (Nat.le_refl _) _).alloc (by simp) _
  go_upto_region 2 with fail
  generalize (w1.alloc (.cells #[.slice Aq kn.loops.length cq, .slice Af kn.front.length cf, .slice Ab kn.back.length cb, .slice Ap kn.loose.length cp, .int .i64 kn.rack] 27)).alloc (.cells #[.int .i64 f1, .int .i64 f2] 30) = w2 at *
  have hs12 := HS2.out.size
  have HBW2 := Lib.hid (HB1.out.trans (HS2.out.mono HB1.out.size))
  go_wp2_with fail
  refine (HR2.out _ _ (stitches_grown HV.out HBW2.out)).mono ?_
  rintro e w3 ⟨kv, rfl, hk, hb3⟩
  have HB3 := Lib.hid hb3
  have HKB := Lib.hid hk
  obtain ⟨vl2, vf2, vb2, vo2, rfl, hl', hf', hb', ho'⟩ := hk
  obtain ⟨Aq2, cq2, tq2, rfl, _⟩ := hl'
  obtain ⟨Af2, cf2, tf2, rfl, _⟩ := hf'
  obtain ⟨Ab2, cb2, tb2, rfl, _⟩ := hb'
  obtain ⟨Ap2, cp2, rfl, _⟩ := ho'
  clear hb3
  have HC := Lib.hid ((Arr.new w3 #[.slice Aq2 kn.loops.length cq2, .slice Af2 kn.front.length cf2, .slice Ab2 kn.back.length cb2, .slice Ap2 kn.loose.length cp2, .int .i64 kn.rack] 27).alloc (.cells #[.int .i64 f1, .int .i64 f2] 30))
  have HC2 := Lib.hid (arr_new2 w3 (.cells #[.slice Aq2 kn.loops.length cq2, .slice Af2 kn.front.length cf2, .slice Ab2 kn.back.length cb2, .slice Ap2 kn.loose.length cp2, .int .i64 kn.rack] 27) #[.int .i64 f1, .int .i64 f2] 30)
  have HS4 : Hid (Below w3.heap.size w3 ((w3.alloc (.cells #[.slice Aq2 kn.loops.length cq2, .slice Af2 kn.front.length cf2, .slice Ab2 kn.back.length cb2, .slice Ap2 kn.loose.length cp2, .int .i64 kn.rack] 27)).alloc (.cells #[.int .i64 f1, .int .i64 f2] 30))) := ((Below.refl _ _).alloc (Nat.le_refl _) _).alloc (by simp) _
  go_upto_region 3 with fail
  generalize (w3.alloc (.cells #[.slice Aq2 kn.loops.length cq2, .slice Af2 kn.front.length cf2, .slice Ab2 kn.back.length cb2, .slice Ap2 kn.loose.length cp2, .int .i64 kn.rack] 27)).alloc (.cells #[.int .i64 f1, .int .i64 f2] 30) = w4 at *
  have hs23 := HB3.out.size
  have hs34 := HS4.out.size
  have HB24 : Hid (Below w2.heap.size w2 w4) := HB3.out.trans (HS4.out.mono HB3.out.size)
  have HBW4 := Lib.hid (HBW2.out.trans (HB24.out.mono HBW2.out.size))
  have HA4 := Lib.hid (HA.out.of_eq (HB24.out.block _ HA.out.lt))
  have HA24 := Lib.hid (HA2.out.of_eq (HB24.out.block _ HA2.out.lt))
  have hp1 := HA2.out.lt
  have hp3 := HC2.out.lt
  have a0 := HA4.out.cell (k := 0) rfl
  have az0 := HA4.out.free 0
  have a1 := HA4.out.cell (k := 1) rfl
  have az1 := HA4.out.free 1
  have a2 := HA4.out.cell (k := 2) rfl
  have az2 := HA4.out.free 2
  have a3 := HA4.out.cell (k := 3) rfl
  have az3 := HA4.out.free 3
  have a4 := HA4.out.cell (k := 4) rfl
  have az4 := HA4.out.free 4
  have b0 := HA24.out.cell (k := 0) rfl
  have b1 := HA24.out.cell (k := 1) rfl
  have c0 := HC.out.cell (k := 0) rfl
  have cz0 := HC.out.free 0
  have c1 := HC.out.cell (k := 1) rfl
  have cz1 := HC.out.free 1
  have c2 := HC.out.cell (k := 2) rfl
  have cz2 := HC.out.free 2
  have c3 := HC.out.cell (k := 3) rfl
  have cz3 := HC.out.free 3
  have c4 := HC.out.cell (k := 4) rfl
  have cz4 := HC.out.free 4
  have d0 := HC2.out.cell (k := 0) rfl
  have d1 := HC2.out.cell (k := 1) rfl
  go_wp2_with fail
  refine (Same_self w4 (S := fun b => b < w1.heap.size) (T := fun b => w2.heap.size ≤ b ∧ b < w3.heap.size) (HKA.out.same fun b hb => ?_) (HKB.out.same fun b hb => HS4.out.block b hb.2) (fun b hb => by have : b < w1.heap.size := hb; omega) (fun b hb => by have := hb.2; omega)).mono ?_
  · have hb : b < w1.heap.size := hb
    exact (HB24.out.block b (by omega)).trans (HS2.out.block b hb)
  rintro e w5 ⟨rfl, hb5⟩
  have HB45 := Lib.hid hb5
  have hs45 := hb5.size
  have HBW5 := Lib.hid (HBW4.out.trans (hb5.mono HBW4.out.size))
  have HA5 := Lib.hid (HA4.out.of_eq (hb5.block _ HA4.out.lt))
  have HA25 := Lib.hid (HA24.out.of_eq (hb5.block _ HA24.out.lt))
  have HC5 := Lib.hid (HC.out.of_eq (hb5.block _ HC.out.lt))
  have HC25 := Lib.hid (HC2.out.of_eq (hb5.block _ HC2.out.lt))
  clear hb5 a0 a1 a2 a3 a4 b0 b1 c0 c1 c2 c3 c4 d0 d1 az0 az1 az2 az3 az4 cz0 cz1 cz2 cz3 cz4
  have b0 := HA25.out.cell (k := 0) rfl
  have b1 := HA25.out.cell (k := 1) rfl
  have d0 := HC25.out.cell (k := 0) rfl
  have d1 := HC25.out.cell (k := 1) rfl
  go_wp2_with fail
  refine (HK1.out _ _ (stitches_grown HV.out HBW5.out)).mono ?_
  rintro e w6 ⟨u1, kv, rfl, hu, hk, hb6⟩
  have HB56 := Lib.hid hb6
  have hs56 := hb6.size
  have HU1 := Lib.hid hu
  have HKC := Lib.hid hk
  obtain ⟨vl3, vf3, vb3, vo3, rfl, hl', hf', hb', ho'⟩ := hk
  obtain ⟨Aq3, cq3, tq3, rfl, _⟩ := hl'
  obtain ⟨Af3, cf3, tf3, rfl, _⟩ := hf'
  obtain ⟨Ab3, cb3, tb3, rfl, _⟩ := hb'
  obtain ⟨Ap3, cp3, rfl, _⟩ := ho'
  have HBW6 := Lib.hid (HBW5.out.trans (hb6.mono HBW5.out.size))
  have HA6 := Lib.hid (HA5.out.of_eq (hb6.block _ HA5.out.lt))
  have HC6 := Lib.hid (HC5.out.of_eq (hb6.block _ HC5.out.lt))
  clear hb6
  have a0 := HA6.out.cell (k := 0) rfl
  have az0 := HA6.out.free 0
  have a1 := HA6.out.cell (k := 1) rfl
  have az1 := HA6.out.free 1
  have a2 := HA6.out.cell (k := 2) rfl
  have az2 := HA6.out.free 2
  have a3 := HA6.out.cell (k := 3) rfl
  have az3 := HA6.out.free 3
  have a4 := HA6.out.cell (k := 4) rfl
  have az4 := HA6.out.free 4
  have hlo1 : w.heap.size ≤ w1.heap.size := HB1.out.size
  have HBW7 : Hid (Below w.heap.size w ((((((w6).setCell ⟨w1.heap.size, 0, none⟩ (.slice Aq3 pk.loops.length cq3)).setCell ⟨w1.heap.size, 1, none⟩ (.slice Af3 pk.front.length cf3)).setCell ⟨w1.heap.size, 2, none⟩ (.slice Ab3 pk.back.length cb3)).setCell ⟨w1.heap.size, 3, none⟩ (.slice Ap3 pk.loose.length cp3)).setCell ⟨w1.heap.size, 4, none⟩ (.int .i64 pk.rack))) := set5_below HBW6.out hlo1 (.slice Aq3 pk.loops.length cq3) (.slice Af3 pk.front.length cf3) (.slice Ab3 pk.back.length cb3) (.slice Ap3 pk.loose.length cp3) (.int .i64 pk.rack)
  have hz7 : ((((((w6).setCell ⟨w1.heap.size, 0, none⟩ (.slice Aq3 pk.loops.length cq3)).setCell ⟨w1.heap.size, 1, none⟩ (.slice Af3 pk.front.length cf3)).setCell ⟨w1.heap.size, 2, none⟩ (.slice Ab3 pk.back.length cb3)).setCell ⟨w1.heap.size, 3, none⟩ (.slice Ap3 pk.loose.length cp3)).setCell ⟨w1.heap.size, 4, none⟩ (.int .i64 pk.rack)).heap.size = w6.heap.size := set5_size w6 w1.heap.size (.slice Aq3 pk.loops.length cq3) (.slice Af3 pk.front.length cf3) (.slice Ab3 pk.back.length cb3) (.slice Ap3 pk.loose.length cp3) (.int .i64 pk.rack)
  have HF7 : Hid (∀ x, x ≠ w1.heap.size → ((((((w6).setCell ⟨w1.heap.size, 0, none⟩ (.slice Aq3 pk.loops.length cq3)).setCell ⟨w1.heap.size, 1, none⟩ (.slice Af3 pk.front.length cf3)).setCell ⟨w1.heap.size, 2, none⟩ (.slice Ab3 pk.back.length cb3)).setCell ⟨w1.heap.size, 3, none⟩ (.slice Ap3 pk.loose.length cp3)).setCell ⟨w1.heap.size, 4, none⟩ (.int .i64 pk.rack)).heap[x]? = w6.heap[x]?) := fun x hx => set5_far w6 w1.heap.size (.slice Aq3 pk.loops.length cq3) (.slice Af3 pk.front.length cf3) (.slice Ab3 pk.back.length cb3) (.slice Ap3 pk.loose.length cp3) (.int .i64 pk.rack) x hx
  have HA7 : Hid (Arr ((((((w6).setCell ⟨w1.heap.size, 0, none⟩ (.slice Aq3 pk.loops.length cq3)).setCell ⟨w1.heap.size, 1, none⟩ (.slice Af3 pk.front.length cf3)).setCell ⟨w1.heap.size, 2, none⟩ (.slice Ab3 pk.back.length cb3)).setCell ⟨w1.heap.size, 3, none⟩ (.slice Ap3 pk.loose.length cp3)).setCell ⟨w1.heap.size, 4, none⟩ (.int .i64 pk.rack)) w1.heap.size 27 [.slice Aq3 pk.loops.length cq3, .slice Af3 pk.front.length cf3, .slice Ab3 pk.back.length cb3, .slice Ap3 pk.loose.length cp3, .int .i64 pk.rack]) := set5_arr HA6.out (.slice Aq3 pk.loops.length cq3) (.slice Af3 pk.front.length cf3) (.slice Ab3 pk.back.length cb3) (.slice Ap3 pk.loose.length cp3) (.int .i64 pk.rack)
  go_upto_region 6 with fail
  generalize (((((w6).setCell ⟨w1.heap.size, 0, none⟩ (.slice Aq3 pk.loops.length cq3)).setCell ⟨w1.heap.size, 1, none⟩ (.slice Af3 pk.front.length cf3)).setCell ⟨w1.heap.size, 2, none⟩ (.slice Ab3 pk.back.length cb3)).setCell ⟨w1.heap.size, 3, none⟩ (.slice Ap3 pk.loose.length cp3)).setCell ⟨w1.heap.size, 4, none⟩ (.int .i64 pk.rack) = w7 at *
  have HZ7 := Lib.hid hz7
  clear hz7 a0 a1 a2 a3 a4 az0 az1 az2 az3 az4
  go_wp2_with fail
  refine (HK2.out _ _ (stitches_grown HV.out HBW7.out)).mono ?_
  rintro e w8 ⟨u2, kv, rfl, hu, hk, hb8⟩
  have HB78 := Lib.hid hb8
  have hs78 := hb8.size
  rw [HZ7.out] at hs78
  have HU2 := Lib.hid hu
  have HKD := Lib.hid hk
  obtain ⟨vl4, vf4, vb4, vo4, rfl, hl', hf', hb', ho'⟩ := hk
  obtain ⟨Aq4, cq4, tq4, rfl, _⟩ := hl'
  obtain ⟨Af4, cf4, tf4, rfl, _⟩ := hf'
  obtain ⟨Ab4, cb4, tb4, rfl, _⟩ := hb'
  obtain ⟨Ap4, cp4, rfl, _⟩ := ho'
  have HBW8 := Lib.hid (HBW7.out.trans (hb8.mono HBW7.out.size))
  have HA8 := Lib.hid (HA7.out.of_eq (hb8.block _ HA7.out.lt))
  have HC7 : Hid (Arr w7 w3.heap.size 27 [.slice Aq2 kn.loops.length cq2, .slice Af2 kn.front.length cf2, .slice Ab2 kn.back.length cb2, .slice Ap2 kn.loose.length cp2, .int .i64 kn.rack]) := HC6.out.of_eq (HF7.out _ (by omega))
  have HC8 := Lib.hid (HC7.out.of_eq (hb8.block _ HC7.out.lt))
  clear hb8
  have c0 := HC8.out.cell (k := 0) rfl
  have cz0 := HC8.out.free 0
  have c1 := HC8.out.cell (k := 1) rfl
  have cz1 := HC8.out.free 1
  have c2 := HC8.out.cell (k := 2) rfl
  have cz2 := HC8.out.free 2
  have c3 := HC8.out.cell (k := 3) rfl
  have cz3 := HC8.out.free 3
  have c4 := HC8.out.cell (k := 4) rfl
  have cz4 := HC8.out.free 4
  have hlo3 : w.heap.size ≤ w3.heap.size := by omega
  have HBW9 : Hid (Below w.heap.size w ((((((w8).setCell ⟨w3.heap.size, 0, none⟩ (.slice Aq4 pk.loops.length cq4)).setCell ⟨w3.heap.size, 1, none⟩ (.slice Af4 pk.front.length cf4)).setCell ⟨w3.heap.size, 2, none⟩ (.slice Ab4 pk.back.length cb4)).setCell ⟨w3.heap.size, 3, none⟩ (.slice Ap4 pk.loose.length cp4)).setCell ⟨w3.heap.size, 4, none⟩ (.int .i64 pk.rack))) := set5_below HBW8.out hlo3 (.slice Aq4 pk.loops.length cq4) (.slice Af4 pk.front.length cf4) (.slice Ab4 pk.back.length cb4) (.slice Ap4 pk.loose.length cp4) (.int .i64 pk.rack)
  have hz9 : ((((((w8).setCell ⟨w3.heap.size, 0, none⟩ (.slice Aq4 pk.loops.length cq4)).setCell ⟨w3.heap.size, 1, none⟩ (.slice Af4 pk.front.length cf4)).setCell ⟨w3.heap.size, 2, none⟩ (.slice Ab4 pk.back.length cb4)).setCell ⟨w3.heap.size, 3, none⟩ (.slice Ap4 pk.loose.length cp4)).setCell ⟨w3.heap.size, 4, none⟩ (.int .i64 pk.rack)).heap.size = w8.heap.size := set5_size w8 w3.heap.size (.slice Aq4 pk.loops.length cq4) (.slice Af4 pk.front.length cf4) (.slice Ab4 pk.back.length cb4) (.slice Ap4 pk.loose.length cp4) (.int .i64 pk.rack)
  have HF9 : Hid (∀ x, x ≠ w3.heap.size → ((((((w8).setCell ⟨w3.heap.size, 0, none⟩ (.slice Aq4 pk.loops.length cq4)).setCell ⟨w3.heap.size, 1, none⟩ (.slice Af4 pk.front.length cf4)).setCell ⟨w3.heap.size, 2, none⟩ (.slice Ab4 pk.back.length cb4)).setCell ⟨w3.heap.size, 3, none⟩ (.slice Ap4 pk.loose.length cp4)).setCell ⟨w3.heap.size, 4, none⟩ (.int .i64 pk.rack)).heap[x]? = w8.heap[x]?) := fun x hx => set5_far w8 w3.heap.size (.slice Aq4 pk.loops.length cq4) (.slice Af4 pk.front.length cf4) (.slice Ab4 pk.back.length cb4) (.slice Ap4 pk.loose.length cp4) (.int .i64 pk.rack) x hx
  have HC9 : Hid (Arr ((((((w8).setCell ⟨w3.heap.size, 0, none⟩ (.slice Aq4 pk.loops.length cq4)).setCell ⟨w3.heap.size, 1, none⟩ (.slice Af4 pk.front.length cf4)).setCell ⟨w3.heap.size, 2, none⟩ (.slice Ab4 pk.back.length cb4)).setCell ⟨w3.heap.size, 3, none⟩ (.slice Ap4 pk.loose.length cp4)).setCell ⟨w3.heap.size, 4, none⟩ (.int .i64 pk.rack)) w3.heap.size 27 [.slice Aq4 pk.loops.length cq4, .slice Af4 pk.front.length cf4, .slice Ab4 pk.back.length cb4, .slice Ap4 pk.loose.length cp4, .int .i64 pk.rack]) := set5_arr HC8.out (.slice Aq4 pk.loops.length cq4) (.slice Af4 pk.front.length cf4) (.slice Ab4 pk.back.length cb4) (.slice Ap4 pk.loose.length cp4) (.int .i64 pk.rack)
  go_upto_region 7 with fail
  generalize (((((w8).setCell ⟨w3.heap.size, 0, none⟩ (.slice Aq4 pk.loops.length cq4)).setCell ⟨w3.heap.size, 1, none⟩ (.slice Af4 pk.front.length cf4)).setCell ⟨w3.heap.size, 2, none⟩ (.slice Ab4 pk.back.length cb4)).setCell ⟨w3.heap.size, 3, none⟩ (.slice Ap4 pk.loose.length cp4)).setCell ⟨w3.heap.size, 4, none⟩ (.int .i64 pk.rack) = w9 at *
  have HZ9 := Lib.hid hz9
  clear hz9 c0 c1 c2 c3 c4 cz0 cz1 cz2 cz3 cz4
  have HA9 : Hid (Arr w9 w1.heap.size 27 [.slice Aq3 pk.loops.length cq3, .slice Af3 pk.front.length cf3, .slice Ab3 pk.back.length cb3, .slice Ap3 pk.loose.length cp3, .int .i64 pk.rack]) := HA8.out.of_eq (HF9.out _ (by omega))
  have a0 := HA9.out.cell (k := 0) rfl
  have az0 := HA9.out.free 0
  have a1 := HA9.out.cell (k := 1) rfl
  have az1 := HA9.out.free 1
  have a2 := HA9.out.cell (k := 2) rfl
  have az2 := HA9.out.free 2
  have a3 := HA9.out.cell (k := 3) rfl
  have az3 := HA9.out.free 3
  have a4 := HA9.out.cell (k := 4) rfl
  have az4 := HA9.out.free 4
  have c0 := HC9.out.cell (k := 0) rfl
  have cz0 := HC9.out.free 0
  have c1 := HC9.out.cell (k := 1) rfl
  have cz1 := HC9.out.free 1
  have c2 := HC9.out.cell (k := 2) rfl
  have cz2 := HC9.out.free 2
  have c3 := HC9.out.cell (k := 3) rfl
  have cz3 := HC9.out.free 3
  have c4 := HC9.out.cell (k := 4) rfl
  have cz4 := HC9.out.free 4
  have HU1' : Hid (Ints w9 (fun b => b < w9.heap.size) u1 es) := (HU1.out.same (w' := w9) fun b hb => by
    have h1 := hb.1
    have h2 := hb.2
    exact ((HF9.out b (by omega)).trans (HB78.out.block b (by rw [HZ7.out]; exact h2))).trans (HF7.out b (by omega))).mono fun b hb => by
      have h2 := hb.2
      show b < w9.heap.size
      rw [HZ9.out]; omega
  have HU2' : Hid (Ints w9 (fun b => b < w9.heap.size) u2 es) := (HU2.out.same (w' := w9) fun b hb => by
    have h1 := hb.1
    rw [HZ7.out] at h1
    exact HF9.out b (by omega)).mono fun b hb => by
      have h2 := hb.2
      show b < w9.heap.size
      rw [HZ9.out]; omega
  have hu1 := HU1'.out
  have hu2 := HU2'.out
  obtain ⟨A1, c1', rfl, g1, g2, ra⟩ := hu1
  obtain ⟨A2, c2', rfl, g3, g4, rb⟩ := hu2
  unfold maxLen at g2 g4
  have RA := Lib.hid ra
  have RB := Lib.hid rb
  clear ra rb HU1 HU2 HU1' HU2'
  go_wp2_with fail
  refine (Same_self w9 (S := fun b => w5.heap.size ≤ b ∧ b < w6.heap.size) (T := fun b => w7.heap.size ≤ b ∧ b < w8.heap.size) (HKC.out.same fun b hb => ?_) (HKD.out.same fun b hb => ?_) (fun b hb => ?_) (fun b hb => ?_)).mono ?_
  · have h1 := hb.1
    have h2 := hb.2
    exact ((HF9.out b (by omega)).trans (HB78.out.block b (by rw [HZ7.out]; exact h2))).trans (HF7.out b (by omega))
  · have h1 := hb.1
    rw [HZ7.out] at h1
    exact HF9.out b (by omega)
  · have h2 := hb.2
    rw [HZ9.out]; omega
  · have h2 := hb.2
    rw [HZ9.out]; omega
  rintro e w10 ⟨rfl, hb10⟩
  have HB10 := Lib.hid hb10
  have HBW10 := Lib.hid (HBW9.out.trans (hb10.mono HBW9.out.size))
  clear hb10
  have RA' := Lib.hid (RA.out.same (w' := w10) fun b hb => HB10.out.block b hb)
  have RB' := Lib.hid (RB.out.same (w' := w10) fun b hb => HB10.out.block b hb)
  clear a0 a1 a2 a3 a4 az0 az1 az2 az3 az4 c0 c1 c2 c3 c4 cz0 cz1 cz2 cz3 cz4 RA RB
  go_wp2_with fail
  go_loopg [67] es.length (fun gg ctr wr => ∃ i k : Nat, i ≤ es.length ∧ gg = es.length - i ∧ ctr = .int .i64 i ∧ wr = w10.drewN k)
  case atStart => exact ⟨0, 0, by omega, rfl, rfl, rfl⟩
  case round =>
    obtain ⟨i, k, hi, rfl, rfl, rfl⟩ := hrel
    by_cases hlt : i < es.length
    case neg =>
      obtain rfl : i = es.length := by omega
      go_wp2_with fail
      go_ret
      exact ⟨rfl, below_dN HBW10.out⟩
    obtain ⟨b, o, e, _, x0⟩ := ints_cell RA'.out hlt
    cases e
    obtain ⟨b', o', e, _, y0⟩ := ints_cell RB'.out hlt
    cases e
    have hee : (es[i] != es[i]) = false := by simp
    generalize es[i] = er at *
    go_wp2_with (go_quiet (fail))
    go_roundg (es.length - (i + 1))
    case measure => omega
    case rel => exact ⟨i + 1, _, by omega, rfl, by go_num, rfl⟩
end Go.Proofs.Ytaacfjeddoekfaa
