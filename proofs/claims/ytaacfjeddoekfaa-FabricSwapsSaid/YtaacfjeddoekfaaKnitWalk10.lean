/- Chapter 11: Run. -/
import Derived.Test.YtaacfjeddoekfaaKnitWalk9
namespace Go.Proofs.Ytaacfjeddoekfaa
open Go.RowKit
set_option linter.unusedVariables false
set_option linter.unusedSimpArgs false

set_option maxRecDepth 100000 in
set_option maxHeartbeats 4000000 in
theorem Run_ok {v : Value} {l : List Sti} (N : Nat) (hN1 : 1 ≤ N) (hN : N ≤ 128) (w : World) (hv : Stitches w (fun b => b < w.heap.size) v l) :
    Calls Try.prog 11 #[.int .i64 (N : Int), v] w fun e w' => ∃ kv, e = .returned (.tuple #[kv, .agg #[.int .i64 (runF N l).1, .int .i64 (runF N l).2]]) ∧ KnR w' (fun b => b < w'.heap.size) kv (runK N l) ∧ Below w.heap.size w w' := by
  have HV := Lib.hid hv
  have HA := Lib.hid ((Arr.new w #[nils, nils, nils, nils, .int .i64 0] 27).alloc (.cells #[.int .i64 0, .int .i64 0] 30))
  have HA2 := Lib.hid (arr_new2 w (.cells #[nils, nils, nils, nils, .int .i64 0] 27) #[.int .i64 0, .int .i64 0] 30)
  have HB : Hid (Below w.heap.size w ((w.alloc (.cells #[nils, nils, nils, nils, .int .i64 0] 27)).alloc (.cells #[.int .i64 0, .int .i64 0] 30))) := ((Below.refl _ _).alloc (Nat.le_refl _) _).alloc (by simp) _
  have hsA : ((w.alloc (.cells #[nils, nils, nils, nils, .int .i64 0] 27)).alloc (.cells #[.int .i64 0, .int .i64 0] 30)).heap.size = w.heap.size + 2 := by simp
  obtain ⟨A, c, rfl, h1, h2, hr⟩ := hv
  clear hr
  unfold maxLen at h2
  go_enter Try.func11, Try.ntmps11
  go_wp2_with fail
  generalize (w.alloc (.cells #[nils, nils, nils, nils, .int .i64 0] 27)).alloc (.cells #[.int .i64 0, .int .i64 0] 30) = wA at *
  have HSA := Lib.hid hsA
  clear hsA
  refine (New_ok N hN1 hN _).mono ?_
  rintro e w1 ⟨p, rfl, hmw⟩
  have HMW := Lib.hid hmw
  clear hmw
  go_wp2_with fail
  go_loopg [23] l.length (fun gg ctr wr => ∃ i : Nat, i ≤ l.length ∧ gg = l.length - i ∧ ctr = .int .i64 i ∧ MW wA wr wA.heap.size p N (afterK N (l.take i)) ∧ Fine N l i)
  case atStart => exact ⟨0, by omega, rfl, rfl, HMW.out, fun j hj h => by omega⟩
  case round =>
    clear HMW
    obtain ⟨i, hi, rfl, rfl, hmw, hfine⟩ := hrel
    have HMW := Lib.hid hmw
    have HFI := Lib.hid hfine
    clear hmw hfine
    have HBW : Hid (Below w.heap.size w wr) := HB.out.trans (HMW.out.below.mono (by rw [HSA.out]; omega))
    by_cases hlt : i < l.length
    case neg =>
      obtain rfl : i = l.length := by omega
      rw [List.take_length] at HMW
      have HRES : Hid (runF N l = (0, 0) ∧ runK N l = told N (afterK N l)) := by
        have := HFI.out.none
        show _ ∧ _
        unfold runF runK
        rw [this]
        exact ⟨rfl, rfl⟩
      go_wp2_with fail
      refine (State_any HMW.out hN (kinv_after N l)).mono ?_
      rintro e w3 ⟨kv, rfl, hk, hb3⟩
      have HK := Lib.hid hk
      obtain ⟨vl, vf, vb, vo, rfl, hl', hf', hb', ho'⟩ := hk
      obtain ⟨Aq, cq, tq, rfl, _⟩ := hl'
      obtain ⟨Af, cf, tf, rfl, _⟩ := hf'
      obtain ⟨Ab, cb, tb, rfl, _⟩ := hb'
      obtain ⟨Ap, cp, rfl, _⟩ := ho'
      have hlw : w.heap.size + 2 ≤ wr.heap.size := by have := HMW.out.below.size; rw [HSA.out] at this; omega
      have HB3 : Hid (Below w.heap.size w w3) := HBW.out.trans (hb3.mono (by omega))
      have hrr : Arr w3 w.heap.size 27 [nils, nils, nils, nils, .int .i64 0] := (HA.out.of_eq (HMW.out.below.block _ (by rw [HSA.out]; omega))).of_eq (hb3.block _ (by omega))
      have hr2 : Arr w3 (w.heap.size + 1) 30 [.int .i64 0, .int .i64 0] := (HA2.out.of_eq (HMW.out.below.block _ (by rw [HSA.out]; omega))).of_eq (hb3.block _ (by omega))
      clear hb3
      generalize hkn : told N (afterK N l) = kn at *
      have HKN := Lib.hid hkn
      clear hkn
      have r0 := hrr.cell (k := 0) rfl
      have r1 := hrr.cell (k := 1) rfl
      have r2 := hrr.cell (k := 2) rfl
      have r3 := hrr.cell (k := 3) rfl
      have r4 := hrr.cell (k := 4) rfl
      have f0 := hrr.free 0
      have f1 := hrr.free 1
      have f2 := hrr.free 2
      have f3 := hrr.free 3
      have f4 := hrr.free 4
      have s0 := hr2.cell (k := 0) rfl
      have s1 := hr2.cell (k := 1) rfl
      have g0 := hr2.free 0
      have g1 := hr2.free 1
      have hq := (((((hrr.set 0 (.slice Aq kn.loops.length cq)).set 1 (.slice Af kn.front.length cf)).set 2 (.slice Ab kn.back.length cb)).set 3 (.slice Ap kn.loose.length cp)).set 4 (.int .i64 kn.rack))
      have hq2 := ((((((hr2.far (p := ⟨w.heap.size, 0, none⟩) (by show w.heap.size + 1 ≠ w.heap.size; omega) (.slice Aq kn.loops.length cq)).far (p := ⟨w.heap.size, 1, none⟩) (by show w.heap.size + 1 ≠ w.heap.size; omega) (.slice Af kn.front.length cf)).far (p := ⟨w.heap.size, 2, none⟩) (by show w.heap.size + 1 ≠ w.heap.size; omega) (.slice Ab kn.back.length cb)).far (p := ⟨w.heap.size, 3, none⟩) (by show w.heap.size + 1 ≠ w.heap.size; omega) (.slice Ap kn.loose.length cp)).far (p := ⟨w.heap.size, 4, none⟩) (by show w.heap.size + 1 ≠ w.heap.size; omega) (.int .i64 kn.rack)).set 0 (.int .i64 0)).set 1 (.int .i64 0)
      have hq1 := (hq.far (p := ⟨w.heap.size + 1, 0, none⟩) (by show w.heap.size ≠ w.heap.size + 1; omega) (.int .i64 0)).far (p := ⟨w.heap.size + 1, 1, none⟩) (by show w.heap.size ≠ w.heap.size + 1; omega) (.int .i64 0)
      have q0 := hq1.cell (k := 0) rfl
      have q1 := hq1.cell (k := 1) rfl
      have q2 := hq1.cell (k := 2) rfl
      have q3 := hq1.cell (k := 3) rfl
      have q4 := hq1.cell (k := 4) rfl
      have q5 := hq2.cell (k := 0) rfl
      have q6 := hq2.cell (k := 1) rfl
      have HBF := Lib.hid (((((((HB3.out.setCell (p := ⟨w.heap.size, 0, none⟩) (Nat.le_refl _) (.slice Aq kn.loops.length cq)).setCell (p := ⟨w.heap.size, 1, none⟩) (Nat.le_refl _) (.slice Af kn.front.length cf)).setCell (p := ⟨w.heap.size, 2, none⟩) (Nat.le_refl _) (.slice Ab kn.back.length cb)).setCell (p := ⟨w.heap.size, 3, none⟩) (Nat.le_refl _) (.slice Ap kn.loose.length cp)).setCell (p := ⟨w.heap.size, 4, none⟩) (Nat.le_refl _) (.int .i64 kn.rack)).setCell (p := ⟨w.heap.size + 1, 0, none⟩) (Nat.le_succ _) (.int .i64 0)).setCell (p := ⟨w.heap.size + 1, 1, none⟩) (Nat.le_succ _) (.int .i64 0))
      have HFAR : Hid (∀ b, b ≠ w.heap.size → b ≠ w.heap.size + 1 → (((((((w3.setCell ⟨w.heap.size, 0, none⟩ (.slice Aq kn.loops.length cq)).setCell ⟨w.heap.size, 1, none⟩ (.slice Af kn.front.length cf)).setCell ⟨w.heap.size, 2, none⟩ (.slice Ab kn.back.length cb)).setCell ⟨w.heap.size, 3, none⟩ (.slice Ap kn.loose.length cp)).setCell ⟨w.heap.size, 4, none⟩ (.int .i64 kn.rack)).setCell ⟨w.heap.size + 1, 0, none⟩ (.int .i64 0)).setCell ⟨w.heap.size + 1, 1, none⟩ (.int .i64 0)).heap[b]? = w3.heap[b]?) := fun b hb hb2 =>
        (((((((Below.heap_setCell _ _ _ _ hb2).trans (Below.heap_setCell _ _ _ _ hb2)).trans (Below.heap_setCell _ _ _ _ hb)).trans (Below.heap_setCell _ _ _ _ hb)).trans (Below.heap_setCell _ _ _ _ hb)).trans (Below.heap_setCell _ _ _ _ hb)).trans (Below.heap_setCell _ _ _ _ hb))
      have HSZ : Hid ((((((((w3.setCell ⟨w.heap.size, 0, none⟩ (.slice Aq kn.loops.length cq)).setCell ⟨w.heap.size, 1, none⟩ (.slice Af kn.front.length cf)).setCell ⟨w.heap.size, 2, none⟩ (.slice Ab kn.back.length cb)).setCell ⟨w.heap.size, 3, none⟩ (.slice Ap kn.loose.length cp)).setCell ⟨w.heap.size, 4, none⟩ (.int .i64 kn.rack)).setCell ⟨w.heap.size + 1, 0, none⟩ (.int .i64 0)).setCell ⟨w.heap.size + 1, 1, none⟩ (.int .i64 0)).heap.size = w3.heap.size) := by show _ = _; simp [World.setCell]
      clear hrr hr2 hq hq1 hq2
      go_wp2_with fail
      refine bodyPost_ret (v := .tuple #[.agg #[.slice Aq kn.loops.length cq, .slice Af kn.front.length cf, .slice Ab kn.back.length cb, .slice Ap kn.loose.length cp, .int .i64 kn.rack], .agg #[.int .i64 0, .int .i64 0]]) (by simp [results, Try.results11, go_sem, q0, q1, q2, q3, q4, q5, q6]) rfl ⟨_, by rw [HRES.out.1], ?_, HBF.out⟩
      rw [HRES.out.2]
      refine (HK.out.same fun b hb => HFAR.out b (by have := hb.1; omega) (by have := hb.1; omega)).mono fun b hb => by rw [HSZ.out]; exact hb.2
    have hpk := HMW.out
    obtain ⟨m, hm, ht⟩ := hpk
    obtain ⟨b, o, e, hbb, x0, x1, x2, x3, x4⟩ := sti_cells (srow_of (HV.out.same (Same.of_below HBW.out))) hlt
    cases e
    have hbw : b < wr.heap.size := Nat.lt_of_lt_of_le hbb HBW.out.size
    have HAF : Hid (afterK N (l.take (i + 1)) = doK N (afterK N (l.take i)) l[i]) := afterK_take hlt
    have HKI := Lib.hid (kinv_after N (l.take i))
    have HBAD : Hid (wrongK N (afterK N (l.take i)) l[i] ≠ 0 → runF N l = (wrongK N (afterK N (l.take i)) l[i], (i : Int)) ∧ runK N l = noKn) := fun hn => by
      have := HFI.out.bad hlt hn
      unfold runF runK
      rw [this]
      exact ⟨rfl, rfl⟩
    have HGOOD : Hid (wrongK N (afterK N (l.take i)) l[i] = 0 → Fine N l (i + 1)) := fun hn => HFI.out.next hlt hn
    generalize l[i] = x at *
    generalize afterK N (l.take i) = k at *
    have HM := Lib.hid (hm.keep ((Below.refl _ _).alloc (Nat.le_refl _) (.cells #[.int .i64 x.d, .int .i64 x.b, .int .i64 x.n, .int .i64 x.c, .int .i64 x.t] 44)))
    have HT := Lib.hid (ht.keep ((Below.refl _ _).alloc (Nat.le_refl _) (.cells #[.int .i64 x.d, .int .i64 x.b, .int .i64 x.n, .int .i64 x.c, .int .i64 x.t] 44)))
    clear hm ht HMW
    go_wp2_with fail
    refine (Do_any HM.out HT.out hN HKI.out x).mono ?_
    rintro e w3 ⟨rfl, m', hm', ht', hf⟩
    have HM3 : Hid (MW wA w3 wA.heap.size p N (doK N k x)) := ⟨m', hm', ht'⟩
    clear hm' ht' hf
    by_cases hz : wrongK N k x = 0
    · rw [hz]
      have HG := Lib.hid (HGOOD.out hz)
      clear hz
      go_wp2_with fail
      go_roundg (l.length - (i + 1))
      case measure => omega
      case rel => exact ⟨i + 1, by omega, rfl, by go_num, by rw [HAF.out]; exact HM3.out, HG.out⟩
    · have HR := Lib.hid (HBAD.out hz)
      have hzb : (wrongK N k x != 0) = true := by simpa using hz
      clear hz HBAD HGOOD
      generalize wrongK N k x = er at *
      have hlw : w.heap.size + 2 ≤ w3.heap.size := by have := HM3.out.below.size; rw [HSA.out] at this; omega
      have HB3 : Hid (Below w.heap.size w w3) := HB.out.trans (HM3.out.below.mono (by rw [HSA.out]; omega))
      have hrr : Arr w3 w.heap.size 27 [nils, nils, nils, nils, .int .i64 0] := HA.out.of_eq (HM3.out.below.block _ (by rw [HSA.out]; omega))
      have hr2 : Arr w3 (w.heap.size + 1) 30 [.int .i64 0, .int .i64 0] := HA2.out.of_eq (HM3.out.below.block _ (by rw [HSA.out]; omega))
      have r0 := hrr.cell (k := 0) rfl
      have r1 := hrr.cell (k := 1) rfl
      have r2 := hrr.cell (k := 2) rfl
      have r3 := hrr.cell (k := 3) rfl
      have r4 := hrr.cell (k := 4) rfl
      have f0 := hrr.free 0
      have f1 := hrr.free 1
      have f2 := hrr.free 2
      have f3 := hrr.free 3
      have f4 := hrr.free 4
      have s0 := hr2.cell (k := 0) rfl
      have s1 := hr2.cell (k := 1) rfl
      have g0 := hr2.free 0
      have g1 := hr2.free 1
      have hq := (((((hrr.set 0 nils).set 1 nils).set 2 nils).set 3 nils).set 4 (.int .i64 0))
      have hq2 := ((((((hr2.far (p := ⟨w.heap.size, 0, none⟩) (by show w.heap.size + 1 ≠ w.heap.size; omega) nils).far (p := ⟨w.heap.size, 1, none⟩) (by show w.heap.size + 1 ≠ w.heap.size; omega) nils).far (p := ⟨w.heap.size, 2, none⟩) (by show w.heap.size + 1 ≠ w.heap.size; omega) nils).far (p := ⟨w.heap.size, 3, none⟩) (by show w.heap.size + 1 ≠ w.heap.size; omega) nils).far (p := ⟨w.heap.size, 4, none⟩) (by show w.heap.size + 1 ≠ w.heap.size; omega) (.int .i64 0)).set 0 (.int .i64 er)).set 1 (.int .i64 (i : Int))
      have hq1 := (hq.far (p := ⟨w.heap.size + 1, 0, none⟩) (by show w.heap.size ≠ w.heap.size + 1; omega) (.int .i64 er)).far (p := ⟨w.heap.size + 1, 1, none⟩) (by show w.heap.size ≠ w.heap.size + 1; omega) (.int .i64 (i : Int))
      have q0 := hq1.cell (k := 0) rfl
      have q1 := hq1.cell (k := 1) rfl
      have q2 := hq1.cell (k := 2) rfl
      have q3 := hq1.cell (k := 3) rfl
      have q4 := hq1.cell (k := 4) rfl
      have q5 := hq2.cell (k := 0) rfl
      have q6 := hq2.cell (k := 1) rfl
      have HBF := Lib.hid (((((((HB3.out.setCell (p := ⟨w.heap.size, 0, none⟩) (Nat.le_refl _) nils).setCell (p := ⟨w.heap.size, 1, none⟩) (Nat.le_refl _) nils).setCell (p := ⟨w.heap.size, 2, none⟩) (Nat.le_refl _) nils).setCell (p := ⟨w.heap.size, 3, none⟩) (Nat.le_refl _) nils).setCell (p := ⟨w.heap.size, 4, none⟩) (Nat.le_refl _) (.int .i64 0)).setCell (p := ⟨w.heap.size + 1, 0, none⟩) (Nat.le_succ _) (.int .i64 er)).setCell (p := ⟨w.heap.size + 1, 1, none⟩) (Nat.le_succ _) (.int .i64 (i : Int)))
      have HFAR : Hid (∀ b, b ≠ w.heap.size → b ≠ w.heap.size + 1 → (((((((w3.setCell ⟨w.heap.size, 0, none⟩ nils).setCell ⟨w.heap.size, 1, none⟩ nils).setCell ⟨w.heap.size, 2, none⟩ nils).setCell ⟨w.heap.size, 3, none⟩ nils).setCell ⟨w.heap.size, 4, none⟩ (.int .i64 0)).setCell ⟨w.heap.size + 1, 0, none⟩ (.int .i64 er)).setCell ⟨w.heap.size + 1, 1, none⟩ (.int .i64 (i : Int))).heap[b]? = w3.heap[b]?) := fun b hb hb2 =>
        (((((((Below.heap_setCell _ _ _ _ hb2).trans (Below.heap_setCell _ _ _ _ hb2)).trans (Below.heap_setCell _ _ _ _ hb)).trans (Below.heap_setCell _ _ _ _ hb)).trans (Below.heap_setCell _ _ _ _ hb)).trans (Below.heap_setCell _ _ _ _ hb)).trans (Below.heap_setCell _ _ _ _ hb))
      have HSZ : Hid ((((((((w3.setCell ⟨w.heap.size, 0, none⟩ nils).setCell ⟨w.heap.size, 1, none⟩ nils).setCell ⟨w.heap.size, 2, none⟩ nils).setCell ⟨w.heap.size, 3, none⟩ nils).setCell ⟨w.heap.size, 4, none⟩ (.int .i64 0)).setCell ⟨w.heap.size + 1, 0, none⟩ (.int .i64 er)).setCell ⟨w.heap.size + 1, 1, none⟩ (.int .i64 (i : Int))).heap.size = w3.heap.size) := by show _ = _; simp [World.setCell]
      clear hrr hr2 hq hq1 hq2
      go_wp2_with fail
      refine bodyPost_ret (v := .tuple #[.agg #[nils, nils, nils, nils, .int .i64 0], .agg #[.int .i64 er, .int .i64 (i : Int)]]) (by simp [results, Try.results11, go_sem, q0, q1, q2, q3, q4, q5, q6]) rfl ⟨_, by rw [HR.out.1], ?_, HBF.out⟩
      rw [HR.out.2]
      exact noKn_R _ _
end Go.Proofs.Ytaacfjeddoekfaa
