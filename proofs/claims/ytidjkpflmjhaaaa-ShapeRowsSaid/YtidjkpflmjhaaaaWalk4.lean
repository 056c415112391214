/- Chapter 14: the walk of Rows where they get narrower. -/
import Derived.Test.YtidjkpflmjhaaaaWalk3
namespace Go.Proofs.Ytidjkpflmjhaaaa
open Go.RowKit
set_option linter.unusedVariables false

set_option maxHeartbeats 1000000 in
theorem Rows_down {f t r : Int} (a1 : 0 ≤ f) (a2 : 0 ≤ t) (a3 : f ≤ 1048576) (a4 : t ≤ 1048576) (a5 : 1 ≤ r) (a6 : r ≤ 4096) (hft : t < f) (w : World) :
    Calls Try.prog 9 #[.int .i64 f, .int .i64 t, .int .i64 r] w fun e w' => ∃ v, e = .returned (.tuple #[v, .int .i64 0]) ∧
      w'.ownsRow w.heap.size 3 1 v r.toNat ((rowsL f (-1) ((f - t) / r) ((f - t) % r) r r.toNat).map (Value.int .i64)) ∧ Below w.heap.size w w' := by
  obtain ⟨R, rfl⟩ := Int.eq_ofNat_of_zero_le (show 0 ≤ r by omega)
  have hE0 : 0 ≤ (f - t) / (R : Int) := Int.ediv_nonneg (by omega) (by omega)
  have hM0 : 0 ≤ (f - t) % (R : Int) := Int.emod_nonneg _ (by omega)
  have hM1 : (f - t) % (R : Int) < R := Int.emod_lt_of_pos _ (by omega)
  have hEM : (f - t) / (R : Int) * R + (f - t) % (R : Int) = f - t := by rw [Int.mul_comm]; exact Int.mul_ediv_add_emod _ _
  have hE1 : (f - t) / (R : Int) ≤ f - t := by
    have := Int.mul_le_mul_of_nonneg_left a5 hE0
    omega
  obtain ⟨M, hM⟩ := Int.eq_ofNat_of_zero_le hM0
  obtain ⟨E, hE⟩ : ∃ E, E = (f - t) / (R : Int) := ⟨_, rfl⟩
  rw [hM] at hEM hM0 hM1 ⊢
  rw [← hE] at hEM hE0 hE1 ⊢
  have hrb := fun k hk => @rowAt_bounds f 1 E M R k a5 hE0 hM0 hk
  rw [hEM] at hrb
  have HEM := Lib.hid hEM
  have HRB := Lib.hid hrb
  have hE' := hE.symm
  clear hEM hrb hE
  have hw : wrongV R M = 0 := wrong_of a5 (by omega) hM0 (by omega)
  have c := fun w => Spread_ok hw w
  have H := Lib.hid c
  clear c hw
  have hmk := run_mk0 T23 R (by omega)
  simp only [Int.toNat_natCast] at H
  have hneg : -(t - f) = f - t := by omega
  go_enter Try.func9, Try.ntmps9
  go_wp2_with fail
  go_quiet (fail)
  go_wp2_with (go_at_call 7; refine (H.out _).mono ?_; rintro e w1 ⟨v, rfl, hown, hb'⟩; have hb : Below w.heap.size w w1 := below_of_drewN hb'; clear hb'; obtain ⟨A, cp, rfl, hc1, hc2⟩ := own_form hown)
  have hat : Row w1 (fun b => b < w1.heap.size) 1 A M ((marks R M M).map (Value.int .i64)) := (Row.of_own hown).mono (fun i h => h.2)
  clear hmk hE' hM hneg
  have hown0 := own_mk0 T23 w1 w1.heap.size R (Nat.le_refl _) (by omega)
  simp only [Value.cells, Nat.mul_one] at hown0
  have hb0 : Below w1.heap.size w1 (w1.alloc (.cells (madeCells #[Value.int .i64 0] R) 3)) := (Below.refl _ _).alloc (Nat.le_refl _) _
  clear hown
  generalize w1.alloc (.cells (madeCells #[Value.int .i64 0] R) 3) = w2 at *
  go_loopw [12, 14, 15, 63] (fun at_ out wide i wr => ∃ (k j : Nat) (A' : Option Addr) (c' : Nat), k ≤ R ∧ cnt R M k = j ∧ j ≤ M ∧ at_ = .slice A' (M - j) c' ∧ M - j ≤ c' ∧ c' ≤ maxLen ∧
      Row wr (fun b => b < w1.heap.size) 1 A' (M - j) (((marks R M M).map (Value.int .i64)).drop j) ∧ wide = .int .i64 (rowAt f (-1) E M R k) ∧ i = .int .i64 k ∧
      wr.ownsRow w1.heap.size 3 1 out k ((rowsL f (-1) E M R k).map (Value.int .i64)) ∧ Below w1.heap.size w1 wr)
    (fun _ _ _ i _ => R - (intOf i).toNat)
  case atStart =>
    refine ⟨0, 0, A, cp, Nat.zero_le _, cnt_zero a5, Nat.zero_le _, rfl, hc1, hc2, ?_, ?_, rfl, hown0, hb0⟩
    · exact hat.same (Same.of_below hb0)
    · simp [rowAt, cnt_zero a5]
  case round =>
    obtain ⟨k, j, A', c', hk, hj, hjM, rfl, hc1', hc2', hrow, rfl, rfl, hout, hbw⟩ := hrel
    have hr1 := HRB.out k (by omega)
    rw [hj] at hr1
    have hw1 : 0 ≤ rowAt f (-1) E M R k ∧ rowAt f (-1) E M R k ≤ 1048576 := by unfold rowAt; rw [hj]; omega
    have HJ := Lib.hid hj
    clear hj hr1
    by_cases hkR : k < R
    · have hr2 := HRB.out (k + 1 : Nat) (by omega)
      have hstep := cnt_here a5 hM0 (Int.le_of_lt hM1) (by omega) (by omega) HJ.out
      have hsum : ∀ c, cnt R M (k + 1 : Nat) = c → rowAt f (-1) E M R (k + 1) = rowAt f (-1) E M R k + -E + -(c - j) := by
        intro c hc
        have e : E * ((k + 1 : Nat) : Int) = E * k + E := by rw [show ((k + 1 : Nat) : Int) = (k : Int) + 1 by omega, Int.mul_add, Int.mul_one]
        unfold rowAt
        rw [hc, HJ.out, e]
        omega
      by_cases hjm : j < M
      · have hlen : (marks R M M).length = M := marks_len _ _ _
        have hd : ((marks R M M).map (Value.int .i64)).drop j = .int .i64 (mark R M j) :: ((marks R M M).map (Value.int .i64)).drop (j + 1) := by
          rw [List.drop_eq_getElem_cons (by simp [hlen]; omega)]
          simp [marks]
        obtain ⟨b, o, rfl, hs, hcell⟩ := hrow.at_ (by omega)
        have h0 : wr.cell? ⟨b, o, none⟩ = some (.int .i64 (mark R M j)) := by
          have := hcell 0 (.int .i64 (mark R M j)) (by rw [hd]; rfl)
          simpa using this
        have hrest : Row wr (fun b => b < w1.heap.size) 1 (if c' = 1 then some ⟨b, o, none⟩ else some ⟨b, o + 1, none⟩) (M - j - 1) (((marks R M M).map (Value.int .i64)).drop (j + 1)) := by
          have h := hrow.cut 1 (by omega)
          rw [List.drop_drop, Nat.mul_one] at h
          by_cases h1 : c' = 1
          · have h2 : M - j - 1 = 0 := by omega
            rw [h2] at h ⊢
            exact ⟨by simpa using h.len, fun h0 => absurd h0 (by omega)⟩
          · rw [if_neg h1]; exact h
        have Hr := Lib.hid hrest
        have Hd := Lib.hid hd
        have Hs := Lib.hid hsum
        have Hst := Lib.hid hstep
        have HR := Lib.hid hrow
        clear hrest hd hcell hlen hrow hsum hstep
        generalize mark R M j = x at *
        by_cases hx : x = k
        · subst hx
          have hs1 := Hst.out
          rw [if_pos ⟨by omega, rfl⟩] at hs1
          have hs2 := Hs.out _ hs1
          have hs3 : 0 ≤ rowAt f (-1) E M R k + -E + -1 ∧ rowAt f (-1) E M R k + -E + -1 ≤ 1048576 := by
            have h9 : rowAt f (-1) E M R (k + 1) = f + -1 * (E * ((k + 1 : Nat) : Int) + cnt R M (k + 1 : Nat)) := rfl
            omega
          have Hs1 := Lib.hid hs1
          have Hs2 := Lib.hid hs2
          clear hs1 hs2 hr2
          go_wp2_with (at_builtin
                       refine app_el T23 [.int .i64 (rowAt f (-1) E M R k + -E + -1)] hout hbw (Nat.le_refl _) rfl rfl rfl rfl rfl ?_ ?_ ?_
                       rotate_right
                       intro v1 w3 hown1 hb1 hg1 ho1)
          case refine_1 => simp [Value.oneCell']
          case refine_2 => omega
          go_roundw
          case rel =>
            refine ⟨k + 1, j + 1, _, c' - 1, by omega, ?_, by omega, rfl, by omega, by omega, ?_, ?_, by go_num, ?_, hb1⟩
            · rw [show ((k + 1 : Nat) : Int) = (k : Int) + 1 by omega, Hs1.out]; omega
            · exact Hr.out.same (Same.of_below (below_step hbw hb1 hg1.size))
            · rw [Hs2.out]; exact congrArg _ (by omega)
            · rw [rowsL_succ, List.map_append, Hs2.out, show rowAt f (-1) E M R k + -E + -((j : Int) + 1 - j) = rowAt f (-1) E M R k + -E + -1 by omega]; exact hown1
          case measure => simp [intOf]; omega
        · have hs1 := Hst.out
          rw [if_neg (fun h => hx h.2)] at hs1
          have hs2 := Hs.out _ hs1
          have hs3 : 0 ≤ rowAt f (-1) E M R k + -E ∧ rowAt f (-1) E M R k + -E ≤ 1048576 := by
            have h9 : rowAt f (-1) E M R (k + 1) = f + -1 * (E * ((k + 1 : Nat) : Int) + cnt R M (k + 1 : Nat)) := rfl
            omega
          have hxk : (x == (k : Int)) = false := by simpa using hx
          have Hs1 := Lib.hid hs1
          have Hs2 := Lib.hid hs2
          clear hs1 hs2 hr2 hx
          go_wp2_with (at_builtin
                       refine app_el T23 [.int .i64 (rowAt f (-1) E M R k + -E)] hout hbw (Nat.le_refl _) rfl rfl rfl rfl rfl ?_ ?_ ?_
                       rotate_right
                       intro v1 w3 hown1 hb1 hg1 ho1)
          case refine_1 => simp [Value.oneCell']
          case refine_2 => omega
          go_roundw
          case rel =>
            refine ⟨k + 1, j, _, c', by omega, ?_, by omega, rfl, by omega, by omega, ?_, ?_, by go_num, ?_, hb1⟩
            · rw [show ((k + 1 : Nat) : Int) = (k : Int) + 1 by omega, Hs1.out]
            · exact HR.out.same (Same.of_below (below_step hbw hb1 hg1.size))
            · rw [Hs2.out]; exact congrArg _ (by omega)
            · rw [rowsL_succ, List.map_append, Hs2.out, show rowAt f (-1) E M R k + -E + -((j : Int) - j) = rowAt f (-1) E M R k + -E by omega]; exact hown1
          case measure => simp [intOf]; omega
      · have e : j = M := by omega
        subst e
        have hs1 := hstep
        rw [if_neg (fun h => by omega)] at hs1
        have hs2 := hsum _ hs1
        have hs3 : 0 ≤ rowAt f (-1) E j R k + -E ∧ rowAt f (-1) E j R k + -E ≤ 1048576 := by
          have h9 : rowAt f (-1) E j R (k + 1) = f + -1 * (E * ((k + 1 : Nat) : Int) + cnt R j (k + 1 : Nat)) := rfl
          omega
        have Hs1 := Lib.hid hs1
        have Hs2 := Lib.hid hs2
        have HR := Lib.hid hrow
        clear hs1 hs2 hr2 hsum hstep hrow
        simp only [Nat.sub_self] at HR hc1' ⊢
        go_wp2_with (at_builtin
                     refine app_el T23 [.int .i64 (rowAt f (-1) E j R k + -E)] hout hbw (Nat.le_refl _) rfl rfl rfl rfl rfl ?_ ?_ ?_
                     rotate_right
                     intro v1 w3 hown1 hb1 hg1 ho1)
        case refine_1 => simp [Value.oneCell']
        case refine_2 => omega
        go_roundw
        case rel =>
          refine ⟨k + 1, j, _, c', by omega, ?_, by omega, by rw [Nat.sub_self], by omega, by omega, ?_, ?_, by go_num, ?_, hb1⟩
          · rw [show ((k + 1 : Nat) : Int) = (k : Int) + 1 by omega, Hs1.out]
          · rw [Nat.sub_self]; exact HR.out.same (Same.of_below (below_step hbw hb1 hg1.size))
          · rw [Hs2.out]; exact congrArg _ (by omega)
          · rw [rowsL_succ, List.map_append, Hs2.out, show rowAt f (-1) E j R k + -E + -((j : Int) - j) = rowAt f (-1) E j R k + -E by omega]; exact hown1
        case measure => simp [intOf]; omega
    · go_wp2_with fail
      have e : k = R := by omega
      subst e
      go_ret2
      exact ⟨_, rfl, own_base (by simpa using hout) hb.size, hb.trans (hbw.mono hb.size)⟩
end Go.Proofs.Ytidjkpflmjhaaaa
