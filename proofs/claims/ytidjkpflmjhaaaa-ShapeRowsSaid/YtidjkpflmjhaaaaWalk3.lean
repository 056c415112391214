/- Chapter 14: walks of the reference's Spread, of Rows and of the reference's Rows. -/
import Derived.Test.YtidjkpflmjhaaaaWalk2
import Derived.StillTailTactics
namespace Go.Proofs.Ytidjkpflmjhaaaa
open Go.RowKit
set_option linter.unusedVariables false

set_option maxHeartbeats 400000 in
theorem refSpread_bad {t m : Int} (h : wrongV t m = 3) (w : World) :
    Calls Try.prog 10 #[.int .i64 t, .int .i64 m] w fun e w' => e = .returned (.tuple #[.slice none 0 0, .int .i64 3]) ∧ w = w' := by
  have c := fun w => refWrong_yes h w
  have H := Lib.hid c
  clear c h
  go_enter Try.func10, Try.ntmps10
  go_wp2_with (go_at_call 15; refine (H.out _).mono ?_; rintro e w' ⟨rfl, rfl⟩)
  go_ret2
  exact ⟨rfl, rfl⟩

/-- place by place: the next mark stands here, or further on -/
theorem place_step {t m : Int} (hmt : m ≤ t) {j : Nat} (hj : (j : Int) < m) {p : Int} (h : p ≤ mark t m j) :
    ((2 * (j : Int) + 1) * t < 2 * m * (p + 1) → mark t m j = p ∧ ((j : Int) + 1 < m → p + 1 ≤ mark t m (j + 1))) ∧
    (¬ (2 * (j : Int) + 1) * t < 2 * m * (p + 1) → p + 1 ≤ mark t m j) := by
  rw [← mark_lt hj]
  constructor
  · intro h1
    have e : mark t m j = p := by omega
    refine ⟨e, fun h2 => ?_⟩
    have := mark_succ hmt h2
    omega
  · intro h1; omega

set_option maxHeartbeats 400000 in
theorem refSpread_ok {t m : Int} (h : wrongV t m = 0) (w : World) :
    Calls Try.prog 10 #[.int .i64 t, .int .i64 m] w fun e w' => ∃ v, e = .returned (.tuple #[v, .int .i64 0]) ∧
      w'.ownsRow w.heap.size 3 1 v m.toNat ((marks t m m.toNat).map (Value.int .i64)) ∧ Below w.heap.size w w' := by
  obtain ⟨h1, h2, h3, h4⟩ := wrong_ok h
  have c := fun w => refWrong_no h w
  have H := Lib.hid c
  clear c h
  obtain ⟨n, rfl⟩ := Int.eq_ofNat_of_zero_le h3
  obtain ⟨T, rfl⟩ := Int.eq_ofNat_of_zero_le (show 0 ≤ t by omega)
  go_enter Try.func10, Try.ntmps10
  go_wp2_with (go_at_call 15; refine (H.out _).mono ?_; rintro e w' ⟨rfl, rfl⟩)
  go_loopw [7, 8, 9] (fun out nx i wr => ∃ k j : Nat, k ≤ T ∧ j ≤ n ∧ (j < n → (k : Int) ≤ mark T n j) ∧ nx = .int .i64 ((2 * (j : Int) + 1) * T) ∧ i = .int .i64 k ∧
      wr.ownsRow w.heap.size 3 1 out j ((marks T n j).map (Value.int .i64)) ∧ Below w.heap.size w wr)
    (fun _ _ i _ => T - (intOf i).toNat)
  case atStart => exact ⟨0, 0, Nat.zero_le _, Nat.zero_le _, fun h => mark_nonneg h1 (by omega), by simp, rfl, World.ownsRow_nil _ _ _ _, Below.refl _ _⟩
  case round =>
    obtain ⟨k, j, hk, hj, hmk, rfl, rfl, hown, hb⟩ := hrel
    obtain ⟨A, c, rfl, hc1, hc2⟩ := own_form hown
    unfold maxLen at hc2
    by_cases hlt : k < T ∧ j < n
    · obtain ⟨hkT, hjn⟩ := hlt
      have mb := mark_bounds (i := j) h1 h2 (by omega) h4
      have pb := mp_bounds (p := (k : Int) + 1) h2 h3 h4 (by omega) (by omega)
      obtain ⟨p1, p2⟩ := place_step h4 (by omega : (j : Int) < n) (hmk hjn)
      have e1 : (2 * ((j + 1 : Nat) : Int) + 1) * (T : Int) = (2 * (j : Int) + 1) * T + 2 * T := by
        rw [odd_mul, odd_mul, show ((j + 1 : Nat) : Int) = (j : Int) + 1 by omega, Int.add_mul, Int.one_mul]; omega
      have E1 := Lib.hid e1
      clear e1
      have P1 := Lib.hid p1
      have P2 := Lib.hid p2
      clear p1 p2 hmk
      by_cases hq : (2 * (j : Int) + 1) * T < 2 * n * ((k : Int) + 1)
      · obtain ⟨q1, q2⟩ := P1.out hq
        have Q1 := Lib.hid q1
        have Q2 := Lib.hid q2
        clear q1 q2
        go_wp2_with (at_builtin
                     refine app_el T23 [.int .i64 k] hown hb (Nat.le_refl _) rfl rfl rfl rfl rfl ?_ ?_ ?_
                     rotate_right
                     intro v1 w1 hown1 hb1 hg1 ho1)
        case refine_1 => simp [Value.oneCell']
        case refine_2 => omega
        go_roundw
        case rel => exact ⟨k + 1, j + 1, by omega, by omega, fun h => Q2.out (by omega), by rw [E1.out], by go_num, by rw [marks_succ, List.map_append, Q1.out]; exact hown1, hb1⟩
        case measure => simp [intOf]; omega
      · have q1 := P2.out hq
        go_wp2_with fail
        go_roundw
        case rel => exact ⟨k + 1, j, by omega, by omega, fun _ => q1, rfl, by go_num, hown, hb⟩
        case measure => simp [intOf]; omega
    · have e : j = n := by
        rcases Nat.lt_or_ge j n with h | h
        · have a1 := hmk h
          have a2 := mark_lt_total (i := j) h1 (m := n) (by omega)
          omega
        · omega
      subst e
      clear hmk
      by_cases hkT : k < T
      all_goals
        go_wp2_with fail
        go_ret2
        exact ⟨_, rfl, by simpa using hown, hb⟩

def badRows (f t r : Int) : Prop := f < 0 ∨ t < 0 ∨ 1048576 < f ∨ 1048576 < t ∨ r < 1 ∨ 4096 < r

set_option maxHeartbeats 400000 in
theorem Rows_bad {f t r : Int} (h : badRows f t r) (w : World) :
    Calls Try.prog 9 #[.int .i64 f, .int .i64 t, .int .i64 r] w fun e w' => e = .returned (.tuple #[.slice none 0 0, .int .i64 3]) ∧ w = w' := by
  unfold badRows at h
  by_cases h1 : f < 0 ∨ t < 0 ∨ 1048576 < f ∨ 1048576 < t
  · clear h
    go_enter Try.func9, Try.ntmps9
    go_wp2_with fail
    all_goals (go_ret2; exact ⟨rfl, rfl⟩)
  · have a1 : 0 ≤ f := by omega
    have a2 : 0 ≤ t := by omega
    have a3 : f ≤ 1048576 := by omega
    have a4 : t ≤ 1048576 := by omega
    have a5 : r < 1 ∨ 4096 < r := by omega
    clear h h1
    go_enter Try.func9, Try.ntmps9
    go_wp2_with fail
    all_goals (go_ret2; exact ⟨rfl, rfl⟩)

set_option maxHeartbeats 400000 in
theorem refRows_bad {f t r : Int} (h : badRows f t r) (w : World) :
    Calls Try.prog 13 #[.int .i64 f, .int .i64 t, .int .i64 r] w fun e w' => e = .returned (.tuple #[.slice none 0 0, .int .i64 3]) ∧ w = w' := by
  unfold badRows at h
  go_enter Try.func13, Try.ntmps13
  go_wp2_with fail
  all_goals (go_ret2; exact ⟨rfl, rfl⟩)

theorem wrap_in {n : Int} (h1 : -9223372036854775808 ≤ n) (h2 : n ≤ 9223372036854775807) : IntKind.i64.wrap n = n := IntWalk.i64_in n ⟨h1, h2⟩

theorem rowAt_bounds {f b E M r : Int} {k : Nat} (h1 : 1 ≤ r) (hE : 0 ≤ E) (hM : 0 ≤ M) (hk : (k : Int) ≤ r) : 0 ≤ E * k + cnt r M k ∧ E * k + cnt r M k ≤ E * r + M := by
  obtain ⟨c1, c2⟩ := cnt_bounds (t := r) (m := M) (p := k) h1 hM
  have e1 : 0 ≤ E * k := Int.mul_nonneg hE (by omega)
  have e2 : E * k ≤ E * r := Int.mul_le_mul_of_nonneg_left hk hE
  omega

set_option maxHeartbeats 1000000 in
theorem Rows_ok {f t r : Int} (a1 : 0 ≤ f) (a2 : 0 ≤ t) (a3 : f ≤ 1048576) (a4 : t ≤ 1048576) (a5 : 1 ≤ r) (a6 : r ≤ 4096) (hft : f ≤ t) (w : World) :
    Calls Try.prog 9 #[.int .i64 f, .int .i64 t, .int .i64 r] w fun e w' => ∃ v, e = .returned (.tuple #[v, .int .i64 0]) ∧
      w'.ownsRow w.heap.size 3 1 v r.toNat ((rowsL f 1 ((t - f) / r) ((t - f) % r) r r.toNat).map (Value.int .i64)) ∧ Below w.heap.size w w' := by
  obtain ⟨R, rfl⟩ := Int.eq_ofNat_of_zero_le (show 0 ≤ r by omega)
  have hE0 : 0 ≤ (t - f) / (R : Int) := Int.ediv_nonneg (by omega) (by omega)
  have hM0 : 0 ≤ (t - f) % (R : Int) := Int.emod_nonneg _ (by omega)
  have hM1 : (t - f) % (R : Int) < R := Int.emod_lt_of_pos _ (by omega)
  have hEM : (t - f) / (R : Int) * R + (t - f) % (R : Int) = t - f := by rw [Int.mul_comm]; exact Int.mul_ediv_add_emod _ _
  have hE1 : (t - f) / (R : Int) ≤ t - f := by
    have := Int.mul_le_mul_of_nonneg_left a5 hE0
    omega
  obtain ⟨M, hM⟩ := Int.eq_ofNat_of_zero_le hM0
  obtain ⟨E, hE⟩ : ∃ E, E = (t - f) / (R : Int) := ⟨_, rfl⟩
  rw [hM] at hEM hM0 hM1 ⊢
  rw [← hE] at hEM hE0 hE1 ⊢
  have hrb := fun k hk => @rowAt_bounds f 1 E M R k a5 hE0 hM0 hk
  rw [hEM] at hrb
  have HEM := Lib.hid hEM
  have HRB := Lib.hid hrb
  have hE' := hE.symm
  clear hEM hrb hE
  have hw : wrongV R M = 0 := wrong_of a5 (by omega) hM0 (by omega)
  have c := fun w => Spread_ok hw w
  have H := Lib.hid c
  clear c hw
  have hmk := run_mk0 T23 R (by omega)
  simp only [Int.toNat_natCast] at H
  go_enter Try.func9, Try.ntmps9
  go_wp2_with fail
  go_quiet (fail)
  go_wp2_with (go_at_call 7; refine (H.out _).mono ?_; rintro e w1 ⟨v, rfl, hown, hb'⟩; have hb : Below w.heap.size w w1 := below_of_drewN hb'; clear hb'; obtain ⟨A, cp, rfl, hc1, hc2⟩ := own_form hown)
  have hat : Row w1 (fun b => b < w1.heap.size) 1 A M ((marks R M M).map (Value.int .i64)) := (Row.of_own hown).mono (fun i h => h.2)
  clear hmk hE' hM
  have hown0 := own_mk0 T23 w1 w1.heap.size R (Nat.le_refl _) (by omega)
  simp only [Value.cells, Nat.mul_one] at hown0
  have hb0 : Below w1.heap.size w1 (w1.alloc (.cells (madeCells #[Value.int .i64 0] R) 3)) := (Below.refl _ _).alloc (Nat.le_refl _) _
  clear hown
  generalize w1.alloc (.cells (madeCells #[Value.int .i64 0] R) 3) = w2 at *
  go_loopw [12, 14, 15, 63] (fun at_ out wide i wr => ∃ (k j : Nat) (A' : Option Addr) (c' : Nat), k ≤ R ∧ cnt R M k = j ∧ j ≤ M ∧ at_ = .slice A' (M - j) c' ∧ M - j ≤ c' ∧ c' ≤ maxLen ∧
      Row wr (fun b => b < w1.heap.size) 1 A' (M - j) (((marks R M M).map (Value.int .i64)).drop j) ∧ wide = .int .i64 (rowAt f 1 E M R k) ∧ i = .int .i64 k ∧
      wr.ownsRow w1.heap.size 3 1 out k ((rowsL f 1 E M R k).map (Value.int .i64)) ∧ Below w1.heap.size w1 wr)
    (fun _ _ _ i _ => R - (intOf i).toNat)
  case atStart =>
    refine ⟨0, 0, A, cp, Nat.zero_le _, cnt_zero a5, Nat.zero_le _, rfl, hc1, hc2, ?_, ?_, rfl, hown0, hb0⟩
    · exact hat.same (Same.of_below hb0)
    · simp [rowAt, cnt_zero a5]
  case round =>
    obtain ⟨k, j, A', c', hk, hj, hjM, rfl, hc1', hc2', hrow, rfl, rfl, hout, hbw⟩ := hrel
    have hr1 := HRB.out k (by omega)
    rw [hj] at hr1
    have hw1 : 0 ≤ rowAt f 1 E M R k ∧ rowAt f 1 E M R k ≤ 1048576 := by unfold rowAt; rw [hj]; omega
    have HJ := Lib.hid hj
    clear hj hr1
    by_cases hkR : k < R
    · have hr2 := HRB.out (k + 1 : Nat) (by omega)
      have hstep := cnt_here a5 hM0 (Int.le_of_lt hM1) (by omega) (by omega) HJ.out
      have hsum : ∀ c, cnt R M (k + 1 : Nat) = c → rowAt f 1 E M R (k + 1) = rowAt f 1 E M R k + E + (c - j) := by
        intro c hc
        have e : E * ((k + 1 : Nat) : Int) = E * k + E := by rw [show ((k + 1 : Nat) : Int) = (k : Int) + 1 by omega, Int.mul_add, Int.mul_one]
        unfold rowAt
        rw [hc, HJ.out, e]
        omega
      by_cases hjm : j < M
      · have hlen : (marks R M M).length = M := marks_len _ _ _
        have hd : ((marks R M M).map (Value.int .i64)).drop j = .int .i64 (mark R M j) :: ((marks R M M).map (Value.int .i64)).drop (j + 1) := by
          rw [List.drop_eq_getElem_cons (by simp [hlen]; omega)]
          simp [marks]
        obtain ⟨b, o, rfl, hs, hcell⟩ := hrow.at_ (by omega)
        have h0 : wr.cell? ⟨b, o, none⟩ = some (.int .i64 (mark R M j)) := by
          have := hcell 0 (.int .i64 (mark R M j)) (by rw [hd]; rfl)
          simpa using this
        have hrest : Row wr (fun b => b < w1.heap.size) 1 (if c' = 1 then some ⟨b, o, none⟩ else some ⟨b, o + 1, none⟩) (M - j - 1) (((marks R M M).map (Value.int .i64)).drop (j + 1)) := by
          have h := hrow.cut 1 (by omega)
          rw [List.drop_drop, Nat.mul_one] at h
          by_cases h1 : c' = 1
          · have h2 : M - j - 1 = 0 := by omega
            rw [h2] at h ⊢
            exact ⟨by simpa using h.len, fun h0 => absurd h0 (by omega)⟩
          · rw [if_neg h1]; exact h
        have Hr := Lib.hid hrest
        have Hd := Lib.hid hd
        have Hs := Lib.hid hsum
        have Hst := Lib.hid hstep
        have HR := Lib.hid hrow
        clear hrest hd hcell hlen hrow hsum hstep
        generalize mark R M j = x at *
        by_cases hx : x = k
        · subst hx
          have hs1 := Hst.out
          rw [if_pos ⟨by omega, rfl⟩] at hs1
          have hs2 := Hs.out _ hs1
          have hs3 : 0 ≤ rowAt f 1 E M R k + E + 1 ∧ rowAt f 1 E M R k + E + 1 ≤ 1048576 := by
            have h9 : rowAt f 1 E M R (k + 1) = f + 1 * (E * ((k + 1 : Nat) : Int) + cnt R M (k + 1 : Nat)) := rfl
            omega
          have Hs1 := Lib.hid hs1
          have Hs2 := Lib.hid hs2
          clear hs1 hs2 hr2
          go_wp2_with (at_builtin
                       refine app_el T23 [.int .i64 (rowAt f 1 E M R k + E + 1)] hout hbw (Nat.le_refl _) rfl rfl rfl rfl rfl ?_ ?_ ?_
                       rotate_right
                       intro v1 w3 hown1 hb1 hg1 ho1)
          case refine_1 => simp [Value.oneCell']
          case refine_2 => omega
          go_roundw
          case rel =>
            refine ⟨k + 1, j + 1, _, c' - 1, by omega, ?_, by omega, rfl, by omega, by omega, ?_, ?_, by go_num, ?_, hb1⟩
            · rw [show ((k + 1 : Nat) : Int) = (k : Int) + 1 by omega, Hs1.out]; omega
            · exact Hr.out.same (Same.of_below (below_step hbw hb1 hg1.size))
            · rw [Hs2.out]; exact congrArg _ (by omega)
            · rw [rowsL_succ, List.map_append, Hs2.out, show rowAt f 1 E M R k + E + ((j : Int) + 1 - j) = rowAt f 1 E M R k + E + 1 by omega]; exact hown1
          case measure => simp [intOf]; omega
        · have hs1 := Hst.out
          rw [if_neg (fun h => hx h.2)] at hs1
          have hs2 := Hs.out _ hs1
          have hs3 : 0 ≤ rowAt f 1 E M R k + E ∧ rowAt f 1 E M R k + E ≤ 1048576 := by
            have h9 : rowAt f 1 E M R (k + 1) = f + 1 * (E * ((k + 1 : Nat) : Int) + cnt R M (k + 1 : Nat)) := rfl
            omega
          have hxk : (x == (k : Int)) = false := by simpa using hx
          have Hs1 := Lib.hid hs1
          have Hs2 := Lib.hid hs2
          clear hs1 hs2 hr2 hx
          go_wp2_with (at_builtin
                       refine app_el T23 [.int .i64 (rowAt f 1 E M R k + E)] hout hbw (Nat.le_refl _) rfl rfl rfl rfl rfl ?_ ?_ ?_
                       rotate_right
                       intro v1 w3 hown1 hb1 hg1 ho1)
          case refine_1 => simp [Value.oneCell']
          case refine_2 => omega
          go_roundw
          case rel =>
            refine ⟨k + 1, j, _, c', by omega, ?_, by omega, rfl, by omega, by omega, ?_, ?_, by go_num, ?_, hb1⟩
            · rw [show ((k + 1 : Nat) : Int) = (k : Int) + 1 by omega, Hs1.out]
            · exact HR.out.same (Same.of_below (below_step hbw hb1 hg1.size))
            · rw [Hs2.out]; exact congrArg _ (by omega)
            · rw [rowsL_succ, List.map_append, Hs2.out, show rowAt f 1 E M R k + E + ((j : Int) - j) = rowAt f 1 E M R k + E by omega]; exact hown1
          case measure => simp [intOf]; omega
      · have e : j = M := by omega
        subst e
        have hs1 := hstep
        rw [if_neg (fun h => by omega)] at hs1
        have hs2 := hsum _ hs1
        have hs3 : 0 ≤ rowAt f 1 E j R k + E ∧ rowAt f 1 E j R k + E ≤ 1048576 := by
          have h9 : rowAt f 1 E j R (k + 1) = f + 1 * (E * ((k + 1 : Nat) : Int) + cnt R j (k + 1 : Nat)) := rfl
          omega
        have Hs1 := Lib.hid hs1
        have Hs2 := Lib.hid hs2
        have HR := Lib.hid hrow
        clear hs1 hs2 hr2 hsum hstep hrow
        simp only [Nat.sub_self] at HR hc1' ⊢
        go_wp2_with (at_builtin
                     refine app_el T23 [.int .i64 (rowAt f 1 E j R k + E)] hout hbw (Nat.le_refl _) rfl rfl rfl rfl rfl ?_ ?_ ?_
                     rotate_right
                     intro v1 w3 hown1 hb1 hg1 ho1)
        case refine_1 => simp [Value.oneCell']
        case refine_2 => omega
        go_roundw
        case rel =>
          refine ⟨k + 1, j, _, c', by omega, ?_, by omega, by rw [Nat.sub_self], by omega, by omega, ?_, ?_, by go_num, ?_, hb1⟩
          · rw [show ((k + 1 : Nat) : Int) = (k : Int) + 1 by omega, Hs1.out]
          · rw [Nat.sub_self]; exact HR.out.same (Same.of_below (below_step hbw hb1 hg1.size))
          · rw [Hs2.out]; exact congrArg _ (by omega)
          · rw [rowsL_succ, List.map_append, Hs2.out, show rowAt f 1 E j R k + E + ((j : Int) - j) = rowAt f 1 E j R k + E by omega]; exact hown1
        case measure => simp [intOf]; omega
    · go_wp2_with fail
      have e : k = R := by omega
      subst e
      go_ret2
      exact ⟨_, rfl, own_base (by simpa using hout) hb.size, hb.trans (hbw.mono hb.size)⟩
end Go.Proofs.Ytidjkpflmjhaaaa
