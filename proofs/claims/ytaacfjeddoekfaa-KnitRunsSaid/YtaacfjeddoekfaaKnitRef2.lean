/- Chapter 11: the reference: what is left when a needle is emptied; which needle faces one. -/
import Derived.Test.YtaacfjeddoekfaaKnitRef1
namespace Go.Proofs.Ytaacfjeddoekfaa
open Go.RowKit
set_option linter.unusedVariables false
set_option linter.unusedSimpArgs false

theorem Helds.of_own {w : World} {base : Nat} {e : TypeId} {v : Value} {n : Nat} {hs : List Hd} (h : w.ownsRow base e 3 v n (hs.flatMap Hd.cells)) : Helds w (fun b => base ≤ b ∧ b < w.heap.size) v hs := by
  obtain ⟨A, c, rfl, h1, h2⟩ := own_form h
  have hl : hs.length = n := by have := h.1; rw [flat_len Hd.cells_len] at this; omega
  subst hl
  exact ⟨A, c, rfl, h1, h2, .of_own h⟩
theorem hd_one (hs : List Hd) : ∀ u ∈ hs.flatMap Hd.cells, u.oneCell' = true := by
  intro u hu
  obtain ⟨h, _, hu⟩ := List.mem_flatMap.1 hu
  simp [Hd.cells] at hu
  rcases hu with rfl | rfl | rfl <;> rfl

set_option maxRecDepth 100000 in
set_option maxHeartbeats 1000000 in
theorem Facing_any {N r d b n : Int} {vl vh vo : Value} (w : World) (h1 : IsSl vl) (hv : IsSl vh) (h2 : IsSl vo) (hr : -4 ≤ r ∧ r ≤ 4) (hn : big n) :
    Calls Try.prog 52 #[sval N vl vh vo r d, .int .i64 b, .int .i64 n] w fun e w' => e = .returned (.tuple #[.int .i64 (fB b), .int .i64 (fN r b n)]) ∧ Below w.heap.size w w' := by
  obtain ⟨A0, n0, c0, rfl⟩ := h1
  obtain ⟨A1, n1, c1, rfl⟩ := hv
  obtain ⟨A2, n2, c2, rfl⟩ := h2
  unfold sval
  obtain ⟨r1, r2⟩ := hr
  obtain ⟨m1, m2⟩ := hn
  have HB0 : Hid (Below w.heap.size w (w.alloc (.cells #[.int .i64 N, .slice A0 n0 c0, .slice A1 n1 c1, .slice A2 n2 c2, .int .i64 r, .int .i64 d] 58))) := (Below.refl _ _).alloc (Nat.le_refl _) _
  by_cases hz : b = 0
  · subst hz
    have HE : Hid (fB 0 = 1 ∧ fN r 0 n = n - r) := ⟨rfl, rfl⟩
    go_enter Try.func52, Try.ntmps52
    go_wp2_with (go_quiet (fail))
    go_ret2
    exact ⟨by rw [HE.out.1, HE.out.2]; rfl, below_dN HB0.out⟩
  · have hze : (b == 0) = false := by simpa using hz
    have HE : Hid (fB b = 0 ∧ fN r b n = n + r) := by show _ ∧ _; unfold fB fN; rw [if_neg hz, if_neg hz]; exact ⟨rfl, rfl⟩
    clear hz
    go_enter Try.func52, Try.ntmps52
    go_wp2_with (go_quiet (fail))
    go_ret2
    exact ⟨by rw [HE.out.1, HE.out.2]; rfl, below_dN HB0.out⟩

set_option maxRecDepth 100000 in
set_option maxHeartbeats 2000000 in
theorem taken_any {N r d b n : Int} {vl vh vo : Value} {hs : List Hd} (w : World) (h1 : IsSl vl) (hv : Helds w (fun b => b < w.heap.size) vh hs) (h2 : IsSl vo) (hl : hs.length ≤ 1000000) :
    Calls Try.prog 53 #[sval N vl vh vo r d, .int .i64 b, .int .i64 n] w fun e w' => ∃ u, e = .returned (sval N vl u vo r d) ∧ Helds w' (fun b => w.heap.size ≤ b ∧ b < w'.heap.size) u (heldOff hs b n) ∧ NilOr u ∧ Below w.heap.size w w' := by
  have HV := Lib.hid hv
  obtain ⟨A0, n0, c0, rfl⟩ := h1
  obtain ⟨A2, n2, c2, rfl⟩ := h2
  obtain ⟨A, c, rfl, g1, g2, hr⟩ := hv
  clear hr
  unfold maxLen at g2
  unfold sval
  have HB0 : Hid (Below w.heap.size w (w.alloc (.cells #[.int .i64 N, .slice A0 n0 c0, .slice A hs.length c, .slice A2 n2 c2, .int .i64 r, .int .i64 d] 58))) := (Below.refl _ _).alloc (Nat.le_refl _) _
  have HA1 : Hid (Arr ((w.alloc (.cells #[.int .i64 N, .slice A0 n0 c0, .slice A hs.length c, .slice A2 n2 c2, .int .i64 r, .int .i64 d] 58)).alloc (.cells #[.int .i64 0, nils, nils, nils, .int .i64 0, .int .i64 0] 58)) w.heap.size 58 [.int .i64 N, .slice A0 n0 c0, .slice A hs.length c, .slice A2 n2 c2, .int .i64 r, .int .i64 d]) := (Arr.new w _ 58).alloc _
  have HA2 := Lib.hid (arr_new2 w (.cells #[.int .i64 N, .slice A0 n0 c0, .slice A hs.length c, .slice A2 n2 c2, .int .i64 r, .int .i64 d] 58) #[.int .i64 0, nils, nils, nils, .int .i64 0, .int .i64 0] 58)
  have hsA : ((w.alloc (.cells #[.int .i64 N, .slice A0 n0 c0, .slice A hs.length c, .slice A2 n2 c2, .int .i64 r, .int .i64 d] 58)).alloc (.cells #[.int .i64 0, nils, nils, nils, .int .i64 0, .int .i64 0] 58)).heap.size = w.heap.size + 2 := by simp
  have HBA : Hid (Below w.heap.size w ((w.alloc (.cells #[.int .i64 N, .slice A0 n0 c0, .slice A hs.length c, .slice A2 n2 c2, .int .i64 r, .int .i64 d] 58)).alloc (.cells #[.int .i64 0, nils, nils, nils, .int .i64 0, .int .i64 0] 58))) := HB0.out.alloc (by simp) _
  go_enter Try.func53, Try.ntmps53
  go_wp2_with fail
  generalize (w.alloc (.cells #[.int .i64 N, .slice A0 n0 c0, .slice A hs.length c, .slice A2 n2 c2, .int .i64 r, .int .i64 d] 58)).alloc (.cells #[.int .i64 0, nils, nils, nils, .int .i64 0, .int .i64 0] 58) = wA at *
  have HSA := Lib.hid hsA
  clear hsA HB0
  go_loopg [7, 13] hs.length (fun gg out ctr wr => ∃ i : Nat, i ≤ hs.length ∧ gg = hs.length - i ∧ ctr = .int .i64 i ∧ wr.ownsRow wA.heap.size 90 3 out (heldOff (hs.take i) b n).length ((heldOff (hs.take i) b n).flatMap Hd.cells) ∧ Below wA.heap.size wA wr)
  case atStart => exact ⟨0, by omega, rfl, rfl, World.ownsRow_nil _ _ _ _, Below.refl _ _⟩
  case round =>
    obtain ⟨i, hi, rfl, rfl, ho, hb⟩ := hrel
    have HO := Lib.hid ho
    have HB := Lib.hid hb
    have HBW : Hid (Below w.heap.size w wr) := HBA.out.trans (hb.mono HBA.out.size)
    clear hb
    by_cases hlt : i < hs.length
    case neg =>
      obtain rfl : i = hs.length := by omega
      rw [List.take_length] at HO ho
      have HH := Lib.hid (Helds.of_own HO.out)
      have HNO := Lib.hid (NilOr.of_own ho)
      obtain ⟨Au, cu, rfl, _, _⟩ := own_form ho
      have ha := HA1.out.of_eq (HB.out.block _ (by rw [HSA.out]; omega))
      have hr := HA2.out.of_eq (HB.out.block _ (by rw [HSA.out]; omega))
      have a0 := ha.cell (k := 0) rfl
      have a1 := ha.cell (k := 1) rfl
      have a2 := ha.cell (k := 2) rfl
      have a3 := ha.cell (k := 3) rfl
      have a4 := ha.cell (k := 4) rfl
      have a5 := ha.cell (k := 5) rfl
      have f2 := ha.free 2
      have HBW1 := Lib.hid (HBW.out.setCell (p := ⟨w.heap.size, 2, none⟩) (Nat.le_refl _) (.slice Au (heldOff hs b n).length cu))
      have hb1 := ha.set 2 (.slice Au (heldOff hs b n).length cu)
      have hr1 := hr.far (p := ⟨w.heap.size, 2, none⟩) (by show w.heap.size + 1 ≠ w.heap.size; omega) (.slice Au (heldOff hs b n).length cu)
      have HH1 : Hid (Helds (wr.setCell ⟨w.heap.size, 2, none⟩ (.slice Au (heldOff hs b n).length cu)) (fun b => wA.heap.size ≤ b ∧ b < wr.heap.size) (.slice Au (heldOff hs b n).length cu) (heldOff hs b n)) := HH.out.same fun x hx => Below.heap_setCell _ _ _ _ (by have := hx.1; rw [HSA.out] at this; show x ≠ w.heap.size; omega)
      have hsz : (wr.setCell ⟨w.heap.size, 2, none⟩ (.slice Au (heldOff hs b n).length cu)).heap.size = wr.heap.size := by simp [World.setCell]
      go_upto_region 9 with fail
      generalize wr.setCell ⟨w.heap.size, 2, none⟩ (.slice Au (heldOff hs b n).length cu) = w2 at *
      clear a0 a1 a2 a3 a4 a5 f2 ha hr HA1 HA2
      have HSZ := Lib.hid hsz
      clear hsz
      have a0 := hb1.cell (k := 0) rfl
      have a1 := hb1.cell (k := 1) rfl
      have a2 := hb1.cell (k := 2) rfl
      have a3 := hb1.cell (k := 3) rfl
      have a4 := hb1.cell (k := 4) rfl
      have a5 := hb1.cell (k := 5) rfl
      have r0 := hr1.cell (k := 0) rfl
      have r1 := hr1.cell (k := 1) rfl
      have r2 := hr1.cell (k := 2) rfl
      have r3 := hr1.cell (k := 3) rfl
      have r4 := hr1.cell (k := 4) rfl
      have r5 := hr1.cell (k := 5) rfl
      have f0 := hr1.free 0
      have f1 := hr1.free 1
      have f2 := hr1.free 2
      have f3 := hr1.free 3
      have f4 := hr1.free 4
      have f5 := hr1.free 5
      have hq := (((((hr1.set 0 (.int .i64 N)).set 1 (.slice A0 n0 c0)).set 2 (.slice Au (heldOff hs b n).length cu)).set 3 (.slice A2 n2 c2)).set 4 (.int .i64 r)).set 5 (.int .i64 d)
      have q0 := hq.cell (k := 0) rfl
      have q1 := hq.cell (k := 1) rfl
      have q2 := hq.cell (k := 2) rfl
      have q3 := hq.cell (k := 3) rfl
      have q4 := hq.cell (k := 4) rfl
      have q5 := hq.cell (k := 5) rfl
      clear hq hr1 hb1
      go_wp2_with fail
      refine bodyPost_ret (v := .agg #[.int .i64 N, .slice A0 n0 c0, .slice Au (heldOff hs b n).length cu, .slice A2 n2 c2, .int .i64 r, .int .i64 d]) (by simp [results, Try.results53, go_sem, q0, q1, q2, q3, q4, q5]) rfl ⟨_, rfl, ?_, HNO.out, (((((HBW1.out.setCell (Nat.le_succ _) _).setCell (Nat.le_succ _) _).setCell (Nat.le_succ _) _).setCell (Nat.le_succ _) _).setCell (Nat.le_succ _) _).setCell (Nat.le_succ _) _⟩
      have hs2 : ∀ (q : Addr) (x : Value) (w : World), (w.setCell q x).heap.size = w.heap.size := fun _ _ _ => by simp [World.setCell]
      refine (HH1.out.same fun x hx => ?_).mono fun x hx => ⟨by have := hx.1; rw [HSA.out] at this; omega, by rw [hs2, hs2, hs2, hs2, hs2, hs2, HSZ.out]; exact hx.2⟩
      have hn : x ≠ w.heap.size + 1 := by have := hx.1; rw [HSA.out] at this; omega
      exact (((((Below.heap_setCell _ _ _ _ hn).trans (Below.heap_setCell _ _ _ _ hn)).trans (Below.heap_setCell _ _ _ _ hn)).trans (Below.heap_setCell _ _ _ _ hn)).trans (Below.heap_setCell _ _ _ _ hn)).trans (Below.heap_setCell _ _ _ _ hn)
    clear ho
    obtain ⟨bk, o, e, hbk, x0, x1, x2⟩ := hd_cells (hrow_of (HV.out.same (Same.of_below HBW.out))) hlt
    cases e
    have hbw : bk < wr.heap.size := Nat.lt_of_lt_of_le hbk HBW.out.size
    have HS : Hid (heldOff (hs.take (i + 1)) b n = heldOff (hs.take i) b n ++ if hs[i].at_ b n then [] else [hs[i]]) := by
      show _ = _
      rw [List.take_succ_eq_append_getElem hlt, heldOff_snoc]
    have hlen : (heldOff (hs.take i) b n).length ≤ 1000000 := by have := heldOff_len (hs.take i) b n; rw [List.length_take] at this; omega
    have HAT : Hid (hs[i].at_ b n = (hs[i].b == b && hs[i].n == n)) := rfl
    generalize hs[i] = x at *
    generalize hL : heldOff (hs.take i) b n = L at *
    have HL := Lib.hid hL
    clear hL
    have hcs : (x.b ≠ b) ∨ (x.b = b ∧ x.n ≠ n) ∨ (x.b = b ∧ x.n = n) := by omega
    rcases hcs with c1 | ⟨c1, c2⟩ | ⟨c1, c2⟩
    case inr.inr =>
      have q1 : (x.b != b) = false := by simpa using c1
      have q2 : (x.n != n) = false := by simpa using c2
      have HE : Hid (heldOff (hs.take (i + 1)) b n = L) := by show _ = _; rw [HS.out, HAT.out, c1, c2]; simp
      clear c1 c2
      go_wp2_with fail
      go_roundg (hs.length - (i + 1))
      case measure => omega
      case rel => exact ⟨i + 1, by omega, rfl, by go_num, by rw [HE.out]; exact own_al HO.out _, HB.out.alloc HB.out.size _⟩
    all_goals
      have HE : Hid (heldOff (hs.take (i + 1)) b n = L ++ [x]) := by show _ = _; rw [HS.out, HAT.out]; simp [c1]; try simp [c2]
      have q1 : (x.b != b) = true ∨ ((x.b != b) = false ∧ (x.n != n) = true) := by first | (left; simpa using c1) | (right; exact ⟨by simpa using c1, by simpa using c2⟩)
      clear c1
      try clear c2
      have HO2 : Hid ((wr.alloc (.cells #[.int .i64 x.l, .int .i64 x.b, .int .i64 x.n] 90)).ownsRow wA.heap.size 90 3 u7 L.length (L.flatMap Hd.cells)) := own_al HO.out _
      have HB2 : Hid (Below wA.heap.size wA (wr.alloc (.cells #[.int .i64 x.l, .int .i64 x.b, .int .i64 x.n] 90))) := HB.out.alloc HB.out.size _
      have y0 := (Arr.new wr #[.int .i64 x.l, .int .i64 x.b, .int .i64 x.n] 90).cell (k := 0) rfl
      have y1 := (Arr.new wr #[.int .i64 x.l, .int .i64 x.b, .int .i64 x.n] 90).cell (k := 1) rfl
      have y2 := (Arr.new wr #[.int .i64 x.l, .int .i64 x.b, .int .i64 x.n] 90).cell (k := 2) rfl
      first
        | rcases q1 with q1 | ⟨q1, q2⟩
      all_goals
        go_upto_region 6 with fail
        generalize wr.alloc (.cells #[.int .i64 x.l, .int .i64 x.b, .int .i64 x.n] 90) = w2 at *
        go_wp2_with (at_builtin
                     refine app_el T56 [.int .i64 x.l, .int .i64 x.b, .int .i64 x.n] HO2.out HB2.out (Nat.le_refl _) rfl rfl rfl rfl rfl ?_ ?_ ?_
                     rotate_right
                     intro v1 w1 hown1 hb1 hg1 ho1
                     have HF := Lib.hid (And.intro hown1 hb1)
                     clear hown1 hb1 hg1 ho1)
        case refine_1 => simp [Value.oneCell']
        case refine_2 => omega
        go_roundg (hs.length - (i + 1))
        case measure => omega
        case rel => exact ⟨i + 1, by omega, rfl, by go_num, by rw [HE.out, List.length_append, List.length_singleton, List.flatMap_append]; simpa [Hd.cells] using HF.out.1, HF.out.2⟩
end Go.Proofs.Ytaacfjeddoekfaa
