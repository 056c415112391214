/- Texts of the seat, put together: KnitTaken, KnitRef4, KnitRefX, KnitRef5. -/
import Derived.Test.YtaacfjeddoekfaaTl9
import Derived.Test.YtaacfjeddoekfaaTlKnitRef3
import Derived.Deep.CutRange
/- Chapter 11: the reference: what is left when a needle is emptied is a row of its own. -/
namespace Go.Proofs.Ytaacfjeddoekfaa
open Go.RowKit
set_option linter.unusedVariables false
set_option linter.unusedSimpArgs false

/-- a box below the row is written -/
theorem own_box {w : World} {base : Nat} {e : TypeId} {size n g j : Nat} {v : Value} {xs : List Value} (h : w.ownsRow base e size v n xs) (hg : g < base) (u : Value) : (w.setCell ⟨g, j, none⟩ u).ownsRow base e size v n xs :=
  h.kept (grownBy_set w g j u) (by
    rcases h.2 with ⟨rfl, _⟩ | ⟨g', cap, cur, rfl, hb, _⟩
    · exact .inl rfl
    · exact .inr (by simp [Value.ownBlock]; omega))

set_option maxRecDepth 100000 in
set_option maxHeartbeats 2000000 in
theorem taken_own {N r d b n : Int} {vl vh vo : Value} {hs : List Hd} (w : World) (h1 : IsSl vl) (hv : Helds w (fun b => b < w.heap.size) vh hs) (h2 : IsSl vo) (hl : hs.length ≤ 1000000) :
    Calls Try.prog 53 #[sval N vl vh vo r d, .int .i64 b, .int .i64 n] w fun e w' => ∃ u, e = .returned (sval N vl u vo r d) ∧ w'.ownsRow (w.heap.size + 2) 90 3 u (heldOff hs b n).length ((heldOff hs b n).flatMap Hd.cells) ∧ Below w.heap.size w w' := by
  have HV := Lib.hid hv
  obtain ⟨A0, n0, c0, rfl⟩ := h1
  obtain ⟨A2, n2, c2, rfl⟩ := h2
  obtain ⟨A, c, rfl, g1, g2, hr⟩ := hv
  clear hr
  unfold maxLen at g2
  unfold sval
  have HB0 : Hid (Below w.heap.size w (w.alloc (.cells #[.int .i64 N, .slice A0 n0 c0, .slice A hs.length c, .slice A2 n2 c2, .int .i64 r, .int .i64 d] 58))) := (Below.refl _ _).alloc (Nat.le_refl _) _
  have HA1 : Hid (Arr ((w.alloc (.cells #[.int .i64 N, .slice A0 n0 c0, .slice A hs.length c, .slice A2 n2 c2, .int .i64 r, .int .i64 d] 58)).alloc (.cells #[.int .i64 0, nils, nils, nils, .int .i64 0, .int .i64 0] 58)) w.heap.size 58 [.int .i64 N, .slice A0 n0 c0, .slice A hs.length c, .slice A2 n2 c2, .int .i64 r, .int .i64 d]) := (Arr.new w _ 58).alloc _
  have HA2 := Lib.hid (arr_new2 w (.cells #[.int .i64 N, .slice A0 n0 c0, .slice A hs.length c, .slice A2 n2 c2, .int .i64 r, .int .i64 d] 58) #[.int .i64 0, nils, nils, nils, .int .i64 0, .int .i64 0] 58)
  have hsA : ((w.alloc (.cells #[.int .i64 N, .slice A0 n0 c0, .slice A hs.length c, .slice A2 n2 c2, .int .i64 r, .int .i64 d] 58)).alloc (.cells #[.int .i64 0, nils, nils, nils, .int .i64 0, .int .i64 0] 58)).heap.size = w.heap.size + 2 := by simp
  have HBA : Hid (Below w.heap.size w ((w.alloc (.cells #[.int .i64 N, .slice A0 n0 c0, .slice A hs.length c, .slice A2 n2 c2, .int .i64 r, .int .i64 d] 58)).alloc (.cells #[.int .i64 0, nils, nils, nils, .int .i64 0, .int .i64 0] 58))) := HB0.out.alloc (by simp) _
  go_enter Try.func53, Try.ntmps53
  go_wp2_with fail
  generalize (w.alloc (.cells #[.int .i64 N, .slice A0 n0 c0, .slice A hs.length c, .slice A2 n2 c2, .int .i64 r, .int .i64 d] 58)).alloc (.cells #[.int .i64 0, nils, nils, nils, .int .i64 0, .int .i64 0] 58) = wA at *
  have HSA := Lib.hid hsA
  clear hsA HB0
  go_loopg [7, 13] hs.length (fun gg out ctr wr => ∃ i : Nat, i ≤ hs.length ∧ gg = hs.length - i ∧ ctr = .int .i64 i ∧ wr.ownsRow wA.heap.size 90 3 out (heldOff (hs.take i) b n).length ((heldOff (hs.take i) b n).flatMap Hd.cells) ∧ Below wA.heap.size wA wr)
  case atStart => exact ⟨0, by omega, rfl, rfl, World.ownsRow_nil _ _ _ _, Below.refl _ _⟩
  case round =>
    obtain ⟨i, hi, rfl, rfl, ho, hb⟩ := hrel
    have HO := Lib.hid ho
    have HB := Lib.hid hb
    have HBW : Hid (Below w.heap.size w wr) := HBA.out.trans (hb.mono HBA.out.size)
    clear hb
    by_cases hlt : i < hs.length
    case neg =>
      obtain rfl : i = hs.length := by omega
      rw [List.take_length] at HO ho
      rw [HSA.out] at ho
      have HH := Lib.hid ho
      obtain ⟨Au, cu, rfl, _, _⟩ := own_form ho
      have ha := HA1.out.of_eq (HB.out.block _ (by rw [HSA.out]; omega))
      have hr := HA2.out.of_eq (HB.out.block _ (by rw [HSA.out]; omega))
      have a0 := ha.cell (k := 0) rfl
      have a1 := ha.cell (k := 1) rfl
      have a2 := ha.cell (k := 2) rfl
      have a3 := ha.cell (k := 3) rfl
      have a4 := ha.cell (k := 4) rfl
      have a5 := ha.cell (k := 5) rfl
      have f2 := ha.free 2
      have HBW1 := Lib.hid (HBW.out.setCell (p := ⟨w.heap.size, 2, none⟩) (Nat.le_refl _) (.slice Au (heldOff hs b n).length cu))
      have hb1 := ha.set 2 (.slice Au (heldOff hs b n).length cu)
      have hr1 := hr.far (p := ⟨w.heap.size, 2, none⟩) (by show w.heap.size + 1 ≠ w.heap.size; omega) (.slice Au (heldOff hs b n).length cu)
      have HH1 : Hid ((wr.setCell ⟨w.heap.size, 2, none⟩ (.slice Au (heldOff hs b n).length cu)).ownsRow (w.heap.size + 2) 90 3 (.slice Au (heldOff hs b n).length cu) (heldOff hs b n).length ((heldOff hs b n).flatMap Hd.cells)) := own_box HH.out (by show w.heap.size < w.heap.size + 2; omega) _
      have hsz : (wr.setCell ⟨w.heap.size, 2, none⟩ (.slice Au (heldOff hs b n).length cu)).heap.size = wr.heap.size := by simp [World.setCell]
      go_upto_region 9 with fail
      generalize wr.setCell ⟨w.heap.size, 2, none⟩ (.slice Au (heldOff hs b n).length cu) = w2 at *
      clear a0 a1 a2 a3 a4 a5 f2 ha hr HA1 HA2
      have HSZ := Lib.hid hsz
      clear hsz
      have a0 := hb1.cell (k := 0) rfl
      have a1 := hb1.cell (k := 1) rfl
      have a2 := hb1.cell (k := 2) rfl
      have a3 := hb1.cell (k := 3) rfl
      have a4 := hb1.cell (k := 4) rfl
      have a5 := hb1.cell (k := 5) rfl
      have r0 := hr1.cell (k := 0) rfl
      have r1 := hr1.cell (k := 1) rfl
      have r2 := hr1.cell (k := 2) rfl
      have r3 := hr1.cell (k := 3) rfl
      have r4 := hr1.cell (k := 4) rfl
      have r5 := hr1.cell (k := 5) rfl
      have f0 := hr1.free 0
      have f1 := hr1.free 1
      have f2 := hr1.free 2
      have f3 := hr1.free 3
      have f4 := hr1.free 4
      have f5 := hr1.free 5
      have hq := (((((hr1.set 0 (.int .i64 N)).set 1 (.slice A0 n0 c0)).set 2 (.slice Au (heldOff hs b n).length cu)).set 3 (.slice A2 n2 c2)).set 4 (.int .i64 r)).set 5 (.int .i64 d)
      have q0 := hq.cell (k := 0) rfl
      have q1 := hq.cell (k := 1) rfl
      have q2 := hq.cell (k := 2) rfl
      have q3 := hq.cell (k := 3) rfl
      have q4 := hq.cell (k := 4) rfl
      have q5 := hq.cell (k := 5) rfl
      clear hq hr1 hb1
      go_wp2_with fail
      refine bodyPost_ret (v := .agg #[.int .i64 N, .slice A0 n0 c0, .slice Au (heldOff hs b n).length cu, .slice A2 n2 c2, .int .i64 r, .int .i64 d]) (by simp [results, Try.results53, go_sem, q0, q1, q2, q3, q4, q5]) rfl ⟨_, rfl, ?_, (((((HBW1.out.setCell (Nat.le_succ _) _).setCell (Nat.le_succ _) _).setCell (Nat.le_succ _) _).setCell (Nat.le_succ _) _).setCell (Nat.le_succ _) _).setCell (Nat.le_succ _) _⟩
      have hq2 : w.heap.size + 1 < w.heap.size + 2 := by omega
      exact own_box (own_box (own_box (own_box (own_box (own_box HH1.out hq2 _) hq2 _) hq2 _) hq2 _) hq2 _) hq2 _
    clear ho
    obtain ⟨bk, o, e, hbk, x0, x1, x2⟩ := hd_cells (hrow_of (HV.out.same (Same.of_below HBW.out))) hlt
    cases e
    have hbw : bk < wr.heap.size := Nat.lt_of_lt_of_le hbk HBW.out.size
    have HS : Hid (heldOff (hs.take (i + 1)) b n = heldOff (hs.take i) b n ++ if hs[i].at_ b n then [] else [hs[i]]) := by
      show _ = _
      rw [List.take_succ_eq_append_getElem hlt, heldOff_snoc]
    have hlen : (heldOff (hs.take i) b n).length ≤ 1000000 := by have := heldOff_len (hs.take i) b n; rw [List.length_take] at this; omega
    have HAT : Hid (hs[i].at_ b n = (hs[i].b == b && hs[i].n == n)) := rfl
    generalize hs[i] = x at *
    generalize hL : heldOff (hs.take i) b n = L at *
    have HL := Lib.hid hL
    clear hL
    have hcs : (x.b ≠ b) ∨ (x.b = b ∧ x.n ≠ n) ∨ (x.b = b ∧ x.n = n) := by omega
    rcases hcs with c1 | ⟨c1, c2⟩ | ⟨c1, c2⟩
    case inr.inr =>
      have q1 : (x.b != b) = false := by simpa using c1
      have q2 : (x.n != n) = false := by simpa using c2
      have HE : Hid (heldOff (hs.take (i + 1)) b n = L) := by show _ = _; rw [HS.out, HAT.out, c1, c2]; simp
      clear c1 c2
      go_wp2_with fail
      go_roundg (hs.length - (i + 1))
      case measure => omega
      case rel => exact ⟨i + 1, by omega, rfl, by go_num, by rw [HE.out]; exact own_al HO.out _, HB.out.alloc HB.out.size _⟩
    all_goals
      have HE : Hid (heldOff (hs.take (i + 1)) b n = L ++ [x]) := by show _ = _; rw [HS.out, HAT.out]; simp [c1]; try simp [c2]
      have q1 : (x.b != b) = true ∨ ((x.b != b) = false ∧ (x.n != n) = true) := by first | (left; simpa using c1) | (right; exact ⟨by simpa using c1, by simpa using c2⟩)
      clear c1
      try clear c2
      have HO2 : Hid ((wr.alloc (.cells #[.int .i64 x.l, .int .i64 x.b, .int .i64 x.n] 90)).ownsRow wA.heap.size 90 3 u7 L.length (L.flatMap Hd.cells)) := own_al HO.out _
      have HB2 : Hid (Below wA.heap.size wA (wr.alloc (.cells #[.int .i64 x.l, .int .i64 x.b, .int .i64 x.n] 90))) := HB.out.alloc HB.out.size _
      have y0 := (Arr.new wr #[.int .i64 x.l, .int .i64 x.b, .int .i64 x.n] 90).cell (k := 0) rfl
      have y1 := (Arr.new wr #[.int .i64 x.l, .int .i64 x.b, .int .i64 x.n] 90).cell (k := 1) rfl
      have y2 := (Arr.new wr #[.int .i64 x.l, .int .i64 x.b, .int .i64 x.n] 90).cell (k := 2) rfl
      first
        | rcases q1 with q1 | ⟨q1, q2⟩
      all_goals
        go_upto_region 6 with fail
        generalize wr.alloc (.cells #[.int .i64 x.l, .int .i64 x.b, .int .i64 x.n] 90) = w2 at *
        go_wp2_with (at_builtin
                     refine app_el T56 [.int .i64 x.l, .int .i64 x.b, .int .i64 x.n] HO2.out HB2.out (Nat.le_refl _) rfl rfl rfl rfl rfl ?_ ?_ ?_
                     rotate_right
                     intro v1 w1 hown1 hb1 hg1 ho1
                     have HF := Lib.hid (And.intro hown1 hb1)
                     clear hown1 hb1 hg1 ho1)
        case refine_1 => simp [Value.oneCell']
        case refine_2 => omega
        go_roundg (hs.length - (i + 1))
        case measure => omega
        case rel => exact ⟨i + 1, by omega, rfl, by go_num, by rw [HE.out, List.length_append, List.length_singleton, List.flatMap_append]; simpa [Hd.cells] using HF.out.1, HF.out.2⟩
end Go.Proofs.Ytaacfjeddoekfaa
/- Chapter 11: the reference does a stitch that is right. (Printed by gen_refdo.py.) -/
namespace Go.Proofs.Ytaacfjeddoekfaa
open Go.RowKit
set_option linter.unusedVariables false
set_option linter.unusedSimpArgs false

theorem news_loops {w : World} {S : Nat → Prop} {v : Value} {ls : List Lop} (h : LoopsRd w S v ls) (hn : NilOr v) : ∃ A c tv, v = .slice A ls.length c ∧ ls.length ≤ c ∧ c ≤ maxLen ∧ News w v ls.length (lrow ls tv) ∧ ∀ i, i < ls.length → Ints w S (tv i) (ls.getD i noLop).thr := by
  obtain ⟨A, c, tv, rfl, h1, h2, hr, hi⟩ := h
  refine ⟨A, c, tv, rfl, h1, h2, ?_, hi⟩
  rcases hn with e | ⟨g, p, n, c', e⟩
  · have e' := e
    simp only [Value.slice.injEq] at e'
    have hl : ls = [] := List.length_eq_zero_iff.1 e'.2.1
    subst hl
    exact .inl ⟨e, rfl, rfl⟩
  · simp only [Value.slice.injEq] at e
    obtain ⟨rfl, e2, e3⟩ := e
    refine .inr ⟨g, p, c, rfl, fun j x hx => ?_⟩
    have h0 : 0 < ls.length := by
      rcases Nat.eq_zero_or_pos ls.length with h | h
      · have hl : ls = [] := List.length_eq_zero_iff.1 h
        subst hl
        simp [lrow] at hx
      · exact h
    obtain ⟨b, o, e, _, hc⟩ := hr.at_ h0
    cases e
    exact hc j x hx
theorem news_els {α : Type} {f : α → List Value} {n : Nat} {w : World} {S : Nat → Prop} {v : Value} {xs : List α} (h : Els f n w S v xs) (hn : NilOr v) : ∃ A c, v = .slice A xs.length c ∧ xs.length ≤ c ∧ c ≤ maxLen ∧ News w v xs.length (xs.flatMap f) := by
  obtain ⟨A, c, rfl, h1, h2, hr⟩ := h
  refine ⟨A, c, rfl, h1, h2, ?_⟩
  rcases hn with e | ⟨g, p, m, c', e⟩
  · have e' := e
    simp only [Value.slice.injEq] at e'
    have hl : xs = [] := List.length_eq_zero_iff.1 e'.2.1
    subst hl
    exact .inl ⟨e, rfl, rfl⟩
  · simp only [Value.slice.injEq] at e
    obtain ⟨rfl, e2, e3⟩ := e
    refine .inr ⟨g, p, c, rfl, fun j x hx => ?_⟩
    have h0 : 0 < xs.length := by
      rcases Nat.eq_zero_or_pos xs.length with h | h
      · have hl : xs = [] := List.length_eq_zero_iff.1 h
        subst hl
        simp at hx
      · exact h
    obtain ⟨b, o, e, _, hc⟩ := hr.at_ h0
    cases e
    exact hc j x hx
theorem news_ints {w : World} {S : Nat → Prop} {v : Value} {xs : List Int} (h : Ints w S v xs) (hn : NilOr v) : ∃ A c, v = .slice A xs.length c ∧ xs.length ≤ c ∧ c ≤ maxLen ∧ News w v xs.length (ints xs) := by
  obtain ⟨A, c, rfl, h1, h2, hr⟩ := h
  refine ⟨A, c, rfl, h1, h2, ?_⟩
  rcases hn with e | ⟨g, p, m, c', e⟩
  · have e' := e
    simp only [Value.slice.injEq] at e'
    have hl : xs = [] := List.length_eq_zero_iff.1 e'.2.1
    subst hl
    exact .inl ⟨e, rfl, rfl⟩
  · simp only [Value.slice.injEq] at e
    obtain ⟨rfl, e2, e3⟩ := e
    refine .inr ⟨g, p, c, rfl, fun j x hx => ?_⟩
    have h0 : 0 < xs.length := by
      rcases Nat.eq_zero_or_pos xs.length with h | h
      · have hl : xs = [] := List.length_eq_zero_iff.1 h
        subst hl
        simp [ints] at hx
      · exact h
    obtain ⟨b, o, e, _, hc⟩ := hr.at_ h0
    cases e
    exact hc j x hx
theorem lrow_one {ls : List Lop} {tv : Nat → Value} (h : ∀ i, i < ls.length → (tv i).oneCell' = true) : ∀ u ∈ lrow ls tv, u.oneCell' = true := by
  intro u hu
  obtain ⟨i, hi, hu⟩ := List.mem_flatMap.1 hu
  simp at hu
  rcases hu with rfl | rfl
  · rfl
  · exact h i (by simpa using hi)
theorem ints_cell1 {w : World} {S : Nat → Prop} {v : Value} {xs : List Int} (h : Ints w S v xs) : v.oneCell' = true := by obtain ⟨A, c, rfl, _⟩ := h; rfl
/-- the boxes of the state, the stitch, the result -/
structure DR (w w1 : World) (cs xs : List Value) : Prop where
  below : Below w.heap.size w w1
  s : Arr w1 w.heap.size 58 cs
  x : Arr w1 (w.heap.size + 1) 44 xs
  r : Arr w1 (w.heap.size + 2) 58 [.int .i64 0, nils, nils, nils, .int .i64 0, .int .i64 0]
section
variable {w w1 w2 : World} {cs xs : List Value}
theorem DR.start (w : World) (cs xs : Array Value) : DR w (((w.alloc (.cells cs 58)).alloc (.cells xs 44)).alloc (.cells #[.int .i64 0, nils, nils, nils, .int .i64 0, .int .i64 0] 58)) cs.toList xs.toList := by
  refine ⟨(((Below.refl _ _).alloc (Nat.le_refl _) _).alloc (by simp) _).alloc (by simp; omega) _, ((Arr.new w cs 58).alloc _).alloc _, (arr_new2 w _ xs 44).alloc _, ?_⟩
  have := Arr.new ((w.alloc (.cells cs 58)).alloc (.cells xs 44)) #[.int .i64 0, nils, nils, nils, .int .i64 0, .int .i64 0] 58
  simpa using this
theorem DR.next (h : DR w w1 cs xs) (hb : Below w1.heap.size w1 w2) : DR w w2 cs xs :=
  ⟨h.below.trans (hb.mono h.below.size), h.s.of_eq (hb.block _ h.s.lt), h.x.of_eq (hb.block _ h.x.lt), h.r.of_eq (hb.block _ h.r.lt)⟩
theorem DR.set (h : DR w w1 cs xs) (j : Nat) (u : Value) : DR w (w1.setCell ⟨w.heap.size, j, none⟩ u) (cs.set j u) xs :=
  ⟨h.below.setCell (Nat.le_refl _) _, h.s.set j u, h.x.far (by show w.heap.size + 1 ≠ w.heap.size; omega) u, h.r.far (by show w.heap.size + 2 ≠ w.heap.size; omega) u⟩
theorem DR.size (h : DR w w1 cs xs) : w.heap.size + 3 ≤ w1.heap.size := h.r.lt
end
/-- what the state leans on: blocks of S, and new ones -/
def Gr (S : Nat → Prop) (w w' : World) : Nat → Prop := fun b => S b ∨ (w.heap.size ≤ b ∧ b < w'.heap.size)
structure RSs (S : Nat → Prop) (w : World) (N : Nat) (k : KS) (hs : List Hd) (vl vh vo : Value) : Prop where
  loops : LoopsRd w S vl k.loops
  held : Helds w S vh hs
  loose : Ints w S vo k.loose
  on : ∀ b n, heldOn hs b n = k.on b n
  len : hs.length ≤ k.done
  nl : NilOr vl
  nh : NilOr vh
  no : NilOr vo
theorem RSs.rs {S : Nat → Prop} {w : World} {N : Nat} {k : KS} {hs : List Hd} {vl vh vo : Value} (h : RSs S w N k hs vl vh vo) (hS : ∀ b, S b → b < w.heap.size) : RS w N k hs vl vh vo :=
  ⟨h.loops.mono hS, h.held.mono hS, h.loose.mono hS, h.on, h.len, h.nl, h.nh, h.no⟩
theorem RSs.same {S : Nat → Prop} {w w' : World} {N : Nat} {k : KS} {hs : List Hd} {vl vh vo : Value} (h : RSs S w N k hs vl vh vo) (e : Same S w w') : RSs S w' N k hs vl vh vo :=
  ⟨h.loops.same e, h.held.same e, h.loose.same e, h.on, h.len, h.nl, h.nh, h.no⟩
theorem RSs.mono {S T : Nat → Prop} {w : World} {N : Nat} {k : KS} {hs : List Hd} {vl vh vo : Value} (h : RSs S w N k hs vl vh vo) (e : ∀ b, S b → T b) : RSs T w N k hs vl vh vo :=
  ⟨h.loops.mono e, h.held.mono e, h.loose.mono e, h.on, h.len, h.nl, h.nh, h.no⟩
variable {S : Nat → Prop}
/-- blocks that the boxes leave alone -/
def Fs (S : Nat → Prop) (w w1 : World) : Nat → Prop := fun b => b < w1.heap.size ∧ b ≠ w.heap.size ∧ b ≠ w.heap.size + 2 ∧ (S b ∨ w.heap.size ≤ b)
theorem hs_set (q : Addr) (x : Value) (w : World) : (w.setCell q x).heap.size = w.heap.size := by simp [World.setCell]
theorem Fs.set {w w1 : World} (j : Nat) (u : Value) : Same (Fs S w w1) w1 (w1.setCell ⟨w.heap.size, j, none⟩ u) := fun b hb => Below.heap_setCell _ _ _ _ hb.2.1
theorem Fs.sub {w w1 : World} (j : Nat) (u : Value) (b : Nat) (h : Fs S w w1 b) : Fs S w (w1.setCell ⟨w.heap.size, j, none⟩ u) b := ⟨by rw [hs_set]; exact h.1, h.2⟩
theorem Fs.sub2 {w w1 : World} (j : Nat) (u : Value) (b : Nat) (h : Fs S w w1 b) : Fs S w (w1.setCell ⟨w.heap.size + 2, j, none⟩ u) b := ⟨by rw [hs_set]; exact h.1, h.2⟩
theorem Fs.set2 {w w1 : World} (j : Nat) (u : Value) : Same (Fs S w w1) w1 (w1.setCell ⟨w.heap.size + 2, j, none⟩ u) := fun b hb => Below.heap_setCell _ _ _ _ hb.2.2.1
theorem Fs.grow {w w1 w2 : World} (hb : Below w1.heap.size w1 w2) : Same (Fs S w w1) w1 w2 := fun b h => hb.block b h.1
theorem Fs.mono {w w1 w2 : World} (hb : Below w1.heap.size w1 w2) (b : Nat) (h : Fs S w w1 b) : Fs S w w2 b := ⟨Nat.lt_of_lt_of_le h.1 hb.size, h.2⟩
/-- the state in its box -/
structure DS (S : Nat → Prop) (w w1 : World) (N : Nat) (ls : List Lop) (hs : List Hd) (lo : List Int) (r d : Int) (vl vh vo : Value) (xs : List Value) (u : Value) (ul : List Int) : Prop where
  dr : DR w w1 [.int .i64 N, vl, vh, vo, .int .i64 r, .int .i64 d] xs
  loops : LoopsRd w1 (Fs S w w1) vl ls
  held : Helds w1 (Fs S w w1) vh hs
  loose : Ints w1 (Fs S w w1) vo lo
  nl : NilOr vl
  nh : NilOr vh
  no : NilOr vo
  ex : Ints w1 (Fs S w w1) u ul
section
variable {w w1 w2 : World} {N : Nat} {ls : List Lop} {hs : List Hd} {lo : List Int} {r d : Int} {vl vh vo : Value} {xs : List Value} {u : Value} {ul : List Int}
theorem DS.next (h : DS S w w1 N ls hs lo r d vl vh vo xs u ul) (hb : Below w1.heap.size w1 w2) : DS S w w2 N ls hs lo r d vl vh vo xs u ul :=
  ⟨h.dr.next hb, (h.loops.same (Fs.grow hb)).mono (Fs.mono hb), (h.held.same (Fs.grow hb)).mono (Fs.mono hb), (h.loose.same (Fs.grow hb)).mono (Fs.mono hb), h.nl, h.nh, h.no, (h.ex.same (Fs.grow hb)).mono (Fs.mono hb)⟩
theorem DS.drew (h : DS S w w1 N ls hs lo r d vl vh vo xs u ul) : DS S w w1.drew N ls hs lo r d vl vh vo xs u ul := h.next (below_dN (n := 1) (Below.refl _ _))
theorem DS.setD (h : DS S w w1 N ls hs lo r d vl vh vo xs u ul) : DS S w (w1.setCell ⟨w.heap.size, 5, none⟩ (.int .i64 (d + 1))) N ls hs lo r (d + 1) vl vh vo xs u ul :=
  ⟨h.dr.set 5 _, (h.loops.same (Fs.set _ _)).mono (Fs.sub _ _), (h.held.same (Fs.set _ _)).mono (Fs.sub _ _), (h.loose.same (Fs.set _ _)).mono (Fs.sub _ _), h.nl, h.nh, h.no, (h.ex.same (Fs.set _ _)).mono (Fs.sub _ _)⟩
theorem DS.setR (h : DS S w w1 N ls hs lo r d vl vh vo xs u ul) (r' : Int) : DS S w (w1.setCell ⟨w.heap.size, 4, none⟩ (.int .i64 r')) N ls hs lo r' d vl vh vo xs u ul :=
  ⟨h.dr.set 4 _, (h.loops.same (Fs.set _ _)).mono (Fs.sub _ _), (h.held.same (Fs.set _ _)).mono (Fs.sub _ _), (h.loose.same (Fs.set _ _)).mono (Fs.sub _ _), h.nl, h.nh, h.no, (h.ex.same (Fs.set _ _)).mono (Fs.sub _ _)⟩
theorem DS.setL (h : DS S w w1 N ls hs lo r d vl vh vo xs u ul) {v : Value} {ls' : List Lop} (hv : LoopsRd w1 (Fs S w w1) v ls') (hn : NilOr v) : DS S w (w1.setCell ⟨w.heap.size, 1, none⟩ v) N ls' hs lo r d v vh vo xs u ul :=
  ⟨h.dr.set 1 _, (hv.same (Fs.set _ _)).mono (Fs.sub _ _), (h.held.same (Fs.set _ _)).mono (Fs.sub _ _), (h.loose.same (Fs.set _ _)).mono (Fs.sub _ _), hn, h.nh, h.no, (h.ex.same (Fs.set _ _)).mono (Fs.sub _ _)⟩
theorem DS.setH (h : DS S w w1 N ls hs lo r d vl vh vo xs u ul) {v : Value} {hs' : List Hd} (hv : Helds w1 (Fs S w w1) v hs') (hn : NilOr v) : DS S w (w1.setCell ⟨w.heap.size, 2, none⟩ v) N ls hs' lo r d vl v vo xs u ul :=
  ⟨h.dr.set 2 _, (h.loops.same (Fs.set _ _)).mono (Fs.sub _ _), (hv.same (Fs.set _ _)).mono (Fs.sub _ _), (h.loose.same (Fs.set _ _)).mono (Fs.sub _ _), h.nl, hn, h.no, (h.ex.same (Fs.set _ _)).mono (Fs.sub _ _)⟩
theorem DS.setO (h : DS S w w1 N ls hs lo r d vl vh vo xs u ul) {v : Value} {lo' : List Int} (hv : Ints w1 (Fs S w w1) v lo') (hn : NilOr v) : DS S w (w1.setCell ⟨w.heap.size, 3, none⟩ v) N ls hs lo' r d vl vh v xs u ul :=
  ⟨h.dr.set 3 _, (h.loops.same (Fs.set _ _)).mono (Fs.sub _ _), (h.held.same (Fs.set _ _)).mono (Fs.sub _ _), (hv.same (Fs.set _ _)).mono (Fs.sub _ _), h.nl, h.nh, hn, (h.ex.same (Fs.set _ _)).mono (Fs.sub _ _)⟩
/-- the whole box is written: other loops are held -/
theorem DS.set6 (h : DS S w w1 N ls hs lo r d vl vh vo xs u ul) {v : Value} {hs' : List Hd} (hv : Helds w1 (Fs S w w1) v hs') (hn : NilOr v) :
    DS S w ((((((w1.setCell ⟨w.heap.size, 0, none⟩ (.int .i64 N)).setCell ⟨w.heap.size, 1, none⟩ vl).setCell ⟨w.heap.size, 2, none⟩ v).setCell ⟨w.heap.size, 3, none⟩ vo).setCell ⟨w.heap.size, 4, none⟩ (.int .i64 r)).setCell ⟨w.heap.size, 5, none⟩ (.int .i64 d)) N ls hs' lo r d vl v vo xs u ul := by
  refine ⟨(((((h.dr.set 0 _).set 1 _).set 2 _).set 3 _).set 4 _).set 5 _, ?_, ?_, ?_, h.nl, hn, h.no, ?_⟩
  · refine (h.loops.same fun b hb => ?_).mono fun b hb => ⟨by rw [hs_set, hs_set, hs_set, hs_set, hs_set, hs_set]; exact hb.1, hb.2⟩
    exact (((((Below.heap_setCell _ _ _ _ hb.2.1).trans (Below.heap_setCell _ _ _ _ hb.2.1)).trans (Below.heap_setCell _ _ _ _ hb.2.1)).trans (Below.heap_setCell _ _ _ _ hb.2.1)).trans (Below.heap_setCell _ _ _ _ hb.2.1)).trans (Below.heap_setCell _ _ _ _ hb.2.1)
  · refine (hv.same fun b hb => ?_).mono fun b hb => ⟨by rw [hs_set, hs_set, hs_set, hs_set, hs_set, hs_set]; exact hb.1, hb.2⟩
    exact (((((Below.heap_setCell _ _ _ _ hb.2.1).trans (Below.heap_setCell _ _ _ _ hb.2.1)).trans (Below.heap_setCell _ _ _ _ hb.2.1)).trans (Below.heap_setCell _ _ _ _ hb.2.1)).trans (Below.heap_setCell _ _ _ _ hb.2.1)).trans (Below.heap_setCell _ _ _ _ hb.2.1)
  · refine (h.loose.same fun b hb => ?_).mono fun b hb => ⟨by rw [hs_set, hs_set, hs_set, hs_set, hs_set, hs_set]; exact hb.1, hb.2⟩
    exact (((((Below.heap_setCell _ _ _ _ hb.2.1).trans (Below.heap_setCell _ _ _ _ hb.2.1)).trans (Below.heap_setCell _ _ _ _ hb.2.1)).trans (Below.heap_setCell _ _ _ _ hb.2.1)).trans (Below.heap_setCell _ _ _ _ hb.2.1)).trans (Below.heap_setCell _ _ _ _ hb.2.1)
  · refine (h.ex.same fun b hb => ?_).mono fun b hb => ⟨by rw [hs_set, hs_set, hs_set, hs_set, hs_set, hs_set]; exact hb.1, hb.2⟩
    exact (((((Below.heap_setCell _ _ _ _ hb.2.1).trans (Below.heap_setCell _ _ _ _ hb.2.1)).trans (Below.heap_setCell _ _ _ _ hb.2.1)).trans (Below.heap_setCell _ _ _ _ hb.2.1)).trans (Below.heap_setCell _ _ _ _ hb.2.1)).trans (Below.heap_setCell _ _ _ _ hb.2.1)
/-- the result is written -/
theorem DS.fin (h : DS S w w1 N ls hs lo r d vl vh vo xs u ul) {k : KS} (e1 : k.loops = ls) (e2 : k.loose = lo) (e3 : ∀ b n, heldOn hs b n = k.on b n) (e4 : hs.length ≤ k.done) :
    RSs (Gr S w ((((((w1.setCell ⟨w.heap.size + 2, 0, none⟩ (.int .i64 N)).setCell ⟨w.heap.size + 2, 1, none⟩ vl).setCell ⟨w.heap.size + 2, 2, none⟩ vh).setCell ⟨w.heap.size + 2, 3, none⟩ vo).setCell ⟨w.heap.size + 2, 4, none⟩ (.int .i64 r)).setCell ⟨w.heap.size + 2, 5, none⟩ (.int .i64 d))) ((((((w1.setCell ⟨w.heap.size + 2, 0, none⟩ (.int .i64 N)).setCell ⟨w.heap.size + 2, 1, none⟩ vl).setCell ⟨w.heap.size + 2, 2, none⟩ vh).setCell ⟨w.heap.size + 2, 3, none⟩ vo).setCell ⟨w.heap.size + 2, 4, none⟩ (.int .i64 r)).setCell ⟨w.heap.size + 2, 5, none⟩ (.int .i64 d)) N k hs vl vh vo ∧
    Below w.heap.size w ((((((w1.setCell ⟨w.heap.size + 2, 0, none⟩ (.int .i64 N)).setCell ⟨w.heap.size + 2, 1, none⟩ vl).setCell ⟨w.heap.size + 2, 2, none⟩ vh).setCell ⟨w.heap.size + 2, 3, none⟩ vo).setCell ⟨w.heap.size + 2, 4, none⟩ (.int .i64 r)).setCell ⟨w.heap.size + 2, 5, none⟩ (.int .i64 d)) := by
  have hl : w.heap.size ≤ w.heap.size + 2 := by omega
  refine ⟨⟨?_, ?_, ?_, e3, e4, h.nl, h.nh, h.no⟩, (((((h.dr.below.setCell hl _).setCell hl _).setCell hl _).setCell hl _).setCell hl _).setCell hl _⟩
  · rw [e1]
    refine (h.loops.same fun b hb => ?_).mono fun b hb => hb.2.2.2.imp id fun h => ⟨h, by rw [hs_set, hs_set, hs_set, hs_set, hs_set, hs_set]; exact hb.1⟩
    exact (((((Below.heap_setCell _ _ _ _ hb.2.2.1).trans (Below.heap_setCell _ _ _ _ hb.2.2.1)).trans (Below.heap_setCell _ _ _ _ hb.2.2.1)).trans (Below.heap_setCell _ _ _ _ hb.2.2.1)).trans (Below.heap_setCell _ _ _ _ hb.2.2.1)).trans (Below.heap_setCell _ _ _ _ hb.2.2.1)
  · refine (h.held.same fun b hb => ?_).mono fun b hb => hb.2.2.2.imp id fun h => ⟨h, by rw [hs_set, hs_set, hs_set, hs_set, hs_set, hs_set]; exact hb.1⟩
    exact (((((Below.heap_setCell _ _ _ _ hb.2.2.1).trans (Below.heap_setCell _ _ _ _ hb.2.2.1)).trans (Below.heap_setCell _ _ _ _ hb.2.2.1)).trans (Below.heap_setCell _ _ _ _ hb.2.2.1)).trans (Below.heap_setCell _ _ _ _ hb.2.2.1)).trans (Below.heap_setCell _ _ _ _ hb.2.2.1)
  · rw [e2]
    refine (h.loose.same fun b hb => ?_).mono fun b hb => hb.2.2.2.imp id fun h => ⟨h, by rw [hs_set, hs_set, hs_set, hs_set, hs_set, hs_set]; exact hb.1⟩
    exact (((((Below.heap_setCell _ _ _ _ hb.2.2.1).trans (Below.heap_setCell _ _ _ _ hb.2.2.1)).trans (Below.heap_setCell _ _ _ _ hb.2.2.1)).trans (Below.heap_setCell _ _ _ _ hb.2.2.1)).trans (Below.heap_setCell _ _ _ _ hb.2.2.1)).trans (Below.heap_setCell _ _ _ _ hb.2.2.1)
end
theorem ints_nil {w : World} {S : Nat → Prop} : Ints w S nils [] := ⟨none, 0, rfl, Nat.le_refl _, by simp [maxLen], ⟨by simp [ints], fun h => absurd h (by decide)⟩⟩
theorem DS.start {w : World} {N : Nat} {k : KS} {hs : List Hd} {vl vh vo : Value} (h : RSs S w N k hs vl vh vo) (hS : ∀ b, S b → b < w.heap.size) (xs : Array Value) :
    DS S w (((w.alloc (.cells #[.int .i64 N, vl, vh, vo, .int .i64 k.rack, .int .i64 (k.done : Int)] 58)).alloc (.cells xs 44)).alloc (.cells #[.int .i64 0, nils, nils, nils, .int .i64 0, .int .i64 0] 58)) N k.loops hs k.loose k.rack (k.done : Int) vl vh vo xs.toList nils [] := by
  have hd := DR.start w #[.int .i64 N, vl, vh, vo, .int .i64 k.rack, .int .i64 (k.done : Int)] xs
  have hb : Below w.heap.size w _ := hd.below
  have hs := hd.size
  exact ⟨hd, (h.loops.same fun b hb' => hb.block b (hS b hb')).mono fun b hb' => (by have := hS b hb'; exact ⟨by omega, by omega, by omega, .inl hb'⟩), (h.held.same fun b hb' => hb.block b (hS b hb')).mono fun b hb' => (by have := hS b hb'; exact ⟨by omega, by omega, by omega, .inl hb'⟩),
    (h.loose.same fun b hb' => hb.block b (hS b hb')).mono fun b hb' => (by have := hS b hb'; exact ⟨by omega, by omega, by omega, .inl hb'⟩), h.nl, h.nh, h.no, ints_nil⟩
theorem LoopsRd.of_own {w : World} {base : Nat} {e : TypeId} {v : Value} {n : Nat} {ls : List Lop} {tv : Nat → Value} {S : Nat → Prop} (h : w.ownsRow base e 2 v n (lrow ls tv)) (hn : n = ls.length) (hS : ∀ b, base ≤ b → b < w.heap.size → S b) (hi : ∀ i, i < ls.length → Ints w S (tv i) (ls.getD i noLop).thr) : LoopsRd w S v ls := by
  subst hn
  obtain ⟨A, c, rfl, h1, h2⟩ := own_form h
  exact ⟨A, c, tv, rfl, h1, h2, (Row.of_own h).mono fun b hb => hS b hb.1 hb.2, hi⟩
/-- the list of a needle's loops -/
theorem DS.on {w w1 w2 : World} {N : Nat} {ls : List Lop} {hs : List Hd} {lo : List Int} {r d : Int} {vl vh vo : Value} {xs : List Value} {u u' : Value} {ul ul' : List Int} (h : DS S w w1 N ls hs lo r d vl vh vo xs u ul) (hb : Below w1.heap.size w1 w2) (hu : Ints w2 (fun b => w1.heap.size ≤ b ∧ b < w2.heap.size) u' ul') : DS S w w2 N ls hs lo r d vl vh vo xs u' ul' := by
  have hn := h.next hb
  have hs := h.dr.size
  exact ⟨hn.dr, hn.loops, hn.held, hn.loose, hn.nl, hn.nh, hn.no, hu.mono fun b hb' => ⟨hb'.2, by omega, by omega, .inr (by omega)⟩⟩
/-- a loop more -/
theorem DS.growL {w wz w5 : World} {N : Nat} {ls : List Lop} {hs : List Hd} {lo : List Int} {r d : Int} {vl vh vo v' u u' : Value} {xs : List Value} {tv : Nat → Value} {c : Int} {l ul : List Int} {n : Nat} {us : List Value}
    (h : DS S w wz N ls hs lo r d vl vh vo xs u ul) (ht : ∀ i, i < ls.length → Ints wz (Fs S w wz) (tv i) (ls.getD i noLop).thr) (hu : Ints wz (Fs S w wz) u' l) (hb : Below wz.heap.size wz w5) (hv : w5.ownsRow wz.heap.size 41 2 v' n us) (hn : n = ls.length + 1) (hus : us = lrow ls tv ++ [.int .i64 c, u']) :
    DS S w (w5.setCell ⟨w.heap.size, 1, none⟩ v') N (ls ++ [⟨c, l⟩]) hs lo r d v' vh vo xs u ul := by
  have hsz := h.dr.size
  have hv2 : w5.ownsRow wz.heap.size 41 2 v' n (lrow (ls ++ [⟨c, l⟩]) fun i => if i = ls.length then u' else tv i) := by rw [lrow_snoc ls tv ⟨c, l⟩ u', ← hus]; exact hv
  refine (h.next hb).setL (LoopsRd.of_own hv2 (by simp [hn]) (fun b h1 h2 => ⟨h2, by omega, by omega, .inr (by omega)⟩) ?_) (.of_own hv)
  · intro i hi
    rw [List.length_append, List.length_singleton] at hi
    by_cases e : i = ls.length
    · subst e
      simp only [if_true]
      simpa using (hu.same (Fs.grow hb)).mono (Fs.mono hb)
    · rw [if_neg e, show (ls ++ [(⟨c, l⟩ : Lop)]).getD i noLop = ls.getD i noLop by simp [List.getD, List.getElem?_append_left (show i < ls.length by omega)]]
      exact ((ht i (by omega)).same (Fs.grow hb)).mono (Fs.mono hb)
theorem flat_snoc (hs : List Hd) (x : Hd) : (hs ++ [x]).flatMap Hd.cells = hs.flatMap Hd.cells ++ [.int .i64 x.l, .int .i64 x.b, .int .i64 x.n] := by rw [List.flatMap_append]; simp [Hd.cells]
theorem DS.growH {w wz w5 : World} {N : Nat} {ls : List Lop} {hs hs' : List Hd} {lo : List Int} {r d : Int} {vl vh vo v' u : Value} {xs : List Value} {ul : List Int} {n B : Nat}
    (h : DS S w wz N ls hs lo r d vl vh vo xs u ul) (hb : Below wz.heap.size wz w5) (hB : w.heap.size + 3 ≤ B) (hv : w5.ownsRow B 90 3 v' n (hs'.flatMap Hd.cells)) :
    DS S w (w5.setCell ⟨w.heap.size, 2, none⟩ v') N ls hs' lo r d vl v' vo xs u ul :=
  (h.next hb).setH ((Helds.of_own hv).mono fun b hb' => ⟨hb'.2, by omega, by omega, .inr (by omega)⟩) (.of_own hv)
theorem DS.growO {w wz w5 : World} {N : Nat} {ls : List Lop} {hs : List Hd} {lo lo' : List Int} {r d : Int} {vl vh vo v' u : Value} {xs : List Value} {ul : List Int}
    (h : DS S w wz N ls hs lo r d vl vh vo xs u ul) (hb : Below wz.heap.size wz w5) (hv : w5.ownsRow wz.heap.size 3 1 v' lo'.length (ints lo')) :
    DS S w (w5.setCell ⟨w.heap.size, 3, none⟩ v') N ls hs lo' r d vl vh v' xs u ul := by
  have hs := h.dr.size
  exact (h.next hb).setO ((Ints.of_own hv).mono fun b hb' => ⟨hb'.2, by omega, by omega, .inr (by omega)⟩) (.of_own hv)

/-! who is held where -/
theorem heldOn_off (hs : List Hd) (b n b' n' : Int) : heldOn (heldOff hs b n) b' n' = if b' = b ∧ n' = n then [] else heldOn hs b' n' := by
  unfold heldOn heldOff
  rw [List.filter_filter]
  split
  · next h =>
    obtain ⟨rfl, rfl⟩ := h
    rw [List.filter_eq_nil_iff.2 (fun x _ => by simp)]; rfl
  · next h =>
    congr 1
    refine List.filter_congr fun x _ => ?_
    unfold Hd.at_
    by_cases e1 : x.b = b' <;> by_cases e2 : x.n = n' <;> simp [e1, e2]
    by_cases e3 : b' = b
    · exact .inr fun e4 => h ⟨e3, e4⟩
    · exact .inl e3
theorem heldOn_app (a c : List Hd) (b n : Int) : heldOn (a ++ c) b n = heldOn a b n ++ heldOn c b n := by unfold heldOn; rw [List.filter_append, List.map_append]
theorem heldOn_map (l : List Int) (fb fn b n : Int) : heldOn (l.map fun x => ⟨x, fb, fn⟩) b n = if b = fb ∧ n = fn then l else [] := by
  induction l with
  | nil => unfold heldOn; split <;> rfl
  | cons x l ih =>
    rw [List.map_cons, show (⟨x, fb, fn⟩ : Hd) :: l.map (fun x => ⟨x, fb, fn⟩) = [⟨x, fb, fn⟩] ++ l.map (fun x => ⟨x, fb, fn⟩) from rfl, heldOn_app, ih]
    unfold heldOn Hd.at_
    by_cases e : b = fb ∧ n = fn
    · obtain ⟨rfl, rfl⟩ := e
      simp
    · rw [if_neg e, if_neg e]
      have e2 : (fb == b && fn == n) = false := by
        cases h : (fb == b && fn == n) with
        | false => rfl
        | true => simp at h; exact absurd ⟨h.1.symm, h.2.symm⟩ e
      simp [e2]
theorem held_len (hs : List Hd) (b n : Int) : (heldOff hs b n).length + (heldOn hs b n).length = hs.length := by
  unfold heldOn heldOff
  rw [List.length_map]
  induction hs with
  | nil => rfl
  | cons x l ih =>
    cases e : x.at_ b n <;> simp [e] <;> omega
theorem on_knit {hs : List Hd} {on : Int → Int → List Int} (h : ∀ b n, heldOn hs b n = on b n) (l b n b' n' : Int) : heldOn (heldOff hs b n ++ [⟨l, b, n⟩]) b' n' = put on b n [l] b' n' := by
  rw [heldOn_app, heldOn_off, show [(⟨l, b, n⟩ : Hd)] = [l].map fun x => ⟨x, b, n⟩ from rfl, heldOn_map, h]
  unfold put
  split <;> simp
theorem on_tuck {hs : List Hd} {on : Int → Int → List Int} (h : ∀ b n, heldOn hs b n = on b n) (l b n b' n' : Int) : heldOn (hs ++ [⟨l, b, n⟩]) b' n' = put on b n (on b n ++ [l]) b' n' := by
  rw [heldOn_app, show [(⟨l, b, n⟩ : Hd)] = [l].map fun x => ⟨x, b, n⟩ from rfl, heldOn_map, h]
  unfold put
  split
  · next e => rw [e.1, e.2]
  · simp
theorem on_move {hs : List Hd} {on : Int → Int → List Int} (h : ∀ b n, heldOn hs b n = on b n) {b n fb fn : Int} (hne : fb ≠ b) (b' n' : Int) : heldOn (heldOff hs b n ++ (on b n).map fun x => ⟨x, fb, fn⟩) b' n' = put (put on fb fn (on fb fn ++ on b n)) b n [] b' n' := by
  rw [heldOn_app, heldOn_off, heldOn_map, h]
  unfold put
  by_cases e : b' = b ∧ n' = n
  · rw [if_pos e, if_pos e, if_neg (fun c => hne (c.1.symm.trans e.1))]; rfl
  · rw [if_neg e, if_neg e]
    by_cases e2 : b' = fb ∧ n' = fn
    · rw [if_pos e2, if_pos e2, e2.1, e2.2]
    · rw [if_neg e2, if_neg e2]; simp
theorem on_drop {hs : List Hd} {on : Int → Int → List Int} (h : ∀ b n, heldOn hs b n = on b n) (b n b' n' : Int) : heldOn (heldOff hs b n) b' n' = put on b n [] b' n' := by
  rw [heldOn_off, h]; rfl
end Go.Proofs.Ytaacfjeddoekfaa
/- Chapter 11: the reference's state in its box, where the held loops are a row of our own. -/
namespace Go.Proofs.Ytaacfjeddoekfaa
open Go.RowKit
set_option linter.unusedVariables false

theorem own_lower {w : World} {base base' : Nat} {e : TypeId} {size n : Nat} {v : Value} {xs : List Value} (h : w.ownsRow base e size v n xs) (hb : base' ≤ base) : w.ownsRow base' e size v n xs := by
  refine ⟨h.1, ?_⟩
  rcases h.2 with h0 | ⟨g, cap, cur, e, hg, rest⟩
  · exact .inl h0
  · exact .inr ⟨g, cap, cur, e, Nat.le_trans hb hg, rest⟩
variable {S : Nat → Prop}
/-- blocks that the boxes and a row of our own leave alone -/
def Fx (S : Nat → Prop) (w w1 : World) (v : Value) : Nat → Prop := fun b => Fs S w w1 b ∧ v.ownBlock ≠ some b
theorem Fx.grow {w w1 w2 : World} {v : Value} (hb : Below w1.heap.size w1 w2) : Same (Fx S w w1 v) w1 w2 := fun b h => hb.block b h.1.1
theorem Fx.mono {w w1 w2 : World} {v : Value} (hb : Below w1.heap.size w1 w2) (b : Nat) (h : Fx S w w1 v b) : Fx S w w2 v b := ⟨Fs.mono hb b h.1, h.2⟩
theorem Fx.set {w w1 : World} {v : Value} (j : Nat) (u : Value) : Same (Fx S w w1 v) w1 (w1.setCell ⟨w.heap.size, j, none⟩ u) := fun b hb => Below.heap_setCell _ _ _ _ hb.1.2.1
theorem Fx.sub {w w1 : World} {v : Value} (j : Nat) (u : Value) (b : Nat) (h : Fx S w w1 v b) : Fx S w (w1.setCell ⟨w.heap.size, j, none⟩ u) v b := ⟨Fs.sub j u b h.1, h.2⟩
structure DXr (S : Nat → Prop) (w w1 : World) (N : Nat) (ls : List Lop) (hs : List Hd) (lo : List Int) (r d : Int) (vl vh vo : Value) (xs : List Value) (u : Value) (ul : List Int) : Prop where
  dr : DR w w1 [.int .i64 N, vl, vh, vo, .int .i64 r, .int .i64 d] xs
  loops : LoopsRd w1 (Fx S w w1 vh) vl ls
  held : w1.ownsRow (w.heap.size + 3) 90 3 vh hs.length (hs.flatMap Hd.cells)
  loose : Ints w1 (Fx S w w1 vh) vo lo
  nl : NilOr vl
  no : NilOr vo
  ex : Ints w1 (Fx S w w1 vh) u ul
section
variable {w w1 w2 w3 : World} {N : Nat} {ls : List Lop} {hs hs' : List Hd} {lo : List Int} {r d : Int} {vl vh vh0 vo v v' : Value} {xs : List Value} {u : Value} {ul : List Int}
theorem DXr.to (h : DXr S w w1 N ls hs lo r d vl vh vo xs u ul) : DS S w w1 N ls hs lo r d vl vh vo xs u ul :=
  ⟨h.dr, h.loops.mono fun _ hb => hb.1, (Helds.of_own h.held).mono fun b hb => ⟨hb.2, by omega, by omega, .inr (by omega)⟩, h.loose.mono fun _ hb => hb.1, h.nl, .of_own h.held, h.no, h.ex.mono fun _ hb => hb.1⟩
theorem DXr.next (h : DXr S w w1 N ls hs lo r d vl vh vo xs u ul) (hb : Below w1.heap.size w1 w2) : DXr S w w2 N ls hs lo r d vl vh vo xs u ul :=
  ⟨h.dr.next hb, (h.loops.same (Fx.grow hb)).mono (Fx.mono hb), own_below h.held hb (Nat.le_refl _), (h.loose.same (Fx.grow hb)).mono (Fx.mono hb), h.nl, h.no, (h.ex.same (Fx.grow hb)).mono (Fx.mono hb)⟩
theorem DXr.setL (h : DXr S w w1 N ls hs lo r d vl vh vo xs u ul) {ls' : List Lop} (hv : LoopsRd w1 (Fx S w w1 vh) v ls') (hn : NilOr v) : DXr S w (w1.setCell ⟨w.heap.size, 1, none⟩ v) N ls' hs lo r d v vh vo xs u ul :=
  ⟨h.dr.set 1 _, (hv.same (Fx.set _ _)).mono (Fx.sub _ _), own_box h.held (by omega) _, (h.loose.same (Fx.set _ _)).mono (Fx.sub _ _), hn, h.no, (h.ex.same (Fx.set _ _)).mono (Fx.sub _ _)⟩
theorem DXr.setO (h : DXr S w w1 N ls hs lo r d vl vh vo xs u ul) {lo' : List Int} (hv : Ints w1 (Fx S w w1 vh) v lo') (hn : NilOr v) : DXr S w (w1.setCell ⟨w.heap.size, 3, none⟩ v) N ls hs lo' r d vl vh v xs u ul :=
  ⟨h.dr.set 3 _, (h.loops.same (Fx.set _ _)).mono (Fx.sub _ _), own_box h.held (by omega) _, (hv.same (Fx.set _ _)).mono (Fx.sub _ _), h.nl, hn, (h.ex.same (Fx.set _ _)).mono (Fx.sub _ _)⟩
theorem Fx.set6 {w w1 : World} {v : Value} (a b c d e f : Value) {x : Nat} (hb : Fx S w w1 v x) : Fx S w ((((((w1.setCell ⟨w.heap.size, 0, none⟩ a).setCell ⟨w.heap.size, 1, none⟩ b).setCell ⟨w.heap.size, 2, none⟩ c).setCell ⟨w.heap.size, 3, none⟩ d).setCell ⟨w.heap.size, 4, none⟩ e).setCell ⟨w.heap.size, 5, none⟩ f) v x :=
  ⟨⟨by rw [hs_set, hs_set, hs_set, hs_set, hs_set, hs_set]; exact hb.1.1, hb.1.2⟩, hb.2⟩
theorem Fx.same6 {w w1 : World} {v : Value} (a b c d e f : Value) : Same (Fx S w w1 v) w1 ((((((w1.setCell ⟨w.heap.size, 0, none⟩ a).setCell ⟨w.heap.size, 1, none⟩ b).setCell ⟨w.heap.size, 2, none⟩ c).setCell ⟨w.heap.size, 3, none⟩ d).setCell ⟨w.heap.size, 4, none⟩ e).setCell ⟨w.heap.size, 5, none⟩ f) := fun x hb =>
  (((((Below.heap_setCell _ _ _ _ hb.1.2.1).trans (Below.heap_setCell _ _ _ _ hb.1.2.1)).trans (Below.heap_setCell _ _ _ _ hb.1.2.1)).trans (Below.heap_setCell _ _ _ _ hb.1.2.1)).trans (Below.heap_setCell _ _ _ _ hb.1.2.1)).trans (Below.heap_setCell _ _ _ _ hb.1.2.1)
/-- what is left of a needle becomes the held loops -/
theorem DXr.of (h : DS S w w2 N ls hs lo r d vl vh0 vo xs u ul) (hb : Below w2.heap.size w2 w3) (hv : w3.ownsRow (w2.heap.size + 2) 90 3 v hs'.length (hs'.flatMap Hd.cells)) :
    DXr S w ((((((w3.setCell ⟨w.heap.size, 0, none⟩ (.int .i64 N)).setCell ⟨w.heap.size, 1, none⟩ vl).setCell ⟨w.heap.size, 2, none⟩ v).setCell ⟨w.heap.size, 3, none⟩ vo).setCell ⟨w.heap.size, 4, none⟩ (.int .i64 r)).setCell ⟨w.heap.size, 5, none⟩ (.int .i64 d)) N ls hs' lo r d vl v vo xs u ul := by
  have hs2 := h.dr.size
  have hF : ∀ b, Fs S w w2 b → Fx S w w3 v b := fun b hb' => ⟨Fs.mono hb b hb', fun e => by have := (hv.lt b e).1; have := hb'.1; omega⟩
  refine ⟨((((((h.dr.next hb).set 0 _).set 1 _).set 2 _).set 3 _).set 4 _).set 5 _, ?_, ?_, ?_, h.nl, h.no, ?_⟩
  · exact (((h.loops.same (Fs.grow hb)).mono hF).same (Fx.same6 _ _ _ _ _ _)).mono fun b => Fx.set6 _ _ _ _ _ _
  · exact own_box (own_box (own_box (own_box (own_box (own_box (own_lower (base' := w.heap.size + 3) hv (by omega)) (by omega) _) (by omega) _) (by omega) _) (by omega) _) (by omega) _) (by omega) _
  · exact (((h.loose.same (Fs.grow hb)).mono hF).same (Fx.same6 _ _ _ _ _ _)).mono fun b => Fx.set6 _ _ _ _ _ _
  · exact (((h.ex.same (Fs.grow hb)).mono hF).same (Fx.same6 _ _ _ _ _ _)).mono fun b => Fx.set6 _ _ _ _ _ _
theorem DR.next3 {cs : List Value} (h : DR w w1 cs xs) (hb : Below (w.heap.size + 3) w1 w2) : DR w w2 cs xs :=
  ⟨h.below.trans (hb.mono (by omega)), h.s.of_eq (hb.block _ (by omega)), h.x.of_eq (hb.block _ (by omega)), h.r.of_eq (hb.block _ (by omega))⟩
/-- one loop more is held -/
theorem DXr.app (h : DXr S w w1 N ls hs lo r d vl vh vo xs u ul) {z n : Nat} {us : List Value} (hv : w2.ownsRow (w.heap.size + 3) 90 3 v' n us) (hb : Below (w.heap.size + 3) w1 w2) (hg : w1.grownBy w2 vh.ownBlock) (ho : v'.ownBlock = vh.ownBlock ∨ v'.ownBlock = some z) (hz : w1.heap.size ≤ z)
    (hn : n = hs'.length) (hus : us = hs'.flatMap Hd.cells) : DXr S w (w2.setCell ⟨w.heap.size, 2, none⟩ v') N ls hs' lo r d vl v' vo xs u ul := by
  subst hn hus
  have hS : Same (Fx S w w1 vh) w1 w2 := fun b hb' => hg.block b hb'.1.1 (Ne.symm hb'.2)
  have hM : ∀ b, Fx S w w1 vh b → Fx S w w2 v' b := fun b hb' => ⟨⟨Nat.lt_of_lt_of_le hb'.1.1 hg.size, hb'.1.2⟩, by
    rcases ho with e | e
    · rw [e]; exact hb'.2
    · rw [e]; intro c; injection c with c; have := hb'.1.1; omega⟩
  exact ⟨(h.dr.next3 hb).set 2 _, (((h.loops.same hS).mono hM).same (Fx.set _ _)).mono (Fx.sub _ _), own_box hv (by omega) _, (((h.loose.same hS).mono hM).same (Fx.set _ _)).mono (Fx.sub _ _), h.nl, h.no, (((h.ex.same hS).mono hM).same (Fx.set _ _)).mono (Fx.sub _ _)⟩
/-- one loop more -/
theorem DXr.growL {wz w5 : World} {u' : Value} {tv : Nat → Value} {c : Int} {l : List Int} {n : Nat} {us : List Value}
    (h : DXr S w wz N ls hs lo r d vl vh vo xs u ul) (ht : ∀ i, i < ls.length → Ints wz (Fx S w wz vh) (tv i) (ls.getD i noLop).thr) (hu : Ints wz (Fx S w wz vh) u' l) (hb : Below wz.heap.size wz w5) (hv : w5.ownsRow wz.heap.size 41 2 v' n us) (hn : n = ls.length + 1) (hus : us = lrow ls tv ++ [.int .i64 c, u']) :
    DXr S w (w5.setCell ⟨w.heap.size, 1, none⟩ v') N (ls ++ [⟨c, l⟩]) hs lo r d v' vh vo xs u ul := by
  have hsz := h.dr.size
  have hv2 : w5.ownsRow wz.heap.size 41 2 v' n (lrow (ls ++ [⟨c, l⟩]) fun i => if i = ls.length then u' else tv i) := by rw [lrow_snoc ls tv ⟨c, l⟩ u', ← hus]; exact hv
  refine (h.next hb).setL (LoopsRd.of_own hv2 (by simp [hn]) (fun b h1 h2 => ⟨⟨h2, by omega, by omega, .inr (by omega)⟩, fun e => by have := (h.held.lt b e).2; omega⟩) ?_) (.of_own hv)
  · intro i hi
    rw [List.length_append, List.length_singleton] at hi
    by_cases e : i = ls.length
    · subst e
      simp only [if_true]
      simpa using (hu.same (Fx.grow hb)).mono (Fx.mono hb)
    · rw [if_neg e, show (ls ++ [(⟨c, l⟩ : Lop)]).getD i noLop = ls.getD i noLop by simp [List.getD, List.getElem?_append_left (show i < ls.length by omega)]]
      exact ((ht i (by omega)).same (Fx.grow hb)).mono (Fx.mono hb)
theorem DXr.growO {wz w5 : World} {lo' : List Int} (h : DXr S w wz N ls hs lo r d vl vh vo xs u ul) (hb : Below wz.heap.size wz w5) (hv : w5.ownsRow wz.heap.size 3 1 v' lo'.length (ints lo')) :
    DXr S w (w5.setCell ⟨w.heap.size, 3, none⟩ v') N ls hs lo' r d vl vh v' xs u ul := by
  have hs := h.dr.size
  exact (h.next hb).setO ((Ints.of_own hv).mono fun b hb' => ⟨⟨hb'.2, by omega, by omega, .inr (by omega)⟩, fun e => by have := (h.held.lt b e).2; omega⟩) (.of_own hv)
end
end Go.Proofs.Ytaacfjeddoekfaa
/- Chapter 11: the reference does a stitch, kind by kind. (Printed by gen_refdo2.py.) -/
namespace Go.Proofs.Ytaacfjeddoekfaa
open Go.RowKit
set_option linter.unusedVariables false
set_option linter.unusedSimpArgs false


set_option maxRecDepth 100000 in
set_option maxHeartbeats 4000000 in
theorem refDo_rack {w : World} {N : Nat} {k : KS} {hs : List Hd} {vl vh vo : Value} {S : Nat → Prop} (h : RSs S w N k hs vl vh vo) (hS : ∀ b, S b → b < w.heap.size) (hN : N ≤ 128) (hi : Kinv N k) (b n c t : Int) (hw : wrongK N k ⟨6, b, n, c, t⟩ = 0) :
    Calls Try.prog 31 #[sval N vl vh vo k.rack (k.done : Int), .agg #[.int .i64 6, .int .i64 b, .int .i64 n, .int .i64 c, .int .i64 t]] w fun e w' => ∃ vl' vh' vo' hs', e = .returned (sval N vl' vh' vo' (stepK k ⟨6, b, n, c, t⟩).rack ((stepK k ⟨6, b, n, c, t⟩).done : Int)) ∧ RSs (Gr S w w') w' N (stepK k ⟨6, b, n, c, t⟩) hs' vl' vh' vo' ∧ Below w.heap.size w w' := by
  have HM := Lib.hid h
  have HI := Lib.hid hi
  have HWB := Lib.hid (wrong_bounds hw)
  have hd := hi.d
  have hdn := HWB.out.2.2.1
  obtain ⟨hr1, hr2⟩ := hi.r
  have hlen := h.len
  have hL0 := hi.loops
  have hO0 := hi.loose
  have h8 := hi.on b n
  obtain ⟨A0, n0, rfl, hA0, hA0'⟩ := h.loops.sl
  obtain ⟨A1, n1, rfl, hA1, hA1'⟩ := h.held.sl
  obtain ⟨A2, n2, rfl, hA2, hA2'⟩ := h.loose.sl
  unfold maxLen at hA0' hA1' hA2'
  have hx0 := DS.start h hS #[.int .i64 6, .int .i64 b, .int .i64 n, .int .i64 c, .int .i64 t]
  have HX0 : Hid (DS S w (((w.alloc (.cells #[.int .i64 N, .slice A0 k.loops.length n0, .slice A1 hs.length n1, .slice A2 k.loose.length n2, .int .i64 k.rack, .int .i64 (k.done : Int)] 58)).alloc (.cells #[.int .i64 6, .int .i64 b, .int .i64 n, .int .i64 c, .int .i64 t] 44)).alloc (.cells #[.int .i64 0, nils, nils, nils, .int .i64 0, .int .i64 0] 58)) N k.loops hs k.loose k.rack (k.done : Int) (.slice A0 k.loops.length n0) (.slice A1 hs.length n1) (.slice A2 k.loose.length n2) [.int .i64 6, .int .i64 b, .int .i64 n, .int .i64 c, .int .i64 t] nils []) := hx0
  clear h hi hw hx0 hS
  show Calls Try.prog 31 #[.agg #[.int .i64 N, .slice A0 k.loops.length n0, .slice A1 hs.length n1, .slice A2 k.loose.length n2, .int .i64 k.rack, .int .i64 (k.done : Int)], .agg #[.int .i64 6, .int .i64 b, .int .i64 n, .int .i64 c, .int .i64 t]] w _
  go_enter Try.func31, Try.ntmps31
  go_upto_region 1 with fail
  generalize ((w.alloc (.cells #[.int .i64 N, .slice A0 k.loops.length n0, .slice A1 hs.length n1, .slice A2 k.loose.length n2, .int .i64 k.rack, .int .i64 (k.done : Int)] 58)).alloc (.cells #[.int .i64 6, .int .i64 b, .int .i64 n, .int .i64 c, .int .i64 t] 44)).alloc (.cells #[.int .i64 0, nils, nils, nils, .int .i64 0, .int .i64 0] 58) = w0 at *
  have s0 := HX0.out.dr.s.cell (k := 0) rfl
  have s1 := HX0.out.dr.s.cell (k := 1) rfl
  have s2 := HX0.out.dr.s.cell (k := 2) rfl
  have s3 := HX0.out.dr.s.cell (k := 3) rfl
  have s4 := HX0.out.dr.s.cell (k := 4) rfl
  have s5 := HX0.out.dr.s.cell (k := 5) rfl
  have x0 := HX0.out.dr.x.cell (k := 0) rfl
  have x1 := HX0.out.dr.x.cell (k := 1) rfl
  have x2 := HX0.out.dr.x.cell (k := 2) rfl
  have x3 := HX0.out.dr.x.cell (k := 3) rfl
  have x4 := HX0.out.dr.x.cell (k := 4) rfl
  have g5 := HX0.out.dr.s.free 5
  go_upto_region 2 with fail
  have HX1 := Lib.hid HX0.out.setD
  generalize w0.setCell ⟨w.heap.size, 5, none⟩ (.int .i64 ((k.done : Int) + 1)) = w1 at *
  clear s0 s1 s2 s3 s4 s5 x0 x1 x2 x3 x4
  clear g5 HX0
  have s0 := HX1.out.dr.s.cell (k := 0) rfl
  have s1 := HX1.out.dr.s.cell (k := 1) rfl
  have s2 := HX1.out.dr.s.cell (k := 2) rfl
  have s3 := HX1.out.dr.s.cell (k := 3) rfl
  have s4 := HX1.out.dr.s.cell (k := 4) rfl
  have s5 := HX1.out.dr.s.cell (k := 5) rfl
  have x0 := HX1.out.dr.x.cell (k := 0) rfl
  have x1 := HX1.out.dr.x.cell (k := 1) rfl
  have x2 := HX1.out.dr.x.cell (k := 2) rfl
  have x3 := HX1.out.dr.x.cell (k := 3) rfl
  have x4 := HX1.out.dr.x.cell (k := 4) rfl
  go_wp2_with fail
  refine (On_any (N := N) (r := k.rack) (d := (k.done : Int) + 1) (b := b) (n := n) w1 ⟨_, _, _, rfl⟩ (HX1.out.held.mono fun _ h => h.1) ⟨_, _, _, rfl⟩ (by omega)).mono ?_
  rintro e w2 ⟨u, rfl, hu, hb2, hnu⟩
  rw [HM.out.on] at hu
  have HX2 := Lib.hid (HX1.out.on hb2 hu)
  have HNU := Lib.hid hnu
  obtain ⟨Au, cu, rfl, hAu, hAu'⟩ := hu.sl
  unfold maxLen at hAu'
  clear s0 s1 s2 s3 s4 s5 x0 x1 x2 x3 x4
  clear hb2 HX1 hu hnu
  have s0 := HX2.out.dr.s.cell (k := 0) rfl
  have s1 := HX2.out.dr.s.cell (k := 1) rfl
  have s2 := HX2.out.dr.s.cell (k := 2) rfl
  have s3 := HX2.out.dr.s.cell (k := 3) rfl
  have s4 := HX2.out.dr.s.cell (k := 4) rfl
  have s5 := HX2.out.dr.s.cell (k := 5) rfl
  have x0 := HX2.out.dr.x.cell (k := 0) rfl
  have x1 := HX2.out.dr.x.cell (k := 1) rfl
  have x2 := HX2.out.dr.x.cell (k := 2) rfl
  have x3 := HX2.out.dr.x.cell (k := 3) rfl
  have x4 := HX2.out.dr.x.cell (k := 4) rfl
  have g4 := HX2.out.dr.s.free 4
  go_upto_region 24 with fail
  have HX3 := Lib.hid (HX2.out.setR t)
  generalize w2.setCell ⟨w.heap.size, 4, none⟩ (.int .i64 t) = w3 at *
  clear HX2 g4
  clear s0 s1 s2 s3 s4 s5 x0 x1 x2 x3 x4
  have s0 := HX3.out.dr.s.cell (k := 0) rfl
  have s1 := HX3.out.dr.s.cell (k := 1) rfl
  have s2 := HX3.out.dr.s.cell (k := 2) rfl
  have s3 := HX3.out.dr.s.cell (k := 3) rfl
  have s4 := HX3.out.dr.s.cell (k := 4) rfl
  have s5 := HX3.out.dr.s.cell (k := 5) rfl
  have x0 := HX3.out.dr.x.cell (k := 0) rfl
  have x1 := HX3.out.dr.x.cell (k := 1) rfl
  have x2 := HX3.out.dr.x.cell (k := 2) rfl
  have x3 := HX3.out.dr.x.cell (k := 3) rfl
  have x4 := HX3.out.dr.x.cell (k := 4) rfl
  have r0 := HX3.out.dr.r.cell (k := 0) rfl
  have f0 := HX3.out.dr.r.free 0
  have r1 := HX3.out.dr.r.cell (k := 1) rfl
  have f1 := HX3.out.dr.r.free 1
  have r2 := HX3.out.dr.r.cell (k := 2) rfl
  have f2 := HX3.out.dr.r.free 2
  have r3 := HX3.out.dr.r.cell (k := 3) rfl
  have f3 := HX3.out.dr.r.free 3
  have r4 := HX3.out.dr.r.cell (k := 4) rfl
  have f4 := HX3.out.dr.r.free 4
  have r5 := HX3.out.dr.r.cell (k := 5) rfl
  have f5 := HX3.out.dr.r.free 5
  have hq := ((((((HX3.out.dr.r.set 0 (.int .i64 N)).set 1 (.slice A0 k.loops.length n0)).set 2 (.slice A1 hs.length n1)).set 3 (.slice A2 k.loose.length n2)).set 4 (.int .i64 t)).set 5 (.int .i64 ((k.done : Int) + 1)))
  have q0 := hq.cell (k := 0) rfl
  have q1 := hq.cell (k := 1) rfl
  have q2 := hq.cell (k := 2) rfl
  have q3 := hq.cell (k := 3) rfl
  have q4 := hq.cell (k := 4) rfl
  have q5 := hq.cell (k := 5) rfl
  clear hq
  go_wp2_with fail
  have e : stepK k ⟨6, b, n, c, t⟩ = { k with rack := t, done := k.done + 1 } := by unfold stepK; rw [if_pos rfl]
  rw [e]
  refine bodyPost_ret (v := .agg #[.int .i64 N, .slice A0 k.loops.length n0, .slice A1 hs.length n1, .slice A2 k.loose.length n2, .int .i64 t, .int .i64 ((k.done : Int) + 1)]) (by simp [results, Try.results31, go_sem, q0, q1, q2, q3, q4, q5]) rfl ⟨_, _, _, _, rfl, HX3.out.fin rfl rfl HM.out.on (Nat.le_succ_of_le hlen)⟩

set_option maxRecDepth 100000 in
set_option maxHeartbeats 4000000 in
theorem refDo_miss {w : World} {N : Nat} {k : KS} {hs : List Hd} {vl vh vo : Value} {S : Nat → Prop} (h : RSs S w N k hs vl vh vo) (hS : ∀ b, S b → b < w.heap.size) (hN : N ≤ 128) (hi : Kinv N k) (b n c t : Int) (hw : wrongK N k ⟨3, b, n, c, t⟩ = 0) :
    Calls Try.prog 31 #[sval N vl vh vo k.rack (k.done : Int), .agg #[.int .i64 3, .int .i64 b, .int .i64 n, .int .i64 c, .int .i64 t]] w fun e w' => ∃ vl' vh' vo' hs', e = .returned (sval N vl' vh' vo' (stepK k ⟨3, b, n, c, t⟩).rack ((stepK k ⟨3, b, n, c, t⟩).done : Int)) ∧ RSs (Gr S w w') w' N (stepK k ⟨3, b, n, c, t⟩) hs' vl' vh' vo' ∧ Below w.heap.size w w' := by
  have HM := Lib.hid h
  have HI := Lib.hid hi
  have HWB := Lib.hid (wrong_bounds hw)
  have hd := hi.d
  have hdn := HWB.out.2.2.1
  obtain ⟨hr1, hr2⟩ := hi.r
  have hlen := h.len
  have hL0 := hi.loops
  have hO0 := hi.loose
  have h8 := hi.on b n
  obtain ⟨A0, n0, rfl, hA0, hA0'⟩ := h.loops.sl
  obtain ⟨A1, n1, rfl, hA1, hA1'⟩ := h.held.sl
  obtain ⟨A2, n2, rfl, hA2, hA2'⟩ := h.loose.sl
  unfold maxLen at hA0' hA1' hA2'
  have hx0 := DS.start h hS #[.int .i64 3, .int .i64 b, .int .i64 n, .int .i64 c, .int .i64 t]
  have HX0 : Hid (DS S w (((w.alloc (.cells #[.int .i64 N, .slice A0 k.loops.length n0, .slice A1 hs.length n1, .slice A2 k.loose.length n2, .int .i64 k.rack, .int .i64 (k.done : Int)] 58)).alloc (.cells #[.int .i64 3, .int .i64 b, .int .i64 n, .int .i64 c, .int .i64 t] 44)).alloc (.cells #[.int .i64 0, nils, nils, nils, .int .i64 0, .int .i64 0] 58)) N k.loops hs k.loose k.rack (k.done : Int) (.slice A0 k.loops.length n0) (.slice A1 hs.length n1) (.slice A2 k.loose.length n2) [.int .i64 3, .int .i64 b, .int .i64 n, .int .i64 c, .int .i64 t] nils []) := hx0
  have HT := Lib.hid (HWB.out.2.2.2.2.1 (show (3 : Int) ≠ 6 by decide))
  have hnb := HT.out.2
  clear h hi hw hx0 hS
  show Calls Try.prog 31 #[.agg #[.int .i64 N, .slice A0 k.loops.length n0, .slice A1 hs.length n1, .slice A2 k.loose.length n2, .int .i64 k.rack, .int .i64 (k.done : Int)], .agg #[.int .i64 3, .int .i64 b, .int .i64 n, .int .i64 c, .int .i64 t]] w _
  go_enter Try.func31, Try.ntmps31
  go_upto_region 1 with fail
  generalize ((w.alloc (.cells #[.int .i64 N, .slice A0 k.loops.length n0, .slice A1 hs.length n1, .slice A2 k.loose.length n2, .int .i64 k.rack, .int .i64 (k.done : Int)] 58)).alloc (.cells #[.int .i64 3, .int .i64 b, .int .i64 n, .int .i64 c, .int .i64 t] 44)).alloc (.cells #[.int .i64 0, nils, nils, nils, .int .i64 0, .int .i64 0] 58) = w0 at *
  have s0 := HX0.out.dr.s.cell (k := 0) rfl
  have s1 := HX0.out.dr.s.cell (k := 1) rfl
  have s2 := HX0.out.dr.s.cell (k := 2) rfl
  have s3 := HX0.out.dr.s.cell (k := 3) rfl
  have s4 := HX0.out.dr.s.cell (k := 4) rfl
  have s5 := HX0.out.dr.s.cell (k := 5) rfl
  have x0 := HX0.out.dr.x.cell (k := 0) rfl
  have x1 := HX0.out.dr.x.cell (k := 1) rfl
  have x2 := HX0.out.dr.x.cell (k := 2) rfl
  have x3 := HX0.out.dr.x.cell (k := 3) rfl
  have x4 := HX0.out.dr.x.cell (k := 4) rfl
  have g5 := HX0.out.dr.s.free 5
  go_upto_region 2 with fail
  have HX1 := Lib.hid HX0.out.setD
  generalize w0.setCell ⟨w.heap.size, 5, none⟩ (.int .i64 ((k.done : Int) + 1)) = w1 at *
  clear s0 s1 s2 s3 s4 s5 x0 x1 x2 x3 x4
  clear g5 HX0
  have s0 := HX1.out.dr.s.cell (k := 0) rfl
  have s1 := HX1.out.dr.s.cell (k := 1) rfl
  have s2 := HX1.out.dr.s.cell (k := 2) rfl
  have s3 := HX1.out.dr.s.cell (k := 3) rfl
  have s4 := HX1.out.dr.s.cell (k := 4) rfl
  have s5 := HX1.out.dr.s.cell (k := 5) rfl
  have x0 := HX1.out.dr.x.cell (k := 0) rfl
  have x1 := HX1.out.dr.x.cell (k := 1) rfl
  have x2 := HX1.out.dr.x.cell (k := 2) rfl
  have x3 := HX1.out.dr.x.cell (k := 3) rfl
  have x4 := HX1.out.dr.x.cell (k := 4) rfl
  go_wp2_with fail
  refine (On_any (N := N) (r := k.rack) (d := (k.done : Int) + 1) (b := b) (n := n) w1 ⟨_, _, _, rfl⟩ (HX1.out.held.mono fun _ h => h.1) ⟨_, _, _, rfl⟩ (by omega)).mono ?_
  rintro e w2 ⟨u, rfl, hu, hb2, hnu⟩
  rw [HM.out.on] at hu
  have HX2 := Lib.hid (HX1.out.on hb2 hu)
  have HNU := Lib.hid hnu
  obtain ⟨Au, cu, rfl, hAu, hAu'⟩ := hu.sl
  unfold maxLen at hAu'
  clear s0 s1 s2 s3 s4 s5 x0 x1 x2 x3 x4
  clear hb2 HX1 hu hnu
  have s0 := HX2.out.dr.s.cell (k := 0) rfl
  have s1 := HX2.out.dr.s.cell (k := 1) rfl
  have s2 := HX2.out.dr.s.cell (k := 2) rfl
  have s3 := HX2.out.dr.s.cell (k := 3) rfl
  have s4 := HX2.out.dr.s.cell (k := 4) rfl
  have s5 := HX2.out.dr.s.cell (k := 5) rfl
  have x0 := HX2.out.dr.x.cell (k := 0) rfl
  have x1 := HX2.out.dr.x.cell (k := 1) rfl
  have x2 := HX2.out.dr.x.cell (k := 2) rfl
  have x3 := HX2.out.dr.x.cell (k := 3) rfl
  have x4 := HX2.out.dr.x.cell (k := 4) rfl
  go_upto_region 24 with fail
  clear s0 s1 s2 s3 s4 s5 x0 x1 x2 x3 x4
  have s0 := HX2.out.dr.s.cell (k := 0) rfl
  have s1 := HX2.out.dr.s.cell (k := 1) rfl
  have s2 := HX2.out.dr.s.cell (k := 2) rfl
  have s3 := HX2.out.dr.s.cell (k := 3) rfl
  have s4 := HX2.out.dr.s.cell (k := 4) rfl
  have s5 := HX2.out.dr.s.cell (k := 5) rfl
  have x0 := HX2.out.dr.x.cell (k := 0) rfl
  have x1 := HX2.out.dr.x.cell (k := 1) rfl
  have x2 := HX2.out.dr.x.cell (k := 2) rfl
  have x3 := HX2.out.dr.x.cell (k := 3) rfl
  have x4 := HX2.out.dr.x.cell (k := 4) rfl
  have r0 := HX2.out.dr.r.cell (k := 0) rfl
  have f0 := HX2.out.dr.r.free 0
  have r1 := HX2.out.dr.r.cell (k := 1) rfl
  have f1 := HX2.out.dr.r.free 1
  have r2 := HX2.out.dr.r.cell (k := 2) rfl
  have f2 := HX2.out.dr.r.free 2
  have r3 := HX2.out.dr.r.cell (k := 3) rfl
  have f3 := HX2.out.dr.r.free 3
  have r4 := HX2.out.dr.r.cell (k := 4) rfl
  have f4 := HX2.out.dr.r.free 4
  have r5 := HX2.out.dr.r.cell (k := 5) rfl
  have f5 := HX2.out.dr.r.free 5
  have hq := ((((((HX2.out.dr.r.set 0 (.int .i64 N)).set 1 (.slice A0 k.loops.length n0)).set 2 (.slice A1 hs.length n1)).set 3 (.slice A2 k.loose.length n2)).set 4 (.int .i64 k.rack)).set 5 (.int .i64 ((k.done : Int) + 1)))
  have q0 := hq.cell (k := 0) rfl
  have q1 := hq.cell (k := 1) rfl
  have q2 := hq.cell (k := 2) rfl
  have q3 := hq.cell (k := 3) rfl
  have q4 := hq.cell (k := 4) rfl
  have q5 := hq.cell (k := 5) rfl
  clear hq
  go_wp2_with fail
  have e : stepK k ⟨3, b, n, c, t⟩ = { k with done := k.done + 1 } := by unfold stepK; rw [if_neg (show ¬ (3 : Int) = 6 by decide), if_neg (show ¬ (3 : Int) = 1 by decide), if_neg (show ¬ (3 : Int) = 2 by decide), if_neg (show ¬ (3 : Int) = 4 by decide), if_neg (show ¬ (3 : Int) = 5 by decide)]
  rw [e]
  refine bodyPost_ret (v := .agg #[.int .i64 N, .slice A0 k.loops.length n0, .slice A1 hs.length n1, .slice A2 k.loose.length n2, .int .i64 k.rack, .int .i64 ((k.done : Int) + 1)]) (by simp [results, Try.results31, go_sem, q0, q1, q2, q3, q4, q5]) rfl ⟨_, _, _, _, rfl, HX2.out.fin rfl rfl HM.out.on (Nat.le_succ_of_le hlen)⟩
end Go.Proofs.Ytaacfjeddoekfaa
