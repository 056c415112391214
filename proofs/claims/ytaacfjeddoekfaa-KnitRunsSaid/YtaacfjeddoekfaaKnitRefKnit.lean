/- Chapter 11: the reference's Knit. -/
import Derived.Test.YtaacfjeddoekfaaKnitTold
import Derived.Test.YtaacfjeddoekfaaKnitWalk9
namespace Go.Proofs.Ytaacfjeddoekfaa
open Go.RowKit
set_option linter.unusedVariables false
set_option linter.unusedSimpArgs false

def Qs (w wr : World) (out : Value) : Nat → Prop := fun b => w.heap.size + 2 ≤ b ∧ b < wr.heap.size ∧ out.ownBlock ≠ some b
/-- the result's box, the state's box, a row of our own, the state -/
structure QK (w wr : World) (N : Nat) (k : KS) (hs : List Hd) (vl vh vo out : Value) (es : List Int) : Prop where
  below : Below w.heap.size w wr
  size : w.heap.size + 2 ≤ wr.heap.size
  r : Arr wr w.heap.size 27 [nils, nils, nils, nils, .int .i64 0]
  q : Arr wr (w.heap.size + 1) 58 [.int .i64 N, vl, vh, vo, .int .i64 k.rack, .int .i64 (k.done : Int)]
  ou : wr.ownsRow (w.heap.size + 2) 28 1 out es.length (ints es)
  st : RSs (Qs w wr out) wr N k hs vl vh vo
section
variable {w wr w2 w4 : World} {N : Nat} {k k' : KS} {hs hs' : List Hd} {vl vh vo out out' vl' vh' vo' : Value} {es es' : List Int}
theorem Qs.mono (hb : wr.heap.size ≤ w2.heap.size) (b : Nat) (h : Qs w wr out b) : Qs w w2 out b := ⟨h.1, Nat.lt_of_lt_of_le h.2.1 hb, h.2.2⟩
theorem QK.next (h : QK w wr N k hs vl vh vo out es) (hb : Below wr.heap.size wr w2) : QK w w2 N k hs vl vh vo out es :=
  ⟨h.below.trans (hb.mono h.below.size), Nat.le_trans h.size hb.size, h.r.of_eq (hb.block _ h.r.lt), h.q.of_eq (hb.block _ h.q.lt), own_below h.ou hb (Nat.le_refl _), (h.st.same fun b hb' => hb.block b hb'.2.1).mono (Qs.mono hb.size)⟩
theorem QK.app (h : QK w wr N k hs vl vh vo out es) {z n : Nat} {us : List Value} (hv : w2.ownsRow (w.heap.size + 2) 28 1 out' n us) (hb : Below (w.heap.size + 2) wr w2) (hg : wr.grownBy w2 out.ownBlock) (ho : out'.ownBlock = out.ownBlock ∨ out'.ownBlock = some z) (hz : wr.heap.size ≤ z)
    (hn : n = es'.length) (hus : us = ints es') : QK w w2 N k hs vl vh vo out' es' := by
  subst hn hus
  refine ⟨h.below.trans (hb.mono (by omega)), Nat.le_trans h.size hb.size, h.r.of_eq (hb.block _ (by omega)), h.q.of_eq (hb.block _ (by omega)), hv, (h.st.same fun b hb' => hg.block b hb'.2.1 (Ne.symm hb'.2.2)).mono fun b hb' => ⟨hb'.1, Nat.lt_of_lt_of_le hb'.2.1 hg.size, ?_⟩⟩
  rcases ho with e | e
  · rw [e]; exact hb'.2.2
  · rw [e]; intro c; injection c with c; have := hb'.2.1; omega
theorem QK.store (h : QK w wr N k hs vl vh vo out es) (hb : Below wr.heap.size wr w4) (hst : RSs (Gr (Qs w wr out) wr w4) w4 N k' hs' vl' vh' vo') :
    QK w ((((((w4.setCell ⟨w.heap.size + 1, 0, none⟩ (.int .i64 N)).setCell ⟨w.heap.size + 1, 1, none⟩ vl').setCell ⟨w.heap.size + 1, 2, none⟩ vh').setCell ⟨w.heap.size + 1, 3, none⟩ vo').setCell ⟨w.heap.size + 1, 4, none⟩ (.int .i64 k'.rack)).setCell ⟨w.heap.size + 1, 5, none⟩ (.int .i64 (k'.done : Int))) N k' hs' vl' vh' vo' out es := by
  have n := h.next hb
  have hl : w.heap.size ≤ w.heap.size + 1 := by omega
  have hsz := h.size
  refine ⟨(((((n.below.setCell hl _).setCell hl _).setCell hl _).setCell hl _).setCell hl _).setCell hl _, by rw [hs_set, hs_set, hs_set, hs_set, hs_set, hs_set]; exact n.size,
    (((((n.r.far (p := ⟨w.heap.size + 1, 0, none⟩) (by show w.heap.size ≠ w.heap.size + 1; omega) _).far (p := ⟨w.heap.size + 1, 1, none⟩) (by show w.heap.size ≠ w.heap.size + 1; omega) _).far (p := ⟨w.heap.size + 1, 2, none⟩) (by show w.heap.size ≠ w.heap.size + 1; omega) _).far (p := ⟨w.heap.size + 1, 3, none⟩) (by show w.heap.size ≠ w.heap.size + 1; omega) _).far (p := ⟨w.heap.size + 1, 4, none⟩) (by show w.heap.size ≠ w.heap.size + 1; omega) _).far (p := ⟨w.heap.size + 1, 5, none⟩) (by show w.heap.size ≠ w.heap.size + 1; omega) _,
    (((((n.q.set 0 _).set 1 _).set 2 _).set 3 _).set 4 _).set 5 _, own_box (own_box (own_box (own_box (own_box (own_box n.ou (by omega) _) (by omega) _) (by omega) _) (by omega) _) (by omega) _) (by omega) _, ?_⟩
  have hne : ∀ b, Gr (Qs w wr out) wr w4 b → b ≠ w.heap.size + 1 := fun b hb' => by
    rcases hb' with h1 | h1
    · have := h1.1; omega
    · omega
  refine (hst.same fun b hb' => ?_).mono fun b hb' => ?_
  · exact (((((Below.heap_setCell _ _ _ _ (hne b hb')).trans (Below.heap_setCell _ _ _ _ (hne b hb'))).trans (Below.heap_setCell _ _ _ _ (hne b hb'))).trans (Below.heap_setCell _ _ _ _ (hne b hb'))).trans (Below.heap_setCell _ _ _ _ (hne b hb'))).trans (Below.heap_setCell _ _ _ _ (hne b hb'))
  · rcases hb' with h1 | h1
    · exact ⟨h1.1, by rw [hs_set, hs_set, hs_set, hs_set, hs_set, hs_set]; exact Nat.lt_of_lt_of_le h1.2.1 hb.size, h1.2.2⟩
    · exact ⟨by omega, by rw [hs_set, hs_set, hs_set, hs_set, hs_set, hs_set]; exact h1.2, fun e => by have := (h.ou.lt b e).2; omega⟩
end

set_option maxRecDepth 100000 in
set_option maxHeartbeats 4000000 in
theorem refKnit_own {v : Value} {l : List Sti} (N : Nat) (hN1 : 1 ≤ N) (hN : N ≤ 128) (w : World) (hv : Stitches w (fun b => b < w.heap.size) v l) (hl : l.length ≤ 4000000000000) :
    Calls Try.prog 15 #[.int .i64 (N : Int), v] w fun e w' => ∃ u kv, e = .returned (.tuple #[u, kv, .int .i64 0]) ∧ Ints w' (fun b => w.heap.size ≤ b ∧ b < w'.heap.size) u (errsK N zeroK l) ∧ KnR w' (fun b => w.heap.size ≤ b ∧ b < w'.heap.size) kv (told N (afterK N l)) ∧ Below w.heap.size w w' := by
  have HV := Lib.hid hv
  have HQ0 : Hid (QK w ((w.alloc (.cells #[nils, nils, nils, nils, .int .i64 0] 27)).alloc (.cells #[.int .i64 (N : Int), nils, nils, nils, .int .i64 0, .int .i64 0] 58)) N zeroK [] nils nils nils nils []) := by
    refine ⟨((Below.refl _ _).alloc (Nat.le_refl _) _).alloc (by simp) _, by simp, (Arr.new w #[nils, nils, nils, nils, .int .i64 0] 27).alloc _, arr_new2 w _ #[.int .i64 (N : Int), nils, nils, nils, .int .i64 0, .int .i64 0] 58, World.ownsRow_nil _ _ _ _, ?_⟩
    exact ⟨LoopsRd.nil _ _, ⟨none, 0, rfl, Nat.le_refl _, by simp [maxLen], .nil _ _ _ _⟩, ints_nil, fun b n => rfl, Nat.le_refl _, .inl rfl, .inl rfl, .inl rfl⟩
  obtain ⟨A, c, rfl, h1, h2, hr⟩ := hv
  clear hr
  unfold maxLen at h2
  go_enter Try.func15, Try.ntmps15
  go_upto_region 4 with fail
  generalize (w.alloc (.cells #[nils, nils, nils, nils, .int .i64 0] 27)).alloc (.cells #[.int .i64 (N : Int), nils, nils, nils, .int .i64 0, .int .i64 0] 58) = wA at *
  go_wp2_with fail
  go_loopg [8, 23] l.length (fun gg out ctr wr => ∃ i vl vh vo hs, i ≤ l.length ∧ gg = l.length - i ∧ ctr = .int .i64 i ∧ QK w wr N (afterK N (l.take i)) hs vl vh vo out (errsK N zeroK (l.take i)))
  case atStart => exact ⟨0, nils, nils, nils, [], by omega, rfl, rfl, HQ0.out⟩
  case round =>
    clear HQ0
    obtain ⟨i, vl, vh, vo, hs, hi, rfl, rfl, hq⟩ := hrel
    by_cases hlt : i < l.length
    case neg =>
      obtain rfl : i = l.length := by omega
      rw [List.take_length] at hq
      have HQ := Lib.hid hq
      obtain ⟨A0, n0, rfl, hA0, hA0'⟩ := hq.st.loops.sl
      obtain ⟨A1, n1, rfl, hA1, hA1'⟩ := hq.st.held.sl
      obtain ⟨A2, n2, rfl, hA2, hA2'⟩ := hq.st.loose.sl
      obtain ⟨Ao, co, rfl, _, _⟩ := own_form hq.ou
      have q0 := HQ.out.q.cell (k := 0) rfl
      have q1 := HQ.out.q.cell (k := 1) rfl
      have q2 := HQ.out.q.cell (k := 2) rfl
      have q3 := HQ.out.q.cell (k := 3) rfl
      have q4 := HQ.out.q.cell (k := 4) rfl
      have q5 := HQ.out.q.cell (k := 5) rfl
      clear hq
      go_wp2_with fail
      refine (Told_any HQ.out.st (fun b hb => hb.2.1) hN (kinv_after N l)).mono ?_
      rintro e w3 ⟨kv, rfl, hk, hb3⟩
      have HK := Lib.hid hk
      have HQ3 := Lib.hid (HQ.out.next hb3)
      obtain ⟨vl, vf, vb, vo, rfl, hl', hf', hb', ho'⟩ := hk
      obtain ⟨Aq, cq, tq, rfl, _⟩ := hl'
      obtain ⟨Af, cf, tf, rfl, _⟩ := hf'
      obtain ⟨Ab, cb, tb, rfl, _⟩ := hb'
      obtain ⟨Ap, cp, rfl, _⟩ := ho'
      have hrr := HQ3.out.r
      have hszr := HQ.out.size
      have hsz3 := hb3.size
      clear hb3
      have r0 := hrr.cell (k := 0) rfl
      have r1 := hrr.cell (k := 1) rfl
      have r2 := hrr.cell (k := 2) rfl
      have r3 := hrr.cell (k := 3) rfl
      have r4 := hrr.cell (k := 4) rfl
      have f0 := hrr.free 0
      have f1 := hrr.free 1
      have f2 := hrr.free 2
      have f3 := hrr.free 3
      have f4 := hrr.free 4
      generalize hkn : told N (afterK N l) = kn at *
      have HKN := Lib.hid hkn
      clear hkn
      have hq := ((((hrr.set 0 (.slice Aq kn.loops.length cq)).set 1 (.slice Af kn.front.length cf)).set 2 (.slice Ab kn.back.length cb)).set 3 (.slice Ap kn.loose.length cp)).set 4 (.int .i64 kn.rack)
      have t0 := hq.cell (k := 0) rfl
      have t1 := hq.cell (k := 1) rfl
      have t2 := hq.cell (k := 2) rfl
      have t3 := hq.cell (k := 3) rfl
      have t4 := hq.cell (k := 4) rfl
      have HBF := Lib.hid (((((HQ3.out.below.setCell (p := ⟨w.heap.size, 0, none⟩) (Nat.le_refl _) (.slice Aq kn.loops.length cq)).setCell (p := ⟨w.heap.size, 1, none⟩) (Nat.le_refl _) (.slice Af kn.front.length cf)).setCell (p := ⟨w.heap.size, 2, none⟩) (Nat.le_refl _) (.slice Ab kn.back.length cb)).setCell (p := ⟨w.heap.size, 3, none⟩) (Nat.le_refl _) (.slice Ap kn.loose.length cp)).setCell (p := ⟨w.heap.size, 4, none⟩) (Nat.le_refl _) (.int .i64 kn.rack))
      have HFAR : Hid (∀ b, b ≠ w.heap.size → (((((w3.setCell ⟨w.heap.size, 0, none⟩ (.slice Aq kn.loops.length cq)).setCell ⟨w.heap.size, 1, none⟩ (.slice Af kn.front.length cf)).setCell ⟨w.heap.size, 2, none⟩ (.slice Ab kn.back.length cb)).setCell ⟨w.heap.size, 3, none⟩ (.slice Ap kn.loose.length cp)).setCell ⟨w.heap.size, 4, none⟩ (.int .i64 kn.rack)).heap[b]? = w3.heap[b]?) := fun b hb =>
        ((((Below.heap_setCell _ _ _ _ hb).trans (Below.heap_setCell _ _ _ _ hb)).trans (Below.heap_setCell _ _ _ _ hb)).trans (Below.heap_setCell _ _ _ _ hb)).trans (Below.heap_setCell _ _ _ _ hb)
      have HSZ : Hid ((((((w3.setCell ⟨w.heap.size, 0, none⟩ (.slice Aq kn.loops.length cq)).setCell ⟨w.heap.size, 1, none⟩ (.slice Af kn.front.length cf)).setCell ⟨w.heap.size, 2, none⟩ (.slice Ab kn.back.length cb)).setCell ⟨w.heap.size, 3, none⟩ (.slice Ap kn.loose.length cp)).setCell ⟨w.heap.size, 4, none⟩ (.int .i64 kn.rack)).heap.size = w3.heap.size) := by show _ = _; simp [World.setCell]
      clear hrr hq
      go_wp2_with fail
      refine bodyPost_ret (v := .tuple #[.slice Ao (errsK N zeroK l).length co, .agg #[.slice Aq kn.loops.length cq, .slice Af kn.front.length cf, .slice Ab kn.back.length cb, .slice Ap kn.loose.length cp, .int .i64 kn.rack], .int .i64 0]) (by simp [results, Try.results15, go_sem, t0, t1, t2, t3, t4]) rfl ⟨_, _, rfl, ?_, ?_, HBF.out⟩
      · refine ((Ints.of_own HQ3.out.ou).same fun b hb => HFAR.out b (by have := hb.1; omega)).mono fun b hb => ⟨by have := hb.1; omega, by rw [HSZ.out]; exact hb.2⟩
      · rw [HKN.out]
        refine (HK.out.same fun b hb => HFAR.out b ?_).mono fun b hb => ?_
        · rcases hb with h | h
          · have := h.1; omega
          · omega
        · rw [HSZ.out]
          rcases hb with h | h
          · exact ⟨by have := h.1; omega, Nat.lt_of_lt_of_le h.2.1 hsz3⟩
          · exact ⟨by omega, h.2⟩
    have HBW := Lib.hid hq.below
    obtain ⟨b, o, e, hbb, x0, x1, x2, x3, x4⟩ := sti_cells (srow_of (HV.out.same (Same.of_below HBW.out))) hlt
    cases e
    have hbw : b < wr.heap.size := Nat.lt_of_lt_of_le hbb HBW.out.size
    have HE : Hid (errsK N zeroK (l.take (i + 1)) = errsK N zeroK (l.take i) ++ [wrongK N (afterK N (l.take i)) l[i]] ∧ afterK N (l.take (i + 1)) = doK N (afterK N (l.take i)) l[i]) := ⟨errsK_take hlt, afterK_take hlt⟩
    have HKI := Lib.hid (kinv_after N (l.take i))
    have hel : (errsK N zeroK (l.take i)).length = i := by rw [errsK_len, List.length_take]; omega
    generalize l[i] = x at *
    generalize afterK N (l.take i) = k at *
    generalize errsK N zeroK (l.take i) = es at *
    have HAL : Hid (Below wr.heap.size wr (wr.alloc (.cells #[.int .i64 x.d, .int .i64 x.b, .int .i64 x.n, .int .i64 x.c, .int .i64 x.t] 44))) := (Below.refl _ _).alloc (Nat.le_refl _) _
    have HQ := Lib.hid (hq.next HAL.out)
    have HX := Lib.hid (Arr.new wr #[.int .i64 x.d, .int .i64 x.b, .int .i64 x.n, .int .i64 x.c, .int .i64 x.t] 44)
    have HLT : Hid (∀ g, u8.ownBlock = some g → g < wr.heap.size) := fun g hg => (hq.ou.lt g hg).2
    obtain ⟨A0, n0, rfl, hA0, hA0'⟩ := hq.st.loops.sl
    obtain ⟨A1, n1, rfl, hA1, hA1'⟩ := hq.st.held.sl
    obtain ⟨A2, n2, rfl, hA2, hA2'⟩ := hq.st.loose.sl
    clear hq
    go_upto_region 8 with fail
    have hxl : wr.heap.size < (wr.alloc (.cells #[.int .i64 x.d, .int .i64 x.b, .int .i64 x.n, .int .i64 x.c, .int .i64 x.t] 44)).heap.size := by simp
    generalize wr.alloc (.cells #[.int .i64 x.d, .int .i64 x.b, .int .i64 x.n, .int .i64 x.c, .int .i64 x.t] 44) = w2 at *
    clear x0 x1 x2 x3 x4 HAL
    have q0 := HQ.out.q.cell (k := 0) rfl
    have q1 := HQ.out.q.cell (k := 1) rfl
    have q2 := HQ.out.q.cell (k := 2) rfl
    have q3 := HQ.out.q.cell (k := 3) rfl
    have q4 := HQ.out.q.cell (k := 4) rfl
    have q5 := HQ.out.q.cell (k := 5) rfl
    have x0 := HX.out.cell (k := 0) rfl
    have x1 := HX.out.cell (k := 1) rfl
    have x2 := HX.out.cell (k := 2) rfl
    have x3 := HX.out.cell (k := 3) rfl
    have x4 := HX.out.cell (k := 4) rfl
    go_wp2_with fail
    refine (refWrong_any (HQ.out.st.rs fun b hb => hb.2.1) hN HKI.out x).mono ?_
    rintro e w3 ⟨rfl, hb3⟩
    have HQ3 := Lib.hid (HQ.out.next hb3)
    have HX3 := Lib.hid (HX.out.of_eq (hb3.block _ hxl))
    have hx3 : wr.heap.size < w3.heap.size := Nat.lt_of_lt_of_le hxl hb3.size
    have hsz3 := HQ3.out.size
    clear q0 q1 q2 q3 q4 q5 x0 x1 x2 x3 x4 hb3 HQ HX hxl
    generalize her : wrongK N k x = er at *
    have HER := Lib.hid her
    clear her
    go_upto_region 10 with (
      at_builtin
      refine app_el T34 [.int .i64 er] HQ3.out.ou (Below.refl _ _) hsz3 rfl rfl rfl rfl rfl ?_ ?_ ?_
      rotate_right
      intro v1 w5 hown1 hb1 hg1 ho1
      have HQ5 := Lib.hid (HQ3.out.app (es' := es ++ [er]) hown1 hb1 hg1 ho1 (Nat.le_succ _) ?hlen ?hus)
      have HX5 := Lib.hid (HX3.out.of_eq (hg1.block _ hx3 (fun c => Nat.lt_irrefl _ (HLT.out _ c.symm))))
      clear hown1 hb1 hg1 ho1)
    case refine_1 => simp [Value.oneCell']
    case refine_2 => omega
    case hlen => rw [List.length_append, List.length_singleton]
    case hus => rw [ints_app]; rfl
    clear HQ3 HX3 hx3 hsz3 HLT
    by_cases hz : er = 0
    case neg =>
      have hzb : (er == 0) = false := by simpa using hz
      have HZ := Lib.hid hz
      clear hz
      go_wp2_with fail
      go_roundg (l.length - (i + 1))
      case measure => omega
      case rel =>
        refine ⟨i + 1, .slice A0 k.loops.length n0, .slice A1 hs.length n1, .slice A2 k.loose.length n2, hs, by omega, rfl, by go_num, ?_⟩
        rw [HE.out.1, HE.out.2, show doK N k x = k by unfold doK; rw [if_neg (by rw [HER.out]; exact HZ.out)]]
        exact HQ5.out
    subst hz
    have q0 := HQ5.out.q.cell (k := 0) rfl
    have q1 := HQ5.out.q.cell (k := 1) rfl
    have q2 := HQ5.out.q.cell (k := 2) rfl
    have q3 := HQ5.out.q.cell (k := 3) rfl
    have q4 := HQ5.out.q.cell (k := 4) rfl
    have q5 := HQ5.out.q.cell (k := 5) rfl
    have x0 := HX5.out.cell (k := 0) rfl
    have x1 := HX5.out.cell (k := 1) rfl
    have x2 := HX5.out.cell (k := 2) rfl
    have x3 := HX5.out.cell (k := 3) rfl
    have x4 := HX5.out.cell (k := 4) rfl
    go_wp2_with fail
    refine (refDo_any HQ5.out.st (fun b hb => hb.2.1) hN HKI.out x HER.out).mono ?_
    rintro e w6 ⟨vl', vh', vo', hs', rfl, hst, hb6⟩
    unfold sval
    have HQ6 := Lib.hid (HQ5.out.store hb6 hst)
    obtain ⟨B0, m0, rfl, _, _⟩ := hst.loops.sl
    obtain ⟨B1, m1, rfl, _, _⟩ := hst.held.sl
    obtain ⟨B2, m2, rfl, _, _⟩ := hst.loose.sl
    have hqn := (HQ5.out.next hb6).q
    clear q0 q1 q2 q3 q4 q5 x0 x1 x2 x3 x4 hb6 hst
    have q0 := hqn.cell (k := 0) rfl
    have q1 := hqn.cell (k := 1) rfl
    have q2 := hqn.cell (k := 2) rfl
    have q3 := hqn.cell (k := 3) rfl
    have q4 := hqn.cell (k := 4) rfl
    have q5 := hqn.cell (k := 5) rfl
    have f0 := hqn.free 0
    have f1 := hqn.free 1
    have f2 := hqn.free 2
    have f3 := hqn.free 3
    have f4 := hqn.free 4
    have f5 := hqn.free 5
    clear hqn
    go_wp2_with fail
    go_roundg (l.length - (i + 1))
    case measure => omega
    case rel =>
      refine ⟨i + 1, .slice B0 (stepK k x).loops.length m0, .slice B1 hs'.length m1, .slice B2 (stepK k x).loose.length m2, hs', by omega, rfl, by go_num, ?_⟩
      rw [HE.out.1, HE.out.2, show doK N k x = stepK k x by unfold doK; rw [if_pos HER.out]]
      exact HQ6.out

set_option maxRecDepth 100000 in
set_option maxHeartbeats 2000000 in
theorem refKnit_bad {S : Nat → Prop} {v : Value} {l : List Sti} (n : Int) (hn : n < 1 ∨ 128 < n) (w : World) (hv : Stitches w S v l) :
    Calls Try.prog 15 #[.int .i64 n, v] w fun e w' => e = .returned (.tuple #[nils, .agg #[nils, nils, nils, nils, .int .i64 0], .int .i64 3]) ∧ Below w.heap.size w w' := by
  have HA := Lib.hid (Arr.new w #[nils, nils, nils, nils, .int .i64 0] 27)
  have HB : Hid (Below w.heap.size w (w.alloc (.cells #[nils, nils, nils, nils, .int .i64 0] 27))) := (Below.refl _ _).alloc (Nat.le_refl _) _
  obtain ⟨A, c, rfl, h1, h2, hr⟩ := hv
  clear hr
  rcases hn with hn | hn
  · go_enter Try.func15, Try.ntmps15
    go_wp2_with fail
    exact bodyPost_ret (v := .tuple #[nils, .agg #[nils, nils, nils, nils, .int .i64 0], .int .i64 3]) (by simp [results, Try.results15, go_sem]) rfl ⟨rfl, HB.out⟩
  · have hn' : ¬ n < 1 := by omega
    go_enter Try.func15, Try.ntmps15
    go_wp2_with fail
    exact bodyPost_ret (v := .tuple #[nils, .agg #[nils, nils, nils, nils, .int .i64 0], .int .i64 3]) (by simp [results, Try.results15, go_sem]) rfl ⟨rfl, HB.out⟩
end Go.Proofs.Ytaacfjeddoekfaa
