/- Chapter 11: the reference's Run. -/
import Derived.Test.YtaacfjeddoekfaaKnitRefKnit
namespace Go.Proofs.Ytaacfjeddoekfaa
open Go.RowKit
set_option linter.unusedVariables false
set_option linter.unusedSimpArgs false

theorem errs_get {N : Nat} {l : List Sti} {i : Nat} (h : i < l.length) (h2 : i < (errsK N zeroK l).length) : (errsK N zeroK l)[i] = wrongK N (afterK N (l.take i)) l[i] := by
  have := errsK_get (N := N) h
  rw [List.getElem?_eq_getElem h2] at this
  exact Option.some.inj this
/-- seven cells are written, of two boxes -/
def set7 (w : World) (p : Nat) (a b c d e f g : Value) : World :=
  ((((((w.setCell ⟨p, 0, none⟩ a).setCell ⟨p, 1, none⟩ b).setCell ⟨p, 2, none⟩ c).setCell ⟨p, 3, none⟩ d).setCell ⟨p, 4, none⟩ e).setCell ⟨p + 1, 0, none⟩ f).setCell ⟨p + 1, 1, none⟩ g
theorem set7_far (w : World) (p : Nat) (a b c d e f g : Value) (x : Nat) (h : x ≠ p) (h' : x ≠ p + 1) : (set7 w p a b c d e f g).heap[x]? = w.heap[x]? :=
  (((((((Below.heap_setCell _ _ _ _ h').trans (Below.heap_setCell _ _ _ _ h')).trans (Below.heap_setCell _ _ _ _ h)).trans (Below.heap_setCell _ _ _ _ h)).trans (Below.heap_setCell _ _ _ _ h)).trans (Below.heap_setCell _ _ _ _ h)).trans (Below.heap_setCell _ _ _ _ h))
theorem set7_size (w : World) (p : Nat) (a b c d e f g : Value) : (set7 w p a b c d e f g).heap.size = w.heap.size := by simp [set7, World.setCell]
theorem set7_below {w0 w : World} {B p : Nat} (hb : Below B w0 w) (hp : B ≤ p) (a b c d e f g : Value) : Below B w0 (set7 w p a b c d e f g) := by
  have hp' : B ≤ p + 1 := by omega
  exact ((((((hb.setCell hp _).setCell hp _).setCell hp _).setCell hp _).setCell hp _).setCell hp' _).setCell hp' _
theorem set7_arr {w : World} {p : Nat} {x0 x1 x2 x3 x4 y0 y1 : Value} (h : Arr w p 27 [x0, x1, x2, x3, x4]) (k : Arr w (p + 1) 30 [y0, y1]) (a b c d e f g : Value) :
    Arr (set7 w p a b c d e f g) p 27 [a, b, c, d, e] ∧ Arr (set7 w p a b c d e f g) (p + 1) 30 [f, g] := by
  have n1 : p ≠ p + 1 := by omega
  have n2 : p + 1 ≠ p := by omega
  exact ⟨((((((h.set 0 a).set 1 b).set 2 c).set 3 d).set 4 e).far (p := ⟨p + 1, 0, none⟩) n1 f).far (p := ⟨p + 1, 1, none⟩) n1 g,
    ((((((k.far (p := ⟨p, 0, none⟩) n2 a).far (p := ⟨p, 1, none⟩) n2 b).far (p := ⟨p, 2, none⟩) n2 c).far (p := ⟨p, 3, none⟩) n2 d).far (p := ⟨p, 4, none⟩) n2 e).set 0 f).set 1 g⟩

set_option maxRecDepth 100000 in
set_option maxHeartbeats 4000000 in
theorem refRun_ok {v : Value} {l : List Sti} (N : Nat) (hN1 : 1 ≤ N) (hN : N ≤ 128) (w : World) (hv : Stitches w (fun b => b < w.heap.size) v l) (hl : l.length ≤ 4000000000000) :
    Calls Try.prog 12 #[.int .i64 (N : Int), v] w fun e w' => ∃ kv, e = .returned (.tuple #[kv, .agg #[.int .i64 (runF N l).1, .int .i64 (runF N l).2]]) ∧ KnR w' (fun b => w.heap.size ≤ b ∧ b < w'.heap.size) kv (runK N l) ∧ Below w.heap.size w w' := by
  have HV := Lib.hid hv
  have HA := Lib.hid ((Arr.new w #[nils, nils, nils, nils, .int .i64 0] 27).alloc (.cells #[.int .i64 0, .int .i64 0] 30))
  have HA2 := Lib.hid (arr_new2 w (.cells #[nils, nils, nils, nils, .int .i64 0] 27) #[.int .i64 0, .int .i64 0] 30)
  have HB : Hid (Below w.heap.size w ((w.alloc (.cells #[nils, nils, nils, nils, .int .i64 0] 27)).alloc (.cells #[.int .i64 0, .int .i64 0] 30))) := ((Below.refl _ _).alloc (Nat.le_refl _) _).alloc (by simp) _
  have hsA : ((w.alloc (.cells #[nils, nils, nils, nils, .int .i64 0] 27)).alloc (.cells #[.int .i64 0, .int .i64 0] 30)).heap.size = w.heap.size + 2 := by simp
  obtain ⟨A, c, rfl, h1, h2, hr⟩ := hv
  clear hr
  unfold maxLen at h2
  go_enter Try.func12, Try.ntmps12
  go_wp2_with fail
  generalize (w.alloc (.cells #[nils, nils, nils, nils, .int .i64 0] 27)).alloc (.cells #[.int .i64 0, .int .i64 0] 30) = wA at *
  have HSA := Lib.hid hsA
  clear hsA
  refine (refKnit_own N hN1 hN _ ((HV.out.same fun b hb => HB.out.block b hb).mono fun b hb => by rw [HSA.out]; omega) hl).mono ?_
  rintro e w1 ⟨u, kv, rfl, hu, hk, hb1⟩
  have HU := Lib.hid hu
  have HK := Lib.hid hk
  have HEL : Hid ((errsK N zeroK l).length = l.length) := errsK_len N l zeroK
  obtain ⟨Au, cu, rfl, g1, g2, ra⟩ := hu
  rw [HEL.out] at HU g1 ⊢
  clear ra
  unfold maxLen at g2
  generalize hkn : told N (afterK N l) = kn at *
  have HKN := Lib.hid hkn
  clear hkn
  obtain ⟨vl, vf, vb, vo, rfl, hl', hf', hb', ho'⟩ := hk
  obtain ⟨Aq, cq, tq, rfl, _⟩ := hl'
  obtain ⟨Af, cf, tf, rfl, _⟩ := hf'
  obtain ⟨Ab, cb, tb, rfl, _⟩ := hb'
  obtain ⟨Ap, cp, rfl, _⟩ := ho'
  have HB1 : Hid (Below w.heap.size w (w1.alloc (.cells #[.slice Aq kn.loops.length cq, .slice Af kn.front.length cf, .slice Ab kn.back.length cb, .slice Ap kn.loose.length cp, .int .i64 kn.rack] 27))) := (HB.out.trans (hb1.mono (by rw [HSA.out]; omega))).alloc (by have := hb1.size; rw [HSA.out] at this; omega) _
  have HX := Lib.hid (Arr.new w1 #[.slice Aq kn.loops.length cq, .slice Af kn.front.length cf, .slice Ab kn.back.length cb, .slice Ap kn.loose.length cp, .int .i64 kn.rack] 27)
  have HS1 : Hid (Below w1.heap.size w1 (w1.alloc (.cells #[.slice Aq kn.loops.length cq, .slice Af kn.front.length cf, .slice Ab kn.back.length cb, .slice Ap kn.loose.length cp, .int .i64 kn.rack] 27))) := (Below.refl _ _).alloc (Nat.le_refl _) _
  have hsz1 := hb1.size
  rw [HSA.out] at hsz1
  have HA' := Lib.hid ((HA.out.of_eq (hb1.block _ (by rw [HSA.out]; omega))).of_eq (HS1.out.block _ (by omega)))
  have HA2' := Lib.hid ((HA2.out.of_eq (hb1.block _ (by rw [HSA.out]; omega))).of_eq (HS1.out.block _ (by omega)))
  clear hb1 HA HA2
  go_upto_region 2 with fail
  have hs2 : (w1.alloc (.cells #[.slice Aq kn.loops.length cq, .slice Af kn.front.length cf, .slice Ab kn.back.length cb, .slice Ap kn.loose.length cp, .int .i64 kn.rack] 27)).heap.size = w1.heap.size + 1 := by simp
  generalize w1.alloc (.cells #[.slice Aq kn.loops.length cq, .slice Af kn.front.length cf, .slice Ab kn.back.length cb, .slice Ap kn.loose.length cp, .int .i64 kn.rack] 27) = w2 at *
  have HSZ2 := Lib.hid hs2
  clear hs2
  have hfar : w.heap.size + 1 < w2.heap.size := by rw [HSZ2.out]; omega
  go_wp2_with fail
  go_loopg [25] l.length (fun gg ctr wr => ∃ i : Nat, i ≤ l.length ∧ gg = l.length - i ∧ ctr = .int .i64 i ∧ wr = w2 ∧ Fine N l i)
  case atStart => exact ⟨0, by omega, rfl, rfl, rfl, fun j hj h => by omega⟩
  case round =>
    obtain ⟨i, hi, rfl, rfl, rfl, hfine⟩ := hrel
    have HFI := Lib.hid hfine
    clear hfine
    by_cases hlt : i < l.length
    case neg =>
      obtain rfl : i = l.length := by omega
      have HRES : Hid (runF N l = (0, 0) ∧ runK N l = told N (afterK N l)) := by
        have := HFI.out.none
        show _ ∧ _
        unfold runF runK
        rw [this]
        exact ⟨rfl, rfl⟩
      have r0 := HA'.out.cell (k := 0) rfl
      have r1 := HA'.out.cell (k := 1) rfl
      have r2 := HA'.out.cell (k := 2) rfl
      have r3 := HA'.out.cell (k := 3) rfl
      have r4 := HA'.out.cell (k := 4) rfl
      have f0 := HA'.out.free 0
      have f1 := HA'.out.free 1
      have f2 := HA'.out.free 2
      have f3 := HA'.out.free 3
      have f4 := HA'.out.free 4
      have s0 := HA2'.out.cell (k := 0) rfl
      have s1 := HA2'.out.cell (k := 1) rfl
      have g0 := HA2'.out.free 0
      have g1 := HA2'.out.free 1
      have x0 := HX.out.cell (k := 0) rfl
      have x1 := HX.out.cell (k := 1) rfl
      have x2 := HX.out.cell (k := 2) rfl
      have x3 := HX.out.cell (k := 3) rfl
      have x4 := HX.out.cell (k := 4) rfl
      obtain ⟨ha, hb⟩ := set7_arr HA'.out HA2'.out (.slice Aq kn.loops.length cq) (.slice Af kn.front.length cf) (.slice Ab kn.back.length cb) (.slice Ap kn.loose.length cp) (.int .i64 kn.rack) (.int .i64 0) (.int .i64 0)
      have q0 := ha.cell (k := 0) rfl
      have q1 := ha.cell (k := 1) rfl
      have q2 := ha.cell (k := 2) rfl
      have q3 := ha.cell (k := 3) rfl
      have q4 := ha.cell (k := 4) rfl
      have q5 := hb.cell (k := 0) rfl
      have q6 := hb.cell (k := 1) rfl
      unfold set7 at q0 q1 q2 q3 q4 q5 q6
      clear ha hb
      go_wp2_with fail
      refine bodyPost_ret (v := .tuple #[.agg #[.slice Aq kn.loops.length cq, .slice Af kn.front.length cf, .slice Ab kn.back.length cb, .slice Ap kn.loose.length cp, .int .i64 kn.rack], .agg #[.int .i64 0, .int .i64 0]]) (by simp [results, Try.results12, go_sem, q0, q1, q2, q3, q4, q5, q6]) rfl ⟨_, by rw [HRES.out.1], ?_, set7_below HB1.out (Nat.le_refl _) _ _ _ _ _ _ _⟩
      rw [HRES.out.2, HKN.out]
      refine ((HK.out.same fun b hb => HS1.out.block b hb.2).same fun b hb => set7_far _ _ _ _ _ _ _ _ _ b (by have := hb.1; rw [HSA.out] at this; omega) (by have := hb.1; rw [HSA.out] at this; omega)).mono fun b hb => ⟨by have := hb.1; rw [HSA.out] at this; omega, ?_⟩
      show b < (set7 _ _ _ _ _ _ _ _ _).heap.size
      rw [set7_size, HSZ2.out]
      have := hb.2
      omega
    obtain ⟨bk, o, e, hbk, xc⟩ : ∃ b o, Au = some ⟨b, o, none⟩ ∧ (wA.heap.size ≤ b ∧ b < w1.heap.size) ∧ wr.cell? ⟨b, o + i, none⟩ = some (.int .i64 ((errsK N zeroK l)[i]'(by rw [HEL.out]; exact hlt))) := by
      obtain ⟨A', c', e, _, _, hr⟩ := HU.out
      rw [← HEL.out] at e
      simp only [Value.slice.injEq, true_and] at e
      obtain ⟨rfl, rfl⟩ := e
      obtain ⟨bk, o, e, hbk, xc⟩ := ints_cell hr (k := i) (by rw [HEL.out]; exact hlt)
      exact ⟨bk, o, e, hbk, (World.cell?_of_block (a := ⟨bk, o + i, none⟩) (HS1.out.block bk hbk.2)).trans xc⟩
    cases e
    rw [errs_get hlt] at xc
    have HBAD : Hid (wrongK N (afterK N (l.take i)) l[i] ≠ 0 → runF N l = (wrongK N (afterK N (l.take i)) l[i], (i : Int)) ∧ runK N l = noKn) := fun hn => by
      have := HFI.out.bad hlt hn
      unfold runF runK
      rw [this]
      exact ⟨rfl, rfl⟩
    have HGOOD : Hid (wrongK N (afterK N (l.take i)) l[i] = 0 → Fine N l (i + 1)) := fun hn => HFI.out.next hlt hn
    generalize wrongK N (afterK N (l.take i)) l[i] = er at *
    by_cases hz : er = 0
    · subst hz
      have HG := Lib.hid (HGOOD.out rfl)
      go_wp2_with fail
      go_roundg (l.length - (i + 1))
      case measure => omega
      case rel => exact ⟨i + 1, by omega, rfl, by go_num, rfl, HG.out⟩
    · have HR := Lib.hid (HBAD.out hz)
      have hzb : (er != 0) = true := by simpa using hz
      clear hz HBAD HGOOD
      have r0 := HA'.out.cell (k := 0) rfl
      have r1 := HA'.out.cell (k := 1) rfl
      have r2 := HA'.out.cell (k := 2) rfl
      have r3 := HA'.out.cell (k := 3) rfl
      have r4 := HA'.out.cell (k := 4) rfl
      have f0 := HA'.out.free 0
      have f1 := HA'.out.free 1
      have f2 := HA'.out.free 2
      have f3 := HA'.out.free 3
      have f4 := HA'.out.free 4
      have s0 := HA2'.out.cell (k := 0) rfl
      have s1 := HA2'.out.cell (k := 1) rfl
      have g0 := HA2'.out.free 0
      have g1 := HA2'.out.free 1
      obtain ⟨ha, hb⟩ := set7_arr HA'.out HA2'.out nils nils nils nils (.int .i64 0) (.int .i64 er) (.int .i64 (i : Int))
      have q0 := ha.cell (k := 0) rfl
      have q1 := ha.cell (k := 1) rfl
      have q2 := ha.cell (k := 2) rfl
      have q3 := ha.cell (k := 3) rfl
      have q4 := ha.cell (k := 4) rfl
      have q5 := hb.cell (k := 0) rfl
      have q6 := hb.cell (k := 1) rfl
      unfold set7 at q0 q1 q2 q3 q4 q5 q6
      clear ha hb
      go_wp2_with fail
      refine bodyPost_ret (v := .tuple #[.agg #[nils, nils, nils, nils, .int .i64 0], .agg #[.int .i64 er, .int .i64 (i : Int)]]) (by simp [results, Try.results12, go_sem, q0, q1, q2, q3, q4, q5, q6]) rfl ⟨_, by rw [HR.out.1], ?_, set7_below HB1.out (Nat.le_refl _) _ _ _ _ _ _ _⟩
      rw [HR.out.2]
      exact noKn_R _ _

set_option maxRecDepth 100000 in
set_option maxHeartbeats 2000000 in
theorem refRun_bad {v : Value} {l : List Sti} (n : Int) (hn : n < 1 ∨ 128 < n) (w : World) (hv : Stitches w (fun b => b < w.heap.size) v l) :
    Calls Try.prog 12 #[.int .i64 n, v] w fun e w' => e = .returned (.tuple #[.agg #[nils, nils, nils, nils, .int .i64 0], .agg #[.int .i64 3, .int .i64 0]]) ∧ Below w.heap.size w w' := by
  have HB : Hid (Below w.heap.size w ((w.alloc (.cells #[nils, nils, nils, nils, .int .i64 0] 27)).alloc (.cells #[.int .i64 0, .int .i64 0] 30))) := ((Below.refl _ _).alloc (Nat.le_refl _) _).alloc (by simp) _
  have HA := Lib.hid ((Arr.new w #[nils, nils, nils, nils, .int .i64 0] 27).alloc (.cells #[.int .i64 0, .int .i64 0] 30))
  have HA2 := Lib.hid (arr_new2 w (.cells #[nils, nils, nils, nils, .int .i64 0] 27) #[.int .i64 0, .int .i64 0] 30)
  have hsA : ((w.alloc (.cells #[nils, nils, nils, nils, .int .i64 0] 27)).alloc (.cells #[.int .i64 0, .int .i64 0] 30)).heap.size = w.heap.size + 2 := by simp
  have HVV := Lib.hid (hv.same fun b hb => HB.out.block b hb)
  have HN := Lib.hid hn
  obtain ⟨A, c, rfl, h1, h2, hr⟩ := hv
  clear hr hn
  go_enter Try.func12, Try.ntmps12
  go_wp2_with fail
  generalize (w.alloc (.cells #[nils, nils, nils, nils, .int .i64 0] 27)).alloc (.cells #[.int .i64 0, .int .i64 0] 30) = wA at *
  have HSA := Lib.hid hsA
  clear hsA
  refine (refKnit_bad n HN.out _ HVV.out).mono ?_
  rintro e w1 ⟨rfl, hb1⟩
  have hsz1 := hb1.size
  rw [HSA.out] at hsz1
  have HB1 : Hid (Below w.heap.size w (w1.alloc (.cells #[nils, nils, nils, nils, .int .i64 0] 27))) := (HB.out.trans (hb1.mono (by rw [HSA.out]; omega))).alloc (by omega) _
  have HA' := Lib.hid ((HA.out.of_eq (hb1.block _ (by rw [HSA.out]; omega))).alloc (.cells #[nils, nils, nils, nils, .int .i64 0] 27))
  have HA2' := Lib.hid ((HA2.out.of_eq (hb1.block _ (by rw [HSA.out]; omega))).alloc (.cells #[nils, nils, nils, nils, .int .i64 0] 27))
  clear hb1 HA HA2 HB HVV
  go_upto_region 2 with fail
  generalize w1.alloc (.cells #[nils, nils, nils, nils, .int .i64 0] 27) = w2 at *
  have r0 := HA'.out.cell (k := 0) rfl
  have r1 := HA'.out.cell (k := 1) rfl
  have r2 := HA'.out.cell (k := 2) rfl
  have r3 := HA'.out.cell (k := 3) rfl
  have r4 := HA'.out.cell (k := 4) rfl
  have f0 := HA'.out.free 0
  have f1 := HA'.out.free 1
  have f2 := HA'.out.free 2
  have f3 := HA'.out.free 3
  have f4 := HA'.out.free 4
  have s0 := HA2'.out.cell (k := 0) rfl
  have s1 := HA2'.out.cell (k := 1) rfl
  have g0 := HA2'.out.free 0
  have g1 := HA2'.out.free 1
  obtain ⟨ha, hb⟩ := set7_arr HA'.out HA2'.out nils nils nils nils (.int .i64 0) (.int .i64 3) (.int .i64 0)
  have q0 := ha.cell (k := 0) rfl
  have q1 := ha.cell (k := 1) rfl
  have q2 := ha.cell (k := 2) rfl
  have q3 := ha.cell (k := 3) rfl
  have q4 := ha.cell (k := 4) rfl
  have q5 := hb.cell (k := 0) rfl
  have q6 := hb.cell (k := 1) rfl
  unfold set7 at q0 q1 q2 q3 q4 q5 q6
  clear ha hb
  go_wp2_with fail
  exact bodyPost_ret (v := .tuple #[.agg #[nils, nils, nils, nils, .int .i64 0], .agg #[.int .i64 3, .int .i64 0]]) (by simp [results, Try.results12, go_sem, q0, q1, q2, q3, q4, q5, q6]) rfl ⟨rfl, set7_below HB1.out (Nat.le_refl _) _ _ _ _ _ _ _⟩
end Go.Proofs.Ytaacfjeddoekfaa
