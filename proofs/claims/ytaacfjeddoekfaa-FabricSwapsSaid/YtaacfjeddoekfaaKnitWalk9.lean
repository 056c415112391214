/- Chapter 11: a machine that goes on behind what it refused; Run. -/
import Derived.Test.YtaacfjeddoekfaaKnitWalk8
namespace Go.Proofs.Ytaacfjeddoekfaa
open Go.RowKit
set_option linter.unusedVariables false
set_option linter.unusedSimpArgs false

theorem own_of_eq {w w' : World} {base : Nat} {e : TypeId} {size n : Nat} {v : Value} {xs : List Value} (h : w.ownsRow base e size v n xs) (he : ∀ g, v.ownBlock = some g → w'.heap[g]? = w.heap[g]?) : w'.ownsRow base e size v n xs := by
  refine ⟨h.1, ?_⟩
  rcases h.2 with hn | ⟨g, cap, cur, rfl, hb, hgg, rest⟩
  · exact .inl hn
  · exact .inr ⟨g, cap, cur, rfl, hb, by rw [he g rfl]; exact hgg, rest⟩
section
variable {w0 w w1 : World} {B p N : Nat} {m : MD} {k : KS} {ls : List Lop}
theorem MC.foreign (h : MC w0 w B p N m k) (K : Kept m.own rX w w1) (hb : Below B w0 w1) : MC w0 w1 B p N m k :=
  ⟨hb, h.hB, K.arr h.arr (by rw [h.rp]; decide), h.pB, fun b hb' => ⟨K.arr (h.bed b hb').1 (by rw [h.rb b hb']; simp), (h.bed b hb').2⟩,
    K.row h.ol h.rl (by decide), K.row h.oo h.ro (by decide), fun b n => K.row (h.on b n) (h.rn b n) (by simp), h.rp, h.rb, h.rl, h.ro, h.rn⟩
theorem TH.foreign (h : TH w B m ls) (K : Kept m.own rX w w1) : TH w1 B m ls := fun i hi => ⟨K.row (h i hi).1 (h i hi).2 (by simp), (h i hi).2⟩
end
/-- a machine, and a row that is not its own -/
def PK (wA w : World) (p N : Nat) (k : KS) (out : Value) (es : List Int) : Prop := ∃ m, MC wA w wA.heap.size p N m k ∧ TH w wA.heap.size m k.loops ∧ w.ownsRow wA.heap.size 28 1 out es.length (ints es) ∧ Sep out rX m.own

set_option maxRecDepth 100000 in
set_option maxHeartbeats 4000000 in
theorem plainKnit_own {v : Value} {l : List Sti} (N : Nat) (hN1 : 1 ≤ N) (hN : N ≤ 128) (w : World) (hv : Stitches w (fun b => b < w.heap.size) v l) (hl : l.length ≤ 4000000000000) :
    Calls Try.prog 14 #[.int .i64 (N : Int), v] w fun e w' => ∃ u kv, e = .returned (.tuple #[u, kv, .int .i64 0]) ∧ Ints w' (fun b => w.heap.size ≤ b ∧ b < w'.heap.size) u (errsK N zeroK l) ∧ KnR w' (fun b => w.heap.size ≤ b ∧ b < w'.heap.size) kv (told N (afterK N l)) ∧ Below w.heap.size w w' := by
  have HV := Lib.hid hv
  have HA := Lib.hid (Arr.new w #[nils, nils, nils, nils, .int .i64 0] 27)
  have HB : Hid (Below w.heap.size w (w.alloc (.cells #[nils, nils, nils, nils, .int .i64 0] 27))) := (Below.refl _ _).alloc (Nat.le_refl _) _
  have hsA : (w.alloc (.cells #[nils, nils, nils, nils, .int .i64 0] 27)).heap.size = w.heap.size + 1 := by simp
  obtain ⟨A, c, rfl, h1, h2, hr⟩ := hv
  clear hr
  unfold maxLen at h2
  go_enter Try.func14, Try.ntmps14
  go_wp2_with fail
  generalize w.alloc (.cells #[nils, nils, nils, nils, .int .i64 0] 27) = wA at *
  have HSA := Lib.hid hsA
  clear hsA
  refine (New_ok N hN1 hN _).mono ?_
  rintro e w1 ⟨p, rfl, hmw⟩
  have HPK : Hid (PK wA w1 p N zeroK nils []) := by
    obtain ⟨m, h1, h2⟩ := hmw
    exact ⟨m, h1, h2, World.ownsRow_nil _ _ _ _, Sep.nil _ _⟩
  clear hmw
  go_wp2_with fail
  go_loopg [9, 27] l.length (fun gg out ctr wr => ∃ i : Nat, i ≤ l.length ∧ gg = l.length - i ∧ ctr = .int .i64 i ∧ PK wA wr p N (afterK N (l.take i)) out (errsK N zeroK (l.take i)))
  case atStart => exact ⟨0, by omega, rfl, rfl, HPK.out⟩
  case round =>
    clear HPK
    obtain ⟨i, hi, rfl, rfl, hpk⟩ := hrel
    by_cases hlt : i < l.length
    case neg =>
      obtain rfl : i = l.length := by omega
      rw [List.take_length] at hpk
      obtain ⟨m, hm, ht, ho, hs⟩ := hpk
      have HM := Lib.hid hm
      have HT := Lib.hid ht
      have HO := Lib.hid (Ints.of_own ho)
      obtain ⟨Ao, co, rfl, _, _⟩ := own_form ho
      clear hm ht ho hs
      go_wp2_with fail
      refine (State_any ⟨m, HM.out, HT.out⟩ hN (kinv_after N l)).mono ?_
      rintro e w3 ⟨kv, rfl, hk, hb3⟩
      have HK := Lib.hid hk
      obtain ⟨vl, vf, vb, vo, rfl, hl', hf', hb', ho'⟩ := hk
      obtain ⟨Aq, cq, tq, rfl, _⟩ := hl'
      obtain ⟨Af, cf, tf, rfl, _⟩ := hf'
      obtain ⟨Ab, cb, tb, rfl, _⟩ := hb'
      obtain ⟨Ap, cp, rfl, _⟩ := ho'
      have HB3 := Lib.hid hb3
      have HBW : Hid (Below w.heap.size w w3) := (HB.out.trans (HM.out.below.mono (by rw [HSA.out]; omega))).trans (hb3.mono (by have := HM.out.below.size; rw [HSA.out] at this; omega))
      have hrr : Arr w3 w.heap.size 27 [nils, nils, nils, nils, .int .i64 0] := (HA.out.of_eq (HM.out.below.block _ (by rw [HSA.out]; omega))).of_eq (hb3.block _ (by have := HM.out.below.size; rw [HSA.out] at this; omega))
      have hlw : w.heap.size < wr.heap.size := by have := HM.out.below.size; rw [HSA.out] at this; omega
      clear hb3
      have r0 := hrr.cell (k := 0) rfl
      have r1 := hrr.cell (k := 1) rfl
      have r2 := hrr.cell (k := 2) rfl
      have r3 := hrr.cell (k := 3) rfl
      have r4 := hrr.cell (k := 4) rfl
      have f0 := hrr.free 0
      have f1 := hrr.free 1
      have f2 := hrr.free 2
      have f3 := hrr.free 3
      have f4 := hrr.free 4
      generalize hkn : told N (afterK N l) = kn at *
      have HKN := Lib.hid hkn
      clear hkn
      have hq := ((((hrr.set 0 (.slice Aq kn.loops.length cq)).set 1 (.slice Af kn.front.length cf)).set 2 (.slice Ab kn.back.length cb)).set 3 (.slice Ap kn.loose.length cp)).set 4 (.int .i64 kn.rack)
      have q0 := hq.cell (k := 0) rfl
      have q1 := hq.cell (k := 1) rfl
      have q2 := hq.cell (k := 2) rfl
      have q3 := hq.cell (k := 3) rfl
      have q4 := hq.cell (k := 4) rfl
      have HBF := Lib.hid (((((HBW.out.setCell (p := ⟨w.heap.size, 0, none⟩) (Nat.le_refl _) (.slice Aq kn.loops.length cq)).setCell (p := ⟨w.heap.size, 1, none⟩) (Nat.le_refl _) (.slice Af kn.front.length cf)).setCell (p := ⟨w.heap.size, 2, none⟩) (Nat.le_refl _) (.slice Ab kn.back.length cb)).setCell (p := ⟨w.heap.size, 3, none⟩) (Nat.le_refl _) (.slice Ap kn.loose.length cp)).setCell (p := ⟨w.heap.size, 4, none⟩) (Nat.le_refl _) (.int .i64 kn.rack))
      have HFAR : Hid (∀ b, b ≠ w.heap.size → (((((w3.setCell ⟨w.heap.size, 0, none⟩ (.slice Aq kn.loops.length cq)).setCell ⟨w.heap.size, 1, none⟩ (.slice Af kn.front.length cf)).setCell ⟨w.heap.size, 2, none⟩ (.slice Ab kn.back.length cb)).setCell ⟨w.heap.size, 3, none⟩ (.slice Ap kn.loose.length cp)).setCell ⟨w.heap.size, 4, none⟩ (.int .i64 kn.rack)).heap[b]? = w3.heap[b]?) := fun b hb =>
        ((((Below.heap_setCell _ _ _ _ hb).trans (Below.heap_setCell _ _ _ _ hb)).trans (Below.heap_setCell _ _ _ _ hb)).trans (Below.heap_setCell _ _ _ _ hb)).trans (Below.heap_setCell _ _ _ _ hb)
      have HSZ : Hid ((((((w3.setCell ⟨w.heap.size, 0, none⟩ (.slice Aq kn.loops.length cq)).setCell ⟨w.heap.size, 1, none⟩ (.slice Af kn.front.length cf)).setCell ⟨w.heap.size, 2, none⟩ (.slice Ab kn.back.length cb)).setCell ⟨w.heap.size, 3, none⟩ (.slice Ap kn.loose.length cp)).setCell ⟨w.heap.size, 4, none⟩ (.int .i64 kn.rack)).heap.size = w3.heap.size) := by show _ = _; simp [World.setCell]
      clear hrr hq
      go_wp2_with fail
      refine bodyPost_ret (v := .tuple #[.slice Ao (errsK N zeroK l).length co, .agg #[.slice Aq kn.loops.length cq, .slice Af kn.front.length cf, .slice Ab kn.back.length cb, .slice Ap kn.loose.length cp, .int .i64 kn.rack], .int .i64 0]) (by simp [results, Try.results14, go_sem, q0, q1, q2, q3, q4]) rfl ⟨_, _, rfl, ?_, ?_, HBF.out⟩
      · refine ((HO.out.same fun b hb => HB3.out.block b hb.2).same fun b hb => HFAR.out b (by have := hb.1; rw [HSA.out] at this; omega)).mono fun b hb => ⟨by have := hb.1; rw [HSA.out] at this; omega, by rw [HSZ.out]; exact Nat.lt_of_lt_of_le hb.2 HB3.out.size⟩
      · rw [HKN.out]
        refine (HK.out.same fun b hb => HFAR.out b (by have := hb.1; omega)).mono fun b hb => ⟨by have := hb.1; omega, by rw [HSZ.out]; exact hb.2⟩
    obtain ⟨m, hm, ht, ho, hs⟩ := hpk
    have HBW : Hid (Below w.heap.size w wr) := HB.out.trans (hm.below.mono (by rw [HSA.out]; omega))
    obtain ⟨b, o, e, hbb, x0, x1, x2, x3, x4⟩ := sti_cells (srow_of (HV.out.same (Same.of_below HBW.out))) hlt
    cases e
    have hbw : b < wr.heap.size := Nat.lt_of_lt_of_le hbb HBW.out.size
    have HE : Hid (errsK N zeroK (l.take (i + 1)) = errsK N zeroK (l.take i) ++ [wrongK N (afterK N (l.take i)) l[i]] ∧ afterK N (l.take (i + 1)) = doK N (afterK N (l.take i)) l[i]) := ⟨errsK_take hlt, afterK_take hlt⟩
    have HKI := Lib.hid (kinv_after N (l.take i))
    have hel : (errsK N zeroK (l.take i)).length = i := by rw [errsK_len, List.length_take]; omega
    generalize l[i] = x at *
    generalize afterK N (l.take i) = k at *
    generalize errsK N zeroK (l.take i) = es at *
    have HAL : Hid (Below wr.heap.size wr (wr.alloc (.cells #[.int .i64 x.d, .int .i64 x.b, .int .i64 x.n, .int .i64 x.c, .int .i64 x.t] 44))) := (Below.refl _ _).alloc (Nat.le_refl _) _
    have HM := Lib.hid (hm.keep HAL.out)
    have HT := Lib.hid (ht.keep HAL.out)
    have HO := Lib.hid (own_al ho (.cells #[.int .i64 x.d, .int .i64 x.b, .int .i64 x.n, .int .i64 x.c, .int .i64 x.t] 44))
    have HS := Lib.hid hs
    clear hm ht ho hs
    go_wp2_with fail
    refine (Do_any HM.out HT.out hN HKI.out x).mono ?_
    rintro e w3 ⟨rfl, m', hm', ht', hf⟩
    have HO3 : Hid (w3.ownsRow wA.heap.size 28 1 u9 es.length (ints es)) := own_of_eq HO.out fun g hg => (hf.2 g (HO.out.lt g hg).2 (HS.out g hg)).2
    have HS3 : Hid (Sep u9 rX m'.own) := fun g hg => (hf.2 g (HO.out.lt g hg).2 (HS.out g hg)).1
    have HM3 := Lib.hid (hm'.other (g := w3.heap.size + 1) (Nat.le_succ _))
    have HT3 := Lib.hid (ht'.other (g := w3.heap.size + 1) (Nat.le_succ _))
    clear hm' ht' hf
    generalize wrongK N k x = er at *
    go_wp2_with (at_builtin
                 refine app_el T34 [.int .i64 er] HO3.out HM3.out.below (Nat.le_refl _) rfl rfl rfl rfl rfl ?_ ?_ ?_
                 rotate_right
                 intro v1 w5 hown1 hb1 hg1 ho1
                 have HF := Lib.hid (And.intro hown1 (And.intro hb1 (And.intro hg1 ho1)))
                 clear hown1 hb1 hg1 ho1)
    case refine_1 => simp [Value.oneCell']
    case refine_2 => omega
    go_roundg (l.length - (i + 1))
    case measure => omega
    case rel =>
      have K : Kept (ow m'.own (w3.heap.size + 1) rX) rX w3 _ := .of_grown HF.out.2.2.1 fun g hg => by
        rw [ow_ne _ _ (by have := (HO3.out.lt g hg).2; omega)]; exact HS3.out g hg
      refine ⟨i + 1, by omega, rfl, by go_num, { m' with own := ow m'.own (w3.heap.size + 1) rX }, ?_, ?_, ?_, ?_⟩
      · rw [HE.out.2]; exact HM3.out.foreign K HF.out.2.1
      · rw [HE.out.2]; exact HT3.out.foreign K
      · rw [HE.out.1, List.length_append, List.length_singleton, ints_app]; exact HF.out.1
      · exact HS3.out.app HO3.out (Nat.le_succ _) HF.out.2.2.2

theorem plainKnit_ok {v : Value} {l : List Sti} (N : Nat) (hN1 : 1 ≤ N) (hN : N ≤ 128) (w : World) (hv : Stitches w (fun b => b < w.heap.size) v l) (hl : l.length ≤ 4000000000000) :
    Calls Try.prog 14 #[.int .i64 (N : Int), v] w fun e w' => ∃ u kv, e = .returned (.tuple #[u, kv, .int .i64 0]) ∧ Ints w' (fun b => b < w'.heap.size) u (errsK N zeroK l) ∧ KnR w' (fun b => b < w'.heap.size) kv (told N (afterK N l)) ∧ Below w.heap.size w w' :=
  (plainKnit_own N hN1 hN w hv hl).mono fun e w' ⟨u, kv, h1, h2, h3, h4⟩ => ⟨u, kv, h1, h2.mono fun b hb => hb.2, h3.mono fun b hb => hb.2, h4⟩

set_option maxRecDepth 100000 in
set_option maxHeartbeats 2000000 in
theorem Run_range {S : Nat → Prop} {v : Value} {l : List Sti} (n : Int) (hn : n < 1 ∨ 128 < n) (w : World) (hv : Stitches w S v l) :
    Calls Try.prog 11 #[.int .i64 n, v] w fun e w' => e = .returned (.tuple #[.agg #[nils, nils, nils, nils, .int .i64 0], .agg #[.int .i64 3, .int .i64 0]]) ∧ Below w.heap.size w w' := by
  have HB : Hid (∀ o, Below w.heap.size w ((w.alloc (.cells #[nils, nils, nils, nils, .int .i64 0] 27)).alloc o)) := fun o => ((Below.refl _ _).alloc (Nat.le_refl _) _).alloc (by simp) _
  have HA := Lib.hid ((Arr.new w #[nils, nils, nils, nils, .int .i64 0] 27).alloc (.cells #[.int .i64 0, .int .i64 0] 30))
  have HA2 := Lib.hid (arr_new2 w (.cells #[nils, nils, nils, nils, .int .i64 0] 27) #[.int .i64 0, .int .i64 0] 30)
  have HN := Lib.hid hn
  obtain ⟨A, c, rfl, h1, h2, hr⟩ := hv
  clear hr hn
  go_enter Try.func11, Try.ntmps11
  go_wp2_with fail
  refine (New_bad n HN.out _).mono ?_
  rintro e w1 ⟨rfl, rfl⟩
  go_wp2_with fail
  exact bodyPost_ret (v := .tuple #[.agg #[nils, nils, nils, nils, .int .i64 0], .agg #[.int .i64 3, .int .i64 0]]) (by simp [results, Try.results11, go_sem]) rfl ⟨rfl, HB.out _⟩

end Go.Proofs.Ytaacfjeddoekfaa
